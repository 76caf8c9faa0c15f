/-
  What the walk of the beginning leans on: families taken apart and put together; queue called beside them. (with the parts that follow it)
-/
import Derived.Test.YtpmniabdmbmafaaGreatDoorPTL
import Derived.Test.YtpmniabdmbmafaaGreatDoorPTJ
import Derived.Test.YtpmniabdmbmafaaGreatDoorPTE
import Derived.Test.YtpmniabdmbmafaaGreatDoorPTK
import Derived.Shelf.SlIter.Nil
import Derived.Shelf.SlIter.Sorted
import Derived.Shelf.SortM.Plain
import Derived.Shelf.SortM.SortNone
import Derived.Ground.GgzProg
import Derived.Ground.SlgmProg
import Derived.Sort.KeysCollected
import Derived.Sort.Walk0
set_option linter.all false
set_option maxHeartbeats 16000000
namespace Go.Proofs.YtpmniabdmbmafaaGreatDoor
open Go.Ab
theorem Ti{α β:Type}[DecidableEq α]{z z':β}{i:α}:∀{l:List (α×β)},i∈l.map (·.1)->aw z l i=aw z' l i
 |[],h=>by simp at h
 |q::r,h=>by
   rw[kD,kD];by_cases e:i=q.1
   .rw[if_pos e,if_pos e]
   .rw[if_neg e,if_neg e];refine Ti ?_;rw[alf]at h;exact(alc.1 h).resolve_left e
theorem qs{α β:Type}[DecidableEq α]{z:β}{i:α}:∀{l:List (α×β)},i∉l.map (·.1)->aw z l i=z
 |[],_=>rfl
 |q::r,h=>by
   rw[kD,if_neg (fun e=>h (by simp[e])),qs (fun g=>h (by simp only[alf,alc];exact .inr g))]
theorem Lc{i:Name}{z:Option Ob}:∀{l:List (Name×Ob)},i∈l.map (·.1)->aw z (l.map fun x=>(x.1,(none:Option Ob))) i=none
 |[],h=>by simp at h
 |q::r,h=>by
   rw[alf,kD];by_cases e:i=q.1
   .rw[if_pos e]
   .rw[if_neg e];refine Lc ?_;rw[alf]at h;exact(alc.1 h).resolve_left e
theorem sv(l:List (Name×Ob)):(l.map fun x=>(x.1,some x.2)).map (·.1)=l.map (·.1):=by simp[Function.comp_def]
theorem Tj(l:List (Name×Ob)):(l.map fun x=>(x.1,(none:Option Ob))).map (·.1)=l.map (·.1):=by simp[Function.comp_def]
theorem agV{fr:List (Nat×AV)}{C1 R F C2 C3:List (Name×Ob)}{u:List Nat}{d:Nat}{r:AV}(hR:∀x∈R,x.1∉(C1++F).map (·.1))(hF:∀x∈F,dc id d (C1++F) x.1=x.1∧x.2.ren (dc id d (C1++F))=x.2)
  (hC:C2.map (fun x=>(dc id d (C1++F) x.1,x.2.ren (dc id d (C1++F))))=C3) :
  iX (mk fr (C1++(R++F)) u) id d (C1++F) (C2++F) r=mk (js fr d (r.ren (dc id d (C1++F)))) (C3++(R++F)) (d::u):=by
 have tO:(F.map fun x=>(dc id d (C1++F) x.1,some (x.2.ren (dc id d (C1++F)))))=F.map fun x=>(x.1,some x.2):=alI fun x hx=>by rw[(hF x hx).1,(hF x hx).2]
 have hCm:(C2.map fun x=>(dc id d (C1++F) x.1,some (x.2.ren (dc id d (C1++F)))))=C3.map fun x=>(x.1,some x.2):=by
  rw[<-hC,alD];rfl
 unfold iX;rw[show(mk fr (C1++(R++F)) u).used=u from rfl];unfold mk;congr 1
 .funext j;rw[vJ];rfl
 .funext q;simp only[alh,id_eq];rw[tO,hCm];simp only[FL];congr 1;by_cases hq:q∈F.map (·.1)
  .have Ld:q∉R.map (·.1):=fun h=>by
    obtain⟨x,hx,rfl⟩:=ak6.1 h;exact hR x hx (by rw[alh];exact alB _ hq)
   rw[qs (l:=R.map _) (by rw[sv];exact Ld)];exact Ti (by rw[sv];exact hq)
  .rw[qs (l:=F.map fun x=>(x.1,some x.2)) (z:=aw _ _ _) (by rw[sv];exact hq),qs (l:=F.map fun x=>(x.1,(none:Option Ob))) (by rw[Tj];exact hq)];by_cases hc:q∈C1.map (·.1)
   .have Ld:q∉R.map (·.1):=fun h=>by
     obtain⟨x,hx,rfl⟩:=ak6.1 h;exact hR x hx (by rw[alh];exact alm _ hc)
    rw[Lc hc,qs (l:=R.map _) (by rw[sv];exact Ld),qs (l:=F.map _) (by rw[sv];exact hq)]
   .rw[qs (l:=C1.map fun x=>(x.1,(none:Option Ob))) (by rw[Tj];exact hc),qs (l:=C1.map fun x=>(x.1,some x.2)) (by rw[sv];exact hc)]
theorem Lg{σ:Name->Name}{u:List Nat}{s:St}:∀{l:List (Name×Ob)},oH σ u s l->mB σ u s l
 |[],_=>trivial
 |_::_,h=>⟨h.1,Lg h.2⟩
theorem Gv{chp:List (Name×Ob)}:∀{l:List (Name×Ob)},(∀q∈l,∀o,aw none (chp.map fun x=>(x.1,some x.2)) q.1=some o->o.like q.2)->lg chp l
 |[],_=>trivial
 |q::r,h=>by
   refine⟨?_,Gv fun x hx=>h x (ald _ hx)⟩;have:=h q alb;split
   .rename_i o ho;exact this o ho
   .trivial
theorem agW{chp a b:List (Name×Ob)}(h1:lg chp a)(h2:lg chp b):lg chp (a++b):=by
 refine Gv fun q hq o ho=>?_;rcases ak1.1 hq with hq|hq
 .exact EC h1 q hq o ho
 .exact EC h2 q hq o ho
section
variable {h:Nat}{τ:Name->Name}
theorem og:∀(xs:List (Option (List D))) (i:Nat),(∀j ys,xs[j]?=some (some ys)->τ [h,i+j]=[h,i+j])->cg τ (bA h i xs)=bA h i xs
 |[],_,_=>rfl
 |none::r,i,hτ=>by
   rw[bA,cg,og r (i+1) fun j ys hj=>by rw[show i+1+j=i+(j+1) by omega];exact hτ (j+1) ys (by simpa using hj)];rfl
 |some zs::r,i,hτ=>by
   rw[bA,cg,og r (i+1) fun j ys hj=>by rw[show i+1+j=i+(j+1) by omega];exact hτ (j+1) ys (by simpa using hj)];have:=hτ 0 zs rfl;rw[Nat.add_zero]at this;simp only[AV.ren,this]
theorem iq{u:List Nat}(hu:u.contains h=true):∀(xs:List (Option (List D))) (i:Nat),dz u (bA h i xs)=true
 |[],_=>rfl
 |none::r,i=>by rw[bA,dz,iq hu r];rfl
 |some _::r,i=>by
   rw[bA,dz,iq hu r];simp[AV.bn,b9,-List.contains_eq_mem,hu]
theorem Lh{u:List Nat}{l:List AV}{m:Nat}{x:AV}(hl:dz u l=true)(hx:x.bn u=true):dz u (l.set m x)=true:=by
 induction l generalizing m with
 |nil=>rfl
 |cons y r ih =>
   simp only[dz,ak7]at hl
   cases m with
   |zero=>simp[dz,hx,hl.2]
   |succ m=>simp[dz,hl.1,ih hl.2]
theorem agX(l:List AV)(m:Nat)(x:AV):cg τ (l.set m x)=(cg τ l).set m (x.ren τ):=by
 induction l generalizing m with
 |nil=>rfl
 |cons y r ih =>
   cases m with
   |zero=>rfl
   |succ m=>simp only[List.set_cons_succ,cg,ih]
theorem Gw{u:List Nat}{a b:List AV}(ha:dz u a=true)(hb:dz u b=true):dz u (a++b)=true:=by
 induction a with
 |nil=>exact hb
 |cons x r ih =>
   simp only[dz,ak7]at ha;simp[dz,ha.1,ih ha.2]
theorem Gx(a b:List AV):cg τ (a++b)=cg τ a++cg τ b:=by
 induction a with
 |nil=>rfl
 |cons x r ih=>simp[cg,ih]
theorem Tk(xs:List (Option (List D)))(i:Nat)(o:Option (List D)):bA h i (xs++[o])=bA h i xs++(match o with|some ys=>[.vw [h,i+xs.length] 0 ys.length]|none=>[.un]):=by
 induction xs generalizing i with
 |nil=>cases o<;>simp[bA]
 |cons x r ih =>
   cases x<;>(simp only[List.cons_append,bA,ih,List.length_cons];rw[show i+1+r.length=i+(r.length+1) by omega])
theorem Gy{α:Type}(a:List α)(x y:α):(a++[x]).set a.length y=a++[y]:=by
 rw[ang _ _ (ali _)];simp
theorem agY(xs:List (Option (List D)))(i:Nat):fG h i (xs++[none])=fG h i xs:=by
 induction xs generalizing i with
 |nil=>rfl
 |cons x r ih=>cases x<;>simp[fG,ih]
theorem agZ(xs:List (Option (List D)))(r:List (Name×Ob)):cm h (xs++[none]) r=cm h xs r:=by
 unfold cm;rw[agY]
theorem Tl{xs:List (Option (List D))}{m:Nat}{ys:List D}{p:Name}(hm:xs[m]?=some (some ys))(h1:τ [h,m]=p)(h2:∀j,j≠m->τ [h,j]=[h,j]) :
  cg τ (bA h 0 xs)=(bA h 0 (xs.set m none)).set m (.vw p 0 ys.length):=by
 apply amg;intro i;rw[oF,r9,alC];have hlt:m<xs.length:=(akY.1 hm).1;by_cases e:i=m
 .subst e;rw[alA (by rw[oV,alX];exact hlt),hm];simp[AV.ren,h1]
 .rw[alu (fun g=>e g.symm),r9,alu (fun g=>e g.symm),alC]
  cases xs[i]? with
  |none=>rfl
  |some o=>cases o<;>simp[AV.ren,h2 i e]
theorem Li{xs:List (Option (List D))}{m:Nat}{ys:List D}{p:Name}(hm:xs[m]?=some (some ys))(h1:τ p=[h,m])(h2:∀j,τ [h,j]=[h,j]) :
  cg τ ((bA h 0 (xs.set m none)).set m (.vw p 0 ys.length))=bA h 0 xs:=by
 rw[agX,og _ _ fun j _ _=>by rw[alC];exact h2 j];apply amg;intro i;have hlt:m<xs.length:=(akY.1 hm).1;by_cases e:i=m
 .subst e;rw[alA (by rw[oV,alX];exact hlt),r9,hm,alC];simp[AV.ren,h1]
 .rw[alu (fun g=>e g.symm),r9,r9,alu (fun g=>e g.symm)]
theorem Lj{xs:List (Option (List D))}{m i:Nat}{ys:List D}(h:(xs.set m none)[i]?=some (some ys)):i≠m∧xs[i]?=some (some ys):=by
 by_cases e:m=i
 .subst e;by_cases hl:m<xs.length
  .rw[alA hl]at h;cases h
  .rw[alN (by simpa using amO hl)]at h;cases h
 .rw[alu e]at h;exact⟨fun g=>e g.symm,h⟩
end
theorem sw{τ ρ:Name->Name}:∀{l:List (Name×Ob)},(l.map (·.1)).Nodup->(∀q∈l,ρ (τ q.1)=q.1)->kh τ l
 |[],_,_=>trivial
 |q::r,hn,hr=>by
   rw[alf,alW]at hn;refine⟨fun x hx e=>hn.1 ?_,sw hn.2 fun x hx=>hr x (ald _ hx)⟩;have h1:=hr q alb;have h2:=hr x (ald _ hx);rw[e,h2]at h1;exact ak6.2 ⟨x,hx,h1⟩
theorem Gz(h:Nat)(xs:List (Option (List D))):∀i,((fG h i xs).map (·.1)).Nodup∧∀p∈(fG h i xs).map (·.1),∃j,i<=j∧p=[h,j]:=by
 induction xs with
 |nil=>intro i;exact⟨by simp[fG],by simp[fG]⟩
 |cons x r ih =>
   intro i;obtain⟨h1,h2⟩:=ih (i+1)
   cases x with
   |none=>exact⟨h1,fun p hp=>by obtain⟨j,hj,e⟩:=h2 p hp;exact⟨j,by omega,e⟩⟩
   |some ys =>
     refine⟨?_,fun p hp=>?_⟩
     .rw[fG,alf,alW];refine⟨fun hm=>?_,h1⟩;obtain⟨j,hj,e⟩:=h2 _ hm;simp at e;omega
     .rw[fG,alf]at hp;rcases alc.1 hp with rfl|hp
      .exact⟨i,ali _,rfl⟩
      .obtain⟨j,hj,e⟩:=h2 p hp;exact⟨j,by omega,e⟩
def mU(p:Name):Bool:=match p with
 |a::_=>a != 202&&a != 203
 |[]=>true
theorem Tm{hp:List (Name×Ob)}{xs ys:List (Option (List D))}(hn:(hp.map (·.1)).Nodup)(hh:(hp.all fun q=>mU q.1)=true):((hp++cm 202 xs (cm 203 ys [])).map (·.1)).Nodup:=by
 have hh':∀q∈hp,mU q.1=true:=alr.1 hh;obtain⟨a1,a2⟩:=Gz 202 xs 0;obtain⟨b1,b2⟩:=Gz 203 ys 0;unfold cm;rw[alS,alh,alh,alZ,alZ];refine⟨hn,⟨a1,b1,fun p hp q hq e=>?_⟩,fun p hpm q hq e=>?_⟩
 .obtain⟨j,_,rfl⟩:=a2 p hp;obtain⟨k,_,rfl⟩:=b2 q hq;simp at e
 .subst e;obtain⟨x,hx,rfl⟩:=ak6.1 hpm;have:=hh' x hx;rcases ak1.1 hq with hq|hq
  .obtain⟨j,_,e⟩:=a2 _ hq;rw[e]at this
   revert this;simp[mU]
  .obtain⟨j,_,e⟩:=b2 _ hq;rw[e]at this
   revert this;simp[mU]
theorem uT{τ:Name->Name}(ρ:Name->Name){s:St}{fr:List (Nat×AV)}{hp:List (Name×Ob)}{xs ys:List (Option (List D))}{u:List Nat}(h1:oG τ u s fr∧oH τ u s hp)
  (h2:∀i zs,xs[i]?=some (some zs)->s.hp (τ [202,i])=some (.arr none zs)∧ρ (τ [202,i])=[202,i]) (h3:∀i zs,ys[i]?=some (some zs)->s.hp (τ [203,i])=some (.arr none zs)∧ρ (τ [203,i])=[203,i])
  (hu:(u.contains 202&&u.contains 203)=true) (hn:(hp.map (·.1)).Nodup) (hh:(hp.all fun q=>mU q.1)=true) (hρ:hp.map (fun q=>ρ (τ q.1))=hp.map (·.1)):cw [] τ s fr (hp++cm 202 xs (cm 203 ys [])) u:=by
 rw[ak7]at hu;refine⟨h1.1,FX h1.2 (FY hu.1 (fun i zs h=>(h2 i zs h).1) (FY hu.2 (fun i zs h=>(h3 i zs h).1) trivial)),sw (ρ:=ρ) (Tm hn hh) fun q hq=>?_,rfl,tv fun q _ hq=>?_⟩
 .rcases ak1.1 hq with hq|hq
  .obtain⟨n,iH,e⟩:=alx hq;have:=congrArg (fun l:List Name=>l[n]?) hρ;simp only[ala,ak0 iH,e,Option.map_some,alE]at this;exact this
  .rcases ak1.1 hq with hq|hq
   .obtain⟨j,zs,hj,rfl⟩:=(n3 202 xs 0 q).1 hq;rw[alC];exact(h2 j zs hj).2
   .rcases ak1.1 hq with hq|hq
    .obtain⟨j,zs,hj,rfl⟩:=(n3 203 ys 0 q).1 hq;rw[alC];exact(h3 j zs hj).2
    .cases hq
 .cases q with
  |mk p o=>cases p<;>simp[b9]at hq
section
variable {d:Nat}{C1 F:List (Name×Ob)}{p:Name}
theorem Lk(h:p∈(C1++F).map (·.1)):dc id d (C1++F) p=p:=by
 unfold dc;rw[if_pos]
 .rfl
 .obtain⟨x,hx,rfl⟩:=ak6.1 h;exact alG.2 ⟨x,hx,by simp⟩
theorem ag0(h:p∉(C1++F).map (·.1)):dc id d (C1++F) p=d::p:=by
 unfold dc;rw[if_neg];intro g;obtain⟨x,hx,e⟩:=alG.1 g;exact h (ak6.2 ⟨x,hx,by simpa using e⟩)
end
def fY(xs ys:List (Option (List D))):List (Name×Ob):=cm 202 xs (cm 203 ys [])
section
variable {xs ys:List (Option (List D))}
theorem Ai{q:Name×Ob}(h:q∈fY xs ys):(∃j zs,xs[j]?=some (some zs)∧q=([202,j],.arr none zs))∨∃j zs,ys[j]?=some (some zs)∧q=([203,j],.arr none zs):=by
 rcases ak1.1 h with h|h
 .obtain⟨j,zs,h1,h2⟩:=(n3 202 xs 0 q).1 h;exact .inl ⟨j,zs,h1,by rw[h2,alC]⟩
 .rcases ak1.1 h with h|h
  .obtain⟨j,zs,h1,h2⟩:=(n3 203 ys 0 q).1 h;exact .inr ⟨j,zs,h1,by rw[h2,alC]⟩
  .cases h
theorem Tn{j:Nat}{zs:List D}(h:xs[j]?=some (some zs)):([202,j],Ob.arr none zs)∈fY xs ys:=alm _ ((n3 202 xs 0 _).2 ⟨j,zs,h,by rw[alC]⟩)
theorem Tp{j:Nat}{zs:List D}(h:ys[j]?=some (some zs)):([203,j],Ob.arr none zs)∈fY xs ys:=alB _ (alm _ ((n3 203 ys 0 _).2 ⟨j,zs,h,by rw[alC]⟩))
theorem Ll{q:Name×Ob}(h:q∈fY xs ys):mU q.1=false:=by
 rcases Ai h with⟨j,zs,_,rfl⟩|⟨j,zs,_,rfl⟩<;>rfl
theorem ag1{q:Name×Ob}(h:q∈fY xs ys):aw none ((fY xs ys).map fun x=>(x.1,some x.2)) q.1=some q.2:=by
 rcases Ai h with⟨j,zs,h1,rfl⟩|⟨j,zs,h1,rfl⟩
 .exact fH (fr:=[]) (u:=[]) h1
 .exact aev (fr:=[]) (u:=[]) (by decide) h1
theorem ag2{C:List (Name×Ob)}(hh:(C.all fun q=>mU q.1)=true){q:Name×Ob}(h:q∈fY xs ys):q.1∉C.map (·.1):=by
 intro g;obtain⟨x,hx,e⟩:=ak6.1 g;have:=alr.1 hh x hx;rw[e,Ll h]at this;cases this
theorem Lm{C:List (Name×Ob)}(hh:(C.all fun q=>mU q.1)=true){q:Name×Ob}(h:q∈fY xs ys):aw none ((C++fY xs ys).map fun x=>(x.1,some x.2)) q.1=some q.2:=by
 rw[alh,FL,qs (l:=C.map _) (by rw[sv];exact ag2 hh h)];exact ag1 h
theorem ag3{C:List (Name×Ob)}(hh:(C.all fun q=>mU q.1)=true):lg (C++fY xs ys) (fY xs ys):=by
 refine Gv fun q hq o ho=>?_;rw[Lm hh hq]at ho;cases ho;exact Ob.k4 _
theorem Tq{p:Name}(hp:mU p=true):p∉(fY xs ys).map (·.1):=by
 intro g;obtain⟨x,hx,e⟩:=ak6.1 g;rw[<-e,Ll hx]at hp;cases hp
end
section
variable {P:Program}{cf:Cf}{Q:Exit->St->Prop}{s:St}{k:List It}
theorem Tr(E:bu P cf Q){o:Oper}{τ:Name->Name}{s2:St}(hle:Le cf.U τ s s2)(h:E.bc o s2 k .no):E.bc o s k .no:=by
 rw[ie]at h ⊢;exact h.le hle
theorem ag4(E:bu P cf Q){d:Nat}{fv:Operand}{args:Array Operand}{at':Array TypeId}{ty:TypeId}{pos:String}{af:Array Edge}
  {f:FuncId} {aG:List AV} (cD:List AV) (C1 R:List (Name×Ob)) (xs ys:List (Option (List D))) (cu:List Nat) {Q0:AV->List (Name×Ob)->Prop} (hc:bZ P cf.G f cD (C1++fY xs ys) cu Q0) (fr:List (Nat×AV)) (u:List Nat)
  (hs:s=mk fr (C1++(R++fY xs ys)) u) (bp:ev s fv=.aH f aG) (dE:args.toList.map (ev s)++aG=cD) (hd:d<cf.n∧d∉s.used) (oJ:dz cu cD=true) (h1:oH id cu s C1) (hu:(cu.contains 202&&cu.contains 203)=true)
  (hn:(C1.map (·.1)).Nodup) (hh:(C1.all fun q=>mU q.1)=true) (hR:(R.all fun q=>mU q.1&&!(C1.map (·.1)).contains q.1)=true)
  (hk:∀r ae,Q0 r ae->∃C2 C3,ae=C2++fY xs ys∧lg (C1++fY xs ys) C2∧C2.map (fun x=>(dc id d (C1++fY xs ys) x.1,x.2.ren (dc id d (C1++fY xs ys))))=C3∧E.run k (mk (js fr d (r.ren (dc id d (C1++fY xs ys)))) (C3++(R++fY xs ys)) (d::u))) :
  E.bc { dst:=some d,op:=.call { callee:=.value fv,args:=args,argTypes:=at' },type:=ty,pos:=pos,after:=af,guard:=none } s k .no:=by
 have Ln:∀x∈R,mU x.1=true∧x.1∉C1.map (·.1):=fun x hx=>by
  have:=alr.1 hR x hx;simpa using this
 have hRh:(R.all fun q=>mU q.1)=true:=alr.2 fun x hx=>(Ln x hx).1;rw[ak7]at hu
 have dJ:∀q∈fY xs ys,s.hp q.1=some q.2:=fun q hq=>by
  rw[hs];have:=Lm (C:=C1++R) (by rw[anJ,hh,hRh];rfl) hq;rw[alK]at this;exact this
 refine iJ E cD (C1++fY xs ys) cu hc bp dE hd oJ (Lg (FX h1 (uK fun q hq=>⟨?_,?_,?_⟩))) (sw (ρ:=id) (Tm hn hh) fun _ _=>rfl) fun r ae hr=>?_
 .have:=dJ q hq;rcases Ai hq with⟨j,zs,h1,rfl⟩|⟨j,zs,h1,rfl⟩<;>exact this
 .rcases Ai hq with⟨j,zs,h1,rfl⟩|⟨j,zs,h1,rfl⟩<;>rfl
 .rcases Ai hq with⟨j,zs,h1,rfl⟩|⟨j,zs,h1,rfl⟩
  .exact hu.1
  .exact hu.2
 .obtain⟨C2,C3,rfl,h2,h3,h4⟩:=hk r ae hr;refine⟨agW h2 (ag3 hh),?_⟩;rw[hs,agV (fun x hx=>?_) (fun x hx=>⟨Lk ?_,?_⟩) h3]
  .exact h4
  .rw[alh,ak1,not_or];exact⟨(Ln x hx).2,Tq (Ln x hx).1⟩
  .rw[alh];exact alB _ (ak6.2 ⟨x,hx,rfl⟩)
  .rcases Ai hx with⟨j,zs,h1,rfl⟩|⟨j,zs,h1,rfl⟩<;>rfl
end
def mz(F:List (ch×List Nat))(vs:List AV):List (D×AV):=(F.map fun q=>dt q.1).zip vs
theorem Ts{F:List (ch×List Nat)}{vs:List AV}(h:vs.length=F.length):(mz F vs).map (·.1)=(F.map (·.1)).map dt:=by
 unfold mz;rw[List.map_fst_zip (by simp[h]),alD];rfl
theorem ag5(τ:Name->Name)(l:List AV):cg τ l=l.map (AV.ren τ):=by
 induction l with
 |nil=>rfl
 |cons x r ih=>simp[cg,ih]
theorem rk(F:List (ch×List Nat))(vs:List AV)(τ:Name->Name):(mz F vs).map (fun q=>(q.1,q.2.ren τ))=mz F (cg τ vs):=by
 unfold mz;rw[ag5,List.zip_map_right];rfl
theorem Lp{F:List (ch×List Nat)}{vs:List AV}{m:Nat}{key:ch}{L:List Nat}{v:AV}(h1:F[m]?=some (key,L))(h2:vs[m]?=some v):(mz F vs)[m]?=some (dt key,v):=by
 unfold mz;rw[amq];exact⟨by rw[ala,h1];rfl,h2⟩
theorem ag6{F:List (ch×List Nat)}{vs:List AV}{m:Nat}{key:ch}{L:List Nat}{v:AV}(h1:F[m]?=some (key,L)):(mz F vs).set m (dt key,v)=mz F (vs.set m v):=by
 unfold mz;apply amg;intro i;by_cases e:m=i
 .subst e;by_cases hl:m<((F.map fun q=>dt q.1).zip vs).length
  .rw[alA hl];symm;rw[amq];have:m<vs.length:=by simp at hl;omega
   exact⟨by rw[ala,h1];rfl,alA this⟩
  .rw[alN (by simpa using amO hl),alN (by simpa using amO hl)]
 .rw[alu e]
  have:((F.map fun q=>dt q.1).zip vs)[i]?=((F.map fun q=>dt q.1).zip (vs.set m v))[i]?:=by
   cases h3:((F.map fun q=>dt q.1).zip vs)[i]? with
   |none =>
     symm;rw[amy]at h3 ⊢;simpa using h3
   |some z =>
     rw[amq]at h3;symm;rw[amq];exact⟨h3.1,by rw[alu e];exact h3.2⟩
  exact this
theorem ag7{F:List (ch×List Nat)}{vs:List AV}{m:Nat}{key:ch}{L M:List Nat}(h1:F[m]?=some (key,L)):mz (F.set m (key,M)) vs=mz F vs:=by
 unfold mz;congr 1;apply amg;intro i;rw[ala,ala];by_cases e:m=i
 .subst e;rw[alA (akY.1 h1).1,h1];rfl
 .rw[alu e]
theorem ag8{F:List (ch×List Nat)}{vs:List AV}{key:ch}{M:List Nat}{v:AV}(h:vs.length=F.length):mz F vs++[(dt key,v)]=mz (F++[(key,M)]) (vs++[v]):=by
 unfold mz;rw[alh,List.zip_append (by simp[h])];rfl
theorem sA{F:List (ch×List Nat)}{vs:List AV}{u:List Nat}(h:dz u vs=true):(mz F vs).all (fun q=>q.2.bn u)=true:=by
 rw[alr];intro q hq;have:=(List.of_mem_zip (a:=q.1) (b:=q.2) hq).2
 have key:∀(l:List AV),dz u l=true->∀x∈l,x.bn u=true:=by
  intro l
  induction l with
  |nil=>intro _ x hx;simp at hx
  |cons y r ih =>
    intro hl x hx;simp only[dz,ak7]at hl;rcases alc.1 hx with rfl|hx
    .exact hl.1
    .exact ih hl.2 x hx
 exact key vs h _ this
def cr(S:List (List Nat)):List (Option (List D)):=S.map fun T=>some (T.map nD)
def bM(F:List (ch×List Nat)):List (Option (List D)):=F.map fun q=>some (q.2.map nD)
theorem Tt{S:List (List Nat)}{m:Nat}(h:m<S.length):(cr S)[m]?=some (some ((S.getD m []).map nD)):=by simp[cr,h]
theorem ag9{F:List (ch×List Nat)}{m:Nat}{key:ch}{L:List Nat}(h:F[m]?=some (key,L)):(bM F)[m]?=some (some (L.map nD)):=by simp[bM,h]
theorem aha{S:List (List Nat)}{k:Nat}{T:List Nat}:cr (S.set k T)=(cr S).set k (some (T.map nD)):=by simp[cr,amr]
theorem Lq{F:List (ch×List Nat)}{m:Nat}{key:ch}{L:List Nat}:bM (F.set m (key,L))=(bM F).set m (some (L.map nD)):=by simp[bM,amr]
theorem ahb{F:List (ch×List Nat)}{m:Nat}{key:ch}{L:List Nat}:(bM (F.set m (key,L))).set m none=(bM F).set m none:=by rw[Lq,anv]
end Go.Proofs.YtpmniabdmbmafaaGreatDoor

namespace Go.Proofs.YtpmniabdmbmafaaGreatDoor
open Go.Ab Tryz
theorem f161:∃f0 f1:Field,prog.underlying 154=some (.struct #[f0,f1])∧f0.offset=0∧f1.offset=1∧f0.type=3∧f1.type=9:=by
 have h:(match prog.underlying 154 with
  |some (.struct ⟨[f0,f1]⟩)=>f0.offset == 0&&f1.offset == 1&&f0.type == 3&&f1.type == 9
  |_=>false)=true:=by kernel_rfl
 split at h
 .rename_i f0 f1 hu;simp only[ak7,beq_iff_eq]at h;exact⟨f0,f1,hu,h.1.1.1,h.1.1.2,h.1.2,h.2⟩
 .cases h
theorem f164:∃f0 f1:Field,prog.underlying 157=some (.struct #[f0,f1])∧f0.offset=0∧f1.offset=2∧f0.type=154∧f1.type=3:=by
 have h:(match prog.underlying 157 with
  |some (.struct ⟨[f0,f1]⟩)=>f0.offset == 0&&f1.offset == 2&&f0.type == 154&&f1.type == 3
  |_=>false)=true:=by kernel_rfl
 split at h
 .rename_i f0 f1 hu;simp only[ak7,beq_iff_eq]at h;exact⟨f0,f1,hu,h.1.1.1,h.1.1.2,h.1.2,h.2⟩
 .cases h
theorem Tv:jS prog 154 zU lU:=by
 obtain⟨f0,f1,h,h0,h1,h2,h3⟩:=f161;exact ae5 h h0 h1 (by rw[h2,p3]) (by rw[h3,B6]) (by kernel_rfl) (by rw[Fa,h2,h3])
theorem Lr:jS prog 157 dt mP:=by
 obtain⟨f0,f1,h,h0,h1,h2,h3⟩:=f164;obtain⟨g0,g1,g,b0,b1,b2,b3⟩:=f161;exact ae9 h h0 h1 h2 (by kernel_rfl) g b0 b1 (by kernel_rfl) (by rw[Fa,b2,b3]) (by rw[Fa]) (by rw[b2,p3]) (by rw[b3,B6]) (by rw[h3,p3])
theorem Tw{κ:Type}{ke:κ->D}{M:List (κ×D)}{l1:List (D×D)}{y:D×D}{l2:List (D×D)}(h:aM ke M=l1++y::l2):∃a q b,M=a++q::b∧l1=aM ke a∧y=(ke q.1,q.2)∧l2=aM ke b:=by
 unfold aM at h;rw[List.map_eq_append_iff]at h;obtain⟨a,r,rfl,rfl,h2⟩:=h;rw[List.map_eq_cons_iff]at h2;obtain⟨q,b,rfl,rfl,rfl⟩:=h2;exact⟨a,q,b,rfl,rfl,rfl,rfl⟩
theorem ahc{CL:List Nat}{n:Nat}(h:∀c∈CL,c<n):(fj CL).length<=n:=by
 obtain⟨h1,h2⟩:=S9 CL
 have hn:((fj CL).map fun q=>q.1.toNat).Nodup:=by
  rw[List.Nodup,ane];rw[List.Nodup,ane]at h2;refine h2.imp_of_mem fun {x y} hx hy aB e=>aB ?_;obtain⟨c,_,e1⟩:=(h1 x.1).1 (ams hx);obtain⟨d,_,e2⟩:=(h1 y.1).1 (ams hy);omega
 have:=mO (n:=n) hn fun x hx=>by
  obtain⟨q,hq,rfl⟩:=ak6.1 hx;obtain⟨c,hc,e⟩:=(h1 q.1).1 (ams hq);have:=h c hc;omega
 simpa using this
theorem ahd{L:List Int}(h:∀z∈L,0<=z):L.map i64=(L.map Int.toNat).map nD:=by
 rw[alD];refine alI fun z hz=>?_;have:=h z hz;show i64 z=i64 ((z.toNat:Nat):Int);rw[show((z.toNat:Nat):Int)=z by omega]
theorem ahe{G}(l:List EA)(st:Int)(FM:List (ch×D))(ay:Nat)(bs:List Nat)(s:PS)(o:Nat)(c:List D)(es:List (Int×D))(a:eu)(T:List Nat)(Ls:List eu)(hN:l.length<=4000)(hF:Af l FM)(h:jf l s T (a::Ls))(hT:KW l T)(aU:gq l)(yg:Du l)
  (DH:∀k∈T,k<l.length) (hTn:T.length<=l.length) (hq:Queue c o 0 s.wait) (eP:ko es s.wait) :
  bZ prog G 97 [.bx [0] 0,.d (od a),.d (.sl none (T.map nD))] (dm l st (fo ay bs (aM dt FM)) s 2 3 o c es) [0,1,2,3,100] (fun r ae=>r=.az []∧∃s' o' c' kN,ae=dm l st (fo ay bs (aM dt FM)) s' 6 7 o' c' kN∧jf l s' T Ls∧Queue c' o' 0 s'.wait∧ko kN s'.wait ∧
   2*(l.length-s'.sets.length)+s'.wait.length<=2*(l.length-s.sets.length)+s.wait.length):=by
 unfold dm gU od;obtain⟨FD,mV⟩:∃FD,fo ay bs (aM dt FM)=FD:=⟨_,rfl⟩
 rw[mV];refine jc func97 rfl (by decide +kernel) (by simp[ntmps97]) (aS fun E=>?_);simp only[go_sem];refine EX E (by simp only[go_sem]) (by rw[aT];decide) ?_;simp only[go_sem];refine EX E (by simp only[go_sem]) (by rw[aT];decide) ?_;simp only[go_sem];have w:=h.wf
 refine bC E (X:={ x:Nat×List Nat // x.1<=T.length∧∀y,y∈x.2↔y<l.length∧∃k∈T.take x.1,(a,k)∈gL l y }) (fun x=>[(0,.bx [0] 0),(4,.bx [4] 0),(6,.mp [16]),(7,.mp [17]),(18,.d (.sl none (T.map nD))),(19,.d (i64 T.length)),(20,.d (i64 x.1.1))])
  (fun x=>[([0],.box [.d (.sl (some 13) (l.map aO)),.d (i64 st),.d FD,.vw [1] 0 s.cls.length,.vw [2] 0 s.sets.length,.vw [3] o s.wait.length,.mp [100]]),([1],.arr none (s.cls.map nD)),([2],.arr none (s.sets.map dT)),([3],.arr none c),([100],.map (aM (fun n:Int=>i64 n) es)),([4],.box [.d (i64 a.1),.d (.str a.2)]),
   ([16],.map (aM (fun n:Int=>i64 n) (fj x.1.2))),([17],.map (aM (fun n:Int=>i64 n) (fj (x.1.2.map fun y=>s.cls.getD y 0))))])
  [0,1,2,3,100,4,16,17] (fun x=>T.length-x.1.1) ⟨(0,[]),ale _,by simp⟩ id ?_ ?_
 .simp only[go_sem]
  all_goals first|rfl|(and_intros<;>first|rfl|trivial)
 rintro⟨⟨j,HL⟩,hj,Aj⟩ E0;refine bK E0 fun Q' hQ E'=>?_;simp only at hj Aj ⊢;simp only[go_sem];refine aI E' ?_ ?_<;>intro h1<;>simp only[go_sem]
 .have aX:j<T.length:=by omega
  have bS:(T.map nD).getD j .aY=i64 (T[j]:Nat):=by simp[aX,nD]
  have fb:=DH _ (ak2 aX);refine⟨by omega,?_⟩;rw[bS];simp only[go_sem];refine bz mixed E' fun X=>?_;simp only[go_sem];refine fO X (d:=25) [0] 0 none [.d (.sl (some 13) (l.map aO)),.d (i64 st),.d FD,.vw [1] 0 s.cls.length,.vw [2] 0 s.sets.length,.vw [3] o s.wait.length,.mp [100]] (by simp only[go_sem]) rfl rfl ?_;simp only[go_sem];refine lP X _ _ (afa ay bs FM (a,(T[j]:Int)) .ao (by rw[Ca]) Lr SZ (by rw[mV];rfl) rfl (by simp)) (by simp[bT]) ?_;simp only[go_sem];rcases agM hF a T[j] fb with⟨e,bY⟩|⟨M,e,hMl,hM⟩
  .rw[e,Option.getD_none];simp only[go_sem];(try refine⟨by decide +kernel,?_⟩);obtain⟨M,GA⟩:∃M:List Nat,M=[]:=⟨_,rfl⟩
   refine PE E' 31 .ao (.sl none (M.map nD)) rfl (by rw[GA];exact .ao _) ?_;have hM:∀x,x∈M↔x<l.length∧(a,T[j])∈gL l x:=fun x=>by rw[GA];exact⟨fun g=>by simp at g,fun g=>absurd g.2 (bY x g.1)⟩
   have hMl:M.length<=l.length:=by rw[GA];exact ale _
   have hM0:(0:Int)=(M.length:Int):=by rw[GA];rfl
   simp only[go_sem]
   refine bC E' (X:={ i:Nat // i<=(M).length }) (fun x=>[(0,.bx [0] 0),(4,.bx [4] 0),(6,.mp [16]),(7,.mp [17]),(18,.d (.sl none (T.map nD))),(19,.d (i64 T.length)),(20,.d (i64 j)),(31,.d (.sl none ((M).map nD))),(32,.d (i64 (M).length)),(33,.d (i64 x.1))])
    (fun x=>[([0],.box [.d (.sl (some 13) (l.map aO)),.d (i64 st),.d FD,.vw [1] 0 s.cls.length,.vw [2] 0 s.sets.length,.vw [3] o s.wait.length,.mp [100]]),([1],.arr none (s.cls.map nD)),([2],.arr none (s.sets.map dT)),([3],.arr none c),([100],.map (aM (fun n:Int=>i64 n) es)),([4],.box [.d (i64 a.1),.d (.str a.2)]),
     ([16],.map (aM (fun n:Int=>i64 n) (fj (HL++(M).take x.1)))),([17],.map (aM (fun n:Int=>i64 n) (fj ((HL++(M).take x.1).map fun y=>s.cls.getD y 0))))])
    [0,1,2,3,100,4,16,17] (fun x=>(M).length-x.1) ⟨0,ale _⟩ id ?_ ?_
   .rw[List.take_zero,alS]
    (rw[<-hM0])
    simp only[go_sem]
    all_goals first|rfl|(and_intros<;>first|rfl|trivial)
   rintro⟨i,hi⟩ E3;refine bK E3 fun Q2 cz E2=>?_;simp only at hi ⊢;simp only[go_sem];refine aI E2 ?_ ?_<;>intro h3<;>simp only[go_sem]
   .have aq:i<(M).length:=by omega
    have se:((M).map nD).getD i .aY=i64 ((M)[i]:Nat):=by simp[aq,nD]
    obtain⟨jt,nM⟩:=(hM _).1 (ak2 aq);have Ak:(M)[i]<s.cls.length:=by rw[w.len];exact jt
    have yn:(s.cls.map nD).getD (M)[i] .aY=i64 (s.cls.getD (M)[i] 0:Nat):=by simp[Ak,nD]
    refine⟨by omega,?_⟩;rw[se];simp only[go_sem];refine vW E2 [16] (fj (HL++(M).take i)) ((M)[i]:Int) (.bool true) (by rw[qQ]) tM rfl rfl rfl rfl rfl ?_;rw[<-Gs];simp only[go_sem];refine⟨by omega,?_⟩;rw[yn];simp only[go_sem];refine vW E2 [17] (fj ((HL++(M).take i).map fun y=>s.cls.getD y 0)) (s.cls.getD (M)[i] 0:Int) (.bool true) (by rw[qQ]) tM rfl rfl rfl rfl rfl ?_;rw[<-Gs];simp only[go_sem];rw[cz];simp only[go_sem];refine⟨⟨i+1,aq⟩,by show(M).length-(i+1)<(M).length-i;omega,id,?_⟩;have o6:HL++(M).take (i+1)=HL++(M).take i++[(M)[i]]:=by rw[ak9 aq,alK]
    rw[show(⟨i+1,aq⟩:{ i:Nat // i<=(M).length }).1=i+1 from rfl,o6,alh (l₂:=[_])];simp only[go_sem];rw[aD ⟨by omega,by omega⟩]
    and_intros<;>first|rfl|trivial
   .have de:i=(M).length:=by omega
    subst de;rw[alk,cz];simp only[go_sem];rw[hQ];simp only[go_sem];refine⟨⟨(j+1,HL++M),by show j+1<=_;omega,fun y=>?_⟩,by show T.length-(j+1)<T.length-j;omega,id,?_⟩
    .show y∈HL++M↔_;rw[ak1,Aj,hM,ak9 aX];constructor
     .rintro(⟨g1,k,g2,g3⟩|⟨g1,g2⟩)
      .exact⟨g1,k,alm _ g2,g3⟩
      .exact⟨g1,T[j],alB _ (ak3.2 rfl),g2⟩
     .rintro⟨g1,k,g2,g3⟩;rcases ak1.1 g2 with g2|g2
      .exact .inl ⟨g1,k,g2,g3⟩
      .rw[ak3.1 g2]at g3;exact .inr ⟨g1,g3⟩
    .simp only[go_sem];rw[aD ⟨by omega,by omega⟩]
     and_intros<;>first|rfl|trivial
  .rw[e,Option.getD_some,dT];simp only[go_sem];(try refine⟨by decide +kernel,?_⟩)
   refine bC E' (X:={ i:Nat // i<=(M).length }) (fun x=>[(0,.bx [0] 0),(4,.bx [4] 0),(6,.mp [16]),(7,.mp [17]),(18,.d (.sl none (T.map nD))),(19,.d (i64 T.length)),(20,.d (i64 j)),(31,.d (.sl none ((M).map nD))),(32,.d (i64 (M).length)),(33,.d (i64 x.1))])
    (fun x=>[([0],.box [.d (.sl (some 13) (l.map aO)),.d (i64 st),.d FD,.vw [1] 0 s.cls.length,.vw [2] 0 s.sets.length,.vw [3] o s.wait.length,.mp [100]]),([1],.arr none (s.cls.map nD)),([2],.arr none (s.sets.map dT)),([3],.arr none c),([100],.map (aM (fun n:Int=>i64 n) es)),([4],.box [.d (i64 a.1),.d (.str a.2)]),
     ([16],.map (aM (fun n:Int=>i64 n) (fj (HL++(M).take x.1)))),([17],.map (aM (fun n:Int=>i64 n) (fj ((HL++(M).take x.1).map fun y=>s.cls.getD y 0))))])
    [0,1,2,3,100,4,16,17] (fun x=>(M).length-x.1) ⟨0,ale _⟩ id ?_ ?_
   .rw[List.take_zero,alS]
    skip
    simp only[go_sem]
    all_goals first|rfl|(and_intros<;>first|rfl|trivial)
   rintro⟨i,hi⟩ E3;refine bK E3 fun Q2 cz E2=>?_;simp only at hi ⊢;simp only[go_sem];refine aI E2 ?_ ?_<;>intro h3<;>simp only[go_sem]
   .have aq:i<(M).length:=by omega
    have se:((M).map nD).getD i .aY=i64 ((M)[i]:Nat):=by simp[aq,nD]
    obtain⟨jt,nM⟩:=(hM _).1 (ak2 aq);have Ak:(M)[i]<s.cls.length:=by rw[w.len];exact jt
    have yn:(s.cls.map nD).getD (M)[i] .aY=i64 (s.cls.getD (M)[i] 0:Nat):=by simp[Ak,nD]
    refine⟨by omega,?_⟩;rw[se];simp only[go_sem];refine vW E2 [16] (fj (HL++(M).take i)) ((M)[i]:Int) (.bool true) (by rw[qQ]) tM rfl rfl rfl rfl rfl ?_;rw[<-Gs];simp only[go_sem];refine⟨by omega,?_⟩;rw[yn];simp only[go_sem];refine vW E2 [17] (fj ((HL++(M).take i).map fun y=>s.cls.getD y 0)) (s.cls.getD (M)[i] 0:Int) (.bool true) (by rw[qQ]) tM rfl rfl rfl rfl rfl ?_;rw[<-Gs];simp only[go_sem];rw[cz];simp only[go_sem];refine⟨⟨i+1,aq⟩,by show(M).length-(i+1)<(M).length-i;omega,id,?_⟩;have o6:HL++(M).take (i+1)=HL++(M).take i++[(M)[i]]:=by rw[ak9 aq,alK]
    rw[show(⟨i+1,aq⟩:{ i:Nat // i<=(M).length }).1=i+1 from rfl,o6,alh (l₂:=[_])];simp only[go_sem];rw[aD ⟨by omega,by omega⟩]
    and_intros<;>first|rfl|trivial
   .have de:i=(M).length:=by omega
    subst de;rw[alk,cz];simp only[go_sem];rw[hQ];simp only[go_sem];refine⟨⟨(j+1,HL++M),by show j+1<=_;omega,fun y=>?_⟩,by show T.length-(j+1)<T.length-j;omega,id,?_⟩
    .show y∈HL++M↔_;rw[ak1,Aj,hM,ak9 aX];constructor
     .rintro(⟨g1,k,g2,g3⟩|⟨g1,g2⟩)
      .exact⟨g1,k,alm _ g2,g3⟩
      .exact⟨g1,T[j],alB _ (ak3.2 rfl),g2⟩
     .rintro⟨g1,k,g2,g3⟩;rcases ak1.1 g2 with g2|g2
      .exact .inl ⟨g1,k,g2,g3⟩
      .rw[ak3.1 g2]at g3;exact .inr ⟨g1,g3⟩
    .simp only[go_sem];rw[aD ⟨by omega,by omega⟩]
     and_intros<;>first|rfl|trivial
 .have gT:j=T.length:=by omega
  subst gT;rw[alk]at Aj;rw[hQ];simp only[go_sem];clear hQ E' E0 Q';obtain⟨CL,Lt⟩:∃CL,HL.map (fun y=>s.cls.getD y 0)=CL:=⟨_,rfl⟩
  rw[Lt];refine acU E [17] (aM (fun n:Int=>i64 n) (fj CL)) rfl fun kQ mW ag=>⟨_,by simp only[go_sem];rfl,?_⟩
  simp only[go_sem];refine Qg E ag (by rw[qQ]) rfl (by simp only[go_sem]) (by rw[aT];decide) ?_;simp only[go_sem];refine wa E 12 98 none rfl (by rw[aT];decide) ?_;simp only[go_sem]
  have Tx:∀x∈CL,x<s.sets.length:=by
   intro x hx;rw[<-Lt]at hx;obtain⟨y,hy,rfl⟩:=ak6.1 hx;exact(w.at' y ((Aj y).1 hy).1).1
  have bF:=ahc Tx;have oQ:=w.le;obtain⟨nw,eZ⟩:=S9 CL
  refine bC E (X:={ x:List (Int×D)×List (Int×D)×Option (D×D) // (x.1++x.2.1).Perm (fj CL) }) (fun x=>[(0,.bx [0] 0),(6,.mp [16]),(12,.vw [98] 0 x.1.1.length),(50,.it [50])])
   (fun x=>[([0],.box [.d (.sl (some 13) (l.map aO)),.d (i64 st),.d FD,.vw [1] 0 s.cls.length,.vw [2] 0 s.sets.length,.vw [3] o s.wait.length,.mp [100]]),([1],.arr none (s.cls.map nD)),([2],.arr none (s.sets.map dT)),([3],.arr none c),([100],.map (aM (fun n:Int=>i64 n) es)),([16],.map (aM (fun n:Int=>i64 n) (fj HL))),
    ([50],.kz (fo kQ mW (aM (fun n:Int=>i64 n) (fj CL))) x.1.2.2 (aM (fun n:Int=>i64 n) x.1.2.1)),([98],.arr none (x.1.1.map fun q=>i64 q.1))])
   [0,1,2,3,100,16,50,98] (fun x=>x.1.2.1.length) ⟨([],fj CL,none),.refl _⟩ id ?_ ?_
  .simp only[go_sem]
   all_goals first|rfl|(and_intros<;>first|rfl|trivial)
  rintro⟨⟨acc,rem,cur⟩,kP⟩ E0;refine bK E0 fun Q' hQ E'=>?_;simp only at kP ⊢;simp only[go_sem];have km:acc.length+rem.length=(fj CL).length:=by rw[<-ak4];exact kP.length_eq
  refine Qh E' [50] (fo kQ mW (aM (fun n:Int=>i64 n) (fj CL))) cur (aM (fun n:Int=>i64 n) rem) rfl rfl (by simp only[go_sem]) ?_ ?_
  .intro l1 y l2 iF;obtain⟨a1,q,b1,rfl,rfl,rfl,rfl⟩:=Tw iF;simp only[go_sem];refine Qj E' [50] (fo kQ mW (aM (fun n:Int=>i64 n) (fj CL))) (i64 q.1,q.2) (aM (fun n:Int=>i64 n) a1++aM (fun n:Int=>i64 n) b1) rfl rfl (by simp only[go_sem]) ?_;simp only[go_sem];simp only[ak4,List.length_cons]at km;refine⟨by omega,?_⟩;have Di:aM (fun n:Int=>i64 n) a1++aM (fun n:Int=>i64 n) b1=aM (fun n:Int=>i64 n) (a1++b1):=by simp[aM]
   rw[Di,hQ];simp only[go_sem];refine⟨⟨(acc++[q],a1++b1,some (i64 q.1,q.2)),?_⟩,?_,ak [([98],[58])],?_⟩
   .refine List.Perm.trans ?_ kP;rw[alK];refine anh acc ?_;show(q::(a1++b1)).Perm (a1++q::b1);exact anG.symm
   .show(a1++b1).length<(a1++q::b1).length;simp only[ak4,List.length_cons];omega
   .simp only[go_sem];rw[ak4,alh];exact⟨rfl,rfl⟩
  .intro Lu
   have Lv:rem=[]:=by
    cases rem with
    |nil=>rfl
    |cons q r=>simp[aM]at Lu
   subst Lv;rw[alS]at kP;simp only[go_sem];rw[hQ];simp only[go_sem];clear hQ E' E0 Q';obtain⟨AK,Lw⟩:∃AK,acc.map (·.1)=AK:=⟨_,rfl⟩
   have Ly:acc.length=AK.length:=by rw[<-Lw,alg]
   have hAm:(acc.map fun q=>i64 q.1)=AK.map i64:=by rw[<-Lw,alD];rfl
   have hAp:AK.Perm ((fj CL).map (·.1)):=by rw[<-Lw];exact kP.map _
   simp only[List.length_nil,Nat.add_zero]at km;rw[hAm,Ly];refine iJ E [.vw [98] 0 AK.length] [([98],.arr none (AK.map i64))] [98] (S8 98 AK (by omega)) rfl rfl ⟨by simp only[go_sem],by rw[aT];decide⟩ rfl (by simp only[go_sem]) (by simp only[go_sem]) ?_;rintro _ _ ⟨rfl,rfl⟩;obtain⟨SL,Tz⟩:∃SL,(AK.mergeSort fun x y=>decide (x<=y))=SL:=⟨_,rfl⟩
   have TA:SL.Perm AK:=by rw[<-Tz];exact List.mergeSort_perm _ _
   have LA:SL.length=AK.length:=TA.length_eq;have LB:∀z,z∈SL↔∃x∈CL,(x:Int)=z:=fun z=>by rw[TA.mem_iff,hAp.mem_iff,nw]
   have DI:∀z∈SL,0<=z:=fun z hz=>by
    obtain⟨x,_,e⟩:=(LB z).1 hz;omega
   have hSN:=ahd DI;obtain⟨SN,LC⟩:∃SN,SL.map Int.toNat=SN:=⟨_,rfl⟩
   have TB:∀x,x∈SN↔x∈CL:=fun x=>by
    rw[<-LC,ak6];constructor
    .rintro⟨z,hz,rfl⟩;obtain⟨y,hy,e⟩:=(LB z).1 hz;rw[show z.toNat=y by omega];exact hy
    .exact fun hx=>⟨(x:Int),(LB _).2 ⟨x,hx,rfl⟩,by simp⟩
   have ahf:SN.length=AK.length:=by rw[<-LC,alg,LA]
   rw[Tz,hSN,LC,<-ahf];simp only[go_sem];refine⟨by omega,?_⟩;refine rZ E [98] none (SN.map nD) rfl ?_;simp only[go_sem];refine agJ E [16] (aM (fun n:Int=>i64 n) (fj HL)) rfl fun LD LF akK=>?_;simp only[go_sem]
   have LG:∀x,x<l.length->(gM l a T x=true↔x∈HL):=fun x hx=>by
    rw[Dv,Aj];exact⟨fun⟨k,h1,h2⟩=>⟨hx,k,h2,h1⟩,fun⟨_,k,h1,h2⟩=>⟨k,h2,h1⟩⟩
   have hHO:S1 l.length (fj HL) (gM l a T):=fun x hx=>by
    rw[agL];by_cases g:x∈HL
    .rw[if_pos g,(LG x hx).2 g];rfl
    .have:gM l a T x=false:=by
      cases e:gM l a T x with
      |false=>rfl
      |true=>exact absurd ((LG x hx).1 e) g
     rw[if_neg g,this];rfl
   have ahg:∀p q,p<l.length->q<l.length->alike l p q->gM l a T p=gM l a T q:=fun p q hp hq ha=>agb aU hT hp hq ha
   have ahh:∀x,x<l.length->gM l a T x=true->s.cls.getD x 0∈SN:=fun x hx hh=>by
    rw[TB,<-Lt];exact ak6.2 ⟨x,(LG x hx).1 hh,rfl⟩
   have ahi:∀x∈SN,x<s.sets.length:=fun x hx=>Tx x ((TB x).1 hx)
   refine bC E (X:={ x:(Nat×PS)×(Nat×List D×List (Int×D)) // x.1.1<=SN.length∧(jf l x.1.2 T (a::Ls)∧yf l s x.1.2 (gM l a T) (SN.take x.1.1))∧(Queue x.2.2.1 x.2.1 0 x.1.2.wait∧ko x.2.2.2 x.1.2.wait)∧2*(l.length-x.1.2.sets.length)+x.1.2.wait.length<=2*(l.length-s.sets.length)+s.wait.length })
    (fun x=>[(0,.bx [0] 0),(6,.d (fo LD LF (aM (fun n:Int=>i64 n) (fj HL)))),(61,.d (.sl none (SN.map nD))),(62,.d (i64 SN.length)),(63,.d (i64 x.1.1.1))])
    (fun x=>[([0],.box [.d (.sl (some 13) (l.map aO)),.d (i64 st),.d FD,.vw [1] 0 x.1.1.2.cls.length,.vw [96] 0 x.1.1.2.sets.length,.vw [95] x.1.2.1 x.1.1.2.wait.length,.mp [100]]),([1],.arr none (x.1.1.2.cls.map nD)),([96],.arr none (x.1.1.2.sets.map dT)),([95],.arr none x.1.2.2.1),([100],.map (aM (fun n:Int=>i64 n) x.1.2.2.2))])
    [0,1,2,3,100,96,95] (fun x=>SN.length-x.1.1.1) ⟨((0,s),(o,c,es)),ale _,⟨h,.init l s _⟩,⟨hq,eP⟩,ali _⟩ (ak [([96],[2]),([95],[3])]) ?_ ?_
   .simp only[go_sem]
    all_goals first|rfl|(and_intros<;>first|rfl|trivial)
   rintro⟨⟨⟨j,s1⟩,o1,c1,tP⟩,hj,⟨GB,DJ⟩,⟨sg,tu⟩,GD⟩ E0;refine bK E0 fun Q' hQ E'=>?_;simp only at hj GB DJ sg tu GD ⊢;simp only[go_sem];refine aI E' ?_ ?_<;>intro h1<;>simp only[go_sem]
   .have aX:j<SN.length:=by omega
    have bS:(SN.map nD).getD j .aY=i64 (SN[j]:Nat):=by simp[aX,nD]
    have hcs:=ahi _ (ak2 aX);have Dh:SN[j]<s1.sets.length:=by have:=DJ.le;omega
    have w1:=GB.wf;have sB:=GB.split aU ahg Dh;have GF:=DJ.step w1 hcs w;have DK:=af9 (hit:=gM l a T) w1 Dh;rw[show SN.take j++[SN[j]]=SN.take (j+1) by rw[ak9 aX]]at GF;have kn:=agC (G:=G) l st FD s1 o1 c1 tP SN[j] LD LF (fj HL) (gM l a T) hN w1 Dh hHO sg tu;refine⟨by omega,?_⟩;rw[bS];simp only[go_sem];refine uG E' (ak [([2],[96]),([3],[95])]) [.bx [0] 0,.d (i64 SN[j]),.d (fo LD LF (aM (fun n:Int=>i64 n) (fj HL)))] (dm l st FD s1 2 3 o1 c1 tP) [0,1,2,3,100] kn rfl (by simp only[go_sem]) ⟨by simp only[go_sem],by rw[aT];decide⟩ rfl (by unfold dm gU;simp only[go_sem]) (by unfold dm gU;simp only[go_sem]) ?_;rintro _ _ ⟨rfl,J7⟩;obtain⟨nU,rfl⟩|⟨c2,lx,rfl,jJ,oT⟩:=J7
    .rw[nU]at sB GF DK;unfold dm gU;simp only[go_sem];refine⟨⟨ali _,ali _,ali _⟩,?_⟩;rw[hQ];simp only[go_sem];refine⟨⟨((j+1,s1),(o1,c1,tP)),aX,⟨sB,GF⟩,⟨sg,tu⟩,GD⟩,by show SN.length-(j+1)<SN.length-j;omega,id,?_⟩;simp only[go_sem];rw[aD ⟨by omega,by omega⟩]
     and_intros<;>first|rfl|trivial
    .have TC:=w1.len;have ahj:=sB.wf.len;unfold dm gU;simp only[go_sem];refine⟨by omega,?_⟩;rw[hQ];simp only[go_sem];refine⟨⟨((j+1,eL (gM l a T) s1 SN[j]),(0,c2,lx)),aX,⟨sB,GF⟩,⟨jJ,oT⟩,alU DK GD⟩,by show SN.length-(j+1)<SN.length-j;omega,ak [([96],[70,6]),([95],[70,7])],?_⟩;simp only[go_sem];rw[aD ⟨by omega,by omega⟩]
     and_intros<;>first|rfl|trivial
   .have gT:j=SN.length:=by omega
    subst gT;rw[alk]at DJ;have x5:=GB.done yg DJ ahh;rw[hQ];simp only[go_sem];refine⟨.az [],_,[0,1,2,3,100,6,7],ak [([6],[96]),([7],[95])],⟨rfl,s1,o1,c1,tP,rfl,x5,sg,tu,GD⟩,?_⟩;simp only[go_sem]
end Go.Proofs.YtpmniabdmbmafaaGreatDoor

namespace Go.Proofs.YtpmniabdmbmafaaGreatDoor
open Go.Ab Tryz
variable {t:TypeId}{fz:Nat×Nat}
theorem TD:jS prog 9 (fun l:List UInt8=>D.str l) (fun l=>.string ⟨l.toArray⟩):=Zw (by rw[B6])
def kR(N:Nat)(cls:List Nat):List D:=(cls++List.replicate (N-cls.length) 0).map nD
theorem TE(N:Nat):kR N []=List.replicate N (i64 0):=by
 simp[kR,nD]
theorem TF{key:ch}:∀{ks:List ch} {m:Nat},eT ks key=some m->ks[m]?=some key
 |[],m,h=>by simp[eT]at h
 |x::r,m,h=>by
   simp only[eT]at h;split at h
   .rename_i e;cases h;rw[e];rfl
   .cases hr:eT r key with
    |none=>rw[hr]at h;cases h
    |some n =>
      rw[hr]at h;cases h;have:=TF hr;simpa using this
theorem TG{key:ch}:∀{ks:List ch},eT ks key=none->key∉ks
 |[],_=>by simp
 |x::r,h=>by
   simp only[eT]at h;split at h
   .cases h
   .rename_i e
    cases hr:eT r key with
    |some n=>rw[hr]at h;cases h
    |none =>
      intro hm;rcases alc.1 hm with rfl|hm
      .exact e rfl
      .exact TG hr hm
structure ahk(l:List EA) where
 i:Nat
 b:BS
 F:List (ch×List Nat)
 c:List D
 es:List (Int×D)
 ay:Nat
 bs:List Nat
 hi:i<=l.length
 hb:tN l i b
 hF:rj (oe l i) F
 hq:Queue c 0 0 (List.range b.sets.length)
 eP:ko es (List.range b.sets.length)
 iD:bs.length=F.length
structure ahl(l:List EA)(i:Nat)(L:List rh) where
 j:Nat
 F:List (ch×List Nat)
 ay:Nat
 bs:List Nat
 hj:j<=L.length
 hF:rj (oe l i++(L.take j).map fun q=>(i,q)) F
 iD:bs.length=F.length
def jA(l:List EA)(st:Int)(b:BS)(F:List (ch×List Nat))(c:List D)(es:List (Int×D))(ay:Nat)(bs:List Nat)(r:List (Name×Ob)):List (Name×Ob) :=
 ([0],.box [.d (.sl (some 13) (l.map aO)),.d (i64 st),.ma [201],.vw [1] 0 l.length,.va [2] 0 b.sets.length,.vw [3] 0 b.sets.length,.mp [200]])::([3],.arr none c)::([200],.map (aM (fun n:Int=>i64 n) es))::([1],.arr none (kR l.length b.cls))::([2],.eA (bA 202 0 (cr b.sets)))::([201],.mapA ay bs (mz F (bA 203 0 (bM F))))::r
def oh(l:List EA)(st:Int)(b:BS)(F:List (ch×List Nat))(c:List D)(es:List (Int×D))(ay:Nat)(bs:List Nat):List (Name×Ob):=jA l st b F c es ay bs [([204],.map (aM (fun n:List UInt8=>D.str n) b.fu))]
def LH(l:List EA)(i j:Nat)(L:List rh):List (Nat×AV):=[(3,.bx [0] 0),(4,.mp [204]),(24,.d (.sl (some 13) (l.map aO))),(25,.d (i64 l.length)),(26,.d (i64 i)),(5,.d (i64 i)),(85,.d (.sl (some 3) (L.map pg))),(86,.d (i64 L.length)),(87,.d (i64 j)),(12,.bx [12] 0)]
def DM(l:List EA)(st:Int)(b:BS)(F:List (ch×List Nat))(c:List D)(es:List (Int×D))(ay:Nat)(bs:List Nat)(m:Nat)(q:rh)(Lx:List Nat):List (Name×Ob) :=
 [([0],.box [.d (.sl (some 13) (l.map aO)),.d (i64 st),.ma [201],.vw [1] 0 l.length,.va [2] 0 b.sets.length,.vw [3] 0 b.sets.length,.mp [200]]),([3],.arr none c),([200],.map (aM (fun n:Int=>i64 n) es)),([1],.arr none (kR l.length b.cls)),([2],.eA (bA 202 0 (cr b.sets))),
   ([201],.mapA ay bs (mz F ((bA 203 0 ((bM F).set m none)).set m (.vw [99] 0 Lx.length)))),([204],.map (aM (fun n:List UInt8=>D.str n) b.fu)),([12],.box [.d (i64 q.1.1),.d (.str q.1.2),.d (i64 q.2)]),([99],.arr none (Lx.map nD))]
def yp(s:EA):List AV:=[.d (.bool s.plus),.d (.bool s.al),.d (.bool s.int),.d (.bool s.bool),.d (.bool s.str),.d (.bool s.arr),.d (.bool s.rc),.d (.bool s.tg),.d (.sl none (s.vars.map i64)),.d (i64 s.bD),.d (i64 s.bE),.d (.sl (some 2) (s.fl.map aP)),.d (.sl (some 2) (s.tl.map aP))]
def DN(l:List EA)(i k:Nat):List (Nat×AV):=[(3,.bx [0] 0),(4,.mp [204]),(5,.d (i64 i)),(6,.bx [6] 0),(8,.d (i64 k)),(24,.d (.sl (some 13) (l.map aO))),(25,.d (i64 l.length)),(26,.d (i64 i))]
def uU(l:List EA)(st:Int)(s:EA)(k:Nat)(cls:List Nat)(S:List (List Nat))(fu:List (List UInt8×D))(F:List (ch×List Nat))(c:List D)(es:List (Int×D))(ay:Nat)(bs:List Nat):List (Name×Ob) :=
 [([0],.box [.d (.sl (some 13) (l.map aO)),.d (i64 st),.ma [201],.vw [1] 0 l.length,.va [2] 0 S.length,.vw [3] 0 S.length,.mp [200]]),([3],.arr none c),([200],.map (aM (fun n:Int=>i64 n) es)),([1],.arr none (kR l.length cls)),
   ([2],.eA ((bA 202 0 ((cr S).set k none)).set k (.vw [99] 0 (S.getD k []).length))),([201],.mapA ay bs (mz F (bA 203 0 (bM F)))),([204],.map (aM (fun n:List UInt8=>D.str n) fu)),([6],.box (yp s)),([99],.arr none ((S.getD k []).map nD))]
def DP(l:List EA)(i n:Nat):List (Nat×AV):=[(3,.bx [0] 0),(4,.mp [204]),(5,.d (i64 i)),(6,.bx [6] 0),(8,.d (i64 n)),(24,.d (.sl (some 13) (l.map aO))),(25,.d (i64 l.length)),(26,.d (i64 i)),(58,.bx [0] 0),(59,.d (i64 n))]
def rl(l:List EA)(st:Int)(w:Name)(n o:Nat)(cls:List Nat)(S:List (List Nat))(F:List (ch×List Nat))(c:List D)(es:List (Int×D))(ay:Nat)(bs:List Nat):List (Name×Ob) :=
 [([0],.box [.d (.sl (some 13) (l.map aO)),.d (i64 st),.ma [201],.vw [1] 0 l.length,.va [55] 0 (S.length+1),.vw w o n,.mp [200]]),(w,.arr none c),([200],.map (aM (fun n:Int=>i64 n) es)),([1],.arr none (kR l.length cls)),
   ([55],.eA (bA 202 0 (cr S)++[.d .ao])),([201],.mapA ay bs (mz F (bA 203 0 (bM F))))]
def gN(s:EA)(fu:List (List UInt8×D)):List (Name×Ob):=[([204],.map (aM (fun n:List UInt8=>D.str n) fu)),([6],.box (yp s))]
theorem LI{N k:Nat}{cls:List Nat}(h:cls.length<N):(kR N cls).set cls.length (i64 (k:Int))=kR N (cls++[k]):=by
 unfold kR;rw[show i64 (k:Int)=nD k from rfl,<-amr];congr 1;obtain⟨m,hm⟩:∃m,N-cls.length=m+1:=⟨N-cls.length-1,by omega⟩
 rw[ak4,List.length_singleton,show N-(cls.length+1)=m by omega,hm,ang _ _ (ali _),List.replicate_succ];simp
theorem ahm(l:List EA)(st:Int)(hN:l.length<=1000)(hi:∀s∈l,iL s∧Fit s)(hd:∀s∈l,((dX s).map (·.1)).Nodup) :
  bZ prog (GT t fz) 52 [.d (ct l st)] [] [] (fun r ae=>r=.bx [0] 0∧∃b F c es ay bs,tN l l.length b∧rj (oe l l.length) F∧Queue c 0 0 (List.range b.sets.length)∧ko es (List.range b.sets.length)∧ae=jA l st b F c es ay bs (cm 202 (cr b.sets) (cm 203 (bM F) []))):=by
 unfold ct;refine jc func52 rfl (by decide +kernel) (by simp[ntmps52]) (aS fun E=>?_);simp only[go_sem];refine bz mixed E fun X=>?_;simp only[go_sem];refine lP X _ _ (aez ⟨by simp only[go_sem],by rw[aT];decide⟩) (by rw[aT];simp) ?_;simp only[go_sem];refine FN X (e:=3) (n:=l.length) (z:=i64 0) (by rw[fM]) (by rw[p3];rfl) (by rw[p3];rfl) rfl rfl (by rw[p3];simp;omega) ⟨by simp only[go_sem],by rw[aT];decide⟩ ?_;simp only[go_sem];refine lP X _ _ (afe ⟨by simp only[go_sem],by rw[aT];decide⟩) (by rw[aT];simp) ?_;simp only[go_sem];refine Rf X (d:=21) (cs:=[.d (.sl (some 13) (l.map aO)),.d (i64 st),.ma [14],.vw [18] 0 l.length,.d .ao,.d .ao,.mp [19]]) rfl ⟨by simp only[go_sem],by rw[aT];decide⟩ ?_;simp only[go_sem];(try refine⟨by decide +kernel,?_⟩);refine EX E (by simp only[go_sem]) (by rw[aT];decide) ?_;simp only[go_sem];refine nQ E [21] 5 97 none _ rfl rfl (by rw[aT];decide) ?_;simp only[go_sem];refine aex E [21] 4 98 none _ rfl rfl (by rw[aT];decide) ?_;simp only[go_sem]
 refine bC E (X:=ahk l) (fun x=>[(3,.bx [0] 0),(4,.mp [204]),(24,.d (.sl (some 13) (l.map aO))),(25,.d (i64 l.length)),(26,.d (i64 x.i))])
  (fun x=>jA l st x.b x.F x.c x.es x.ay x.bs (([204],.map (aM (fun n:List UInt8=>D.str n) x.b.fu))::cm 202 (cr x.b.sets) (cm 203 (bM x.F) []))) [0,1,2,3,200,201,202,203,204] (fun x=>l.length-x.i)
  ⟨0,⟨[],[],[]⟩,[],[],[],0,[],ale _,.init l,.init,⟨ali _,ali _,rfl⟩,⟨fun k=>by simp[cJ],by simp⟩,rfl⟩ (ak [([0],[21]),([1],[18]),([2],[98]),([3],[97]),([200],[19]),([201],[14]),([204],[22])]) ?_ ?_
 .show cw _ _ _ _ [([0],.box [.d (.sl (some 13) (l.map aO)),.d (i64 st),.ma [201],.vw [1] 0 l.length,.va [2] 0 0,.vw [3] 0 0,.mp [200]]),([3],.arr none []),([200],.map []),([1],.arr none (kR l.length [])),([2],.eA []),([201],.mapA 0 [] []),([204],.map [])] _;rw[TE];simp only[go_sem]
  all_goals first|rfl|(and_intros<;>first|rfl|trivial)
 rintro⟨i,b,F,c,es,ay,bs,aq,hb,hF,hq,eP,iD⟩ E0;refine bK E0 fun Q' hQ E'=>?_;simp only;unfold jA;simp only[go_sem];refine aI E' ?_ ?_<;>intro h1<;>simp only[go_sem]
 .have bF:i<l.length:=by omega
  refine⟨by omega,?_⟩;rw[tw bF];simp only[dK];simp only[go_sem];obtain⟨jF,yr⟩:=hi _ (ak2 bF);have kj:l.getD i default=l[i]:=by simp[bF]
  refine bd E' (agA l[i] jF yr) rfl rfl (by simp) ?_;rintro _ rfl;simp only[go_sem];refine Jf E' [204] b.fu (jz l[i]) (i64 0) (by rw[Jk]) TD agB rfl rfl rfl (by simp) ?_;cases hm:cJ b.fu (jz l[i])
  case' some d =>
   simp only[go_sem];obtain⟨k,rfl,hM⟩:=hb.old (by rw[kj];exact hm);simp only[go_sem];refine⟨by omega,?_⟩;have cF:=LI (N:=l.length) (k:=k) (cls:=b.cls) (by rw[hb.len];exact bF);rw[hb.len]at cF;rw[cF];have LJ:=Tt hM.lt;refine wG E' (τ:=ak [([99],[202,k])]) (s2:=mk (DN l i k) (uU l st l[i] k (b.cls++[k]) b.sets b.fu F c es ay bs++cm 202 ((cr b.sets).set k none) (cm 203 (bM F) [])) [0,1,2,3,6,99,200,201,202,203,204]) (cw.le (uT (ak [([202,k],[99])]) ⟨?_,?_⟩ (fun j zs h=>?_) (fun j zs h=>?_) rfl ?_ rfl ?_)) ?_
   .unfold DN;simp only[go_sem]
   .unfold uU yp;simp only[go_sem];have ho:=Li (h:=202) (p:=[99]) (τ:=ak [([99],[202,k])]) LJ (by simp[ak,aw]) (fun j=>by simp[ak,aw]);rw[alg]at ho;rw[ho,rk,og _ _ fun j _ _=>by simp[ak,aw]];exact⟨⟨rfl,Lh (iq rfl _ _) rfl⟩,⟨rfl,sA (iq rfl _ _)⟩,fH (fr:=[]) (u:=[]) LJ⟩
   .obtain⟨aB,h⟩:=Lj h;have e1:ak [([99],[202,k])] [202,j]=[202,j]:=by simp[ak,aw]
    rw[e1];refine⟨?_,by simp[ak,aw,aB]⟩;simp only[go_sem];exact fH (fr:=[]) (u:=[]) h
   .have e1:ak [([99],[202,k])] [203,j]=[203,j]:=by simp[ak,aw]
    rw[e1];refine⟨?_,by simp[ak,aw]⟩;simp only[go_sem];exact fH (fr:=[]) (u:=[]) h
   .unfold uU;simp only[alf,alJ];decide
   .unfold uU;simp[ak,aw]
   obtain⟨S,hS⟩:∃S,S=b.sets:=⟨_,rfl⟩
   obtain⟨fu,hA⟩:∃x,x=b.fu:=⟨_,rfl⟩
   obtain⟨c2,lx,fD,CC,jJ,oT⟩:∃x y,c=x∧es=y∧Queue x 0 0 (List.range b.sets.length)∧ko y (List.range b.sets.length):=⟨_,_,rfl,rfl,hq,eP⟩
   rw[fD,CC];rw[<-hS]at hM jJ oT ⊢;rw[<-hA]at hM ⊢
  case' none =>
   simp only[go_sem];refine wz E' _ _ (aeh [2] 0 b.sets.length (bA 202 0 (cr b.sets)) (by rw[mJ]) (by simp only[go_sem]) rfl rfl) (by simp[bT]) ?_;simp only[go_sem];refine vW E' [204] b.fu (jz l[i]) (i64 (b.sets.length:Nat)) (by rw[Jk]) TD rfl rfl rfl rfl rfl ?_;simp only[go_sem]
   refine wz E' _ _ (aek [2] b.sets.length (bA 202 0 (cr b.sets)) .ao [[54]] (by rw[mJ]) (by rw[fM];rfl) (by rw[fM];rfl) ⟨by simp only[go_sem],by rw[aT];decide⟩ rfl rfl (by rw[oV];simp[cr]) (fun s' h1 h2=>by
    rw[h2];show jl none s'.hp (.vw [54] 0 1)=_;simp only[jl];rw[h1 [54] (by simp)]
    simp only[go_sem]) (by have:=hb.le;rw[fM];simp[TI.iT];omega)) (by rw[aT];simp) ?_
   simp only[go_sem]
   refine Tr E' (τ:=id) (s2:=mk (DP l i b.sets.length) (rl l st [3] b.sets.length 0 b.cls b.sets F c es ay bs++(gN l[i] (ek b.fu (jz l[i]) (i64 (b.sets.length:Nat)))++fY (cr b.sets) (bM F))) [0,1,3,6,55,200,201,202,203,204]) (cw.le (by
    rw[<-alK];refine uT id ⟨?_,?_⟩ (fun j zs h=>?_) (fun j zs h=>?_) rfl ?_ rfl rfl
    .unfold DP;simp only[go_sem]
    .unfold rl gN yp;simp only[go_sem];rw[oK id (fun _=>rfl),rk,oK id fun _=>rfl];exact⟨⟨rfl,Gw (iq rfl _ _) rfl⟩,rfl,sA (iq rfl _ _)⟩
    .refine⟨?_,rfl⟩;simp only[go_sem];exact fH (fr:=[]) (u:=[]) h
    .refine⟨?_,rfl⟩;simp only[go_sem];exact fH (fr:=[]) (u:=[]) h
    .unfold rl gN;simp only[List.cons_append,List.nil_append,alf,alJ]
     decide)) ?_
   have kn:=agN (G:=GT t fz) (.sl (some 13) (l.map aO)) (i64 st) (kR l.length b.cls) l.length (b.sets.length+1) (.eA (bA 202 0 (cr b.sets)++[.d .ao])) (.mapA ay bs (mz F (bA 203 0 (bM F)))) (cr b.sets) (bM F) (List.range b.sets.length) 0 c es b.sets.length hq eP (by simp) (by have:=hb.le;simp;omega)
    (by
     show Ob.eA (cg _ _)=_;rw[Gx,og _ _ fun j _ _=>by simp[ak,aw]]
     rfl) (Gw (iq rfl _ _) rfl)
    (by
     show Ob.mapA ay bs _=_
     rw[rk,og _ _ fun j _ _=>by simp[ak,aw]]) (sA (iq rfl _ _))
   rw[anV,<-anI]at kn;refine ag4 E' [.bx [0] 0,.d (i64 (b.sets.length:Nat))] (rl l st [3] b.sets.length 0 b.cls b.sets F c es ay bs) (gN l[i] (ek b.fu (jz l[i]) (i64 (b.sets.length:Nat)))) (cr b.sets) (bM F) [0,1,3,55,200,201,202,203] kn (DP l i b.sets.length) _ rfl rfl rfl ⟨by simp only[go_sem],by rw[aT];decide⟩ rfl ?_ rfl ?_ rfl rfl ?_
   .unfold rl gN DP;simp only[go_sem];rw[oK id (fun _=>rfl),rk,oK id fun _=>rfl];exact⟨⟨rfl,Gw (iq rfl _ _) rfl⟩,rfl,sA (iq rfl _ _)⟩
   .unfold rl;simp only[alf,alJ];decide
   rintro _ _ ⟨rfl,c2,lx,rfl,bX,ahn⟩;obtain⟨C1,Dj⟩:∃C1,C1=rl l st [3] b.sets.length 0 b.cls b.sets F c es ay bs:=⟨_,rfl⟩
   rw[<-Dj];have aU:∀p∈C1.map (·.1),dc id 60 (C1++fY (cr b.sets) (bM F)) p=p:=fun p hp=>Lk (by rw[alh];exact alm _ hp);have eO:C1.map (·.1)=[[0],[3],[200],[1],[55],[201]]:=by rw[Dj];rfl
   rw[eO]at aU
   have r5:dc id 60 (C1++fY (cr b.sets) (bM F)) [5]=[60,5]:=ag0 (by
    rw[alh,eO,ak1,not_or]
    exact⟨by decide,Tq rfl⟩)
   have rf:∀q∈fY (cr b.sets) (bM F),dc id 60 (C1++fY (cr b.sets) (bM F)) q.1=q.1:=fun q hq=>Lk (by rw[alh];exact alB _ (ak6.2 ⟨q,hq,rfl⟩));refine⟨rl l st [5] (b.sets.length+1) 0 b.cls b.sets F c2 lx ay bs,rl l st [60,5] (b.sets.length+1) 0 b.cls b.sets F c2 lx ay bs,rfl,?_,?_,?_⟩
   .rw[Dj];unfold rl fY;simp only[go_sem];exact⟨ali _,ali _⟩
   .unfold rl;simp only[alf,alJ,Ob.ren,cg,AV.ren,aU [0] (by decide),aU [200] (by decide),aU [1] (by decide),aU [55] (by decide),aU [201] (by decide),r5,rk,Gx];rw[og,og]
    .intro j zs hj;rw[alC];exact rf ([203,j],.arr none zs) (Tp hj)
    .intro j zs hj;rw[alC];exact rf ([202,j],.arr none zs) (Tn hj)
   unfold DP rl gN fY yp;simp only[go_sem];refine⟨by omega,?_⟩;have hM:=hb.new (by rw[kj];exact hm);rw[kj]at hM;have cF:=LI (N:=l.length) (k:=b.sets.length) (cls:=b.cls) (by rw[hb.len];exact bF);rw[hb.len]at cF;rw[cF];have Ac:(bA 202 0 (cr b.sets)).length=b.sets.length:=by rw[oV];simp[cr]
   have tL:=Gy (bA 202 0 (cr b.sets)) (.d .ao) (.vw [99] 0 0);have TH:=Gy (bA 202 0 (cr b.sets)) AV.un (.vw [99] 0 0);rw[Ac]at tL TH
   have TJ:(cr (b.sets++[[]])).set b.sets.length none=cr b.sets++[none]:=by
    have:=Gy (cr b.sets) (some []) none;rw[show(cr b.sets).length=b.sets.length from by simp[cr]]at this;rw[<-this];simp[cr]
   have hgS:(b.sets++[[]]).getD b.sets.length []=[]:=by simp
   have LM:(b.sets++[[]]).length=b.sets.length+1:=by simp
   refine Rt E' [55] b.sets.length 99 none _ rfl (by rw[aln (by omega),Ac];simp) (by rw[aT];decide) ?_;rw[tL];simp only[go_sem];refine wG E' (τ:=ak [([2],[55]),([3],[60,5])]) (s2:=mk (DN l i b.sets.length) (uU l st l[i] b.sets.length (b.cls++[b.sets.length]) (b.sets++[[]]) (ek b.fu (jz l[i]) (i64 (b.sets.length:Nat))) F c2 lx ay bs++cm 202 ((cr (b.sets++[[]])).set b.sets.length none) (cm 203 (bM F) [])) [0,1,2,3,6,99,200,201,202,203,204]) (cw.le (uT (ak [([55],[2]),([60,5],[3])]) ⟨?_,?_⟩ (fun j zs h=>?_) (fun j zs h=>?_) rfl ?_ rfl ?_)) ?_
   .unfold DN;simp only[go_sem]
   .unfold uU yp;rw[TJ,hgS,Tk];show oH _ _ _ (([0],_)::([3],_)::([200],_)::([1],_)::([2],.eA ((bA 202 0 (cr b.sets)++[AV.un]).set b.sets.length (.vw [99] 0 0)))::_);rw[TH,LM];simp only[go_sem];rw[Gx,rk,og _ _ fun j _ _=>by simp[ak,aw],og _ _ fun j _ _=>by simp[ak,aw]];exact⟨⟨rfl,Gw (iq rfl _ _) rfl⟩,rfl,sA (iq rfl _ _)⟩
   .have e1:ak [([2],[55]),([3],[60,5])] [202,j]=[202,j]:=by simp[ak,aw]
    rw[e1];rw[TJ]at h;refine⟨?_,by simp[ak,aw]⟩;simp only[go_sem];rw[<-agZ];exact fH (fr:=[]) (u:=[]) h
   .have e1:ak [([2],[55]),([3],[60,5])] [203,j]=[203,j]:=by simp[ak,aw]
    rw[e1];refine⟨?_,by simp[ak,aw]⟩;simp only[go_sem];exact fH (fr:=[]) (u:=[]) h
   .unfold uU;simp only[alf,alJ];decide
   .unfold uU;simp[ak,aw]
   have jJ:Queue c2 0 0 (List.range (b.sets++[[]]).length):=by rw[LM];exact bX
   have oT:ko lx (List.range (b.sets++[[]]).length):=by rw[LM];exact ahn
   obtain⟨S,hS⟩:∃S,S=b.sets++[[]]:=⟨_,rfl⟩
   rw[<-hS]at hM jJ oT ⊢;obtain⟨k,hk⟩:∃k,k=b.sets.length:=⟨_,rfl⟩
   rw[<-hk]at hM ⊢;obtain⟨fu,hA⟩:∃x,x=ek b.fu (jz l[i]) (i64 (k:Nat)):=⟨_,rfl⟩
   rw[<-hA]at hM ⊢
  all_goals
   have LJ:=Tt hM.lt;have LA:=hM.le;have DH:=hM.tl;refine bz mixed E' fun X=>?_;unfold DN uU yp;simp only[go_sem];refine fO X (d:=69) [0] 0 none _ (by simp only[go_sem]) rfl rfl ?_;simp only[go_sem];refine fO X (d:=74) [0] 0 none _ (by simp only[go_sem]) rfl rfl ?_;simp only[go_sem];have eJ:((bA 202 0 ((cr S).set k none)).set k (.vw [99] 0 (S.getD k []).length))[k]?=some (.vw [99] 0 (S.getD k []).length):=alA (by rw[oV,alX];have:=hM.lt;simpa[cr]using this);refine lP X _ _ (zO [2] 0 S.length .i64 k _ (by rw[mJ]) (by rw[fM]) (by simp only[go_sem]) rfl rfl rfl hM.lt) (by simp[bT]) ?_;simp only[go_sem];refine lP X _ _ (FT [2] k _ _ (by rw[fM];rfl) (by rw[fM];rfl) (by simp only[go_sem]) rfl rfl eJ) (by simp[bT]) ?_;simp only[go_sem];refine⟨by omega,?_⟩;refine lP X _ _ (zO [2] 0 S.length .i64 k _ (by rw[mJ]) (by rw[fM]) (by simp only[go_sem]) rfl rfl rfl hM.lt) (by simp[bT]) ?_;simp only[go_sem];refine lP X _ _ (Rk [2] k _ (.vw [82] 0 ((S.getD k []).length+1)) (by rw[fM];rfl) (by rw[fM]) rfl rfl rfl rfl) (by simp) ?_;simp only[go_sem];rw[anv];(try refine⟨by decide +kernel,?_⟩);refine bd E' (Sx l[i] jF) rfl rfl (by simp) ?_;rintro _ rfl;simp only[go_sem];have TL:=hd _ (ak2 bF);obtain⟨L,hL⟩:∃L,dX l[i]=L:=⟨_,rfl⟩
   have K4:L.length<=802:=by
    rw[<-hL];have h1:=yr.f;have h2:=yr.t;simp only[dX,ak4,yd];have:(fP l[i]).length<=2:=by unfold fP;split<;>simp
    omega
   rw[hL]at TL ⊢;obtain⟨b2,eQ⟩:∃b2:BS,b2=⟨b.cls++[k],S.set k (S.getD k []++[i]),fu⟩:=⟨_,rfl⟩
   have dy:=hM.nx;rw[<-eQ]at dy;have LN:b2.sets.length=S.length:=by rw[eQ];simp
   refine bC E' (X:=ahl l i L) (fun x=>[(3,.bx [0] 0),(4,.mp [204]),(24,.d (.sl (some 13) (l.map aO))),(25,.d (i64 l.length)),(26,.d (i64 i)),(5,.d (i64 i)),(85,.d (.sl (some 3) (L.map pg))),(86,.d (i64 L.length)),(87,.d (i64 x.j))])
    (fun x=>jA l st b2 x.F c2 lx x.ay x.bs (([204],.map (aM (fun n:List UInt8=>D.str n) b2.fu))::cm 202 (cr b2.sets) (cm 203 (bM x.F) []))) [0,1,2,3,200,201,202,203,204] (fun x=>L.length-x.j)
    ⟨0,F,ay,bs,ale _,by simpa using hF,iD⟩ (ak [([202,k],[82])]) ?_ ?_
   .have jK:cr b2.sets=(cr S).set k (some ((S.getD k []++[i]).map nD)):=by rw[eQ,aha]
    have TM:(cr b2.sets)[k]?=some (some ((S.getD k []++[i]).map nD)):=by rw[jK,alA (by have:=hM.lt;simpa[cr]using this)]
    have mD:=Tl (h:=202) (τ:=ak [([202,k],[82])]) (p:=[82]) TM (by simp[ak,aw]) (fun j hj=>by simp[ak,aw,hj]);rw[jK,anv,alg,ak4,List.length_singleton]at mD;show cw [] _ _ _ (oh l st b2 F c2 lx ay bs++cm 202 (cr b2.sets) (cm 203 (bM F) [])) _;refine uT (ak [([82],[202,k])]) ⟨?_,?_⟩ (fun j zs h=>?_) (fun j zs h=>?_) rfl ?_ rfl ?_
    .simp only[go_sem]
    .unfold oh jA;rw[LN,jK,eQ];simp only[go_sem];rw[mD,rk,og _ _ fun j _ _=>by simp[ak,aw]];exact⟨⟨rfl,iq rfl _ _⟩,rfl,sA (iq rfl _ _)⟩
    .by_cases e:j=k
     .rw[e]at h ⊢;rw[TM]at h;cases h;rw[show ak [([202,k],[82])] [202,k]=[82]from by simp[ak,aw]];refine⟨?_,by simp[ak,aw]⟩;simp only[go_sem];simp[nD]
     .have e1:ak [([202,k],[82])] [202,j]=[202,j]:=by simp[ak,aw,e]
      rw[e1];refine⟨?_,by simp[ak,aw]⟩;rw[jK,alu (fun g=>e g.symm)]at h;simp only[go_sem];exact fH (fr:=[]) (u:=[]) (by rw[alu (fun g=>e g.symm)];exact h)
    .have e1:ak [([202,k],[82])] [203,j]=[203,j]:=by simp[ak,aw]
     rw[e1];refine⟨?_,by simp[ak,aw]⟩;simp only[go_sem];exact fH (fr:=[]) (u:=[]) h
    .unfold oh jA;simp only[alf,alJ];decide
    .unfold oh jA;simp[ak,aw]
   rintro⟨j,F2,kQ,mW,hj,tQ,GG⟩ E0;refine bK E0 fun Q2 cz E2=>?_;simp only;unfold jA;simp only[go_sem];refine aI E2 ?_ ?_<;>intro h2<;>simp only[go_sem]
   .have aX:j<L.length:=by omega
    refine⟨by omega,?_⟩;rw[Sv aX,show pg L[j]=.agg [i64 L[j].1.1,.str L[j].1.2,i64 L[j].2]from rfl];simp only[go_sem]
    have aho:(i,L[j])∉oe l i++(L.take j).map fun q=>(i,q):=by
     have:=agQ (l:=l) (i:=i) (j:=j) (by rw[kj,hL];exact TL) (by rw[kj,hL];exact aX);simpa only[kj,hL]using this
    have o6:(oe l i++(L.take j).map fun q=>(i,q))++[(i,L[j])]=oe l i++(L.take (j+1)).map fun q=>(i,q):=by
     rw[ak9 aX,alh,alK];rfl
    have GH:(bA 203 0 (bM F2)).length=F2.length:=by rw[oV];simp[bM]
    cases GI:eT (F2.map (·.1)) L[j]with
    |none =>
      refine bz mixed E2 fun X=>?_;simp only[go_sem];refine fO X (d:=97) [0] 0 none _ (by simp only[go_sem]) rfl rfl ?_;simp only[go_sem];refine lP X _ _ (aen [201] kQ mW (mz F2 (bA 203 0 (bM F2))) (F2.map (·.1)) L[j] .ao (by rw[Ca]) Lr SZ (by simp only[go_sem]) rfl rfl rfl (Ts GH) GI) (by simp) ?_;simp only[go_sem]
      have pn:(mz F2 (bA 203 0 (bM F2))++[(dt L[j],AV.d .ao)])[F2.length]?=some (dt L[j],AV.d .ao):=by
       have:(mz F2 (bA 203 0 (bM F2))).length=F2.length:=by simp[mz,GH]
       rw[aln (by omega),this];simp
      refine lP X _ _ (Rp [201] (kQ+1) (mW++[kQ]) (mz F2 (bA 203 0 (bM F2))++[(dt L[j],.d .ao)]) F2.length kQ (dt L[j]) (.d .ao) (.vw [105] 0 1) rfl rfl rfl rfl pn (by rw[aln (by omega),GG];simp)) (by simp) ?_;simp only[go_sem];(try refine⟨by decide +kernel,?_⟩);rw[cz,oL];have tL:=Gy (mz F2 (bA 203 0 (bM F2))) (dt L[j],AV.d .ao) (dt L[j],AV.vw [105] 0 1);rw[show(mz F2 (bA 203 0 (bM F2))).length=F2.length by simp[mz,GH],ag8 (M:=[i]) (v:=AV.vw [105] 0 1) GH]at tL;rw[tL];have TP:bM (F2++[(L[j],[i])])=bM F2++[some [nD i]]:=by simp[bM]
      have fW:(bM F2).length=F2.length:=by simp[bM]
      have hv3:cg (ak [([203,F2.length],[105])]) (bA 203 0 (bM (F2++[(L[j],[i])])))=bA 203 0 (bM F2)++[.vw [105] 0 1]:=by
       rw[TP,Tk,Gx,og]
       .simp[cg,AV.ren,ak,aw,fW]
       .intro n zs hn;have:n<F2.length:=by rw[<-fW];exact(akY.1 hn).1
        have aB:n≠F2.length:=by omega
        simp[ak,aw,aB]
      refine⟨⟨j+1,F2++[(L[j],[i])],kQ+1,mW++[kQ],aX,by rw[<-o6];exact tQ.new (TG GI),by simp[GG]⟩,by show L.length-(j+1)<L.length-j;omega,ak [([203,F2.length],[105])],?_⟩;show cw [] _ _ _ (oh l st b2 (F2++[(L[j],[i])]) c2 lx (kQ+1) (mW++[kQ])++cm 202 (cr b2.sets) (cm 203 (bM (F2++[(L[j],[i])])) [])) _;refine uT (ak [([105],[203,F2.length])]) ⟨?_,?_⟩ (fun n zs h=>?_) (fun n zs h=>?_) rfl ?_ rfl ?_
      .rw[aD ⟨by omega,by omega⟩];simp only[go_sem];rfl
      .unfold oh jA;simp only[go_sem];rw[og (h:=202) _ _ fun j _ _=>by simp[ak,aw],rk,hv3];exact⟨⟨rfl,iq rfl _ _⟩,rfl,sA (iq rfl _ _)⟩
      .have e1:ak [([203,F2.length],[105])] [202,n]=[202,n]:=by simp[ak,aw]
       rw[e1];refine⟨?_,by simp[ak,aw]⟩;simp only[go_sem];exact fH (fr:=[]) (u:=[]) h
      .rw[TP]at h;by_cases e:n=F2.length
       .rw[e]at h ⊢;rw[aln (by omega),fW]at h;simp only[am5,List.getElem?_cons_zero,alE]at h;rw[show ak [([203,F2.length],[105])] [203,F2.length]=[105]from by simp[ak,aw]];refine⟨?_,by simp[ak,aw]⟩;rw[<-h];simp only[go_sem];rfl
       .have e1:ak [([203,F2.length],[105])] [203,n]=[203,n]:=by simp[ak,aw,e]
        rw[e1];refine⟨?_,by simp[ak,aw]⟩;have hlt:=(akY.1 h).1;rw[ak4,fW,List.length_singleton]at hlt;rw[alj (by omega)]at h;simp only[go_sem];exact fH (fr:=[]) (u:=[]) h
      .unfold oh jA;simp only[alf,alJ];decide
      .unfold oh jA;simp[ak,aw]
    |some m =>
      obtain⟨Lx,tO⟩:∃Lx,F2[m]?=some (L[j],Lx):=by
       have hg:=TF GI;rw[ala,ak8]at hg;obtain⟨⟨q1,q2⟩,h1,h2⟩:=hg;exact⟨q2,by rw[h1];cases h2;rfl⟩
      have nC:m<F2.length:=(akY.1 tO).1;have TQ:=ag9 tO;have TR:((bA 203 0 ((bM F2).set m none)).set m (.vw [99] 0 Lx.length))[m]?=some (.vw [99] 0 Lx.length):=alA (by rw[oV,alX];simpa[bM]using nC);have ahp:((bA 203 0 ((bM F2).set m none)).set m (AV.vw [99] 0 Lx.length)).length=F2.length:=by rw[alX,oV,alX];simp[bM]
      have Gr:Lx.length<=i+1:=by
       obtain⟨_,v2,v3⟩:=tQ.val _ _ (alp tO);refine mO v2 fun x hx=>?_;rcases ak1.1 ((v3 x).1 hx)with g|g
       .have:=(Ah.1 g).1;omega
       .obtain⟨q,_,e⟩:=ak6.1 g;cases e;omega
      refine wG E2 (τ:=ak [([99],[203,m])]) (s2:=mk (LH l i j L) (DM l st b2 F2 c2 lx kQ mW m L[j] Lx++cm 202 (cr b2.sets) (cm 203 ((bM F2).set m none) [])) [0,1,2,3,12,99,200,201,202,203,204]) (cw.le (uT (ak [([203,m],[99])]) ⟨?_,?_⟩ (fun n zs h=>?_) (fun n zs h=>?_) rfl ?_ rfl ?_)) ?_
      .unfold LH;simp only[go_sem]
      .unfold DM;simp only[go_sem];have ho:=Li (h:=203) (p:=[99]) (τ:=ak [([99],[203,m])]) TQ (by simp[ak,aw]) (fun j=>by simp[ak,aw]);rw[alg]at ho;rw[og (h:=202) _ _ fun j _ _=>by simp[ak,aw],rk,ho];exact⟨⟨rfl,iq rfl _ _⟩,⟨rfl,sA (Lh (iq rfl _ _) rfl)⟩,fH (fr:=[]) (u:=[]) TQ⟩
      .have e1:ak [([99],[203,m])] [202,n]=[202,n]:=by simp[ak,aw]
       rw[e1];refine⟨?_,by simp[ak,aw]⟩;simp only[go_sem];exact fH (fr:=[]) (u:=[]) h
      .obtain⟨aB,h⟩:=Lj h;have e1:ak [([99],[203,m])] [203,n]=[203,n]:=by simp[ak,aw]
       rw[e1];refine⟨?_,by simp[ak,aw,aB]⟩;simp only[go_sem];exact fH (fr:=[]) (u:=[]) h
      .unfold DM;simp only[alf,alJ];decide
      .unfold DM;simp[ak,aw]
      refine bz mixed E2 fun X=>?_;unfold LH DM;simp only[go_sem];refine fO X (d:=97) [0] 0 none _ (by simp only[go_sem]) rfl rfl ?_;simp only[go_sem];refine lP X _ _ (aem [201] kQ mW (mz F2 ((bA 203 0 ((bM F2).set m none)).set m (.vw [99] 0 Lx.length))) (F2.map (·.1)) L[j] m (.vw [99] 0 Lx.length) (by rw[Ca]) Lr (by simp only[go_sem]) rfl rfl rfl (Ts ahp) GI (Lp tO TR)) (by simp) ?_;simp only[go_sem];refine⟨by omega,?_⟩;refine lP X _ _ (Rp [201] kQ mW (mz F2 ((bA 203 0 ((bM F2).set m none)).set m (.vw [99] 0 Lx.length))) m (mW.getD m 0) (dt L[j]) (.vw [99] 0 Lx.length) (.vw [105] 0 (Lx.length+1)) rfl rfl rfl rfl (Lp tO TR) (by rw[akX,ak0 (by omega)];rfl)) (by simp) ?_;simp only[go_sem];rw[ag6 tO,anv];(try refine⟨by decide +kernel,?_⟩);rw[cz,oL];refine⟨⟨j+1,F2.set m (L[j],Lx++[i]),kQ,mW,aX,by rw[<-o6];exact tQ.old tO aho,by rw[alX];exact GG⟩,by show L.length-(j+1)<L.length-j;omega,ak [([203,m],[105])],?_⟩;show cw [] _ _ _ (oh l st b2 (F2.set m (L[j],Lx++[i])) c2 lx kQ mW++cm 202 (cr b2.sets) (cm 203 (bM (F2.set m (L[j],Lx++[i]))) [])) _;have TT:(bM (F2.set m (L[j],Lx++[i])))[m]?=some (some ((Lx++[i]).map nD)):=by rw[Lq,alA (by simpa[bM]using nC)]
      have TU:=Tl (h:=203) (τ:=ak [([203,m],[105])]) (p:=[105]) TT (by simp[ak,aw]) (fun j hj=>by simp[ak,aw,hj]);rw[ahb,alg,ak4,List.length_singleton]at TU;refine uT (ak [([105],[203,m])]) ⟨?_,?_⟩ (fun n zs h=>?_) (fun n zs h=>?_) rfl ?_ rfl ?_
      .rw[aD ⟨by omega,by omega⟩];simp only[go_sem];rfl
      .unfold oh jA;simp only[go_sem];rw[og (h:=202) _ _ fun j _ _=>by simp[ak,aw],ag7 tO,rk,TU];exact⟨⟨rfl,iq rfl _ _⟩,rfl,sA (iq rfl _ _)⟩
      .have e1:ak [([203,m],[105])] [202,n]=[202,n]:=by simp[ak,aw]
       rw[e1];refine⟨?_,by simp[ak,aw]⟩;simp only[go_sem];exact fH (fr:=[]) (u:=[]) h
      .by_cases e:n=m
       .rw[e]at h ⊢;rw[TT]at h;cases h;rw[show ak [([203,m],[105])] [203,m]=[105]from by simp[ak,aw]];refine⟨?_,by simp[ak,aw]⟩;simp only[go_sem];simp[nD]
       .have e1:ak [([203,m],[105])] [203,n]=[203,n]:=by simp[ak,aw,e]
        rw[e1];refine⟨?_,by simp[ak,aw]⟩;rw[Lq,alu (fun g=>e g.symm)]at h;simp only[go_sem];exact fH (fr:=[]) (u:=[]) (by rw[alu (fun g=>e g.symm)];exact h)
      .unfold oh jA;simp only[alf,alJ];decide
      .unfold oh jA;simp[ak,aw]
   .have e6:j=L.length:=by omega
    subst e6;rw[cz];simp only[go_sem];rw[hQ,oL];refine⟨⟨i+1,b2,F2,c2,lx,kQ,mW,by omega,dy,by rw[Te,kj,hL];rw[alk]at tQ;exact tQ,by rw[LN];exact jJ,by rw[LN];exact oT,GG⟩,by show l.length-(i+1)<l.length-i;omega,id,?_⟩;show cw [] _ _ _ (oh l st b2 F2 c2 lx kQ mW++cm 202 (cr b2.sets) (cm 203 (bM F2) [])) _;refine uT id ⟨?_,?_⟩ (fun n zs h=>?_) (fun n zs h=>?_) rfl ?_ rfl ?_
    .rw[aD ⟨by omega,by omega⟩];simp only[go_sem];rfl
    .unfold oh jA;simp only[go_sem];rw[oK id (fun _=>rfl),rk,oK id fun _=>rfl];exact⟨⟨rfl,iq rfl _ _⟩,rfl,sA (iq rfl _ _)⟩
    .refine⟨?_,rfl⟩;simp only[go_sem];exact fH (fr:=[]) (u:=[]) h
    .refine⟨?_,rfl⟩;simp only[go_sem];exact fH (fr:=[]) (u:=[]) h
    .unfold oh jA;simp only[alf,alJ];decide
    .rfl
 .have bF:i=l.length:=by omega
  subst bF;rw[hQ];simp only[go_sem];refine⟨.bx [0] 0,_,[0,1,2,3,200,201,202,203,204],id,⟨rfl,b,F,c,es,ay,bs,hb,hF,hq,eP,rfl⟩,?_⟩;refine(fun hle:cw [] id _ [(0,.bx [0] 0)] (jA l st b F c es ay bs []++cm 202 (cr b.sets) (cm 203 (bM F) [])) _=>⟨hle.1.1,hle.2.1,hle.2.2.1,hle.2.2.2.2⟩) (uT id ⟨?_,?_⟩ (fun n zs h=>?_) (fun n zs h=>?_) rfl ?_ rfl ?_)
  .simp only[go_sem]
  .unfold jA;simp only[go_sem];rw[oK id (fun _=>rfl),rk,oK id fun _=>rfl];exact⟨⟨rfl,iq rfl _ _⟩,rfl,sA (iq rfl _ _)⟩
  .refine⟨?_,rfl⟩;simp only[go_sem];exact fH (fr:=[]) (u:=[]) h
  .refine⟨?_,rfl⟩;simp only[go_sem];exact fH (fr:=[]) (u:=[]) h
  .unfold jA;simp only[alf,alJ];decide
  .rfl
end Go.Proofs.YtpmniabdmbmafaaGreatDoor

namespace Go.Proofs.YtpmniabdmbmafaaGreatDoor
open Go.Ab
end Go.Proofs.YtpmniabdmbmafaaGreatDoor

namespace Go.Proofs.YtpmniabdmbmafaaGreatDoor
open Go.Ab
end Go.Proofs.YtpmniabdmbmafaaGreatDoor

namespace Go.Proofs
open Go.Shelf
end Go.Proofs

namespace Go.Proofs.YtpmniabdmbmafaaGreatDoor
open Go.Ab Go.Lib Go.Shelf Go.RowKit Go.Proofs
end Go.Proofs.YtpmniabdmbmafaaGreatDoor

namespace Go.Ab
end Go.Ab

namespace Go.Proofs.YtpmniabdmbmafaaGreatDoor
open Go.Ab Tryz
variable {t:TypeId}{fz:Nat×Nat}
def qt(xs ys:List (Option (List D))):Name->Option (W×List D)
 |[a,i]=>if a=202 then(xs.getD i none).map fun z=>(none,z)else if a=203 then(ys.getD i none).map fun z=>(none,z)else none
 |_=>none
theorem getD_some{xs:List (Option (List D))}{i:Nat}{z:List D}(h:xs.getD i none=some z):xs[i]?=some (some z):=by
 rw[akX]at h
 cases hx:xs[i]? with
 |none=>rw[hx]at h;cases h
 |some o=>rw[hx]at h;rw[<-h];rfl
theorem TV{xs ys:List (Option (List D))}{q:Name}{x:W×List D}(h:qt xs ys q=some x):(q,Ob.arr x.1 x.2)∈fY xs ys:=by
 unfold qt at h;split at h
 .split at h
  .rename_i e;subst e;obtain⟨z,hz,rfl⟩:=ak8.1 h;exact Tn (getD_some hz)
  .split at h
   .rename_i e;subst e;obtain⟨z,hz,rfl⟩:=ak8.1 h;exact Tp (getD_some hz)
   .cases h
 .cases h
theorem ahq(S:List (List Nat))(ys:List (Option (List D))):(bA 202 0 (cr S)).map (AV.eW (qt (cr S) ys))=(S.map dT).map .d:=by
 apply amg;intro i;rw[ala,r9,ala,ala];unfold cr;rw[ala]
 cases hS:S[i]? with
 |none=>rfl
 |some T =>
   have hg:qt (S.map fun T=>some (T.map nD)) ys [202,0+i]=some (none,T.map nD):=by
    simp[qt,hS]
   rw[alC]at hg;simp[AV.eW,hg,dT,ak5]
theorem LO(F:List (ch×List Nat))(xs:List (Option (List D))):(mz F (bA 203 0 (bM F))).map (fun x=>(x.1,x.2.eW (qt xs (bM F))))=(aM dt (sr F)).map fun x=>(x.1,.d x.2):=by
 apply amg;intro i;have hv:(bA 203 0 (bM F)).length=F.length:=by rw[oV];simp[bM]
 cases hF:F[i]? with
 |none =>
   have h1:=amy.1 hF;rw[alN (by simp[mz,hv];exact h1),alN (by simp[aM,sr];exact h1)]
 |some q =>
   have hg:qt xs (bM F) [203,0+i]=some (none,q.2.map nD):=by
    simp[qt,bM,hF]
   have hvi:(bA 203 0 (bM F))[i]?=some (.vw [203,0+i] 0 q.2.length):=by
    rw[r9];simp[bM,hF]
   rw[ala,Lp (F:=F) (key:=q.1) (L:=q.2) hF hvi];rw[alC]at hg;simp[aM,sr,hF,AV.eW,hg,dT,ak5]
theorem ahr{s:St}{g:Name->Option (W×List D)}{q:Name}{o:Ob}(hg:g q=none)(h:s.hp q=some o):(s.eW g).hp q=some (o.eW g):=by
 show(match g q with|some _=>none|none=>(s.hp q).map (Ob.eW g))=_;rw[hg,h];rfl
theorem ahs(l:List EA)(st:Int)(h0:0<l.length)(hN:l.length<=1000)(hi:∀s∈l,iL s∧Fit s)(hd:∀s∈l,((dX s).map (·.1)).Nodup)(aU:gq l)(pP:∀s∈l,sn s) :
  bZ prog (GT t fz) 52 [.d (ct l st)] [] [] (fun r ae=>r=.bx [0] 0∧∃(s:PS) (FM:List (ch×D)) (ay:Nat) (bs:List Nat) (c:List D) (es:List (Int×D)),ae=dm l st (fo ay bs (aM dt FM)) s 2 3 0 c es ∧
   Af l FM∧wi ay bs (aM dt FM)∧FM.length<=1000000∧(∀q∈FM,0<=q.1.1.1∧q.1.1.1<1000)∧jf l s [] []∧Queue c 0 0 s.wait∧ko es s.wait):=by
 refine(ahm l st hN hi hd).aff ?_;rintro _ _ ⟨rfl,b,F,c,es,ay,bs,hb,hF,hq,eP,rfl⟩ B β u' tm w hU hs
 have cF:kR l.length b.cls=b.cls.map nD:=by
  unfold kR;rw[hb.len,am5];simp
 have DI:0<b.sets.length:=by have:=(hb.at' 0 h0).1;omega
 have ag:∀q,mU q=true->qt (cr b.sets) (bM F) q=none:=by
  intro q hq
  cases hg:qt (cr b.sets) (bM F) q with
  |none=>rfl
  |some x =>
    have:=Ll (TV hg);rw[hq]at this;cases this
 have mr:=hs.eW (qt (cr b.sets) (bM F)) fun q x hg=>by
  have:=Lm (C:=jA l st b F c es ay bs []) rfl (TV hg);exact this
 have key:∀q o,mU q=true->(mk [(0,.bx [0] 0)] (jA l st b F c es ay bs (cm 202 (cr b.sets) (cm 203 (bM F) []))) u').hp q=some o ->
  ((mk [(0,.bx [0] 0)] (jA l st b F c es ay bs (cm 202 (cr b.sets) (cm 203 (bM F) []))) u').eW (qt (cr b.sets) (bM F))).hp q=some (o.eW (qt (cr b.sets) (bM F))):=fun q o h1 h2=>ahr (ag q h1) h2
 obtain⟨β1,br,_⟩:=mr.le (τ:=id) (s2:=mk [(0,.bx [0] 0)] [([0],.box [.d (.sl (some 13) (l.map aO)),.d (i64 st),.ma [201],.vw [1] 0 l.length,.va [2] 0 b.sets.length,.vw [3] 0 b.sets.length,.mp [200]]),([3],.arr none c),([200],.map (aM (fun n:Int=>i64 n) es)),([1],.arr none (b.cls.map nD)),
   ([2],.eA ((b.sets.map dT).map .d)),([201],.mapA ay bs ((aM dt (sr F)).map fun x=>(x.1,.d x.2)))] [0,1,2,3,200,201]) (by
  rw[hU];refine cw.le ⟨⟨⟨rfl,rfl⟩,trivial⟩,?_,?_,rfl,?_⟩
  .refine⟨⟨?_,rfl,rfl⟩,⟨?_,rfl,rfl⟩,⟨?_,rfl,rfl⟩,⟨?_,rfl,rfl⟩,⟨?_,?_,rfl⟩,⟨?_,?_,rfl⟩,trivial⟩
   .exact(key [0] _ rfl rfl).trans rfl
   .exact(key [3] _ rfl rfl).trans rfl
   .exact(key [200] _ rfl rfl).trans rfl
   .rw[<-cF];exact(key [1] _ rfl rfl).trans rfl
   .rw[<-ahq b.sets (bM F)];refine(key [2] _ rfl rfl).trans ?_;show _=some (Ob.eA (cg id _));rw[oK id fun _=>rfl];rfl
   .show dz _ _=true;clear mr
    induction b.sets with
    |nil=>rfl
    |cons x r ih=>simpa[dz,AV.bn]using ih
   .rw[<-LO F (cr b.sets)];refine(key [201] _ rfl rfl).trans ?_;show _=some (Ob.mapA _ _ (List.map _ _));rw[LO];simp[AV.ren,Ob.eW,LO]
   .show List.all _ _=true;simp[AV.bn]
  .exact sw (ρ:=id) (by simp only[alf,alJ];decide) fun _ _=>rfl
  .exact tv fun q _ h=>by
    cases q with
    |mk p o=>cases p<;>simp[b9]at h)
 obtain⟨β2,iI⟩:=br.afc (t:=4) (by rw[aT];decide) (q:=[0]) (p:=[2]) (j:=4) rfl rfl rfl (by simp) DI (fun x hx=>by
  obtain⟨T,_,rfl⟩:=ak6.1 hx
  rfl)
 simp only[go_sem]at iI;obtain⟨β3,FB⟩:=iI.afd (t:=5) (by rw[aT];decide) (q:=[0]) (p:=[201]) (j:=2) rfl rfl rfl;simp only[go_sem]at FB;obtain⟨TW,TX,aht,uF⟩:=FB.dN (p:=[5]) rfl;obtain⟨LP,sq⟩:=agT aU hF;obtain⟨FD,mV⟩:∃FD,fo TW TX (aM dt (sr F))=FD:=⟨_,rfl⟩
 rw[mV,Qf]at uF
 obtain⟨β4,hs6,_⟩:=uF.le (τ:=ak [([2],[4]),([100],[200])]) (s2:=mk [(0,.bx [0] 0)] (dm l st FD ⟨b.cls,b.sets,List.range b.sets.length⟩ 2 3 0 c es) [0,1,2,3,100]) (by
  rw[hU];refine cw.le ⟨⟨⟨rfl,rfl⟩,trivial⟩,?_,?_,rfl,?_⟩
  .unfold dm gU;have e1:(List.range b.sets.length).length=b.sets.length:=anV;have e2:b.cls.length=l.length:=hb.len;rw[e1,e2];refine⟨⟨rfl,rfl,rfl⟩,⟨rfl,rfl,rfl⟩,⟨rfl,rfl,rfl⟩,⟨rfl,rfl,rfl⟩,⟨rfl,rfl,rfl⟩,trivial⟩
  .exact sw (ρ:=ak [([4],[2]),([200],[100])]) (by unfold dm;simp only[alf,alJ];decide) fun q hq=>by
    have:q.1∈(dm l st FD ⟨b.cls,b.sets,List.range b.sets.length⟩ 2 3 0 c es).map (fun x=>x.1):=ak6.2 ⟨q,hq,rfl⟩;have e:(dm l st FD ⟨b.cls,b.sets,List.range b.sets.length⟩ 2 3 0 c es).map (fun x=>x.1)=[[0],[1],[2],[3],[100]]:=rfl;rw[e]at this;simp only[alc,alv,or_false]at this;rcases this with h|h|h|h|h<;>rw[h]<;>rfl
  .exact tv fun q _ h=>by
    cases q with
    |mk p o=>cases p<;>simp[b9]at h)
 refine⟨.bx [0] 0,_,_,β4,⟨rfl,⟨b.cls,b.sets,List.range b.sets.length⟩,sr F,TW,TX,c,es,by rw[mV],LP,aht,?_,sq,agU aU pP hb,hq,eP⟩,hs6⟩;have h1:=hF.ln
 have h2:=Tg (l:=l) (fun s hs=>by
  have h1:=(hi s hs).2.f;have h2:=(hi s hs).2.t;simp only[dX,ak4,yd];have:(fP s).length<=2:=by unfold fP;split<;>simp
  omega) l.length (ali _)
 simp only[sr,alg];omega
end Go.Proofs.YtpmniabdmbmafaaGreatDoor

namespace Go.Proofs.YtpmniabdmbmafaaGreatDoor
open Go.Ab
variable {t:TypeId}{fz:Nat×Nat}
def mt(F:List (List UInt8×List Int))(vs:List AV):List (D×AV):=(F.map fun q=>D.str q.1).zip vs
end Go.Proofs.YtpmniabdmbmafaaGreatDoor

namespace Go.Proofs.YtpmniabdmbmafaaGreatDoor
open Go.Ab
end Go.Proofs.YtpmniabdmbmafaaGreatDoor

namespace Go.Proofs.YtpmniabdmbmafaaGreatDoor
open Go.Ab
end Go.Proofs.YtpmniabdmbmafaaGreatDoor

namespace Go.Proofs.YtpmniabdmbmafaaGreatDoor
open Go.Ab
structure ahu(ns:List TN):Prop where
 fn:∀i,bI ns i->ah ns i=6->bI ns (nd ns i.toNat).a∧bI ns (nd ns i.toNat).b
 fd:∀i,bI ns i->(nd ns i.toNat).l.length<=1000∧∀q∈(nd ns i.toNat).l,q.1.length<=1000000∧bI ns q.2
end Go.Proofs.YtpmniabdmbmafaaGreatDoor

namespace Go.Proofs.YtpmniabdmbmafaaGreatDoor
open Go.Ab
end Go.Proofs.YtpmniabdmbmafaaGreatDoor

namespace Go.Proofs.YtpmniabdmbmafaaGreatDoor
open Go.Ab
abbrev GJ(l:List (List UInt8)):Prop:=l.Pairwise (· < ·)
end Go.Proofs.YtpmniabdmbmafaaGreatDoor

namespace Go.Proofs.YtpmniabdmbmafaaGreatDoor
open Go.Ab
structure Plain(s:EA):Prop where
 ins:iL s
 fit:Fit s
 nice:sn s
 nd:((dX s).map (·.1)).Nodup
theorem Al{p:Nat->Bool}{n i:Nat}(h:(List.range n).all p=true)(hi:i<n):p i=true:=alr.1 h i (alw.2 hi)
theorem yu{l:List da}{i:Nat}(h:i<l.length):dF l i=l[i].1:=by simp[dF,h]
theorem GK{p:List UInt8->Bool}{l:List da}(h:lQ p l=true):(∀q∈l,p q.1=true)∧(l.map (·.1)).Nodup:=by
 unfold lQ at h;refine⟨fun q hq=>?_,?_⟩
 .obtain⟨i,hi,rfl⟩:=alx hq;have:=Al h hi;rw[ak7,yu hi]at this;exact this.1
 .have hs:∀i,i+1<l.length->dF l i<dF l (i+1):=by
   intro i hi;have:=Al h hi;rw[ak7]at this;have h2:=this.2;simp only[jI,Nat.zero_lt_succ,decide_true,ame,Bool.not_not,Nat.add_sub_cancel,bytesLess_eq,decide_eq_true_eq]at h2;exact h2
  have hlt:∀(d i:Nat),i+d+1<l.length->dF l i<dF l (i+d+1):=by
   intro d
   induction d with
   |zero=>exact fun i hi=>hs i hi
   |succ d ih=>exact fun i hi=>aob (ih i (by omega)) (hs (i+d+1) hi)
  rw[List.Nodup,amk];intro i j hi hj cx e;rw[alg]at hi hj;have:=hlt (j-i-1) i (by omega);rw[show i+(j-i-1)+1=j by omega,yu hi,yu hj]at this;rw[amn,amn]at e;rw[e]at this;exact List.lt_irrefl _ this
theorem LQ{l:List Int}(h:tD l=true):∀n∈l,0<=n∧n<=999:=by
 intro n hn;obtain⟨i,hi,rfl⟩:=alx hn;have:=Al h hi;simp only[tC,ak7,decide_eq_true_eq,akX,ak0 hi,Option.getD_some]at this;exact this.1
theorem TY{s:List UInt8}(h:lN s=true):s.length<=20:=by
 simp only[lN,ak7,decide_eq_true_eq]at h;exact h.1.2
theorem T0(k:Int)(l:List da):(fX k l).map (·.1)=(l.map (·.1)).map fun n=>(k,n):=by simp[fX,Function.comp_def]
theorem ahv{l:List EA}{s:EA}(hs:iL s)(h:kL l s=true):Plain s:=by
 simp only[kL,ak7,decide_eq_true_eq]at h;obtain⟨⟨⟨⟨⟨_,h1⟩,h2,h3⟩,h4,h5⟩,_⟩,_⟩:=h;have n1:=LQ h1;obtain⟨f1,f2⟩:=GK h2;obtain⟨t1,t2⟩:=GK h4
 have wf:∀q∈s.fl,lN q.1=true:=fun q hq=>by
  have:=f1 q hq;simp only[lO,ak7]at this;exact this.1.1
 have wt:∀q∈s.tl,lN q.1=true:=fun q hq=>by
  have:=t1 q hq;simp only[mL,ak7]at this;exact this.1
 refine⟨hs,⟨hs.v,fun n hn=>?_,by omega,by omega,fun q hq=>TY (wf q hq),fun q hq=>TY (wt q hq)⟩,⟨n1,f1,t1⟩,?_⟩
 .have:=n1 n hn;exact⟨by omega,by omega⟩
 .unfold dX;rw[alh,alh,T0,T0,alZ,alZ];have nk:∀(k:Int) (L:List (List UInt8)),L.Nodup->(L.map fun n=>(k,n)).Nodup:=fun k L hL=>List.Pairwise.map _ (fun a b eC e=>eC (by simpa using e)) hL;refine⟨⟨?_,nk 2 _ f2,fun a ha b hb e=>?_⟩,nk 3 _ t2,fun a ha b hb e=>?_⟩
  .unfold fP;split<;>simp
  .obtain⟨x,_,rfl⟩:=ak6.1 hb;unfold fP at ha;split at ha
   .simp only[alf,alJ,alc,alv,or_false]at ha;rcases ha with rfl|rfl<;>simp at e
   .simp at ha
  .obtain⟨x,_,rfl⟩:=ak6.1 hb;rcases ak1.1 ha with ha|ha
   .unfold fP at ha;split at ha
    .simp only[alf,alJ,alc,alv,or_false]at ha;rcases ha with rfl|rfl<;>simp at e
    .simp at ha
   .obtain⟨y,_,rfl⟩:=ak6.1 ha;simp at e
theorem ahw(f:Int->Int)(s:EA):(dX (s.mv f)).map (·.1)=(dX s).map (·.1):=SC (JW f s)
theorem Plain.mv{s:EA}(h:Plain s)(f:Int->Int):Plain (s.mv f):=by
 obtain⟨h1,⟨a1,a2,a3,a4,a5,a6⟩,⟨b1,b2,b3⟩,h4⟩:=h;refine⟨afY h1 f,⟨a1,a2,by simpa[EA.mv]using a3,by simpa[EA.mv]using a4,fun q hq=>?_,fun q hq=>?_⟩,⟨b1,fun q hq=>?_,fun q hq=>?_⟩,by rw[ahw];exact h4⟩
 .obtain⟨x,hx,rfl⟩:=ak6.1 hq;exact a5 x hx
 .obtain⟨x,hx,rfl⟩:=ak6.1 hq;exact a6 x hx
 .obtain⟨x,hx,rfl⟩:=ak6.1 hq;exact b2 x hx
 .obtain⟨x,hx,rfl⟩:=ak6.1 hq;exact b3 x hx
theorem T1{p:List UInt8->Bool}{l:List da}{f:Int->Int}:lQ p (l.map fun q=>(q.1,f q.2))=lQ p l:=by
 unfold lQ;rw[alg]
 have hf:∀i,dF (l.map fun q=>(q.1,f q.2)) i=dF l i:=by
  intro i;unfold dF;rw[akX,akX,ala];cases l[i]?<;>rfl
 have hb:∀i,jI (l.map fun q=>(q.1,f q.2)) i=jI l i:=fun i=>by unfold jI;rw[hf,hf]
 congr 1;funext i;rw[hf,hb]
theorem T2{l l':List EA}{s:EA}{f:Int->Int}(h:kL l s=true)(hf:∀z∈s.next,∀p,jd l z p=true->jd l' (f z) p=true):kL l' (s.mv f)=true:=by
 have hlen:∀L:List da,(L.map fun q=>(q.1,f q.2)).length=L.length:=fun L=>by simp
 have ahx:tA (s.mv f)=tA s:=by
  unfold tA EA.mv
  cases s.arr with
  |true=>simp
  |false=>simp
 have ahy:oW (s.mv f)=(oW s).map f:=by
  unfold oW EA.mv;simp[alD,Function.comp_def]
 simp only[kL,ak7,alH,decide_eq_true_eq]at h ⊢;obtain⟨⟨⟨⟨⟨g0,g1⟩,g2,g3⟩,g4,g5⟩,g6⟩,g7⟩:=h;rw[ahx,ahy];refine⟨⟨⟨⟨⟨g0,g1⟩,?_,?_⟩,?_,?_⟩,?_⟩,?_⟩
 .show lQ lO (s.fl.map fun q=>(q.1,f q.2))=true;rw[T1];exact g2
 .show(s.fl.map fun q=>(q.1,f q.2)).length<=30;rw[hlen];exact g3
 .show lQ mL (s.tl.map fun q=>(q.1,f q.2))=true;rw[T1];exact g4
 .show(s.tl.map fun q=>(q.1,f q.2)).length<=30;rw[hlen];exact g5
 .show(s.arr&&(!jd l' (if s.arr then f s.bD else s.bD) (!s.plus)||!jd l' (if s.arr then f s.bE else s.bE) s.plus))=false
  cases ha:s.arr with
  |false=>rfl
  |true =>
    rw[ha]at g6;simp only[ame,al0,amD]at g6;have m1:s.bD∈s.next:=by simp[EA.next,ha]
    have m2:s.bE∈s.next:=by simp[EA.next,ha]
    simp only[if_true,ame,al0,amD];exact⟨hf _ m1 _ g6.1,hf _ m2 _ g6.2⟩
 .rw[ama]at g7 ⊢;intro y hy;obtain⟨z,hz,rfl⟩:=ak6.1 hy;have:=g7 z hz;simp only[alH,amM]at this ⊢;exact hf z (by unfold oW at hz;unfold EA.next;exact alB _ hz) s.plus this
theorem LR{l l':List EA}{i j:Nat}(h:jW l i=jW l' j):(l.getD i default).plus=(l'.getD j default).plus:=by
 simp only[jW,EA.self,amd,al3]at h;exact h.1.1.1
theorem GL{l:List EA}{z:Int}{p:Bool}(h:jd l z p=true):∃k:Nat,z=(k:Int)∧k<l.length∧(l.getD k default).plus=p:=by
 have h1:=z7 h;refine⟨z.toNat,by omega,by omega,?_⟩;simp only[jd,ak7,beq_iff_eq]at h;exact h.2
theorem GM{l:List EA}{k:Nat}{p:Bool}(h1:k<l.length)(h2:(l.getD k default).plus=p):jd l (k:Int) p=true:=by
 simp only[jd,ak7,beq_iff_eq,decide_eq_true_eq,Int.toNat_natCast];exact⟨⟨by omega,by omega⟩,h2⟩
theorem T3{l:List EA}{st:Nat}(h0:0<l.length)(h1:l.length<=2000)(hs:jd l (st:Int) true=true)(hr:∀s∈l,kL l s=true):ff l (st:Int)=0:=by
 unfold ff;rw[if_neg (by omega),if_neg];simp only[hs,amA,anC,alG,not_exists,not_and,alH,amM];exact hr
theorem T4{l:List EA}{st:Int}(h:ff l st=0):jd l st true=true:=by
 unfold ff at h;split at h
 .cases h
 .split at h
  .cases h
  .rename_i h2;simp only[alF,alH,not_or,amM]at h2;exact h2.1
theorem GN{l:List EA}{st:Nat}(h:ff l (st:Int)=0):ff (eV l st) 0=0:=by
 have g:=pb h;have ag:st<l.length:=by have:=g.s1;omega
 have wF:=Cw g.lX ag;obtain⟨r,hr⟩:=Fs (l:=l) (start:=st);have xA:0<(er l st).length:=by rw[hr];simp
 have oE:∀j (hj:j<(er l st).length),((eV l st).getD j default).plus=(l.getD (er l st)[j] default).plus:=fun j hj=>LR (P1 j hj);refine T3 (st:=0) (by rw[wc];exact xA) (by rw[wc];have:=g.n1;omega) (GM (by rw[wc];exact xA) ?_) fun s hs=>?_
 .rw[oE 0 xA];have h0:(er l st)[0]=st:=by simp[hr]
  rw[h0];obtain⟨k,hk,_,hp⟩:=GL (T4 h);have:st=k:=by omega
  rw[this];exact hp
 .obtain⟨i,hi,rfl⟩:=ak6.1 hs;refine T2 (g.rt _ (rY (xO g.lX ag i hi))) fun z hz p hp=>?_;obtain⟨k,rfl,hk,LU⟩:=GL hp
  have gj:k∈er l st:=P0 g.lX ag i hi k (by
   unfold dB
   exact ak6.2 ⟨_,hz,rfl⟩)
  obtain⟨j,hj,rfl⟩:=alx gj;rw[Int.toNat_natCast,J0 Fq hj];exact GM (by rw[wc];exact hj) (by rw[oE j hj];exact LU)
theorem LV{l:List EA}{cls:List Nat}(h:ff l 0=0)(hc:mN l cls):ff (gQ cls l) ((cls.getD 0 0:Nat):Int)=0:=by
 have g:=pb h;have hlen:(gQ cls l).length=l.length:=by simp[gQ]
 have oE:∀k,k<l.length->((gQ cls l).getD (cls.getD k 0) default).plus=(l.getD k default).plus:=by
  intro k hk;have h1:=P2 (cls:=cls) (l:=l) (cls.getD k 0) (KU hc hk);rw[LR h1];exact(LR (zA _ _ _ (hc.2 k hk).1).1).symm
 refine T3 (by rw[hlen];exact g.n0) (by rw[hlen];exact g.n1) (GM (by rw[hlen];exact KU hc g.n0) ?_) fun s hs=>?_
 .rw[oE 0 g.n0];obtain⟨k,hk,_,hp⟩:=GL (T4 h);have:0=k:=by omega
  rw[this];exact hp
 .obtain⟨u,hu,rfl⟩:=ak6.1 hs;refine T2 (g.rt u hu) fun z hz p hp=>?_;obtain⟨k,rfl,hk,LU⟩:=GL hp;rw[Int.toNat_natCast];exact GM (by rw[hlen];exact KU hc hk) (by rw[oE k hk];exact LU)
theorem ahz{l:List EA}{cls:List Nat}(h:ff l 0=0)(hc:mN l cls):ff (oP l cls) 0=0:=GN (LV h hc)
theorem LW{l:List EA}{st:Int}(hs:∀s∈l,iL s)(h:ff l st=0):∀s∈l,Plain s:=fun s hm=>ahv (hs s hm) ((pb h).rt s hm)
theorem LX{l:List EA}{st:Nat}(hp:∀s∈l,Plain s)(aU:gq l)(ag:st<l.length):∀s∈eV l st,Plain s:=by
 intro s h;obtain⟨i,hi,rfl⟩:=ak6.1 h;exact(hp _ (rY (xO aU ag i hi))).mv _
theorem T5{l:List EA}{cls:List Nat}(hp:∀s∈l,Plain s):∀s∈gQ cls l,Plain s:=by
 intro s h;obtain⟨u,hu,rfl⟩:=ak6.1 h;exact(hp _ hu).mv _
end Go.Proofs.YtpmniabdmbmafaaGreatDoor

namespace Go.Proofs.YtpmniabdmbmafaaGreatDoor
open Go.Ab
inductive fy{α:Type}(kids:α->List α):List α->List α->List α->Prop
 |done (out:List α):fy kids out [] out
 |skip {out todo r:List α} {s:α} (h:s∈out) (t:fy kids out todo r):fy kids out (todo++[s]) r
 |take {out todo r:List α} {s:α} (h:s∉out) (t:fy kids (out++[s]) (todo++(kids s).reverse) r):fy kids out (todo++[s]) r
theorem wW{α:Type}{a b:List α}{x y:α}(h:a++[x]=b++[y]):a=b∧x=y:=by
 have:=List.append_inj' h rfl;exact⟨this.1,by simpa using this.2⟩
theorem fy.fn{α:Type}{kids:α->List α}{out todo r:List α}(h:fy kids out todo r):∀{r'},fy kids out todo r'->r=r':=by
 induction h with
 |done out =>
   intro r' h';generalize ht:([]:List α)=t at h'
   cases h' with
   |done=>rfl
   |skip=>simp at ht
   |take=>simp at ht
 |skip h _ ih =>
   intro r' h';generalize ht:_++[_]=t at h'
   cases h' with
   |done=>simp at ht
   |skip h1 t1=>obtain⟨rfl,rfl⟩:=wW ht;exact ih t1
   |take h1 t1=>obtain⟨rfl,rfl⟩:=wW ht;exact absurd h h1
 |take h _ ih =>
   intro r' h';generalize ht:_++[_]=t at h'
   cases h' with
   |done=>simp at ht
   |skip h1 t1=>obtain⟨rfl,rfl⟩:=wW ht;exact absurd h1 h
   |take h1 t1=>obtain⟨rfl,rfl⟩:=wW ht;exact ih t1
def ly{α:Type}[DecidableEq α](U out:List α):Nat:=U.countP fun x=>!decide (x∈out)
theorem T6{α:Type}[DecidableEq α]{out:List α}{s:α}(h:s∉out):∀{U:List α},s∈U->ly U (out++[s])<ly U out
 |[],hs=>by cases hs
 |x::U,hs=>by
   have hle:∀U:List α,ly U (out++[s])<=ly U out:=fun U=>by
    unfold ly;refine List.countP_mono_left fun y _ hy=>?_;simp only[alH,decide_eq_false_iff_not,ak1,not_or]at hy ⊢;exact hy.1
   by_cases e:x=s
   .subst e;have h1:=hle U;have e1:decide (x∈out++[x])=true:=by simp
    have e2:decide (x∈out)=false:=by simpa using h
    simp only[ly,anl,e1,e2]at h1 ⊢;simp only[amA,amV,als,if_false,if_true];omega
   .have h1:=T6 h (U:=U) ((alc.1 hs).resolve_left (fun h=>e h.symm));have e1:decide (x∈out++[s])=decide (x∈out):=by simp[e]
    simp only[ly,anl,e1]at h1 ⊢;omega
end Go.Proofs.YtpmniabdmbmafaaGreatDoor

namespace Go.Proofs.YtpmniabdmbmafaaGreatDoor
open Go.Ab
theorem vv{l:List Int}{i:Nat}(h:i<l.length):l[i]=l.getD i 0:=by simp[h]
end Go.Proofs.YtpmniabdmbmafaaGreatDoor

namespace Go.Proofs.YtpmniabdmbmafaaGreatDoor
open Go.Ab
end Go.Proofs.YtpmniabdmbmafaaGreatDoor

namespace Go.Proofs.YtpmniabdmbmafaaGreatDoor
open Go.Ab
theorem DQ{ns:List TN}{root:Int}(h:o8 ns root=0):(0<ns.length∧ns.length<=2000)∧(0<=root∧root<ns.length)∧tH ns=true∧wK ns=true:=by
 unfold o8 at h;split at h
 .cases h
 .rename_i h1;split at h
  .cases h
  .rename_i h2;split at h
   .cases h
   .rename_i h3;simp only[alF,decide_eq_true_eq,not_or,alH,amM]at h1 h2 h3;exact⟨⟨by omega,by omega⟩,⟨by omega,by omega⟩,h3.1,h3.2⟩
end Go.Proofs.YtpmniabdmbmafaaGreatDoor

namespace Go.Proofs.YtpmniabdmbmafaaGreatDoor
open Go.Ab
theorem ahA{l:List da}(h:∀i,i<l.length->jI l i=false):GJ (l.map (·.1)):=by
 have hs:∀i,i+1<l.length->dF l i<dF l (i+1):=by
  intro i hi;have h2:=h (i+1) hi;simpa only[jI,Nat.zero_lt_succ,decide_true,ame,amD,Nat.add_sub_cancel,bytesLess_eq,decide_eq_true_eq]using h2
 have hlt:∀(d i:Nat),i+d+1<l.length->dF l i<dF l (i+d+1):=by
  intro d
  induction d with
  |zero=>exact fun i hi=>hs i hi
  |succ d ih=>exact fun i hi=>aob (ih i (by omega)) (hs (i+d+1) hi)
 rw[GJ,amk];intro i j hi hj cx;rw[alg]at hi hj;have:=hlt (j-i-1) i (by omega);rw[show i+(j-i-1)+1=j by omega,yu hi,yu hj]at this;rw[amn,amn];exact this
theorem T7{s:List UInt8}(h:lN s=true):s.length<=20:=by
 simp only[lN,ak7,decide_eq_true_eq]at h;exact h.1.2
structure Ty(ns:List TN)(root:Int):Prop where
 inn:Inn ns
 ahB:ahu ns
 rt:bI ns root
 nm:∀i,bI ns i->GJ ((nd ns i.toNat).l.map (·.1))
 rc:∀i,bI ns i->ah ns i=7->∀q∈(nd ns i.toNat).l,lO q.1=true
 tg:∀i,bI ns i->ah ns i=8->∀q∈(nd ns i.toNat).l,mL q.1=true
 vr:∀i,bI ns i->ah ns i=11->0<=(nd ns i.toNat).a∧(nd ns i.toNat).a<=999
 fw:∀n∈ns,n.l.length<=30
theorem yw{n:TN}{all:Int}(h:kK n all=true):n.l.length<=30∧wb n.k n.l=true∧(n.k=11->0<=n.a∧n.a<=999)∧(ij n.k=true∨n.l=[]):=by
 simp only[kK,ak7,alH,al0,amD,decide_eq_true_eq]at h;obtain⟨⟨⟨_,hv⟩,hw,hn⟩,_⟩:=h;refine⟨hn.2,hn.1,fun hk=>?_,?_⟩
 .rw[hk]at hv;simp only[decide_true,ame,al0,decide_eq_false_iff_not]at hv;omega
 .cases hz:ij n.k with
  |true=>exact .inl rfl
  |false =>
    rw[hz]at hw;simp only[amV,ame,decide_eq_false_iff_not]at hw;exact .inr (amh (by omega))
theorem DR{k:Int}{l:List da}(h:wb k l=true):GJ (l.map (·.1))∧(k=7->∀q∈l,lO q.1=true)∧(k=8->∀q∈l,mL q.1=true):=by
 unfold wb at h
 have h1:∀i,i<l.length->uB k (dF l i)=false∧jI l i=false:=fun i hi=>by
  have:=Al h hi;simpa only[ak7,alH]using this
 refine⟨ahA fun i hi=>(h1 i hi).2,fun hk q hq=>?_,fun hk q hq=>?_⟩
 .obtain⟨i,hi,rfl⟩:=alx hq;have:=(h1 i hi).1;rw[yu hi,uB,hk]at this;simpa using this
 .obtain⟨i,hi,rfl⟩:=alx hq;have:=(h1 i hi).1;rw[yu hi,uB,hk]at this;simpa using this
theorem T8{ns:List TN}{root:Int}(h:o8 ns root=0):Ty ns root:=by
 obtain⟨⟨_,h2⟩,h4,h5,h6⟩:=DQ h;have hr:∀i,bI ns i->kK (nd ns i.toNat) ns.length=true:=fun i hi=>zZ h5 (by have:=hi.1;have:=hi.2;omega);have hk:∀i,bI ns i->∀x∈fU (nd ns i.toNat),bI ns x:=fun i hi x hx=>Gd (hr i hi) x hx
 refine⟨⟨h2,R5 h5,by unfold wK at h6;simpa using h6⟩,⟨fun i hi pn=>?_,fun i hi=>?_⟩,h4,fun i hi=>(DR (yw (hr i hi)).2.1).1,
  fun i hi pn=>(DR (yw (hr i hi)).2.1).2.1 pn,fun i hi pn=>(DR (yw (hr i hi)).2.1).2.2 pn,fun i hi pn=>(yw (hr i hi)).2.2.1 pn,fun n hn=>?_⟩
 .have pn:(nd ns i.toNat).k=6:=pn;have h1:=hk i hi;rw[fU,pn,if_pos (by decide)]at h1;exact⟨h1 _ (by simp),h1 _ (by simp)⟩
 .obtain⟨g1,g2,_,g4⟩:=yw (hr i hi);refine⟨by omega,fun q hq=>?_⟩;obtain g4|g4:=g4
  .have hnp:p8 (nd ns i.toNat).k=false:=by
    simp only[ij,alF,decide_eq_true_eq]at g4;rcases g4 with g4|g4<;>rw[g4]<;>decide
   have h1:=hk i hi;rw[fU,hnp,if_neg (by simp),if_pos g4]at h1;refine⟨?_,h1 _ (ak6.2 ⟨q,hq,rfl⟩)⟩;simp only[ij,alF,decide_eq_true_eq]at g4;obtain g4|g4:=g4
   .have:=(DR g2).2.1 g4 q hq;rw[lO,ak7,ak7]at this;have:=T7 this.1.1;omega
   .have:=(DR g2).2.2 g4 q hq;rw[mL,ak7]at this;have:=T7 this.1;omega
  .rw[g4]at hq;cases hq
 .obtain⟨i,hi,rfl⟩:=alx hn;have:=(yw (zZ h5 hi)).1;rw[x9 hi]at this;exact this
end Go.Proofs.YtpmniabdmbmafaaGreatDoor

namespace Go.Proofs.YtpmniabdmbmafaaGreatDoor
open Go.Ab
end Go.Proofs.YtpmniabdmbmafaaGreatDoor

namespace Go.Proofs.YtpmniabdmbmafaaGreatDoor
open Go.Ab
end Go.Proofs.YtpmniabdmbmafaaGreatDoor

