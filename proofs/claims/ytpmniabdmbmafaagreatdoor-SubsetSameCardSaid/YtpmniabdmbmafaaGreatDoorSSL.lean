/-
  A record's edges: the builder's walk. (with the parts that follow it)
-/
import Derived.Test.YtpmniabdmbmafaaGreatDoorSSK
import Derived.Test.YtpmniabdmbmafaaGreatDoorSSJ
import Derived.Test.YtpmniabdmbmafaaGreatDoorSSI
import Derived.Sort.Walk0
set_option linter.all false
set_option maxHeartbeats 16000000
namespace Go.Proofs.YtpmniabdmbmafaaGreatDoor
open Go.Ab Tryz
variable {t:TypeId}{fz:Nat×Nat}
theorem Bq:qf prog 48=some .ai:=by kernel_rfl
noncomputable def kc(ns:List TN)(p wh:Bool)(l:List Int)(W:List aB):List cn×List aB:=ve ns p wh l.length (kL ns l) (mI ((kL ns l).map (·.1))) W
theorem yN(ns:List TN)(root:Int)(W:List aB)(fl p wh:Bool)(l:List Int)(h:dO ns)(cT:∀n∈ns,n.l.length<=1000)(hl:l.length<=2000)(hk:∀x∈l,aC ns x)(hco:∀x∈l,(nd ns x.toNat).l.length<=1000∧∀q∈(nd ns x.toNat).l,q.1.length<=1000000∧aC ns q.2)(hW:W.length<=10000000) :
  bA prog (GT t fz) 38 [.bx [0] 0,.d (.bool p),.d (aL l),.d (.bool wh)] (bO ns root W fl 2) [0,1,2] (fun r ae=>r=.vw [7] 0 (kc ns p wh l W).1.length∧ae=bO ns root (kc ns p wh l W).2 (fl||decide (30<(kc ns p wh l W).1.length)) 6++[([7],.arr (some 2) ((kc ns p wh l W).1.map bf))]):=by
 generalize hR:kc ns p wh l W=R;unfold kc at hR;unfold bO aL;refine eV func38 rfl (by decide +kernel) (by simp[ntmps38]) (aT fun E=>?_);simp only[go_sem];refine H8 E _ _ (abE ⟨by simp only[go_sem],by rw[ay];decide⟩) (by rw[ay];simp) ?_;simp only[go_sem]
 refine bK E (X:=EdX ns l) (fun x=>qF l p wh x.i)
  (fun x=>gZ ns root W fl x.F x.aZ x.bs (fD 203 (dI x.F) [])) [0,1,2,201,202,203] (fun x=>l.length-x.i) ⟨0,[],0,[],aie _,rfl,rfl,by intro q hq;cases hq⟩ (ar [([201],[17])]) ?_ ?_
 .show cF _ _ _ _ [([0],.box [.d (.sl (some 4) (ns.map aw)),.d (i64 root),.mp [1],.vw [2] 0 W.length,.d (.bool fl)]),([1],.map (bT (fun l:List UInt8=>D.str l) (jP 0 W))),([2],.arr (some 3) (W.map fY)),([201],.mapA 0 [] [])] _;unfold qF;simp only[go_sem]
 rintro⟨i,F,aZ,bs,hi,hF,kT,PX⟩ E0;refine bW E0 fun Q' hQ E'=>?_;simp only;unfold gZ qF;simp only[go_sem];refine aH E' ?_ ?_<;>intro h1<;>simp only[go_sem]
 .have bR:i<l.length:=by omega
  have hx:=hk _ (ah2 bR);have gB:=hx.1;have iO:=hx.2;have hn:=h.len;refine⟨by omega,?_⟩;rw[dF bR];simp only[go_sem];refine⟨by omega,?_⟩;rw[fZ hx];simp only[go_sem];have I5:=adT (ns:=ns) bR;have adY:=cT (nd ns l[i].toNat) (by rw[qs (by omega)];exact ah2 _);rw[<-hF]at I5;generalize (nd ns l[i].toNat).l=fs at I5 adY ⊢
  refine bK E' (X:=EdY F fs (i*1000)) (fun x=>vd l p wh i fs x.j)
   (fun x=>gZ ns root W fl x.F x.aZ x.bs (fD 203 (dI x.F) [])) [0,1,2,201,202,203] (fun x=>fs.length-x.j) ⟨0,F,aZ,bs,aie _,rfl,kT,by rw[Nat.add_zero];exact PX⟩ id ?_ ?_
  .refine Bo (hp:=gZ ns root W fl F aZ bs []) id ⟨?_,?_⟩ (fun n zs h=>?_) rfl rfl rfl ?_ rfl ?_ ?_
   .unfold vd qF;simp only[go_sem]
   .unfold gZ;simp only[go_sem];rw[Bm,vS id fun _=>rfl];exact⟨rfl,Bn (s7 rfl _ _)⟩
   .refine⟨?_,rfl⟩;simp only[go_sem];exact l9 (fr:=[]) (u:=[]) h
   .unfold gZ;simp only[aid,aiO];decide
   .unfold gZ;simp
   .unfold gZ;simp only[go_sem]
  rintro⟨j,F2,oG,qH,hj,vf,I6,oD⟩ E1;refine bW E1 fun Q2 dv E2=>?_;simp only;unfold gZ vd qF;simp only[go_sem];refine aH E2 ?_ ?_<;>intro h2<;>simp only[go_sem]
  .have bG:j<fs.length:=by omega
   refine⟨by omega,?_⟩;rw[adU bG];simp only[go_sem];have bU:=adS (F0:=F) bG;rw[<-vf]at bU;have iX:=adR oD fs[j].1 fs[j].2;have I7:(b9 203 0 (dI F2)).length=F2.length:=by rw[qw];simp[dI]
   cases wS:eU (F2.map (·.1)) fs[j].1 with
   |none =>
     rw[nB,wS]at bU iX;simp only at bU iX;refine bF mixed E2 fun X=>?_;simp only[go_sem];refine qt X _ _ (adF [201] oG qH (mt F2 (b9 203 0 (dI F2))) (F2.map (·.1)) fs[j].1 .ai (by rw[uK]) tq Bq (by simp only[go_sem]) rfl rfl rfl (Eg I7) wS) (by simp[cm]) ?_;simp only[go_sem];refine qt X _ _ (adH [201] oG qH (mt F2 (b9 203 0 (dI F2))) (F2.map (·.1)) fs[j].1 (.vw [48] 0 1) (by rw[uK]) tq rfl rfl rfl rfl (Eg I7) wS) (by simp) ?_;simp only[go_sem];(try refine⟨by decide +kernel,?_⟩);rw[dv,nh];rw[adO (M:=[fs[j].2]) (v:=AV.vw [48] 0 1) I7];have PY:dI (F2++[(fs[j].1,[fs[j].2])])=dI F2++[some [i64 fs[j].2]]:=by simp[dI]
     have Ej:(dI F2).length=F2.length:=by simp[dI]
     have hv3:bZ (ar [([203,F2.length],[48])]) (b9 203 0 (dI (F2++[(fs[j].1,[fs[j].2])])))=b9 203 0 (dI F2)++[.vw [48] 0 1]:=by
      rw[PY,ada,ac9,D9]
      .simp[bZ,AV.ren,ar,aE,Ej]
      .intro n zs hn;have:n<F2.length:=by rw[<-Ej];exact(ah3.1 hn).1
       have aJ:n≠F2.length:=by omega
       simp[ar,aE,aJ]
     refine⟨⟨j+1,F2++[(fs[j].1,[fs[j].2])],oG+1,qH++[oG],bG,bU.symm,by simp[I6],by rw[<-ajn];exact iX⟩,by show fs.length-(j+1)<fs.length-j;omega,ar [([203,F2.length],[48])],?_⟩;refine Bo (hp:=gZ ns root W fl (F2++[(fs[j].1,[fs[j].2])]) (oG+1) (qH++[oG]) []) (ar [([48],[203,F2.length])]) ⟨?_,?_⟩ (fun n zs h=>?_) rfl rfl rfl ?_ rfl ?_ ?_
     .unfold vd qF;rw[aD ⟨by omega,by omega⟩];simp only[go_sem];rfl
     .unfold gZ;simp only[go_sem];rw[Bm,hv3];exact⟨rfl,Bn (s7 rfl _ _)⟩
     .rw[PY]at h;by_cases e:n=F2.length
      .rw[e]at h ⊢;rw[aim (by omega),Ej]at h;simp only[aku,List.getElem?_cons_zero,aiv]at h;rw[show ar [([203,F2.length],[48])] [203,F2.length]=[48]from by simp[ar,aE]];refine⟨?_,by simp[ar,aE]⟩;rw[<-h];simp only[go_sem]
      .have e1:ar [([203,F2.length],[48])] [203,n]=[203,n]:=by simp[ar,aE,e]
       rw[e1];refine⟨?_,by simp[ar,aE]⟩;have hlt:=(ah3.1 h).1;rw[ah7,Ej,List.length_singleton]at hlt;rw[aih (by omega)]at h;simp only[go_sem];exact l9 (fr:=[]) (u:=[]) h
     .unfold gZ;simp only[aid,aiO];decide
     .unfold gZ;simp[ar,aE]
     .unfold gZ;simp only[go_sem]
   |some m =>
     obtain⟨Lx,vg⟩:∃Lx,F2[m]?=some (fs[j].1,Lx):=by
      have hg:=Eh wS;rw[aii,ah4]at hg;obtain⟨⟨q1,q2⟩,h1,h2⟩:=hg;exact⟨q2,by rw[h1];cases h2;rfl⟩
     have mW:m<F2.length:=(ah3.1 vg).1;rw[nB,wS]at bU iX;simp only[ahX,vg,Option.getD_some]at bU iX
     have hLx:Lx.length<=3000000:=by
      have:=oD _ (aiz vg);simp only at this;omega
     have PZ:=adP vg;have P0:((b9 203 0 ((dI F2).set m none)).set m (.vw [99] 0 Lx.length))[m]?=some (.vw [99] 0 Lx.length):=aiC (by rw[qw,ai1];simpa[dI]using mW);have P3:((b9 203 0 ((dI F2).set m none)).set m (AV.vw [99] 0 Lx.length)).length=F2.length:=by rw[ai1,qw,ai1];simp[dI]
     refine DM E2 (τ:=ar [([99],[203,m])]) (s2:=mk (vd l p wh i fs j++[(13,.bx [13] 0)]) (yL ns root W fl F2 oG qH m fs[j] Lx++fD 203 ((dI F2).set m none) []) [0,1,2,13,99,201,202,203]) (cF.le (Bo (ar [([203,m],[99])]) ⟨?_,?_⟩ (fun n zs h=>?_) rfl rfl rfl ?_ rfl ?_ ?_)) ?_
     .unfold vd qF;simp only[go_sem]
     .unfold yL;simp only[go_sem];have ho:=PF (h:=203) (p:=[99]) (τ:=ar [([99],[203,m])]) PZ (by simp[ar,aE]) (fun j=>by simp[ar,aE]);rw[aik]at ho;rw[Bm,ho];exact⟨⟨rfl,Bn (PE (s7 rfl _ _) rfl)⟩,l9 (fr:=[]) (u:=[]) PZ⟩
     .obtain⟨aJ,h⟩:=PG h;have e1:ar [([99],[203,m])] [203,n]=[203,n]:=by simp[ar,aE]
      rw[e1];refine⟨?_,by simp[ar,aE,aJ]⟩;simp only[go_sem];exact l9 (fr:=[]) (u:=[]) h
     .unfold yL;simp only[aid,aiO];decide
     .unfold yL;simp[ar,aE]
     .unfold yL;simp only[go_sem]
     unfold vd qF yL;refine bF mixed E2 fun X=>?_;simp only[go_sem];refine qt X _ _ (adE [201] oG qH (mt F2 ((b9 203 0 ((dI F2).set m none)).set m (.vw [99] 0 Lx.length))) (F2.map (·.1)) fs[j].1 m .ai (.vw [99] 0 Lx.length) (by rw[uK]) tq Bq (by simp only[go_sem]) rfl rfl rfl (Eg P3) wS (I0 vg P0)) (by simp[cm]) ?_;simp only[go_sem];refine⟨by omega,?_⟩;refine qt X _ _ (adG [201] oG qH (mt F2 ((b9 203 0 ((dI F2).set m none)).set m (.vw [99] 0 Lx.length))) (F2.map (·.1)) fs[j].1 m (.vw [99] 0 Lx.length) (.vw [48] 0 (Lx.length+1)) (by rw[uK]) tq rfl rfl rfl rfl (Eg P3) wS (I0 vg P0)) (by simp) ?_;simp only[go_sem];rw[adM vg,akP];(try refine⟨by decide +kernel,?_⟩);rw[dv,nh];refine⟨⟨j+1,F2.set m (fs[j].1,Lx++[fs[j].2]),oG,qH,bG,bU.symm,by rw[ai1];exact I6,by rw[<-ajn];exact iX⟩,by show fs.length-(j+1)<fs.length-j;omega,ar [([203,m],[48])],?_⟩;have P4:(dI (F2.set m (fs[j].1,Lx++[fs[j].2])))[m]?=some (some ((Lx++[fs[j].2]).map i64)):=by rw[I2,aiC (by simpa[dI]using mW)]
     have P5:=adb (h:=203) (τ:=ar [([203,m],[48])]) (p:=[48]) P4 (by simp[ar,aE]) (fun j hj=>by simp[ar,aE,hj]);rw[adQ,aik,ah7,List.length_singleton]at P5;refine Bo (hp:=gZ ns root W fl (F2.set m (fs[j].1,Lx++[fs[j].2])) oG qH []) (ar [([48],[203,m])]) ⟨?_,?_⟩ (fun n zs h=>?_) rfl rfl rfl ?_ rfl ?_ ?_
     .unfold vd qF;rw[aD ⟨by omega,by omega⟩];simp only[go_sem];rfl
     .unfold gZ;simp only[go_sem];rw[adN vg,Bm,P5];exact⟨rfl,Bn (s7 rfl _ _)⟩
     .by_cases e:n=m
      .rw[e]at h ⊢;rw[P4]at h;cases h;rw[show ar [([203,m],[48])] [203,m]=[48]from by simp[ar,aE]];refine⟨?_,by simp[ar,aE]⟩;simp only[go_sem];simp
      .have e1:ar [([203,m],[48])] [203,n]=[203,n]:=by simp[ar,aE,e]
       rw[e1];refine⟨?_,by simp[ar,aE]⟩;rw[I2,aiy (fun g=>e g.symm)]at h;simp only[go_sem];exact l9 (fr:=[]) (u:=[]) (by rw[aiy (fun g=>e g.symm)];exact h)
     .unfold gZ;simp only[aid,aiO];decide
     .unfold gZ;simp[ar,aE]
     .unfold gZ;simp only[go_sem]
  .have fU:j=fs.length:=by omega
   subst fU;rw[aij]at vf;rw[dv];simp only[go_sem];rw[hQ,nh];refine⟨⟨i+1,F2,oG,qH,by omega,by rw[I5];exact vf,I6,fun q hq=>aix (oD q hq) (by omega)⟩,by show l.length-(i+1)<l.length-i;omega,id,?_⟩;refine Bo (hp:=gZ ns root W fl F2 oG qH []) id ⟨?_,?_⟩ (fun n zs h=>?_) rfl rfl rfl ?_ rfl ?_ ?_
   .unfold qF;rw[aD ⟨by omega,by omega⟩];simp only[go_sem];rfl
   .unfold gZ;simp only[go_sem];rw[Bm,vS id fun _=>rfl];exact⟨rfl,Bn (s7 rfl _ _)⟩
   .refine⟨?_,rfl⟩;simp only[go_sem];exact l9 (fr:=[]) (u:=[]) h
   .unfold gZ;simp only[aid,aiO];decide
   .unfold gZ;simp
   .unfold gZ;simp only[go_sem]
 .have bR:i=l.length:=by omega
  subst bR;rw[aij]at hF;rw[hQ];simp only[go_sem]
  refine adJ E (X:={ x:Nat×List Nat // AX x.1 x.2 (bT (fun l:List UInt8=>D.str l) (jz F)) }) (fun x=>mk [(0,.bx [0] 0),(1,.d (.bool p)),(2,.d (.sl none (l.map i64))),(3,.d (.bool wh)),(9,.d (py x.1.1 x.1.2 (jz F))),(14,.d .ai),(51,.d (py x.1.1 x.1.2 (jz F)))]
   [([0],.box [.d (.sl (some 4) (ns.map aw)),.d (i64 root),.mp [1],.vw [2] 0 W.length,.d (.bool fl)]),([1],.map (bT (fun l:List UInt8=>D.str l) (jP 0 W))),([2],.arr (some 3) (W.map fY))] [5,0,1,2,201]) (fun B β tm w hB hs=>?_) ?_
  .have nT:=hs.e8 (yK [] (dI F)) fun q x hg=>by
    have:=adl (C:=gZ ns root W fl F aZ bs []) rfl (adK hg);exact this
   obtain⟨β1,br,_⟩:=nT.le (τ:=id) (s2:=mk [(0,.bx [0] 0),(1,.d (.bool p)),(2,.d (.sl none (l.map i64))),(3,.d (.bool wh)),(9,.ma [201]),(14,.d .ai),(51,.ma [201])]
    [([0],.box [.d (.sl (some 4) (ns.map aw)),.d (i64 root),.mp [1],.vw [2] 0 W.length,.d (.bool fl)]),([1],.map (bT (fun l:List UInt8=>D.str l) (jP 0 W))),([2],.arr (some 3) (W.map fY)),([201],.mapA aZ bs ((bT (fun l:List UInt8=>D.str l) (jz F)).map fun x=>(x.1,.d x.2)))] [0,1,2,201]) (by
    rw[hB.2.1];refine cF.le ⟨?_,?_,?_,rfl,?_⟩
    .exact⟨⟨rfl,rfl⟩,⟨rfl,rfl⟩,⟨rfl,rfl⟩,⟨rfl,rfl⟩,⟨rfl,rfl⟩,⟨rfl,rfl⟩,⟨rfl,rfl⟩,trivial⟩
    .refine⟨⟨rfl,rfl,rfl⟩,⟨rfl,rfl,rfl⟩,⟨rfl,rfl,rfl⟩,⟨?_,?_,rfl⟩,trivial⟩
     .rw[<-I3 F];refine(adL (s:=mk _ _ _) rfl rfl).trans ?_;show _=some (Ob.mapA _ _ (List.map _ _));rw[I3];simp[AV.ren,Ob.e8,I3]
     .show List.all _ _=true;simp[AV.bn]
    .exact s8 (ρ:=id) (by simp only[aid,aiO];decide) fun _ _=>rfl
    .exact sQ fun q _ _=>rfl)
   obtain⟨β2,gQ⟩:=br.adI (t:=5) (by rw[ay];decide) (p:=[201]) rfl;rw[adV]at gQ;simp only[go_sem,AV.rN]at gQ;obtain⟨adZ,bs',I8,Dr⟩:=gQ.dN (p:=[5]) rfl;rw[Ny]at Dr;exact⟨⟨(adZ,bs'),I8⟩,β2,Dr⟩
  rintro⟨⟨ck,bk⟩,I8⟩;simp only[go_sem];have Br:=I4 (P:=fun k=>k.length<=1000000) (R:=fun x=>aC ns x) (ns:=ns) (l:=l) hco;rw[<-hF]at Br;have hFl:F.length<=2000000:=by have:=Br.ln;omega
  refine je E _ _ _ (ads (G:=GT t fz) (py ck bk (jz F)) rfl) rfl rfl ⟨by simp only[go_sem],by rw[ay];decide⟩ (by simp only[go_sem]) (by simp only[go_sem]) (by simp only[go_sem]) ?_;rintro _ _ ⟨rfl,rfl⟩;refine⟨by simp only[go_sem];try simp,?_⟩;simp only[go_sem]
  have G3:(jz F).length<=10000000:=by
   have:(jz F).length=F.length:=by simp[jz]
   omega
  have qy:∀q∈jz F,q.1.length<=1000000:=fun q hq=>by
   obtain⟨y,hy,rfl⟩:=ah9.1 hq;exact Br.ky y hy
  have P6:=adD (G:=GT t fz) ck bk (jz F) I8 (by rw[PV];exact Br.nd) G3 qy;rw[PV]at P6;refine jh E (ar [([1],[52,1])]) _ _ _ P6 rfl rfl ⟨by simp only[go_sem],by rw[ay];decide⟩ rfl (by simp only[go_sem]) (by simp only[go_sem]) ?_;rintro _ _ ⟨rfl,rfl⟩;refine⟨by simp only[go_sem];try simp,?_⟩;simp only[go_sem];obtain⟨S,hS⟩:∃S,S=mI (F.map (·.1)):=⟨_,rfl⟩
  have hSm:∀k∈S,k∈F.map (·.1):=fun k hk=>by rw[hS]at hk;exact akh.1 hk
  have hSl:S.length=F.length:=by rw[hS,mI,ajR,aik]
  rw[<-hS];refine wi E 14 98 (some 2) rfl (by rw[ay];decide) ?_;simp only[go_sem]
  refine bK E (X:={ x:Nat×(List cn×List aB) // x.1<=S.length∧x.2=ve ns p wh l.length F (S.take x.1) W∧x.2.1.length<=x.1∧x.2.2.length<=W.length+x.1 }) (fun x=>[(0,.bx [0] 0),(1,.d (.bool p)),(2,.d (.sl none (l.map i64))),(3,.d (.bool wh)),(9,.d (py ck bk (jz F))),(14,.vw [98] 0 x.1.2.1.length),(53,.d (.sl none (S.map .str))),(54,.d (i64 S.length)),(55,.d (i64 x.1.1))])
   (fun x=>[([0],.box [.d (.sl (some 4) (ns.map aw)),.d (i64 root),.mp [1],.vw [97] 0 x.1.2.2.length,.d (.bool fl)]),([1],.map (bT (fun l:List UInt8=>D.str l) (jP 0 x.1.2.2))),([97],.arr (some 3) (x.1.2.2.map fY)),([98],.arr (some 2) (x.1.2.1.map bf))]) [98,97,0,1,2] (fun x=>S.length-x.1.1) ⟨(0,([],W)),aie _,rfl,ain _,ain _⟩ (ar [([97],[2])]) ?_ ?_
  .simp only[go_sem]
   all_goals first|rfl|(and_intros<;>first|rfl|trivial)
  rintro⟨⟨j,s⟩,hj,hs,nT,br⟩ E0;refine bW E0 fun Q' hQ E'=>?_;simp only at hj hs nT br ⊢;simp only[go_sem];refine aH E' ?_ ?_<;>intro h1<;>simp only[go_sem]
  .have bG:j<S.length:=by omega
   have yO:=hSm _ (ah2 bG);have bU:=adW (ns:=ns) (p:=p) (wh:=wh) (n:=l.length) (F:=F) (W:=W) bG;rw[<-hs]at bU;have lW:=PW _ F yO;refine⟨by omega,?_⟩;rw[AJ bG,ahX,aib bG,Option.getD_some];simp only[go_sem];have aF:∀x∈eX F S[j],aC ns x:=Br.vl _ (yM yO);have hLl:(eX F S[j]).length<=10000000:=aix (PX _ (yM yO)) (by omega);have c1:=Ec (G:=GT t fz) ns root h p (eX F S[j]) hLl aF;have o1:=Ed h (p:=p) aF;rw[qG]at bU;generalize a8 ns p (eX F S[j])=C at c1 o1 bU;have c2:=Eb (t:=t) (fz:=fz) ns root s.2 fl C o1 (by omega);rw[show fY C=.agg [.bool C.1,.bool C.2.1,.sl none (C.2.2.map i64)]from rfl]at c2;unfold bO at c2;have hP:=yI s.2 C;generalize bV s.2 C=P at c2 bU hP
   cases wh with
   |false =>
     rw[if_pos (by rfl)]at bU;simp only[go_sem];refine HX E' ck bk (jz F) S[j] .ai (by rw[uK]) tq Bq rfl rfl (by simp) ?_;rw[lW];simp only[go_sem];refine eM E' [.U [0] [.sl (some 4) (ns.map aw),i64 root,.unk,.unk,.unk],.B [0] (bD ns root)] [.ptr (bD ns root),.bool p,.sl none ((eX F S[j]).map i64)] c1 ?_ ?_ rfl ?_ ⟨by simp only[go_sem],by first|(rw[ay];decide)|(simp only[go_sem]<;>(try rw[ay])<;>decide)⟩ ?_
     .rintro r ae ⟨rfl,rfl⟩;exact⟨rfl,by simp[gX,Ob.flat,rD]⟩
     .unfold bD;simp only[go_sem];refine⟨_,rfl,?_⟩;simp only[go_sem];exact .inr trivial
     .unfold bD;simp only[go_sem]
     rintro _ _ ⟨rfl,rfl⟩;simp only[go_sem];refine jg E' [78,0] none (C.2.2.map i64) rfl rfl ?_;simp only[go_sem];refine jh E' (ar [([2],[97])]) _ _ _ c2 rfl (by simp only[go_sem]) ⟨by simp only[go_sem],by first|(rw[ay];decide)|(simp only[go_sem]<;>(try rw[ay])<;>decide)⟩ rfl (by simp only[go_sem]) (by simp only[go_sem]) ?_;rintro _ _ ⟨rfl,rfl⟩;refine⟨by simp only[go_sem];try simp,?_⟩;simp only[go_sem];refine⟨by omega,?_⟩;rw[hQ];refine⟨⟨(j+1,(s.1++[(S[j],(P.1:Int))],P.2)),bG,bU.symm,by simp;omega,by show P.2.length<=W.length+(j+1);omega⟩,by show S.length-(j+1)<S.length-j;omega,ar [([98],[82]),([97],[79,6])],?_⟩;simp only[go_sem];rw[aD ⟨by omega,by omega⟩];simp only[ail,ah7,aid,aiO,List.length_cons,List.length_nil]
     and_intros<;>first|rfl|trivial
   |true =>
     simp only[ajo,ajI,decide_eq_true_eq]at bU;simp only[ajo];simp only[go_sem];refine HX E' ck bk (jz F) S[j] .ai (by rw[uK]) tq Bq rfl rfl (by simp) ?_;rw[lW];simp only[go_sem];refine aH E' ?_ ?_<;>intro h3<;>simp only[go_sem]
     .rw[if_pos (by omega)]at bU;refine HX E' ck bk (jz F) S[j] .ai (by rw[uK]) tq Bq rfl rfl (by simp) ?_;rw[lW];simp only[go_sem];refine eM E' [.U [0] [.sl (some 4) (ns.map aw),i64 root,.unk,.unk,.unk],.B [0] (bD ns root)] [.ptr (bD ns root),.bool p,.sl none ((eX F S[j]).map i64)] c1 ?_ ?_ rfl ?_ ⟨by simp only[go_sem],by first|(rw[ay];decide)|(simp only[go_sem]<;>(try rw[ay])<;>decide)⟩ ?_
      .rintro r ae ⟨rfl,rfl⟩;exact⟨rfl,by simp[gX,Ob.flat,rD]⟩
      .unfold bD;simp only[go_sem];refine⟨_,rfl,?_⟩;simp only[go_sem];exact .inr trivial
      .unfold bD;simp only[go_sem]
      rintro _ _ ⟨rfl,rfl⟩;simp only[go_sem];refine jg E' [78,0] none (C.2.2.map i64) rfl rfl ?_;simp only[go_sem];refine jh E' (ar [([2],[97])]) _ _ _ c2 rfl (by simp only[go_sem]) ⟨by simp only[go_sem],by first|(rw[ay];decide)|(simp only[go_sem]<;>(try rw[ay])<;>decide)⟩ rfl (by simp only[go_sem]) (by simp only[go_sem]) ?_;rintro _ _ ⟨rfl,rfl⟩;refine⟨by simp only[go_sem];try simp,?_⟩;simp only[go_sem];refine⟨by omega,?_⟩;rw[hQ];refine⟨⟨(j+1,(s.1++[(S[j],(P.1:Int))],P.2)),bG,bU.symm,by simp;omega,by show P.2.length<=W.length+(j+1);omega⟩,by show S.length-(j+1)<S.length-j;omega,ar [([98],[82]),([97],[79,6])],?_⟩;simp only[go_sem];rw[aD ⟨by omega,by omega⟩];simp only[ail,ah7,aid,aiO,List.length_cons,List.length_nil]
      and_intros<;>first|rfl|trivial
     .rw[if_neg (by omega)]at bU;rw[hQ];refine⟨⟨(j+1,s),bG,bU.symm,by show s.1.length<=j+1;omega,by show s.2.length<=W.length+(j+1);omega⟩,by show S.length-(j+1)<S.length-j;omega,id,?_⟩;simp only[go_sem];rw[aD ⟨by omega,by omega⟩]
      and_intros<;>first|rfl|trivial
  .have mF:j=S.length:=by omega
   subst mF;rw[aij,hS,hF]at hs;rw[hR]at hs;subst hs;rw[hQ];simp only[go_sem]
   cases fl with
   |true =>
     simp only[go_sem];refine⟨_,_,[0,1,2,6,7],ar [([6],[97]),([7],[98])],⟨rfl,rfl⟩,?_⟩;simp only[go_sem]
   |false =>
     simp only[go_sem];refine⟨_,_,[0,1,2,6,7],ar [([6],[97]),([7],[98])],⟨rfl,rfl⟩,?_⟩;simp only[go_sem];rw[decide_eq_decide.2 (show(30:Int)<(s.1.length:Int)↔30<s.1.length by omega)]
end Go.Proofs.YtpmniabdmbmafaaGreatDoor

namespace Go.Proofs.YtpmniabdmbmafaaGreatDoor
open Go.Ab Tryz
variable {t:TypeId}{fz:Nat×Nat}
def bt(ns:List TN)(k:Int)(c:aB):Bool:=decide (0<((aG ns k c.2.2).length:Int))
noncomputable def eB(ns:List TN)(c:aB)(W:List aB):(Nat×Nat)×List aB:=if bt ns 6 c then j9 ns c.1 (aG ns 6 c.2.2) W else((0,0),W)
noncomputable def dx(ns:List TN)(c:aB)(k:Int)(wh:Bool)(W:List aB):List cn×List aB:=if bt ns k c then kc ns c.1 wh (aG ns k c.2.2) W else([],W)
structure Ek(ns:List TN)(c:aB):Prop where
 len:c.2.2.length<=2000
 ok:∀x∈c.2.2,aC ns x
 fn:∀x∈c.2.2,ag ns x=6->aC ns (nd ns x.toNat).a∧aC ns (nd ns x.toNat).b
 fd:∀x∈c.2.2,(nd ns x.toNat).l.length<=1000∧∀q∈(nd ns x.toNat).l,q.1.length<=1000000∧aC ns q.2
theorem eo{ns:List TN}{k:Int}{l:List Int}{x:Int}(h:x∈aG ns k l):x∈l∧ag ns x=k:=by
 have:=ait.1 h;exact⟨this.1,by simpa using this.2⟩
theorem tv(ns:List TN)(k:Int)(l:List Int):(aG ns k l).length<=l.length:=aiF _ _
noncomputable def eO(ns:List TN)(c:aB)(W:List aB):EA×List aB :=
 (⟨c.1,c.2.1,bt ns 3 c,bt ns 4 c,bt ns 5 c,bt ns 6 c,bt ns 7 c,bt ns 8 c,qC ns (aG ns 11 c.2.2),((eB ns c W).1.1:Nat),((eB ns c W).1.2:Nat),(dx ns c 7 c.1 (eB ns c W).2).1,(dx ns c 8 (!c.1) (dx ns c 7 c.1 (eB ns c W).2).2).1⟩,
   (dx ns c 8 (!c.1) (dx ns c 7 c.1 (eB ns c W).2).2).2)
theorem ad0(ns:List TN)(p wh:Bool)(l:List Int)(W:List aB)(h:∀x∈l,(nd ns x.toNat).l.length<=1000∧∀q∈(nd ns x.toNat).l,True∧True):(kc ns p wh l W).2.length<=W.length+l.length*1000:=by
 have key:∀(S:List (List UInt8)) (F:FT) (s:List cn×List aB),(S.foldl (qG ns p wh l.length F) s).2.length<=s.2.length+S.length:=by
  intro S F
  induction S with
  |nil=>intro s;exact ain _
  |cons k r ih =>
    intro s;have h1:=ih (qG ns p wh l.length F s k);have h2:=(adX (ns:=ns) (p:=p) (wh:=wh) (n:=l.length) (F:=F) (s:=s) (k:=k)).2;rw[List.foldl_cons,List.length_cons];omega
 have h1:=key (mI ((kL ns l).map (·.1))) (kL ns l) ([],W);have h2:=(I4 (P:=fun _=>True) (R:=fun _=>True) h).ln;rw[mI,ajR,aik]at h1;unfold kc ve;simp only at h1;exact aix h1 (by omega)
theorem P7(ns:List TN)(p:Bool)(l:List Int)(W:List aB):(j9 ns p l W).2.length<=W.length+2:=by
 unfold j9;exact aix (yI _ _) (by have:=yI W (a8 ns (!p) (l.map fun x=>(nd ns x.toNat).a));omega)
theorem P8(ns:List TN)(c:aB)(W:List aB):(eB ns c W).2.length<=W.length+2:=by
 unfold eB;split
 .exact P7 _ _ _ _
 .exact Nat.le_add_right _ _
theorem El{ns:List TN}{c:aB}(h:Ek ns c)(k:Int)(wh:Bool)(W:List aB):(dx ns c k wh W).2.length<=W.length+2000000:=by
 unfold dx;split
 .have h1:=ad0 ns c.1 wh (aG ns k c.2.2) W fun x hx=>⟨(h.fd x (eo hx).1).1,fun _ _=>⟨trivial,trivial⟩⟩
  have h2:=tv ns k c.2.2;have h3:=h.len;omega
 .exact Nat.le_add_right _ _
def rO(s:EA):AV:=.agg [.d (.bool s.plus),.d (.bool s.al),.d (.bool s.int),.d (.bool s.bool),.d (.bool s.str),.d (.bool s.arr),.d (.bool s.rc),.d (.bool s.tg),.d (.sl none (s.vars.map i64)),.d (i64 s.dp),.d (i64 s.dq),.d (.sl (some 2) (s.fl.map bf)),.vw [7] 0 s.tl.length]
def jA(r1 r2:Nat)(c:aB):List (Nat×AV):=[(0,.bx [0] 0),(3,.bx [3] 0),(4,.bx [4] 0),(5,.bx [5] 0),(r1,.bx [0] 0),(r2,.d (.agg [.bool c.1,.bool c.2.1,.sl none (c.2.2.map i64)]))]
def jB(ns:List TN)(root:Int)(W:List aB)(fl:Bool)(a:Nat)(c:aB)(b3 b4 b5 b6 b7 b8:Bool)(V:List Int)(dm cd:Int)(R:List cn):List (Name×Ob) :=
 [([0],.box [.d (.sl (some 4) (ns.map aw)),.d (i64 root),.mp [1],.vw [a] 0 W.length,.d (.bool fl)]),([1],.map (bT (fun l:List UInt8=>D.str l) (jP 0 W))),([a],.arr (some 3) (W.map fY)),([3],.box [.d (.bool c.1),.d (.bool c.2.1),.d (.sl none (c.2.2.map i64))]),
   ([4],.box [.d (.bool false),.d (.bool false),.d (.bool false),.d (.bool false),.d (.bool false),.d (.bool false),.d (.bool false),.d (.bool false),.d .ai,.d (i64 0),.d (i64 0),.d .ai,.d .ai]),
   ([5],.box [.d (.bool c.1),.d (.bool c.2.1),.d (.bool b3),.d (.bool b4),.d (.bool b5),.d (.bool b6),.d (.bool b7),.d (.bool b8),.d (.sl none (V.map i64)),.d (i64 dm),.d (i64 cd),.d (.sl (some 2) (R.map bf)),.vw [96] 0 0]),([96],.arr (some 2) [])]
theorem ad1(ns:List TN)(root:Int)(W:List aB)(fl:Bool)(c:aB)(h:dO ns)(cT:∀n∈ns,n.l.length<=1000)(iP:Ek ns c)(hW:W.length<=100000) :
  bA prog (GT t fz) 19 [.bx [0] 0,.d (fY c)] (bO ns root W fl 2) [0,1,2] (fun r ae=>r=rO (eO ns c W).1∧ae=bO ns root (eO ns c W).2 ((fl||decide (30<(eO ns c W).1.fl.length))||decide (30<(eO ns c W).1.tl.length)) 6++[([7],.arr (some 2) ((eO ns c W).1.tl.map bf))]):=by
 generalize hR:eO ns c W=RR;unfold eO at hR;have hk:=iP.ok;have ju:c.2.2.length<=1000000:=aix iP.len (by decide);unfold bO;have rk:fY c=.agg [.bool c.1,.bool c.2.1,.sl none (c.2.2.map i64)]:=rfl;rw[rk];refine eV func19 rfl (by decide +kernel) (by simp[ntmps19]) (aT fun E=>?_);simp only[go_sem];refine Dy E [5] 8 98 none [.d (.bool c.1),.d (.bool c.2.1),.d (.bool false),.d (.bool false),.d (.bool false),.d (.bool false),.d (.bool false),.d (.bool false),.d .ai,.d (i64 0),.d (i64 0),.d .ai,.d .ai] rfl rfl (by rw[ay];decide) rfl ?_;refine Dy E [5] 11 97 (some 2) [.d (.bool c.1),.d (.bool c.2.1),.d (.bool false),.d (.bool false),.d (.bool false),.d (.bool false),.d (.bool false),.d (.bool false),.vw [98] 0 0,.d (i64 0),.d (i64 0),.d .ai,.d .ai] rfl rfl (by show¬_∈[98,5,4,3,0,1,2];decide) rfl ?_;refine Dy E [5] 12 96 (some 2) [.d (.bool c.1),.d (.bool c.2.1),.d (.bool false),.d (.bool false),.d (.bool false),.d (.bool false),.d (.bool false),.d (.bool false),.vw [98] 0 0,.d (i64 0),.d (i64 0),.vw [97] 0 0,.d .ai] rfl rfl (by show¬_∈[97,98,5,4,3,0,1,2];decide) rfl ?_;refine jg E [98] none [] rfl rfl ?_;refine jg E [97] (some 2) [] rfl rfl ?_
 refine tc E (τ:=id) (s2:=mk [(0,.bx [0] 0),(3,.bx [3] 0),(4,.bx [4] 0),(5,.bx [5] 0),(14,.bx [0] 0),(15,.d (.agg [.bool c.1,.bool c.2.1,.sl none (c.2.2.map i64)]))]
  [([0],.box [.d (.sl (some 4) (ns.map aw)),.d (i64 root),.mp [1],.vw [2] 0 W.length,.d (.bool fl)]),([1],.map (bT (fun l:List UInt8=>D.str l) (jP 0 W))),([2],.arr (some 3) (W.map fY)),([3],.box [.d (.bool c.1),.d (.bool c.2.1),.d (.sl none (c.2.2.map i64))]),
    ([4],.box [.d (.bool false),.d (.bool false),.d (.bool false),.d (.bool false),.d (.bool false),.d (.bool false),.d (.bool false),.d (.bool false),.d .ai,.d (i64 0),.d (i64 0),.d .ai,.d .ai]),
    ([5],.box [.d (.bool c.1),.d (.bool c.2.1),.d (.bool false),.d (.bool false),.d (.bool false),.d (.bool false),.d (.bool false),.d (.bool false),.d (.sl none []),.d (i64 0),.d (i64 0),.d (.sl (some 2) []),.vw [96] 0 0]),([96],.arr (some 2) [])] [96,5,4,3,0,1,2]) (cF.le ?_) ?_
 .simp only[go_sem]
  all_goals first|rfl|(and_intros<;>first|rfl|trivial)
 refine eM E [.U [0] [.sl (some 4) (ns.map aw),i64 root,.unk,.unk,.unk],.B [0] (bD ns root)] [.ptr (bD ns root),.agg [.bool c.1,.bool c.2.1,.sl none (c.2.2.map i64)],i64 3] (qA (G:=GT t fz) ns root 3 h c ju hk) ?_ ?_ rfl ?_ ⟨by simp only[go_sem],by first|(rw[ay];decide)|(simp only[go_sem]<;>(try rw[ay])<;>decide)⟩ ?_
 .rintro r ae ⟨zs,rfl,rfl,_,iQ⟩;exact⟨rfl,by simp[gX,Ob.flat,iQ]⟩
 .unfold bD;simp only[go_sem];refine⟨_,rfl,?_⟩;simp only[go_sem]
  first|exact .inr trivial|skip
 .unfold bD;simp only[go_sem]
 rintro _ _ ⟨z3,rfl,rfl,h3,f3⟩;simp only[go_sem];refine eM E [.U [0] [.sl (some 4) (ns.map aw),i64 root,.unk,.unk,.unk],.B [0] (bD ns root)] [.ptr (bD ns root),.agg [.bool c.1,.bool c.2.1,.sl none (c.2.2.map i64)],i64 4] (qA (G:=GT t fz) ns root 4 h c ju hk) ?_ ?_ rfl ?_ ⟨by simp only[go_sem],by first|(rw[ay];decide)|(simp only[go_sem]<;>(try rw[ay])<;>decide)⟩ ?_
 .rintro r ae ⟨zs,rfl,rfl,_,iQ⟩;exact⟨rfl,by simp[gX,Ob.flat,iQ]⟩
 .unfold bD;simp only[go_sem];refine⟨_,rfl,?_⟩;simp only[go_sem]
  first|exact .inr trivial|skip
 .unfold bD;simp only[go_sem]
 rintro _ _ ⟨z4,rfl,rfl,h4,f4⟩;simp only[go_sem];refine eM E [.U [0] [.sl (some 4) (ns.map aw),i64 root,.unk,.unk,.unk],.B [0] (bD ns root)] [.ptr (bD ns root),.agg [.bool c.1,.bool c.2.1,.sl none (c.2.2.map i64)],i64 5] (qA (G:=GT t fz) ns root 5 h c ju hk) ?_ ?_ rfl ?_ ⟨by simp only[go_sem],by first|(rw[ay];decide)|(simp only[go_sem]<;>(try rw[ay])<;>decide)⟩ ?_
 .rintro r ae ⟨zs,rfl,rfl,_,iQ⟩;exact⟨rfl,by simp[gX,Ob.flat,iQ]⟩
 .unfold bD;simp only[go_sem];refine⟨_,rfl,?_⟩;simp only[go_sem]
  first|exact .inr trivial|skip
 .unfold bD;simp only[go_sem]
 rintro _ _ ⟨z5,rfl,rfl,h5,f5⟩;simp only[go_sem];refine eM E [.U [0] [.sl (some 4) (ns.map aw),i64 root,.unk,.unk,.unk],.B [0] (bD ns root)] [.ptr (bD ns root),.agg [.bool c.1,.bool c.2.1,.sl none (c.2.2.map i64)],i64 11] (qA (G:=GT t fz) ns root 11 h c ju hk) ?_ ?_ rfl ?_ ⟨by simp only[go_sem],by first|(rw[ay];decide)|(simp only[go_sem]<;>(try rw[ay])<;>decide)⟩ ?_
 .rintro r ae ⟨zs,rfl,rfl,_,iQ⟩;exact⟨rfl,by simp[gX,Ob.flat,iQ]⟩
 .unfold bD;simp only[go_sem];refine⟨_,rfl,?_⟩;simp only[go_sem]
  first|exact .inr trivial|skip
 .unfold bD;simp only[go_sem]
 rintro _ _ ⟨z11,rfl,rfl,cQ,f11⟩;simp only[go_sem];have ad2:∀x∈aG ns 11 c.2.2,aC ns x:=fun x hx=>hk x (ait.1 hx).1;have wT:(aG ns 11 c.2.2).length<=1000000:=aix (aiF _ _) ju;have cv:=acQ (G:=GT t fz) ns root h (aG ns 11 c.2.2) wT ad2;unfold aL at cv;refine eM E [.A [35,0] none z11,.U [0] [.sl (some 4) (ns.map aw),i64 root,.unk,.unk,.unk],.B [0] (bD ns root)] [.ptr (bD ns root),.sl none ((aG ns 11 c.2.2).map i64)] cv ?_ ?_ rfl ?_ ⟨by simp only[go_sem],by first|(rw[ay];decide)|(simp only[go_sem]<;>(try rw[ay])<;>decide)⟩ ?_
 .rintro r ae ⟨zs,rfl,rfl,_,iQ⟩;exact⟨rfl,by simp[gX,Ob.flat,iQ]⟩
 .unfold bD;simp only[go_sem];refine⟨_,rfl,?_⟩;simp only[go_sem]
  first|exact .inr trivial|skip
 .unfold bD;simp only[go_sem];rw[cQ]
 rintro _ _ ⟨zv,rfl,rfl,hv,fv⟩;simp only[go_sem];generalize hV:qC ns (aG ns 11 c.2.2)=V at hv ⊢;refine jg E [36,0] none zv rfl rfl ?_;generalize Em:decide (0<((aG ns 3 c.2.2).length:Int))=b3;generalize En:decide (0<((aG ns 4 c.2.2).length:Int))=b4;generalize wU:decide (0<((aG ns 5 c.2.2).length:Int))=b5
 refine tc E (τ:=ar [([95],[2])]) (s2:=mk (jA 38 39 c)
  (jB ns root W fl 95 c b3 b4 b5 false false false V 0 0 [])
  [96,5,4,3,0,1,2,95]) (cF.le ?_) ?_
 .unfold jA jB;simp only[go_sem];rw[hv]
  all_goals first|rfl|(and_intros<;>first|rfl|trivial)
 unfold jA jB;refine eM E [.U [0] [.sl (some 4) (ns.map aw),i64 root,.unk,.unk,.unk],.B [0] (bD ns root)] [.ptr (bD ns root),.agg [.bool c.1,.bool c.2.1,.sl none (c.2.2.map i64)],i64 6] (qA (G:=GT t fz) ns root 6 h c ju hk) ?_ ?_ rfl ?_ ⟨by simp only[go_sem],by first|(rw[ay];decide)|(simp only[go_sem]<;>(try rw[ay])<;>decide)⟩ ?_
 .rintro r ae ⟨zs,rfl,rfl,_,iQ⟩;exact⟨rfl,by simp[gX,Ob.flat,iQ]⟩
 .unfold bD;simp only[go_sem];refine⟨_,rfl,?_⟩;simp only[go_sem]
  first|exact .inr trivial|skip
 .unfold bD;simp only[go_sem]
 rintro _ _ ⟨z6,rfl,rfl,h6,f6⟩;simp only[go_sem];obtain⟨A,hA⟩:∃A,A=eB ns c W:=⟨_,rfl⟩
 have ca:=ado (t:=t) (fz:=fz) ns root W fl c.1 (aG ns 6 c.2.2) h (aix (tv _ _ _) iP.len) (fun x hx=>hk x (eo hx).1) (fun x hx=>(iP.fn x (eo hx).1 (eo hx).2).1) (fun x hx=>(iP.fn x (eo hx).1 (eo hx).2).2) (by omega);have la:=P7 ns c.1 (aG ns 6 c.2.2) W;unfold bO aL at ca;refine aH E ?_ ?_<;>intro g<;>simp only[go_sem]
 .have wV:bt ns 6 c=true:=decide_eq_true g;have gf:A=j9 ns c.1 (aG ns 6 c.2.2) W:=by rw[hA,eB,if_pos wV]
  rw[<-gf]at ca la;refine jg E [40,0] none z6 rfl rfl ?_;refine jh E (ar [([2],[95])]) _ _ _ ca rfl (by simp only[go_sem];rw[h6]) ⟨by simp only[go_sem],by first|(rw[ay];decide)|(simp only[go_sem]<;>(try rw[ay])<;>decide)⟩ rfl (by simp only[go_sem]) (by simp only[go_sem]) ?_;rintro _ _ ⟨rfl,rfl⟩;refine⟨by simp only[go_sem];try simp,?_⟩;simp only[go_sem];refine tc E (τ:=ar [([94],[50,6])]) (s2:=mk (jA 55 56 c) (jB ns root A.2 fl 94 c b3 b4 b5 true false false V A.1.1 A.1.2 []) [96,5,4,3,0,1,2,94]) (cF.le ?_) ?_
  .unfold jA jB;simp only[go_sem]
   all_goals first|rfl|(and_intros<;>first|rfl|trivial)
  unfold jA jB;have lA:A.2.length<=W.length+2:=by rw[hA];exact P8 _ _ _
  obtain⟨R7,oH⟩:∃R,R=dx ns c 7 c.1 A.2:=⟨_,rfl⟩
  have cb:=yN (t:=t) (fz:=fz) ns root A.2 fl c.1 c.1 (aG ns 7 c.2.2) h cT (aix (tv _ _ _) iP.len) (fun x hx=>hk x (eo hx).1) (fun x hx=>iP.fd x (eo hx).1) (by omega);unfold bO aL at cb;refine eM E [.U [0] [.sl (some 4) (ns.map aw),i64 root,.unk,.unk,.unk],.B [0] (bD ns root)] [.ptr (bD ns root),.agg [.bool c.1,.bool c.2.1,.sl none (c.2.2.map i64)],i64 7] (qA (G:=GT t fz) ns root 7 h c ju hk) ?_ ?_ rfl ?_ ⟨by simp only[go_sem],by first|(rw[ay];decide)|(simp only[go_sem]<;>(try rw[ay])<;>decide)⟩ ?_
  .rintro r ae ⟨zs,rfl,rfl,_,iQ⟩;exact⟨rfl,by simp[gX,Ob.flat,iQ]⟩
  .unfold bD;simp only[go_sem];refine⟨_,rfl,?_⟩;simp only[go_sem]
   first|exact .inr trivial|skip
  .unfold bD;simp only[go_sem]
  rintro _ _ ⟨z7,rfl,rfl,h7,f7⟩;simp only[go_sem];refine aH E ?_ ?_<;>intro g<;>simp only[go_sem]
  .have qI:bt ns 7 c=true:=decide_eq_true g;have gf:R7=kc ns c.1 c.1 (aG ns 7 c.2.2) A.2:=by rw[oH,dx,if_pos qI]
   rw[<-gf]at cb;refine jg E [57,0] none z7 rfl rfl ?_;refine jh E (ar [([2],[94])]) _ _ _ cb rfl (by simp only[go_sem];rw[h7]) ⟨by simp only[go_sem],by first|(rw[ay];decide)|(simp only[go_sem]<;>(try rw[ay])<;>decide)⟩ rfl (by simp only[go_sem]) (by simp only[go_sem]) ?_;rintro _ _ ⟨rfl,rfl⟩;refine⟨by simp only[go_sem];try simp,?_⟩;simp only[go_sem];refine jg E [68,7] (some 2) (R7.1.map bf) rfl rfl ?_;refine tc E (τ:=ar [([93],[68,6])]) (s2:=mk (jA 70 71 c) (jB ns root R7.2 (fl||decide (30<R7.1.length)) 93 c b3 b4 b5 true true false V A.1.1 A.1.2 R7.1) [96,5,4,3,0,1,2,93]) (cF.le ?_) ?_
   .unfold jA jB;simp only[go_sem]
    all_goals first|rfl|(and_intros<;>first|rfl|trivial)
   unfold jA jB;have l7:R7.2.length<=A.2.length+2000000:=by rw[oH];exact El iP _ _ _
   obtain⟨R8,mJ⟩:∃R,R=dx ns c 8 (!c.1) R7.2:=⟨_,rfl⟩
   have cc:=yN (t:=t) (fz:=fz) ns root R7.2 (fl||decide (30<R7.1.length)) c.1 (!c.1) (aG ns 8 c.2.2) h cT (aix (tv _ _ _) iP.len) (fun x hx=>hk x (eo hx).1) (fun x hx=>iP.fd x (eo hx).1) (by omega);unfold bO aL at cc;rw[<-hA,<-oH,<-mJ,wV,qI,hV,show bt ns 3 c=b3 from Em,show bt ns 4 c=b4 from En,show bt ns 5 c=b5 from wU]at hR;refine eM E [.U [0] [.sl (some 4) (ns.map aw),i64 root,.unk,.unk,.unk],.B [0] (bD ns root)] [.ptr (bD ns root),.agg [.bool c.1,.bool c.2.1,.sl none (c.2.2.map i64)],i64 8] (qA (G:=GT t fz) ns root 8 h c ju hk) ?_ ?_ rfl ?_ ⟨by simp only[go_sem],by first|(rw[ay];decide)|(simp only[go_sem]<;>(try rw[ay])<;>decide)⟩ ?_
   .rintro r ae ⟨zs,rfl,rfl,_,iQ⟩;exact⟨rfl,by simp[gX,Ob.flat,iQ]⟩
   .unfold bD;simp only[go_sem];refine⟨_,rfl,?_⟩;simp only[go_sem]
    first|exact .inr trivial|skip
   .unfold bD;simp only[go_sem]
   rintro _ _ ⟨z8,rfl,rfl,h8,f8⟩;simp only[go_sem];refine aH E ?_ ?_<;>intro g<;>simp only[go_sem]
   .have iR:bt ns 8 c=true:=decide_eq_true g;have gf:R8=kc ns c.1 (!c.1) (aG ns 8 c.2.2) R7.2:=by rw[mJ,dx,if_pos iR]
    rw[<-gf]at cc;rw[iR]at hR;refine jg E [72,0] none z8 rfl rfl ?_;refine jh E (ar [([2],[93])]) _ _ _ cc rfl (by simp only[go_sem];rw[h8]) ⟨by simp only[go_sem],by first|(rw[ay];decide)|(simp only[go_sem]<;>(try rw[ay])<;>decide)⟩ rfl (by simp only[go_sem]) (by simp only[go_sem]) ?_;rintro _ _ ⟨rfl,rfl⟩;refine⟨by simp only[go_sem];try simp,?_⟩;simp only[go_sem];subst hR;refine⟨_,_,[0,1,2,6,7],ar [([6],[84,6]),([7],[84,7])],⟨rfl,rfl⟩,?_⟩;unfold rO;simp only[go_sem]
   .have iR:bt ns 8 c=false:=decide_eq_false g;have gf:R8=([],R7.2):=by rw[mJ,dx,if_neg (by rw[iR];simp)]
    rw[iR]at hR;rw[gf]at hR;subst hR;refine⟨_,_,[0,1,2,6,7],ar [([6],[93]),([7],[96])],⟨rfl,rfl⟩,?_⟩;unfold rO;simp only[go_sem]
  .have qI:bt ns 7 c=false:=decide_eq_false g;have gf:R7=([],A.2):=by rw[oH,dx,if_neg (by rw[qI];simp)]
   refine tc E (τ:=ar [([93],[94])]) (s2:=mk (jA 70 71 c) (jB ns root R7.2 (fl||decide (30<R7.1.length)) 93 c b3 b4 b5 true false false V A.1.1 A.1.2 R7.1) [96,5,4,3,0,1,2,93]) (cF.le ?_) ?_
   .unfold jA jB;rw[gf,show(fl||decide (30<([]:List cn).length))=fl by simp];simp only[go_sem]
    all_goals first|rfl|(and_intros<;>first|rfl|trivial)
   unfold jA jB;have l7:R7.2.length<=A.2.length+2000000:=by rw[oH];exact El iP _ _ _
   obtain⟨R8,mJ⟩:∃R,R=dx ns c 8 (!c.1) R7.2:=⟨_,rfl⟩
   have cc:=yN (t:=t) (fz:=fz) ns root R7.2 (fl||decide (30<R7.1.length)) c.1 (!c.1) (aG ns 8 c.2.2) h cT (aix (tv _ _ _) iP.len) (fun x hx=>hk x (eo hx).1) (fun x hx=>iP.fd x (eo hx).1) (by omega);unfold bO aL at cc;rw[<-hA,<-oH,<-mJ,wV,qI,hV,show bt ns 3 c=b3 from Em,show bt ns 4 c=b4 from En,show bt ns 5 c=b5 from wU]at hR;refine eM E [.U [0] [.sl (some 4) (ns.map aw),i64 root,.unk,.unk,.unk],.B [0] (bD ns root)] [.ptr (bD ns root),.agg [.bool c.1,.bool c.2.1,.sl none (c.2.2.map i64)],i64 8] (qA (G:=GT t fz) ns root 8 h c ju hk) ?_ ?_ rfl ?_ ⟨by simp only[go_sem],by first|(rw[ay];decide)|(simp only[go_sem]<;>(try rw[ay])<;>decide)⟩ ?_
   .rintro r ae ⟨zs,rfl,rfl,_,iQ⟩;exact⟨rfl,by simp[gX,Ob.flat,iQ]⟩
   .unfold bD;simp only[go_sem];refine⟨_,rfl,?_⟩;simp only[go_sem]
    first|exact .inr trivial|skip
   .unfold bD;simp only[go_sem]
   rintro _ _ ⟨z8,rfl,rfl,h8,f8⟩;simp only[go_sem];refine aH E ?_ ?_<;>intro g<;>simp only[go_sem]
   .have iR:bt ns 8 c=true:=decide_eq_true g;have gf:R8=kc ns c.1 (!c.1) (aG ns 8 c.2.2) R7.2:=by rw[mJ,dx,if_pos iR]
    rw[<-gf]at cc;rw[iR]at hR;refine jg E [72,0] none z8 rfl rfl ?_;refine jh E (ar [([2],[93])]) _ _ _ cc rfl (by simp only[go_sem];rw[h8]) ⟨by simp only[go_sem],by first|(rw[ay];decide)|(simp only[go_sem]<;>(try rw[ay])<;>decide)⟩ rfl (by simp only[go_sem]) (by simp only[go_sem]) ?_;rintro _ _ ⟨rfl,rfl⟩;refine⟨by simp only[go_sem];try simp,?_⟩;simp only[go_sem];subst hR;refine⟨_,_,[0,1,2,6,7],ar [([6],[84,6]),([7],[84,7])],⟨rfl,rfl⟩,?_⟩;unfold rO;simp only[go_sem]
   .have iR:bt ns 8 c=false:=decide_eq_false g;have gf:R8=([],R7.2):=by rw[mJ,dx,if_neg (by rw[iR];simp)]
    rw[iR]at hR;rw[gf]at hR;subst hR;refine⟨_,_,[0,1,2,6,7],ar [([6],[93]),([7],[96])],⟨rfl,rfl⟩,?_⟩;unfold rO;simp only[go_sem]
 .have wV:bt ns 6 c=false:=decide_eq_false g;have gf:A=((0,0),W):=by rw[hA,eB,if_neg (by rw[wV];simp)]
  refine tc E (τ:=ar [([94],[95])]) (s2:=mk (jA 55 56 c) (jB ns root A.2 fl 94 c b3 b4 b5 false false false V A.1.1 A.1.2 []) [96,5,4,3,0,1,2,94]) (cF.le ?_) ?_
  .unfold jA jB;rw[gf];simp only[go_sem]
   all_goals first|rfl|(and_intros<;>first|rfl|trivial)
  unfold jA jB;have lA:A.2.length<=W.length+2:=by rw[hA];exact P8 _ _ _
  obtain⟨R7,oH⟩:∃R,R=dx ns c 7 c.1 A.2:=⟨_,rfl⟩
  have cb:=yN (t:=t) (fz:=fz) ns root A.2 fl c.1 c.1 (aG ns 7 c.2.2) h cT (aix (tv _ _ _) iP.len) (fun x hx=>hk x (eo hx).1) (fun x hx=>iP.fd x (eo hx).1) (by omega);unfold bO aL at cb;refine eM E [.U [0] [.sl (some 4) (ns.map aw),i64 root,.unk,.unk,.unk],.B [0] (bD ns root)] [.ptr (bD ns root),.agg [.bool c.1,.bool c.2.1,.sl none (c.2.2.map i64)],i64 7] (qA (G:=GT t fz) ns root 7 h c ju hk) ?_ ?_ rfl ?_ ⟨by simp only[go_sem],by first|(rw[ay];decide)|(simp only[go_sem]<;>(try rw[ay])<;>decide)⟩ ?_
  .rintro r ae ⟨zs,rfl,rfl,_,iQ⟩;exact⟨rfl,by simp[gX,Ob.flat,iQ]⟩
  .unfold bD;simp only[go_sem];refine⟨_,rfl,?_⟩;simp only[go_sem]
   first|exact .inr trivial|skip
  .unfold bD;simp only[go_sem]
  rintro _ _ ⟨z7,rfl,rfl,h7,f7⟩;simp only[go_sem];refine aH E ?_ ?_<;>intro g<;>simp only[go_sem]
  .have qI:bt ns 7 c=true:=decide_eq_true g;have gf:R7=kc ns c.1 c.1 (aG ns 7 c.2.2) A.2:=by rw[oH,dx,if_pos qI]
   rw[<-gf]at cb;refine jg E [57,0] none z7 rfl rfl ?_;refine jh E (ar [([2],[94])]) _ _ _ cb rfl (by simp only[go_sem];rw[h7]) ⟨by simp only[go_sem],by first|(rw[ay];decide)|(simp only[go_sem]<;>(try rw[ay])<;>decide)⟩ rfl (by simp only[go_sem]) (by simp only[go_sem]) ?_;rintro _ _ ⟨rfl,rfl⟩;refine⟨by simp only[go_sem];try simp,?_⟩;simp only[go_sem];refine jg E [68,7] (some 2) (R7.1.map bf) rfl rfl ?_;refine tc E (τ:=ar [([93],[68,6])]) (s2:=mk (jA 70 71 c) (jB ns root R7.2 (fl||decide (30<R7.1.length)) 93 c b3 b4 b5 false true false V A.1.1 A.1.2 R7.1) [96,5,4,3,0,1,2,93]) (cF.le ?_) ?_
   .unfold jA jB;simp only[go_sem]
    all_goals first|rfl|(and_intros<;>first|rfl|trivial)
   unfold jA jB;have l7:R7.2.length<=A.2.length+2000000:=by rw[oH];exact El iP _ _ _
   obtain⟨R8,mJ⟩:∃R,R=dx ns c 8 (!c.1) R7.2:=⟨_,rfl⟩
   have cc:=yN (t:=t) (fz:=fz) ns root R7.2 (fl||decide (30<R7.1.length)) c.1 (!c.1) (aG ns 8 c.2.2) h cT (aix (tv _ _ _) iP.len) (fun x hx=>hk x (eo hx).1) (fun x hx=>iP.fd x (eo hx).1) (by omega);unfold bO aL at cc;rw[<-hA,<-oH,<-mJ,wV,qI,hV,show bt ns 3 c=b3 from Em,show bt ns 4 c=b4 from En,show bt ns 5 c=b5 from wU]at hR;refine eM E [.U [0] [.sl (some 4) (ns.map aw),i64 root,.unk,.unk,.unk],.B [0] (bD ns root)] [.ptr (bD ns root),.agg [.bool c.1,.bool c.2.1,.sl none (c.2.2.map i64)],i64 8] (qA (G:=GT t fz) ns root 8 h c ju hk) ?_ ?_ rfl ?_ ⟨by simp only[go_sem],by first|(rw[ay];decide)|(simp only[go_sem]<;>(try rw[ay])<;>decide)⟩ ?_
   .rintro r ae ⟨zs,rfl,rfl,_,iQ⟩;exact⟨rfl,by simp[gX,Ob.flat,iQ]⟩
   .unfold bD;simp only[go_sem];refine⟨_,rfl,?_⟩;simp only[go_sem]
    first|exact .inr trivial|skip
   .unfold bD;simp only[go_sem]
   rintro _ _ ⟨z8,rfl,rfl,h8,f8⟩;simp only[go_sem];refine aH E ?_ ?_<;>intro g<;>simp only[go_sem]
   .have iR:bt ns 8 c=true:=decide_eq_true g;have gf:R8=kc ns c.1 (!c.1) (aG ns 8 c.2.2) R7.2:=by rw[mJ,dx,if_pos iR]
    rw[<-gf]at cc;rw[iR]at hR;refine jg E [72,0] none z8 rfl rfl ?_;refine jh E (ar [([2],[93])]) _ _ _ cc rfl (by simp only[go_sem];rw[h8]) ⟨by simp only[go_sem],by first|(rw[ay];decide)|(simp only[go_sem]<;>(try rw[ay])<;>decide)⟩ rfl (by simp only[go_sem]) (by simp only[go_sem]) ?_;rintro _ _ ⟨rfl,rfl⟩;refine⟨by simp only[go_sem];try simp,?_⟩;simp only[go_sem];subst hR;refine⟨_,_,[0,1,2,6,7],ar [([6],[84,6]),([7],[84,7])],⟨rfl,rfl⟩,?_⟩;unfold rO;simp only[go_sem]
   .have iR:bt ns 8 c=false:=decide_eq_false g;have gf:R8=([],R7.2):=by rw[mJ,dx,if_neg (by rw[iR];simp)]
    rw[iR]at hR;rw[gf]at hR;subst hR;refine⟨_,_,[0,1,2,6,7],ar [([6],[93]),([7],[96])],⟨rfl,rfl⟩,?_⟩;unfold rO;simp only[go_sem]
  .have qI:bt ns 7 c=false:=decide_eq_false g;have gf:R7=([],A.2):=by rw[oH,dx,if_neg (by rw[qI];simp)]
   refine tc E (τ:=ar [([93],[94])]) (s2:=mk (jA 70 71 c) (jB ns root R7.2 (fl||decide (30<R7.1.length)) 93 c b3 b4 b5 false false false V A.1.1 A.1.2 R7.1) [96,5,4,3,0,1,2,93]) (cF.le ?_) ?_
   .unfold jA jB;rw[gf,show(fl||decide (30<([]:List cn).length))=fl by simp];simp only[go_sem]
    all_goals first|rfl|(and_intros<;>first|rfl|trivial)
   unfold jA jB;have l7:R7.2.length<=A.2.length+2000000:=by rw[oH];exact El iP _ _ _
   obtain⟨R8,mJ⟩:∃R,R=dx ns c 8 (!c.1) R7.2:=⟨_,rfl⟩
   have cc:=yN (t:=t) (fz:=fz) ns root R7.2 (fl||decide (30<R7.1.length)) c.1 (!c.1) (aG ns 8 c.2.2) h cT (aix (tv _ _ _) iP.len) (fun x hx=>hk x (eo hx).1) (fun x hx=>iP.fd x (eo hx).1) (by omega);unfold bO aL at cc;rw[<-hA,<-oH,<-mJ,wV,qI,hV,show bt ns 3 c=b3 from Em,show bt ns 4 c=b4 from En,show bt ns 5 c=b5 from wU]at hR;refine eM E [.U [0] [.sl (some 4) (ns.map aw),i64 root,.unk,.unk,.unk],.B [0] (bD ns root)] [.ptr (bD ns root),.agg [.bool c.1,.bool c.2.1,.sl none (c.2.2.map i64)],i64 8] (qA (G:=GT t fz) ns root 8 h c ju hk) ?_ ?_ rfl ?_ ⟨by simp only[go_sem],by first|(rw[ay];decide)|(simp only[go_sem]<;>(try rw[ay])<;>decide)⟩ ?_
   .rintro r ae ⟨zs,rfl,rfl,_,iQ⟩;exact⟨rfl,by simp[gX,Ob.flat,iQ]⟩
   .unfold bD;simp only[go_sem];refine⟨_,rfl,?_⟩;simp only[go_sem]
    first|exact .inr trivial|skip
   .unfold bD;simp only[go_sem]
   rintro _ _ ⟨z8,rfl,rfl,h8,f8⟩;simp only[go_sem];refine aH E ?_ ?_<;>intro g<;>simp only[go_sem]
   .have iR:bt ns 8 c=true:=decide_eq_true g;have gf:R8=kc ns c.1 (!c.1) (aG ns 8 c.2.2) R7.2:=by rw[mJ,dx,if_pos iR]
    rw[<-gf]at cc;rw[iR]at hR;refine jg E [72,0] none z8 rfl rfl ?_;refine jh E (ar [([2],[93])]) _ _ _ cc rfl (by simp only[go_sem];rw[h8]) ⟨by simp only[go_sem],by first|(rw[ay];decide)|(simp only[go_sem]<;>(try rw[ay])<;>decide)⟩ rfl (by simp only[go_sem]) (by simp only[go_sem]) ?_;rintro _ _ ⟨rfl,rfl⟩;refine⟨by simp only[go_sem];try simp,?_⟩;simp only[go_sem];subst hR;refine⟨_,_,[0,1,2,6,7],ar [([6],[84,6]),([7],[84,7])],⟨rfl,rfl⟩,?_⟩;unfold rO;simp only[go_sem]
   .have iR:bt ns 8 c=false:=decide_eq_false g;have gf:R8=([],R7.2):=by rw[mJ,dx,if_neg (by rw[iR];simp)]
    rw[iR]at hR;rw[gf]at hR;subst hR;refine⟨_,_,[0,1,2,6,7],ar [([6],[93]),([7],[96])],⟨rfl,rfl⟩,?_⟩;unfold rO;simp only[go_sem]
theorem ad3(ns:List TN)(root:Int)(W:List aB)(fl:Bool)(c:aB)(h:dO ns)(cT:∀n∈ns,n.l.length<=1000)(iP:Ek ns c)(hW:W.length<=100000) :
  bA prog (GT t fz) 19 [.bx [0] 0,.d (fY c)] (bO ns root W fl 2) [0,1,2] (fun r ae=>r=.d (gE (eO ns c W).1)∧ae=bO ns root (eO ns c W).2 ((fl||decide (30<(eO ns c W).1.fl.length))||decide (30<(eO ns c W).1.tl.length)) 6):=by
 refine bA.fA (ad1 (t:=t) (fz:=fz) ns root W fl c h cT iP hW) [7] ?_;rintro r ae ⟨rfl,rfl⟩;generalize eO ns c W=R;generalize (fl||decide (30<R.1.fl.length)||decide (30<R.1.tl.length))=b;refine⟨some 2,R.1.tl.map bf,?_,?_,?_⟩
 .unfold bO;simp only[go_sem]
 .unfold rO;rw[sY];simp only[go_sem]
 .unfold bO;simp only[go_sem]
end Go.Proofs.YtpmniabdmbmafaaGreatDoor

namespace Go.Proofs.YtpmniabdmbmafaaGreatDoor
open Go.Ab
def nC(ns:List TN)(c:aB):Prop:=c.2.2.length<=2000∧∀x∈c.2.2,aC ns x
def lu(ns:List TN)(W:List aB):Prop:=∀c∈W,nC ns c
structure rP(ns:List TN):Prop where
 fn:∀i,aC ns i->ag ns i=6->aC ns (nd ns i.toNat).a∧aC ns (nd ns i.toNat).b
 fd:∀i,aC ns i->(nd ns i.toNat).l.length<=1000∧∀q∈(nd ns i.toNat).l,q.1.length<=1000000∧aC ns q.2
theorem nC.kids{ns:List TN}{c:aB}(h:nC ns c)(ha:rP ns):Ek ns c:=⟨h.1,h.2,fun x hx=>ha.fn x (h.2 x hx),fun x hx=>ha.fd x (h.2 x hx)⟩
theorem yP{ns:List TN}(h:dO ns){p:Bool}{l:List Int}(hk:∀x∈l,aC ns x):nC ns (a8 ns p l):=by
 have h1:=IP h hk;have h2:=D5 h hk;unfold a8;split
 .exact⟨aie _,by simp⟩
 .exact⟨aix (aiF _ _) h1,fun x hx=>h2 x (ait.1 hx).1⟩
theorem Eo{ns:List TN}{W:List aB}{c:aB}(hW:lu ns W)(hc:nC ns c):lu ns (bV W c).2:=by
 unfold bV;split
 .exact hW
 .intro d hd;rcases ah1.1 hd with hd|hd
  .exact hW d hd
  .rw[ahZ.1 hd];exact hc
theorem ad4{ns:List TN}(h:dO ns)(ha:rP ns){p:Bool}{l:List Int}{W:List aB}(hW:lu ns W)(hl:∀x∈l,aC ns x∧ag ns x=6):lu ns (j9 ns p l W).2:=by
 unfold j9;refine Eo (Eo hW (yP h fun x hx=>?_)) (yP h fun x hx=>?_)
 .obtain⟨y,hy,rfl⟩:=ah9.1 hx;exact(ha.fn y (hl y hy).1 (hl y hy).2).1
 .obtain⟨y,hy,rfl⟩:=ah9.1 hx;exact(ha.fn y (hl y hy).1 (hl y hy).2).2
theorem ad5{ns:List TN}(h:dO ns)(ha:rP ns){p wh:Bool}{l:List Int}{W:List aB}(hW:lu ns W)(hl:∀x∈l,aC ns x):lu ns (kc ns p wh l W).2:=by
 have hF:=I4 (P:=fun k=>k.length<=1000000) (R:=fun x=>aC ns x) (ns:=ns) (l:=l) fun x hx=>ha.fd x (hl x hx);unfold kc ve
 have key:∀(S:List (List UInt8)) (s:List cn×List aB),(∀k∈S,k∈(kL ns l).map (·.1))->lu ns s.2->lu ns (S.foldl (qG ns p wh l.length (kL ns l)) s).2:=by
  intro S
  induction S with
  |nil=>intro s _ hs;exact hs
  |cons k r ih =>
    intro s hk hs;rw[List.foldl_cons];refine ih _ (fun x hx=>hk x (ah8 _ hx)) ?_;unfold qG;split
    .exact Eo hs (yP h (hF.vl _ (yM (hk k ah0))))
    .exact hs
 exact key _ _ (fun k hk=>akh.1 hk) hW
theorem I9{ns:List TN}(h:dO ns)(ha:rP ns){c:aB}{W:List aB}(hW:lu ns W)(hc:nC ns c):lu ns (eO ns c W).2:=by
 have h6:lu ns (eB ns c W).2:=by
  unfold eB;split
  .exact ad4 h ha hW fun x hx=>⟨hc.2 x (eo hx).1,(eo hx).2⟩
  .exact hW
 have hE:∀(k:Int) (wh:Bool) (V:List aB),lu ns V->lu ns (dx ns c k wh V).2:=fun k wh V hV=>by
  unfold dx;split
  .exact ad5 h ha hV fun x hx=>hc.2 x (eo hx).1
  .exact hV
 exact hE _ _ _ (hE _ _ _ h6)
noncomputable def kM(ns:List TN)(n:Int):Nat->List EA->List aB->Option (List EA)
 |0,_,_=>none
 |f+1,L,W=>if h:L.length<W.length then
   if((decide (30<(eO ns W[L.length] W).1.fl.length)||decide (30<(eO ns W[L.length] W).1.tl.length))||decide (n<((eO ns W[L.length] W).2.length:Int)))=true then none
   else kM ns n f (L++[(eO ns W[L.length] W).1]) (eO ns W[L.length] W).2
  else some L
end Go.Proofs.YtpmniabdmbmafaaGreatDoor

namespace Go.Proofs.YtpmniabdmbmafaaGreatDoor
open Go.Ab
def Bs(c:UInt8):Bool:=decide (48<=c.toNat)&&decide (c.toNat<=57)
def yQ(l:List UInt8):Nat:=l.foldl (fun v c=>10*v+(c.toNat-48)) 0
theorem ad6(l:List UInt8)(c:UInt8):yQ (l++[c])=10*yQ l+(c.toNat-48):=by simp[yQ]
theorem P9{d:Nat}(h:d<10):Bs (UInt8.ofNat (48+d))=true∧(UInt8.ofNat (48+d)).toNat=48+d:=by
 have e:(UInt8.ofNat (48+d)).toNat=48+d:=by rw[UInt8.toNat_ofNat'];omega
 refine⟨?_,e⟩;unfold Bs;rw[e,decide_eq_true (by omega),decide_eq_true (by omega)];rfl
theorem ad7(u:Nat):yQ (Lib.decDigits u)=u∧(Lib.decDigits u).all Bs=true:=by
 induction u using Nat.strongRecOn with
 |ind u ih =>
   by_cases h:u<10
   .rw[Lib.decDigits,dif_pos h];obtain⟨h1,h2⟩:=P9 h;generalize UInt8.ofNat (48+u)=c at *
    exact⟨by simp[yQ,h2],by simp[h1]⟩
   .rw[Lib.decDigits,dif_neg h];obtain⟨h1,h2⟩:=P9 (d:=u % 10) (by omega);generalize UInt8.ofNat (48+u % 10)=c at *
    obtain⟨g1,g2⟩:=ih (u / 10) (by omega);exact⟨by rw[ad6,g1,h2];omega,by simp[g2,h1]⟩
theorem yR{x:Int}(h:0<=x):(yQ (Lib.itoa x):Int)=x∧(Lib.itoa x).all Bs=true:=by
 unfold Lib.itoa;rw[if_neg (by omega)];obtain⟨h1,h2⟩:=ad7 x.toNat;exact⟨by rw[h1];omega,h2⟩
theorem ad8{x y:Int}(hx:0<=x)(hy:0<=y)(h:Lib.itoa x=Lib.itoa y):x=y:=by
 rw[<-(yR hx).1,<-(yR hy).1,h]
def Bt:List UInt8->Prop
 |[]=>True
 |c::_=>c=32
theorem pieces{u v A B:List UInt8}(hu:(32:UInt8)∉u)(hv:(32:UInt8)∉v)(hA:Bt A)(hB:Bt B)(h:u++A=v++B):u=v∧A=B:=by
 induction u generalizing v with
 |nil =>
   cases v with
   |nil=>exact⟨rfl,h⟩
   |cons c v =>
     rw[List.nil_append,List.cons_append]at h;subst h;exact absurd (show(32:UInt8)∈c::v by rw[show c=32 from hA];exact ah0) hv
 |cons c u ih =>
   cases v with
   |nil =>
     rw[List.nil_append,List.cons_append]at h;subst h;exact absurd (show(32:UInt8)∈c::u by rw[show c=32 from hB];exact ah0) hu
   |cons d v =>
     rw[List.cons_append,List.cons_append]at h;obtain⟨h1,h2⟩:=akZ h;obtain⟨e1,e2⟩:=ih (fun hm=>hu (ah8 _ hm)) (fun hm=>hv (ah8 _ hm)) h2;exact⟨by rw[h1,e1],e2⟩
theorem Ja{l:List UInt8}(h:l.all Bs=true):(32:UInt8)∉l:=fun hm=>by
 have:=aio.1 h _ hm;exact absurd this (by decide)
theorem wW(l:List Int):Bt ((l.map Lib.itoa).flatMap (kJ++·)):=by
 cases l with
 |nil=>exact trivial
 |cons x r=>exact rfl
theorem Qa:∀{a b:List Int},(∀x∈a,0<=x)->(∀x∈b,0<=x)->(a.map Lib.itoa).flatMap (kJ++·)=(b.map Lib.itoa).flatMap (kJ++·)->a=b
 |[],[],_,_,_=>rfl
 |[],y::b,_,_,h=>by simp[kJ]at h
 |x::a,[],_,_,h=>by simp[kJ]at h
 |x::a,y::b,ha,hb,h=>by
   have hx:=ha x ah0;have hy:=hb y ah0;rw[aid,aid,ajS,ajS,aiS,aiS]at h;have h':=List.append_cancel_left h;obtain⟨e1,e2⟩:=pieces (Ja (yR hx).2) (Ja (yR hy).2) (wW a) (wW b) h';rw[ad8 hx hy e1,Qa (fun z hz=>ha z (ah8 _ hz)) (fun z hz=>hb z (ah8 _ hz)) e2]
def nE(c:aB):Prop:=(∀x∈c.2.2,0<=x)∧(c.2.1=true->c.2.2=[])
theorem Ep:Bt [32,97,108,108]:=rfl
theorem vh(b:Bool):(32:UInt8)∉qD b:=by cases b<;>decide
theorem Qb{a b:Bool}(h:qD a=qD b):a=b:=by revert h;cases a<;>cases b<;>decide
theorem Qc(l:List Int)(hl:∀x∈l,0<=x):([32,97,108,108]:List UInt8)≠(l.map Lib.itoa).flatMap (kJ++·):=fun h=>by
 cases l with
 |nil=>cases h
 |cons x r =>
   have hx:=hl x ah0;rw[aid,ajS,aiS]at h
   have h':([97,108,108]:List UInt8)++[]=Lib.itoa x++(r.map Lib.itoa).flatMap (kJ++·):=by
    have:=(akZ h).2;simpa using this
   obtain⟨e1,_⟩:=pieces (by decide) (Ja (yR hx).2) (show Bt []from trivial) (wW r) h';have h2:=(yR hx).2;rw[<-e1]at h2;exact absurd h2 (by decide)
theorem key_inj{c d:aB}(hc:nE c)(hd:nE d)(h:jO c=jO d):c=d:=by
 obtain⟨p,a,l⟩:=c;obtain⟨q,b,m⟩:=d;obtain⟨p9,kY⟩:=hc;obtain⟨rz,Er⟩:=hd;simp only at p9 kY rz Er;unfold jO at h;simp only[aid,D8]at h
 cases a with
 |true =>
   have hl:=kY rfl;subst hl
   cases b with
   |true =>
     have hm:=Er rfl;subst hm;rw[if_pos rfl,if_pos rfl]at h;obtain⟨e1,_⟩:=pieces (vh p) (vh q) Ep Ep h;rw[Qb e1]
   |false =>
     rw[if_pos rfl,if_neg (by simp)]at h;obtain⟨_,e2⟩:=pieces (vh p) (vh q) Ep (wW m) h;exact absurd e2 (Qc m rz)
 |false =>
   cases b with
   |true =>
     rw[if_neg (by simp),if_pos rfl]at h;obtain⟨_,e2⟩:=pieces (vh p) (vh q) (wW l) Ep h;exact absurd e2.symm (Qc l p9)
   |false =>
     rw[if_neg (by simp),if_neg (by simp)]at h;obtain⟨e1,e2⟩:=pieces (vh p) (vh q) (wW l) (wW m) h;rw[Qb e1,Qa p9 rz e2]
def wX(c:aB):Nat->List aB->Option Nat
 |_,[]=>none
 |n,d::r=>if d=c then some n else wX c (n+1) r
theorem Es{c:aB}(hc:nE c):∀{W:List aB} (n:Nat),(∀d∈W,nE d)->qE (jO c) n W=wX c n W
 |[],_,_=>rfl
 |d::r,n,h=>by
   rw[qE,wX,Es hc (n+1) fun x hx=>h x (ah8 _ hx)];by_cases e:d=c
   .rw[if_pos e,if_pos (by rw[e])]
   .rw[if_neg e,if_neg fun hk=>e (key_inj (h d ah0) hc hk)]
theorem Qd{c:aB}:∀{W:List aB} {n:Nat},(∀j,j<W.length->W.getD j default≠c)->wX c n W=none
 |[],_,_=>rfl
 |d::r,n,h=>by
   rw[wX,if_neg (by simpa using h 0 (Nat.succ_pos _))];exact Qd fun j hj=>by simpa using h (j+1) (by simpa using hj)
theorem Qe{c:aB}{W:List aB}(hc:nE c)(hW:∀d∈W,nE d)(h:∀j,j<W.length->W.getD j default≠c):bV W c=(W.length,W++[c]):=by
 unfold bV;rw[Es hc 0 hW,Qd h]
theorem Bu{ns:List TN}(h:dO ns){p:Bool}{l:List Int}(hk:∀x∈l,aC ns x):nE (a8 ns p l):=by
 refine⟨fun x hx=>((yP h hk).2 x hx).1,fun ha=>?_⟩;unfold a8 at ha ⊢;split at ha<;>rename_i he
 .rw[if_pos he]
 .cases ha
end Go.Proofs.YtpmniabdmbmafaaGreatDoor

namespace Go.Proofs.YtpmniabdmbmafaaGreatDoor
open Go.Ab
abbrev kg(l:List (List UInt8)):Prop:=l.Pairwise (· < ·)
theorem Et{x:List UInt8}:¬x<x:=List.lt_irrefl x
theorem Jb{x y z:List UInt8}(h1:x<y)(h2:y<z):x<z:=ak0 h1 h2
theorem Qf{x y:List UInt8}(h1:¬x<y)(h2:y≠x):y<x:=by
 have h3:y<=x:=List.not_lt.1 h1;exact List.not_le.1 fun h4=>h2 (List.le_antisymm h3 h4)
theorem Qg:∀{a b:List (List UInt8)},kg a->kg b->(∀x,x∈a↔x∈b)->a=b
 |[],[],_,_,_=>rfl
 |[],y::r,_,_,h=>absurd ((h y).2 ah0) (by simp)
 |x::r,[],_,_,h=>absurd ((h x).1 ah0) (by simp)
 |x::a,y::b,ha,hb,h=>by
   have ha':=ajs.1 ha;have fg:=ajs.1 hb
   have e:x=y:=by
    rcases ah6.1 ((h x).1 ah0)with e|hx
    .exact e
    .rcases ah6.1 ((h y).2 ah0)with e|hy
     .exact e.symm
     .exact absurd (Jb (fg.1 x hx) (ha'.1 y hy)) Et
   subst e;rw[Qg ha'.2 fg.2 fun z=>?_];constructor
   .intro hz;rcases ah6.1 ((h z).1 (ah8 _ hz))with e|gO
    .exact absurd (e▸ha'.1 z hz) Et
    .exact gO
   .intro hz;rcases ah6.1 ((h z).2 (ah8 _ hz))with e|gO
    .exact absurd (e▸fg.1 z hz) Et
    .exact gO
def jC(x:List UInt8):List (List UInt8)->Nat
 |[]=>0
 |y::r=>if y<x then jC x r+1 else 0
theorem Qh{x:List UInt8}:∀{l:List (List UInt8)} {i:Nat} (h:i<l.length),i<jC x l->l[i]<x
 |[],i,h,_=>absurd h (aiW _)
 |y::r,i,h,hi=>by
   rw[jC]at hi;split at hi
   .rename_i hy
    cases i with
    |zero=>exact hy
    |succ i=>exact Qh (l:=r) (by simpa using h) (by omega)
   .exact absurd hi (aiW _)
theorem Qi{x:List UInt8}:∀{l:List (List UInt8)} (h:jC x l<l.length),¬l[jC x l]<x
 |[],h=>absurd h (aiW _)
 |y::r,h=>by
   by_cases hy:y<x
   .have e:jC x (y::r)=jC x r+1:=by rw[jC,if_pos hy]
    have h':jC x r<r.length:=by rw[e]at h;simpa using h
    have:=Qi h';simp only[e,List.getElem_cons_succ];exact this
   .have e:jC x (y::r)=0:=by rw[jC,if_neg hy]
    simp only[e,List.getElem_cons_zero];exact hy
def Bv(l:List (List UInt8))(x:List UInt8):List (List UInt8):=if x∈l then l else l.take (jC x l)++x::l.drop (jC x l)
theorem ad9(l:List (List UInt8))(x z:List UInt8):z∈Bv l x↔z∈l∨z=x:=by
 unfold Bv;split
 .rename_i h;exact⟨.inl,fun g=>g.elim id fun e=>e▸h⟩
 .rw[ah1,ah6];have:=ajJ (jC x l) l;have hm:z∈l↔z∈l.take (jC x l)∨z∈l.drop (jC x l):=by rw[<-ah1,this]
  rw[hm];constructor
  .rintro(h|rfl|h)
   .exact .inl (.inl h)
   .exact .inr rfl
   .exact .inl (.inr h)
  .rintro((h|h)|rfl)
   .exact .inl h
   .exact .inr (.inr h)
   .exact .inr (.inl rfl)
theorem aea{l:List (List UInt8)}(h:kg l)(x:List UInt8):kg (Bv l x):=by
 unfold Bv;split
 .exact h
 .rename_i hx
  have h1:∀z∈l.take (jC x l),z<x:=fun z hz=>by
   obtain⟨i,hi,rfl⟩:=aiB hz;rw[air]at hi;rw[aj4];exact Qh (by omega) (by omega)
  have h2:∀z∈l.drop (jC x l),x<z:=fun z hz=>by
   obtain⟨i,hi,rfl⟩:=aiB hz;rw[akO]at hi;have h3:=Qi (x:=x) (l:=l) (by omega);have aJ:l[jC x l]'(by omega)≠x:=fun e=>hx (e▸ah2 _);have h4:=Qf h3 aJ.symm;rw[List.getElem_drop]
   cases i with
   |zero=>simpa using h4
   |succ i=>exact Jb h4 (ajl.1 h (jC x l) (jC x l+(i+1)) (by omega) (by omega) (by omega))
  rw[kg,aky];refine⟨h.sublist (List.take_sublist _ _),ajs.2 ⟨h2,h.sublist (List.drop_sublist _ _)⟩,fun a ha b hb=>?_⟩;have:=h1 a ha;rcases ah6.1 hb with rfl|hb
  .exact this
  .exact Jb this (h2 b hb)
def dX(ns:List TN)(l:List Int)(s:List UInt8):List Int:=l.flatMap fun x=>((nd ns x.toNat).l.filter fun q=>q.1 == s).map (·.2)
def hasB(ns:List TN)(s:List UInt8)(x:Int):Bool:=decide (0<(dX ns [x] s).length)
def tw(ns:List TN)(l:List Int)(s:List UInt8):Nat:=(l.filter (hasB ns s)).length
def vk(ns:List TN)(l:List Int)(all:Bool)(out:List (List UInt8))(q:cn):List (List UInt8):=if(decide (tw ns l q.1=l.length)||!all)=true then Bv out q.1 else out
def rQ(ns:List TN)(l:List Int)(all:Bool):List (List UInt8):=l.foldl (fun out x=>(nd ns x.toNat).l.foldl (vk ns l all) out) []
theorem Qj(ns:List TN)(s:List UInt8)(x:Int):hasB ns s x=(nd ns x.toNat).l.any fun q=>q.1 == s:=by
 unfold hasB dX;rw[ajS,List.flatMap_nil,aiR,aik]
 induction (nd ns x.toNat).l with
 |nil=>rfl
 |cons q r ih =>
   rw[ajA,List.any_cons]
   cases q.1 == s with
   |true=>simp
   |false=>simpa using ih
theorem Qk(ns:List TN)(l:List Int)(all:Bool):∀(fs:List cn) (out:List (List UInt8)),kg out->kg (fs.foldl (vk ns l all) out)∧∀z,z∈fs.foldl (vk ns l all) out↔z∈out∨((decide (tw ns l z=l.length)||!all)=true∧z∈fs.map (·.1))
 |[],out,h=>⟨h,fun z=>by simp⟩
 |q::r,out,h=>by
   have h1:kg (vk ns l all out q):=by
    unfold vk;split
    .exact aea h _
    .exact h
   obtain⟨i1,i2⟩:=Qk ns l all r _ h1;refine⟨i1,fun z=>?_⟩;rw[List.foldl_cons,i2,aid,ah6];unfold vk;by_cases hc:(decide (tw ns l q.1=l.length)||!all)=true
   .rw[if_pos hc,ad9];constructor
    .rintro((h|rfl)|h)
     .exact .inl h
     .exact .inr ⟨hc,.inl rfl⟩
     .exact .inr ⟨h.1,.inr h.2⟩
    .rintro(h|⟨h,rfl|h'⟩)
     .exact .inl (.inl h)
     .exact .inl (.inr rfl)
     .exact .inr ⟨h,h'⟩
   .rw[if_neg hc];constructor
    .rintro(h|h)
     .exact .inl h
     .exact .inr ⟨h.1,.inr h.2⟩
    .rintro(h|⟨h,rfl|h'⟩)
     .exact .inl h
     .exact absurd h hc
     .exact .inr ⟨h,h'⟩
theorem Eu(ns:List TN)(l:List Int)(all:Bool):kg (rQ ns l all)∧∀z,z∈rQ ns l all↔(decide (tw ns l z=l.length)||!all)=true∧∃x∈l,z∈(nd ns x.toNat).l.map (·.1):=by
 have key:∀(r:List Int) (out:List (List UInt8)),kg out->kg (r.foldl (fun out x=>(nd ns x.toNat).l.foldl (vk ns l all) out) out) ∧
   ∀z,z∈r.foldl (fun out x=>(nd ns x.toNat).l.foldl (vk ns l all) out) out↔z∈out∨((decide (tw ns l z=l.length)||!all)=true∧∃x∈r,z∈(nd ns x.toNat).l.map (·.1)):=by
  intro r
  induction r with
  |nil=>intro out h;exact⟨h,fun z=>by simp⟩
  |cons x r ih =>
    intro out h;obtain⟨g1,g2⟩:=Qk ns l all (nd ns x.toNat).l out h;obtain⟨i1,i2⟩:=ih _ g1;refine⟨i1,fun z=>?_⟩;rw[List.foldl_cons,i2,g2];constructor
    .rintro((h|h)|⟨h,y,hy,hz⟩)
     .exact .inl h
     .exact .inr ⟨h.1,x,ah0,h.2⟩
     .exact .inr ⟨h,y,ah8 _ hy,hz⟩
    .rintro(h|⟨h,y,hy,hz⟩)
     .exact .inl (.inl h)
     .rcases ah6.1 hy with rfl|hy
      .exact .inl (.inr ⟨h,hz⟩)
      .exact .inr ⟨h,y,hy,hz⟩
 obtain⟨k1,k2⟩:=key l [] .nil;exact⟨k1,fun z=>by rw[rQ,k2];simp⟩
theorem Bw{F:FT}{k:List UInt8}{L:List Int}(hnd:(F.map (·.1)).Nodup)(h:(k,L)∈F):eX F k=L:=by
 have hk:k∈F.map (·.1):=ah9.2 ⟨_,h,rfl⟩;have h2:=yM hk
 have key:∀(F:FT),(F.map (·.1)).Nodup->(k,L)∈F->(k,eX F k)∈F->eX F k=L:=by
  intro F hnd h1 h2;generalize eX F k=M at h2
  induction F with
  |nil=>cases h1
  |cons q r ih =>
    rw[aid,ai3]at hnd;rcases ah6.1 h1 with e1|g1<;>rcases ah6.1 h2 with e2|g2
    .exact(ajr (e2.trans e1.symm)).2
    .exact absurd (ah9.2 ⟨(k,M),g2,by rw[<-e1]⟩:q.1∈r.map (·.1)) hnd.1
    .exact absurd (ah9.2 ⟨(k,L),g1,by rw[<-e2]⟩:q.1∈r.map (·.1)) hnd.1
    .exact ih hnd.2 g1 g2
 exact key F hnd h h2
theorem Bx{F:FT}{k:List UInt8}(h:k∉F.map (·.1)):eX F k=[]:=by
 unfold eX
 cases hf:F.find? fun q=>q.1 == k with
 |none=>rfl
 |some q =>
   have h1:=ajV hf;have h2:=akx hf;exact absurd (ah9.2 ⟨q,h1,by simpa using h2⟩) h
theorem aeb{F:FT}{k:List UInt8}{v:Int}(hnd:(F.map (·.1)).Nodup):((nB F k v).map (·.1)).Nodup∧∀z,(z∈(nB F k v).map (·.1)↔z∈F.map (·.1)∨z=k)∧eX (nB F k v) z=eX F z++(if k == z then[v]else[]):=by
 unfold nB
 cases hm:eU (F.map (·.1)) k with
 |some m =>
   have hg:=Eh hm;rw[aii,ah4]at hg;obtain⟨q,hq,xL⟩:=hg;have mW:=(ah3.1 hq).1;have zJ:F.getD m ([],[])=q:=by rw[ahX,hq];rfl
   simp only[zJ]
   have oF:(F.set m (k,q.2++[v])).map (·.1)=F.map (·.1):=by
    apply aiY;intro i;rw[aii,aii,ajm];by_cases e:m=i
    .subst e;rw[if_pos rfl,if_pos mW,hq,Option.map_some,Option.map_some,xL]
    .rw[if_neg e]
   have Ql:q∈F:=aiz hq;refine⟨by rw[oF];exact hnd,fun z=>⟨?_,?_⟩⟩
   .rw[oF];constructor
    .exact .inl
    .rintro(h|rfl)
     .exact h
     .exact ah9.2 ⟨q,Ql,xL⟩
   .by_cases hz:z=k
    .subst hz;rw[if_pos (by simp)];have e1:eX F z=q.2:=Bw hnd (by rw[<-xL];exact Ql);rw[e1];exact Bw (by rw[oF];exact hnd) (ajq.2 ⟨m,by rw[ajm,if_pos rfl,if_pos mW]⟩)
    .rw[if_neg (by simpa using fun e=>hz e.symm),aiR];by_cases wY:z∈F.map (·.1)
     .have h1:=yM wY;obtain⟨i,hi⟩:=ajq.1 h1
      have aJ:m≠i:=fun e=>by
       subst e;rw[hq]at hi;exact hz (by rw[<-xL,ais hi])
      exact Bw (by rw[oF];exact hnd) (ajq.2 ⟨i,by rw[ajm,if_neg aJ];exact hi⟩)
     .rw[Bx wY,Bx (by rw[oF];exact wY)]
 |none =>
   have bH:=I1 hm
   have Jc:((F++[(k,[v])]).map (·.1)).Nodup:=by
    rw[ail,aiZ];exact⟨hnd,by simp,fun a ha b hb e=>bH (by have h2:b=k:=ahZ.1 hb;rw[<-h2,<-e];exact ha)⟩
   refine⟨Jc,fun z=>⟨by simp,?_⟩⟩;by_cases hz:z=k
   .subst hz;rw[if_pos (by simp),Bx bH];exact Bw Jc (ajd _ ah0)
   .rw[if_neg (by simpa using fun e=>hz e.symm),aiR];by_cases wY:z∈F.map (·.1)
    .exact Bw Jc (aif _ (yM wY))
    .rw[Bx wY,Bx];simp only[ail,aid,aiO,ah1,ahZ,not_or];exact⟨wY,hz⟩
theorem Qm:∀{fs:List cn} {F:FT},(F.map (·.1)).Nodup->((kK F fs).map (·.1)).Nodup∧∀z,(z∈(kK F fs).map (·.1)↔z∈F.map (·.1)∨z∈fs.map (·.1))∧eX (kK F fs) z=eX F z++(fs.filter fun q=>q.1 == z).map (·.2)
 |[],F,h=>⟨h,fun z=>⟨by simp[kK],by simp[kK]⟩⟩
 |q::r,F,h=>by
   obtain⟨h1,h2⟩:=aeb (k:=q.1) (v:=q.2) h;obtain⟨i1,i2⟩:=Qm (fs:=r) h1;refine⟨i1,fun z=>⟨?_,?_⟩⟩
   .show z∈(kK (nB F q.1 q.2) r).map (·.1)↔_;rw[(i2 z).1,(h2 z).1,aid,ah6,or_assoc]
   .show eX (kK (nB F q.1 q.2) r) z=_;rw[(i2 z).2,(h2 z).2,ajA,aiS];cases q.1 == z<;>simp
theorem aec(ns:List TN)(l:List Int):((kL ns l).map (·.1)).Nodup∧∀z,(z∈(kL ns l).map (·.1)↔∃x∈l,z∈(nd ns x.toNat).l.map (·.1))∧eX (kL ns l) z=dX ns l z:=by
 have key:∀(r:List Int) (F:FT),(F.map (·.1)).Nodup->((r.foldl (fun F x=>kK F (nd ns x.toNat).l) F).map (·.1)).Nodup ∧
   ∀z,(z∈(r.foldl (fun F x=>kK F (nd ns x.toNat).l) F).map (·.1)↔z∈F.map (·.1)∨∃x∈r,z∈(nd ns x.toNat).l.map (·.1))∧eX (r.foldl (fun F x=>kK F (nd ns x.toNat).l) F) z=eX F z++dX ns r z:=by
  intro r
  induction r with
  |nil=>intro F h;exact⟨h,fun z=>⟨by simp,by simp[dX]⟩⟩
  |cons x r ih =>
    intro F h;obtain⟨h1,h2⟩:=Qm (fs:=(nd ns x.toNat).l) h;obtain⟨i1,i2⟩:=ih _ h1;refine⟨i1,fun z=>⟨?_,?_⟩⟩
    .rw[List.foldl_cons,(i2 z).1,(h2 z).1,or_assoc];constructor
     .rintro(h|h|⟨y,hy,hz⟩)
      .exact .inl h
      .exact .inr ⟨x,ah0,h⟩
      .exact .inr ⟨y,ah8 _ hy,hz⟩
     .rintro(h|⟨y,hy,hz⟩)
      .exact .inl h
      .rcases ah6.1 hy with rfl|hy
       .exact .inr (.inl hz)
       .exact .inr (.inr ⟨y,hy,hz⟩)
    .rw[List.foldl_cons,(i2 z).2,(h2 z).2,aiS];simp[dX]
 obtain⟨k1,k2⟩:=key l [] .nil;exact⟨k1,fun z=>⟨by rw[kL,(k2 z).1];simp,by rw[kL,(k2 z).2];simp[eX]⟩⟩
def By(ns:List TN)(l:List Int):Prop:=∀x∈l,((nd ns x.toNat).l.map (·.1)).Nodup
theorem aed{fs:List cn}(h:(fs.map (·.1)).Nodup)(s:List UInt8):(fs.filter fun q=>q.1 == s).length=if fs.any (fun q=>q.1 == s)then 1 else 0:=by
 induction fs with
 |nil=>rfl
 |cons q r ih =>
   rw[aid,ai3]at h;rw[ajA,List.any_cons]
   cases hq:q.1 == s with
   |false=>rw[ajI];simpa using ih h.2
   |true =>
     have e:q.1=s:=by simpa using hq
     have bH:r.filter (fun q=>q.1 == s)=[]:=by
      rw[List.filter_eq_nil_iff];intro y hy;have:y.1≠s:=fun e2=>h.1 (ah9.2 ⟨y,hy,by rw[e2,e]⟩);simpa using this
     simp[bH]
theorem aee{ns:List TN}{l:List Int}(h:By ns l)(s:List UInt8):(dX ns l s).length=tw ns l s:=by
 unfold tw
 induction l with
 |nil=>rfl
 |cons x r ih =>
   have h1:=aed (h x ah0) s;have h2:=ih fun y hy=>h y (ah8 _ hy);have e:dX ns (x::r) s=((nd ns x.toNat).l.filter fun q=>q.1 == s).map (·.2)++dX ns r s:=by simp[dX]
   rw[e,ah7,aik,h1,h2,ajA,Qj]
   cases (nd ns x.toNat).l.any (fun q=>q.1 == s)with
   |true=>simp;omega
   |false=>simp
noncomputable def pI(ns:List TN)(p:Bool)(l:List Int)(S:List (List UInt8))(W:List aB):List cn×List aB :=
 S.foldl (fun s k=>(s.1++[(k,((bV s.2 (a8 ns p (dX ns l k))).1:Int))],(bV s.2 (a8 ns p (dX ns l k))).2)) ([],W)
theorem aef{l:List (List UInt8)}(h:l.Nodup):kg (mI l):=by
 have h1:(mI l).Pairwise (·<=·):=by
  have:=akS (le:=fun x y:List UInt8=>decide (x<=y)) (fun a b c h1 h2=>by simpa using List.le_trans (by simpa using h1) (by simpa using h2)) (fun a b=>by simpa using List.le_total a b) l;exact this.imp fun h=>by simpa using h
 have hn:(mI l).Nodup:=(List.mergeSort_perm l _).nodup_iff.2 h;exact(h1.and hn).imp fun {a b} h=>Qf (List.not_lt.2 h.1) h.2
theorem Qn{ns:List TN}{l:List Int}(h:By ns l)(p wh:Bool)(W:List aB):kc ns p wh l W=pI ns p l (rQ ns l wh) W:=by
 obtain⟨c1,c2⟩:=aec ns l;obtain⟨n1,n2⟩:=Eu ns l wh
 have hS:rQ ns l wh=(mI ((kL ns l).map (·.1))).filter fun k=>(!wh||decide ((eX (kL ns l) k).length=l.length)):=by
  refine Qg n1 ((aef c1).sublist List.filter_sublist) fun z=>?_;rw[n2,ait,mI,akh,(c2 z).1,(c2 z).2,aee h,Bool.or_comm];exact And.comm
 rw[hS];unfold kc ve pI;rw[List.foldl_filter];congr 1;funext s k;rw[qG,(c2 k).2]
end Go.Proofs.YtpmniabdmbmafaaGreatDoor

namespace Go.Proofs.YtpmniabdmbmafaaGreatDoor
open Go.Ab
theorem Jd{p:Nat->Bool}{n i:Nat}(h:(List.range n).all p=true)(hi:i<n):p i=true:=aio.1 h i (aiq.2 hi)
theorem rR{l:List cn}{i:Nat}(h:i<l.length):eW l i=l[i].1:=by simp[eW,h]
theorem Qo{p:List UInt8->Bool}{l:List cn}(h:sX p l=true):(∀q∈l,p q.1=true)∧(l.map (·.1)).Nodup:=by
 unfold sX at h;refine⟨fun q hq=>?_,?_⟩
 .obtain⟨i,hi,rfl⟩:=aiB hq;have:=Jd h hi;rw[aia,rR hi]at this;exact this.1
 .have hs:∀i,i+1<l.length->eW l i<eW l (i+1):=by
   intro i hi;have:=Jd h hi;rw[aia]at this;have h2:=this.2;simp only[lh,Nat.zero_lt_succ,decide_true,ajp,Bool.not_not,aki,bytesLess_eq,decide_eq_true_eq]at h2;exact h2
  have hlt:∀(d i:Nat),i+d+1<l.length->eW l i<eW l (i+d+1):=by
   intro d
   induction d with
   |zero=>exact fun i hi=>hs i hi
   |succ d ih=>exact fun i hi=>ak0 (ih i (by omega)) (hs (i+d+1) hi)
  rw[List.Nodup,ajl];intro i j hi hj dW e;rw[aik]at hi hj;have:=hlt (j-i-1) i (by omega);rw[show i+(j-i-1)+1=j by omega,rR hi,rR hj]at this;rw[ajB,ajB]at e;rw[e]at this;exact List.lt_irrefl _ this
theorem ahL{l:List EA}{z:Int}{p:Bool}(h:mc l z p=true):∃k:Nat,z=(k:Int)∧k<l.length∧(l.getD k default).plus=p:=by
 have h1:=acq h;refine⟨z.toNat,by omega,by omega,?_⟩;simp only[mc,aia,beq_iff_eq]at h;exact h.2
theorem aeg{l:List EA}{k:Nat}{p:Bool}(h1:k<l.length)(h2:(l.getD k default).plus=p):mc l (k:Int) p=true:=by
 simp only[mc,aia,beq_iff_eq,decide_eq_true_eq,Int.toNat_natCast];exact⟨⟨by omega,by omega⟩,h2⟩
theorem aeh{l:List EA}{st:Nat}(h0:0<l.length)(h1:l.length<=2000)(hs:mc l (st:Int) true=true)(hr:∀s∈l,IE l s=true):IG l (st:Int)=0:=by
 unfold IG;rw[if_neg (by omega),if_neg];simp only[hs,ajo,ajI,aiA,not_exists,not_and,aiT,Bool.not_eq_false];exact hr
end Go.Proofs.YtpmniabdmbmafaaGreatDoor

namespace Go.Proofs.YtpmniabdmbmafaaGreatDoor
open Go.Ab
inductive cB{α:Type}(kids:α->List α):List α->List α->List α->Prop
 |done (out:List α):cB kids out [] out
 |skip {out todo r:List α} {s:α} (h:s∈out) (t:cB kids out todo r):cB kids out (todo++[s]) r
 |take {out todo r:List α} {s:α} (h:s∉out) (t:cB kids (out++[s]) (todo++(kids s).reverse) r):cB kids out (todo++[s]) r
theorem vm{α:Type}{a b:List α}{x y:α}(h:a++[x]=b++[y]):a=b∧x=y:=by
 have:=List.append_inj' h rfl;exact⟨this.1,by simpa using this.2⟩
theorem cB.fn{α:Type}{kids:α->List α}{out todo r:List α}(h:cB kids out todo r):∀{r'},cB kids out todo r'->r=r':=by
 induction h with
 |done out =>
   intro r' h';generalize ht:([]:List α)=t at h'
   cases h' with
   |done=>rfl
   |skip=>simp at ht
   |take=>simp at ht
 |skip h _ ih =>
   intro r' h';generalize ht:_++[_]=t at h'
   cases h' with
   |done=>simp at ht
   |skip h1 t1=>obtain⟨rfl,rfl⟩:=vm ht;exact ih t1
   |take h1 t1=>obtain⟨rfl,rfl⟩:=vm ht;exact absurd h h1
 |take h _ ih =>
   intro r' h';generalize ht:_++[_]=t at h'
   cases h' with
   |done=>simp at ht
   |skip h1 t1=>obtain⟨rfl,rfl⟩:=vm ht;exact absurd h1 h
   |take h1 t1=>obtain⟨rfl,rfl⟩:=vm ht;exact ih t1
def fQ{α:Type}[DecidableEq α](U out:List α):Nat:=U.countP fun x=>!decide (x∈out)
theorem Bz{α:Type}[DecidableEq α]{out:List α}{s:α}(h:s∉out):∀{U:List α},s∈U->fQ U (out++[s])<fQ U out
 |[],hs=>by cases hs
 |x::U,hs=>by
   have hle:∀U:List α,fQ U (out++[s])<=fQ U out:=fun U=>by
    unfold fQ;refine List.countP_mono_left fun y _ hy=>?_;simp only[aiT,decide_eq_false_iff_not,ah1,not_or]at hy ⊢;exact hy.1
   by_cases e:x=s
   .subst e;have h1:=hle U;have e1:decide (x∈out++[x])=true:=by simp
    have e2:decide (x∈out)=false:=by simpa using h
    simp only[fQ,aka,e1,e2]at h1 ⊢;simp only[ajo,aj6,aip,if_false,if_true];omega
   .have h1:=Bz h (U:=U) ((ah6.1 hs).resolve_left (fun h=>e h.symm));have e1:decide (x∈out++[s])=decide (x∈out):=by simp[e]
    simp only[fQ,aka,e1]at h1 ⊢;omega
abbrev bL:=Int×Int
def fb(s:bL):D:=.agg [i64 s.1,i64 s.2]
def qJ(n:TN)(side:Int)(j:Nat):bL:=((ch n).getD j 0,if(decide (n.k=6)&&decide (j=0))=true then qq side else side)
def kh(n:TN)(side:Int):List bL:=(List.range (ch n).length).map (qJ n side)
def jj(ns:List TN)(s:bL):List bL:=kh (nd ns s.1.toNat) s.2
theorem aei{n:TN}{side:Int}{i:Nat}(h:i<(ch n).length):((kh n side).take i).map fb++[fb (qJ n side i)]=((kh n side).take (i+1)).map fb:=by
 have hl:i<(kh n side).length:=by simp[kh,h]
 rw[ah5 hl,ail];simp[kh]
theorem Qp{l:List bL}{i:Nat}(h:i<l.length):(l.map fb).getD i .aY=.agg [i64 (l.getD i (0,0)).1,i64 (l.getD i (0,0)).2]:=by simp[h,fb]
end Go.Proofs.YtpmniabdmbmafaaGreatDoor

namespace Go.Proofs.YtpmniabdmbmafaaGreatDoor
open Go.Ab Tryz
theorem aej{n:TN}(h:n.l.length<=1000000):(ch n).length<=1000000:=by
 unfold ch;split
 .simp
 .split<;>simp;omega
theorem qX{l:List Int}{i:Nat}(h:i<l.length):l[i]=l.getD i 0:=by simp[h]
theorem aek{G}(ns:List TN)(root:Int)(x:Nat)(side:Int)(hx:x<ns.length)(cT:∀n∈ns,n.l.length<=1000000) :
  bA prog G 98 [.d (bp ns root),.d (.agg [i64 x,i64 side])] [] [] (fun r ae=>r=.vw [0] 0 (kh (nd ns x) side).length∧ae=[([0],.arr (some 2) ((kh (nd ns x) side).map fb))]):=by
 have de:nd ns x∈ns:=by rw[qs hx];exact ah2 hx
 have jd:=aej (cT _ de);unfold bp;refine eV func98 rfl (by decide +kernel) (by simp[ntmps98]) (aT fun E=>?_);simp only[go_sem];refine⟨by omega,?_⟩;rw[uP hx];simp only[go_sem];refine bj E (Dm (nd ns x) (cT _ de)) rfl rfl (by simp) ?_;rintro _ rfl;simp only[go_sem];unfold aL;simp only[go_sem];refine eP E [2] (.agg [.sl (some 4) (ns.map aw),i64 root]) rfl rfl ?_;simp only[go_sem];refine eP E [3] (.agg [i64 x,i64 side]) rfl rfl ?_;simp only[go_sem];refine eP E [5] (.agg [i64 (nd ns x).k,i64 (nd ns x).a,i64 (nd ns x).b,.sl (some 2) ((nd ns x).l.map bf)]) rfl rfl ?_;simp only[go_sem];refine wi E 6 99 (some 2) rfl (by rw[ay];decide) ?_;simp only[go_sem];have hlen:(kh (nd ns x) side).length=(ch (nd ns x)).length:=by simp[kh]
 refine bK E (X:={ i:Nat // i<=(ch (nd ns x)).length }) (fun y=>[(3,.d (.ptr (.agg [i64 x,i64 side]))),(5,.d (.ptr (.agg [i64 (nd ns x).k,i64 (nd ns x).a,i64 (nd ns x).b,.sl (some 2) ((nd ns x).l.map bf)]))),(6,.vw [99] 0 y.1),(17,.d (.sl none ((ch (nd ns x)).map i64))),(18,.d (i64 (ch (nd ns x)).length)),(19,.d (i64 y.1))]) (fun y=>[([99],.arr (some 2) (((kh (nd ns x) side).take y.1).map fb))]) [99] (fun y=>(ch (nd ns x)).length-y.1) ⟨0,aie _⟩ id ?_ ?_
 .simp only[go_sem]
  all_goals rfl
 rintro⟨i,hi⟩ E';simp only[go_sem];refine aH E' ?_ ?_<;>intro h1<;>simp only[go_sem]
 .have cw:i<(ch (nd ns x)).length:=by omega
  refine⟨by omega,?_⟩;rw[dF cw,qX cw];simp only[go_sem]
  repeat (first
   |(apply gC E';(· simp only[go_sem]);(· intro h;(try simp only[bq]at h);simp only[↓h,go_sem];rfl);simp only[go_sem])
   |(apply iu E';(· decide);simp only[go_sem]))
  have Qq:=aei (side:=side) cw;have q6:decide ((i:Int)=0)=decide (i=0):=decide_eq_decide.2 (by omega);rw[q6];refine cK E' ?_ ?_<;>intro h2<;>simp only[go_sem]
  .refine bj E' (ZI side) rfl rfl (by simp) ?_;rintro _ rfl;simp only[go_sem];refine⟨by omega,⟨i+1,by omega⟩,by show(ch (nd ns x)).length-(i+1)<_;omega,ar [([99],[40])],?_⟩;simp only[go_sem];refine⟨by rw[aD ⟨by omega,by omega⟩];rfl,?_⟩;rw[aic (by simp;omega),<-Qq];simp only[qJ,h2,if_true,fb]
  .refine⟨by omega,⟨i+1,by omega⟩,by show(ch (nd ns x)).length-(i+1)<_;omega,ar [([99],[40])],?_⟩;simp only[go_sem];refine⟨by rw[aD ⟨by omega,by omega⟩];rfl,?_⟩;rw[aic (by simp;omega),<-Qq];simp only[qJ,h2,aip,if_false,fb]
 .have h3:i=(ch (nd ns x)).length:=by omega
  subst h3;refine⟨_,_,[0],ar [([0],[99])],⟨rfl,rfl⟩,?_⟩;simp only[go_sem];rw[hlen,aic (by omega)];exact⟨rfl,rfl⟩
def hY(l:List bL)(i:Nat):List bL:=(List.range l.length).map fun q=>l.getD (if q<i∨l.length<=q+i then l.length-1-q else q) (0,0)
theorem Qr(l:List bL)(i:Nat):(hY l i).length=l.length:=by simp[hY]
theorem Qs{l:List bL}{i q:Nat}(h:q<l.length):(hY l i).getD q (0,0)=l.getD (if q<i∨l.length<=q+i then l.length-1-q else q) (0,0):=by
 simp[hY,h]
theorem ael(l:List bL):hY l 0=l:=by
 refine ai0 (by simp[hY]) fun q h1 h2=>?_;have:¬l.length<=q:=by omega
 simp[hY,h2,this]
theorem aem{l:List bL}{i:Nat}(h:l.length<=2*i+1):hY l i=l.reverse:=by
 refine ai0 (by simp[hY]) fun q h1 h2=>?_;have sJ:q<l.length:=by simpa using h2
 have h3:l.length-1-q<l.length:=by omega
 by_cases e:q<i∨l.length<=q+i
 .simp[hY,e,h3]
 .have:l.length-1-q=q:=by omega
  simp[hY,e,sJ,this]
theorem aen{l:List bL}{i:Nat}(h:2*i+1<l.length):((hY l i).set i (l.getD (l.length-1-i) (0,0))).set (l.length-1-i) (l.getD i (0,0))=hY l (i+1):=by
 refine ai0 (by simp[hY]) fun q h1 h2=>?_;have sJ:q<l.length:=by simpa[hY]using h2
 simp only[ajW];by_cases e1:l.length-1-i=q
 .subst e1;have:l.length-1-i<i+1∨l.length<=l.length-1-i+(i+1):=by omega
  have e2:l.length-1-(l.length-1-i)=i:=by omega
  simp[hY,this,e2]
 .rw[if_neg e1];by_cases e2:i=q
  .subst e2;have:i<i+1∨l.length<=i+(i+1):=by omega
   simp[hY,this]
  .rw[if_neg e2];have:(q<i+1∨l.length<=q+(i+1))↔(q<i∨l.length<=q+i):=by omega
   simp[hY,this]
theorem aeo{G}(l:List bL)(hl:l.length<=1000000):bA prog G 99 [.vw [38,0] 0 l.length] [([38,0],.arr (some 2) (l.map fb))] [38] (fun r ae=>r=.aA []∧ae=[([38,0],.arr (some 2) (l.reverse.map fb))]):=by
 refine eV func99 rfl (by decide +kernel) (by simp[ntmps99]) (aT fun E=>?_);simp only[go_sem];refine Aj E (X:={ i:Nat // i<=l.length }) (fun x=>[(0,.vw [38,0] 0 l.length),(2,.d (i64 x.1)),(3,.d (i64 ((l.length:Int)-1-x.1)))]) (fun x=>[([38,0],.arr (some 2) ((hY l x.1).map fb))]) [38] (fun x=>l.length-x.1) ⟨0,aie _⟩ ?_ ?_
 .simp only[go_sem];rw[aD ⟨by omega,by omega⟩,ael];exact⟨congrArg (fun z=>AV.d (i64 z)) (by omega),rfl⟩
 rintro⟨i,hi⟩ E';simp only[go_sem];refine aH E' ?_ ?_<;>intro h1<;>simp only[go_sem]
 .obtain⟨j,hj⟩:∃j:Nat,j=l.length-1-i:=⟨_,rfl⟩
  have bG:(l.length:Int)-1-i=(j:Int):=by omega
  rw[bG];refine bF mixed E' fun X=>?_;simp only[go_sem];have fU:j<(hY l i).length:=by rw[Qr];omega
  have bR:i<(hY l i).length:=by rw[Qr];omega
  refine⟨by omega,?_⟩;rw[Qp fU];simp only[go_sem];refine⟨by omega,?_⟩;rw[Qp bR];simp only[go_sem]
  have uo:(hY l i).getD j (0,0)=l.getD j (0,0):=by
   rw[Qs (by omega)];rw[if_neg (by omega)]
  have Je:(hY l i).getD i (0,0)=l.getD i (0,0):=by
   rw[Qs (by omega)];rw[if_neg (by omega)]
  have ah:=aen (l:=l) (i:=i) (by omega);rw[<-hj]at ah;refine⟨⟨by omega,by omega⟩,⟨by omega,by omega⟩,by decide +kernel,⟨i+1,by omega⟩,by show l.length-(i+1)<_;omega,⟨by rw[aD ⟨by omega,by omega⟩];rfl,?_⟩,?_⟩
  .rw[aD ⟨by omega,by omega⟩];exact congrArg (fun z=>AV.d (i64 z)) (by show(j:Int)-1=(l.length:Int)-1-((i+1:Nat):Int);omega)
  .rw[uo,Je];show some (Ob.arr (some 2) (((List.map fb (hY l i)).set i (fb (l.getD j (0,0)))).set j (fb (l.getD i (0,0)))))=some (Ob.arr (some 2) (List.map fb (hY l (i+1))));rw[<-ah,ajv,ajv]
 .refine⟨_,_,[38],id,⟨rfl,rfl⟩,?_⟩;simp only[go_sem];rw[aem (by omega)]
end Go.Proofs.YtpmniabdmbmafaaGreatDoor

namespace Go.Proofs.YtpmniabdmbmafaaGreatDoor
open Go.Ab Tryz
def Qt:bL->D:=Dd .i64 .i64
def spV:bL->Value:=nj .i64 .i64
def Qu(t:Option TypeDesc):Bool:=match t with
 |some (.struct ⟨[f0,f1]⟩)=>f0.offset == 0&&f1.offset == 1&&f0.type == 3&&f1.type == 3
 |_=>false
theorem aep:∀{t:Option TypeDesc},Qu t=true->∃f0 f1:Field,t=some (.struct #[f0,f1])∧f0.offset=0∧f1.offset=1∧f0.type=3∧f1.type=3
 |some (.struct ⟨[f0,f1]⟩),h=>by
   simp only[Qu,aia,beq_iff_eq]at h;exact⟨f0,f1,rfl,h.1.1.1,h.1.1.2,h.1.2,h.2⟩
theorem aeq:∃f0 f1:Field,prog.underlying 118=some (.struct #[f0,f1])∧f0.offset=0∧f1.offset=1∧f0.type=3∧f1.type=3 :=
 aep (by kernel_rfl)
theorem Qv:j3 prog 118 Qt spV:=by
 obtain⟨f0,f1,h,h0,h1,h2,h3⟩:=aeq;exact Zc h h0 h1 (by rw[h2,Ar]) (by rw[h3,Ar]) (by kernel_rfl) (by rw[Mr,h2,h3])
theorem Qw{κ:Type}[DecidableEq κ](a b:κ)(d:D):∀ms:List (κ×D),fP (gA ms a d) b=if b=a then some d else fP ms b
 |[]=>by
   simp only[gA,fP];by_cases e:a=b
   .rw[if_pos e,if_pos e.symm]
   .rw[if_neg e,if_neg (fun h=>e h.symm)]
 |q::r=>by
   simp only[gA];split
   .rename_i e;simp only[fP];by_cases e2:a=b
    .rw[if_pos e2,if_pos e2.symm]
    .rw[if_neg e2,if_neg (fun h=>e2 h.symm),if_neg (fun h=>e2 (e.symm.trans h))]
   .rename_i e;simp only[fP,Qw a b d r];by_cases e2:q.1=b
    .rw[if_pos e2,if_neg (fun h=>e (e2.trans h)),if_pos e2]
    .rw[if_neg e2,if_neg e2]
theorem aer:qf prog 4=some (.bool false):=by kernel_rfl
def rS(ns:List TN)(s:bL):Prop:=(0<=s.1∧s.1<ns.length)∧(s.2=1∨s.2=2)
def yS(ns:List TN):Prop:=∀i,i<ns.length->(∀x∈ch (nd ns i),0<=x∧x<ns.length)∧(ch (nd ns i)).length<=30
def univ(N:Nat):List bL:=(List.range N).flatMap fun(i:Nat)=>[((i:Int),(1:Int)),((i:Int),(2:Int))]
theorem Qx:∀N,(univ N).length=2*N
 |0=>rfl
 |N+1=>by
   have:=Qx N;unfold univ at this ⊢;rw[akw,akz,ah7,this];simp;omega
theorem aes{ns:List TN}{s:bL}(h:rS ns s):s∈univ ns.length:=by
 obtain⟨a,b⟩:=s;obtain⟨⟨h1,h2⟩,h3⟩:=h;simp only at h1 h2 h3;refine ajP.2 ⟨a.toNat,aiq.2 (by omega),?_⟩;have:((a.toNat:Nat):Int)=a:=by omega
 rw[this];rcases h3 with rfl|rfl<;>simp
theorem aeu{s:Int}(h:s=1∨s=2):qq s=1∨qq s=2:=by
 obtain rfl|rfl:=h
 .exact .inr rfl
 .exact .inl rfl
theorem aev{ns:List TN}(hk:yS ns){s:bL}(h:rS ns s):∀t∈jj ns s,rS ns t:=by
 intro t ht;obtain⟨⟨h1,h2⟩,h3⟩:=h;obtain⟨j,hj,rfl⟩:=ah9.1 ht;have hj:=aiq.1 hj;have hx:=(hk s.1.toNat (by omega)).1 _ (ah2 hj);rw[qX hj]at hx;refine⟨hx,?_⟩;simp only[qJ];split
 .exact aeu h3
 .exact h3
theorem aew(ns:List TN)(s:bL):(jj ns s).length=(ch (nd ns s.1.toNat)).length:=by simp[jj,kh]
structure Sp(ns:List TN)(root:Int)(out td:List bL)(ms:List (bL×D)):Prop where
 mD:∀s∈td,rS ns s
 rT:∀s∈out,rS ns s
 Jf:∀s:bL,fP ms s=if s∈out then some (.bool true)else none
 eD:∀r,cB (jj ns) out td r->cB (jj ns) [] [(root,1)] r
 hlen:fQ (univ ns.length) out+out.length<=2*ns.length
 jk:td.length+40*fQ (univ ns.length) out<=80*ns.length+1
theorem Sp.init{ns:List TN}{root:Int}(h:0<=root∧root<ns.length):Sp ns root [] [(root,1)] []:=by
 have hu:fQ (univ ns.length) ([]:List bL)<=2*ns.length:=by
  have:=aks (p:=fun x:bL=>!decide (x∈([]:List bL))) (l:=univ ns.length);rw[Qx]at this;exact this
 refine⟨fun s hs=>?_,by simp,fun s=>rfl,fun _ h=>h,by simpa using hu,by simp;omega⟩;rw[ahZ.1 hs];exact⟨h,.inl rfl⟩
theorem Sp.skip{ns:List TN}{root:Int}{out td:List bL}{s:bL}{ms:List (bL×D)}(h:Sp ns root out (td++[s]) ms)(hs:s∈out):Sp ns root out td ms:=by
 refine⟨fun a ha=>h.mD a (aif _ ha),h.rT,h.Jf,fun r hr=>h.eD r (.skip hs hr),h.hlen,?_⟩;have:=h.jk;rw[ah7]at this;simp only[List.length_cons,List.length_nil]at this;omega
theorem Sp.Qy{ns:List TN}{root:Int}{out td:List bL}{s:bL}{ms:List (bL×D)}(hk:yS ns)(h:Sp ns root out (td++[s]) ms):(jj ns s).length<=30:=by
 have aF:rS ns s:=h.mD s (by simp);rw[aew];exact(hk _ (by obtain⟨⟨h1,h2⟩,_⟩:=aF;omega)).2
theorem Sp.lt{ns:List TN}{root:Int}{out td:List bL}{s:bL}{ms:List (bL×D)}(h:Sp ns root out (td++[s]) ms)(hs:s∉out):fQ (univ ns.length) (out++[s])<fQ (univ ns.length) out :=
 Bz hs (aes (h.mD s (by simp)))
theorem Sp.take{ns:List TN}{root:Int}{out td:List bL}{s:bL}{ms:List (bL×D)}(hk:yS ns)(h:Sp ns root out (td++[s]) ms)(hs:s∉out):Sp ns root (out++[s]) (td++(jj ns s).reverse) (gA ms s (.bool true)):=by
 have aF:rS ns s:=h.mD s (by simp);have hlt:=h.lt hs;have jd:=h.Qy hk;refine⟨fun a ha=>?_,fun a ha=>?_,fun a=>?_,fun r hr=>h.eD r (.take hs hr),?_,?_⟩
 .rcases ah1.1 ha with ha|ha
  .exact h.mD a (aif _ ha)
  .exact aev hk aF a (ajX.1 ha)
 .rcases ah1.1 ha with ha|ha
  .exact h.rT a ha
  .rw[ahZ.1 ha];exact aF
 .rw[Qw,h.Jf];by_cases e:a=s
  .subst e;simp
  .simp[e]
 .have:=h.hlen;rw[ah7];simp only[List.length_cons,List.length_nil];omega
 .have:=h.jk;rw[ah7]at this;rw[ah7,ajG];simp only[List.length_cons,List.length_nil]at this;omega
theorem aex{α:Type}{l:List α}(h:0<l.length):∃l' x,l=l'++[x]:=by
 refine⟨l.dropLast,l.getLast (fun e=>by subst e;simp at h),?_⟩;exact(akC _).symm
theorem aey{G}(ns:List TN)(root:Int)(hN:ns.length<=2000)(cT:∀n∈ns,n.l.length<=1000000)(hk:yS ns)(hr:0<=root∧root<ns.length) :
  HP prog G 56 [bp ns root] (fun r=>∃l,r=.d (.sl (some 2) (l.map fb))∧cB (jj ns) [] [(root,1)] l∧(∀s∈l,rS ns s)∧l.length<=2*ns.length):=by
 unfold bp;refine gy func56 rfl (by decide +kernel) (by simp[ntmps56]) (aT fun E=>?_);simp only[go_sem];refine GU E (by simp only[go_sem]) (by rw[ay];decide) ?_;simp only[go_sem];refine eP E [1] (.agg [.sl (some 4) (ns.map aw),i64 root]) rfl rfl ?_;simp only[go_sem];refine wi E 4 98 (some 2) rfl (by rw[ay];decide) ?_;simp only[go_sem]
 refine bK E (X:={ x:List bL×List bL×List bL×List (bL×D) // Sp ns root x.1 x.2.1 x.2.2.2 }) (fun x=>[(1,.d (.ptr (.agg [.sl (some 4) (ns.map aw),i64 root]))),(3,.mp [8]),(4,.vw [98] 0 x.1.1.length),(5,.vw [99] 0 x.1.2.1.length)])
  (fun x=>[([8],.map (bT Qt x.1.2.2.2)),([98],.arr (some 2) (x.1.1.map fb)),([99],.arr (some 2) ((x.1.2.1++x.1.2.2.1).map fb))]) [8,98,99] (fun x=>x.1.2.1.length+40*fQ (univ ns.length) x.1.1) ⟨([],[(root,1)],[],[]),.init hr⟩ (ar [([99],[12])]) ?_ ?_
 .simp only[go_sem];rfl
 rintro⟨⟨out,td,rest,ms⟩,gu⟩ E0;refine bW E0 fun Q' hQ E'=>?_;simp only at gu ⊢;simp only[go_sem];refine aH E' ?_ ?_<;>intro h1<;>simp only[go_sem]
 .obtain⟨td,⟨s1,side⟩,rfl⟩:=aex (l:=td) (by omega);have aF:rS ns (s1,side):=gu.mD _ (by simp);obtain⟨x,rfl⟩:∃x:Nat,s1=(x:Int):=⟨s1.toNat,by have:=aF.1.1;simp only at this;omega⟩
  have oW:x<ns.length:=by have:=aF.1.2;simp only at this;omega
  have gS:jj ns ((x:Int),side)=kh (nd ns x) side:=rfl;have jd:=gu.Qy hk;rw[gS]at jd;have jk:=gu.jk;have hlt:(td++[((x:Int),side)]).length=td.length+1:=by simp
  have hw:lY (((td++[((x:Int),side)]).length:Int)-1)=(td.length:Int):=by rw[aD ⟨by omega,by omega⟩];omega
  rw[hw];refine⟨by omega,?_⟩;have hx:(List.map fb (td++[((x:Int),side)]++rest)).getD (td.length:Int).toNat .aY=.agg [i64 x,i64 side]:=by simp[fb]
  rw[hx];simp only[go_sem];rw[hw];refine⟨by omega,?_⟩;refine GY E' [8] ms ((x:Int),side) (.bool false) (by rw[G7]) Qv aer rfl rfl rfl (by simp) ?_;rw[gu.Jf];by_cases hm:((x:Int),side)∈out
  .rw[if_pos hm];simp only[go_sem];rw[hQ];simp only[go_sem];refine⟨⟨(out,td,((x:Int),side)::rest,ms),gu.skip hm⟩,?_,id,?_⟩
   .show td.length+_<(td++[((x:Int),side)]).length+_;rw[hlt];show td.length+40*fQ (univ ns.length) out<_;omega
   simp only[go_sem];simp
  .rw[if_neg hm];simp only[go_sem];refine GZ E' [8] ms ((x:Int),side) (.bool true) (by rw[G7]) Qv rfl rfl rfl rfl rfl ?_;simp only[go_sem];refine⟨?_,?_⟩
   .have:=gu.hlen;omega
   refine je E' [.d (bp ns root),.d (.agg [i64 x,i64 side])] [] [] (aek ns root x side oW cT) rfl rfl ⟨by simp only[go_sem],by rw[ay];decide⟩ rfl (by simp only[go_sem]) (by simp only[go_sem]) ?_;rintro _ _ ⟨rfl,rfl⟩;simp only[go_sem];refine je E' [.vw [38,0] 0 (kh (nd ns x) side).length] [([38,0],.arr (some 2) ((kh (nd ns x) side).map fb))] [38] (aeo _ (by omega)) rfl rfl ⟨by simp only[go_sem],by rw[ay];decide⟩ rfl (by simp only[go_sem]) (by simp only[go_sem]) ?_;rintro _ _ ⟨rfl,rfl⟩;simp only[go_sem];have rL:(List.take (kh (nd ns x) side).length (List.map fb (kh (nd ns x) side).reverse))=List.map fb (kh (nd ns x) side).reverse:=aic (by simp)
   have sN:List.take (td.length-0) (List.map fb (td++[((x:Int),side)]++rest))=List.map fb td:=by
    rw[Nat.sub_zero,aiS,ail,aj3 (by simp),aic (by simp)]
   rw[rL,sN,hQ];simp only[go_sem];have sS:=gu.take hk hm;have KK:=gu.lt hm;refine⟨by simp,?_,⟨(out++[((x:Int),side)],td++(jj ns ((x:Int),side)).reverse,[],gA ms ((x:Int),side) (.bool true)),sS⟩,?_,ar [([98],[35]),([99],[43])],?_⟩
   .simp only[aik,ajG];omega
   .show(td++(jj ns ((x:Int),side)).reverse).length+40*fQ (univ ns.length) (out++[((x:Int),side)])<(td++[((x:Int),side)]).length+40*fQ (univ ns.length) out;rw[gS,ah7,ajG];omega
   simp only[go_sem];rw[gS];simp[fb]
 .rw[hQ];simp only[go_sem];have:td=[]:=ai7 (by omega);subst this;refine⟨[([98],some 2,out.map fb)],?_⟩;simp only[go_sem];exact⟨out,rfl,gu.eD _ (.done _),gu.rT,by have:=gu.hlen;omega⟩
end Go.Proofs.YtpmniabdmbmafaaGreatDoor

