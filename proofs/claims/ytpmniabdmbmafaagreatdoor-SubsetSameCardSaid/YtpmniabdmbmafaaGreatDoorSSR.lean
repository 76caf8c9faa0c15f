/-
  The chapter's example. (with the parts that follow it)
-/
import Derived.Test.YtpmniabdmbmafaaGreatDoorSSO
import Derived.Test.YtpmniabdmbmafaaGreatDoorSSM
import Derived.Test.YtpmniabdmbmafaaGreatDoorSSQ
import Derived.Test.YtpmniabdmbmafaaGreatDoorSSJ
import Derived.Test.YtpmniabdmbmafaaGreatDoorSSD
import Derived.Test.YtpmniabdmbmafaaGreatDoorSSE
import Derived.Test.YtpmniabdmbmafaaGreatDoorRows
import Derived.Test.YtpmniabdmbmafaaGreatDoorTie
import Derived.ProofKit
import Derived.JoinedOf
import Derived.ChangeMaps5
import Derived.LaidLaws
import Derived.LaidHandle
import Derived.Stop.Joined
import Derived.Lib.LaidTab
import Derived.Lay
import Derived.SevenTiedAt
import Derived.Test.YtpmniabdmbmafaaGreatDoorCards
set_option linter.all false
set_option maxHeartbeats 16000000
namespace Go.Proofs.YtpmniabdmbmafaaGreatDoor
open Go.Ab Go.Proofs.Tryz
variable {t:TypeId}{fz:Nat×Nat}
def cr:List TN:=[⟨11,0,0,[]⟩,⟨3,0,0,[]⟩,⟨10,0,1,[]⟩,⟨9,1,0,[]⟩,⟨6,2,3,[]⟩]
theorem TH:rE cr:=⟨by decide,by intro n hn;simp[cr]at hn;rcases hn with rfl|rfl|rfl|rfl|rfl<;>simp⟩
theorem ahh:ph cr=true:=by decide +kernel
theorem ahi:sU cr=true:=O4 fun i hi=>by
 have hi:i<5:=hi;have h0:Ends cr 0:=.flat rfl;have h1:Ends cr 1:=.flat rfl;have hc:i=0∨i=1∨i=2∨i=3∨i=4:=by omega
 obtain rfl|rfl|rfl|rfl|rfl:=hc
 .exact h0
 .exact h1
 .exact .both h0 h1
 .exact .both h1 h0
 .exact .flat rfl
theorem Ko:ek cr 4=0:=by
 unfold ek;rw[ahh,ahi];decide
theorem ahj{l:List bL}(h:lx cr 4 l):l=[(4,1),(2,2),(0,2),(1,2),(3,1),(1,1),(0,1)]:=by
 have hd:cB (jj cr) [] [(4,1)] [(4,1),(2,2),(0,2),(1,2),(3,1),(1,1),(0,1)]:=by
  have e1:jj cr (4,1)=[(2,2),(3,1)]:=by decide +kernel
  have e2:jj cr (2,2)=[(0,2),(1,2)]:=by decide +kernel
  have e3:jj cr (0,2)=[]:=by decide +kernel
  have e4:jj cr (1,2)=[]:=by decide +kernel
  have e5:jj cr (3,1)=[(1,1),(0,1)]:=by decide +kernel
  have e6:jj cr (1,1)=[]:=by decide +kernel
  have e7:jj cr (0,1)=[]:=by decide +kernel
  refine cB.take (todo:=[]) (by decide) ?_;rw[e1];refine cB.take (todo:=[(3,1)]) (by decide) ?_;rw[e2];refine cB.take (todo:=[(3,1),(1,2)]) (by decide) ?_;rw[e3];refine cB.take (todo:=[(3,1)]) (by decide) ?_;rw[e4];refine cB.take (todo:=[]) (by decide) ?_;rw[e5];refine cB.take (todo:=[(0,1)]) (by decide) ?_;rw[e6];refine cB.take (todo:=[]) (by decide) ?_;rw[e7];exact .done _
 exact h.1.fn hd
theorem TJ(l:List bL)(h:lx cr 4 l):ly cr l=true:=by
 rw[ahj h];decide +kernel
theorem ahk{ns:List TN}{i:Int}(h:aI ns i=false):j8 ns [i]=[i]:=yF ⟨ajE _ _,fun x=>by
 constructor
 .intro hx;rw[ahZ.1 hx];exact⟨i,ah0,.flat h⟩
 .rintro⟨j,hj,ho⟩;rw[ahZ.1 hj]at ho;rw[ho.self h]
  exact ah0⟩
theorem TL{ns:List TN}{i:Int}(h:aI ns i=true){S:List Int}(ha:aI ns (nd ns i.toNat).a=false)(hb:aI ns (nd ns i.toNat).b=false)(hS:eQ S)(hm:∀x,x∈S↔x=(nd ns i.toNat).a∨x=(nd ns i.toNat).b):j8 ns [i]=S:=yF ⟨hS,fun x=>by
 rw[hm];constructor
 .rintro(rfl|rfl)
  .exact⟨i,ah0,.left h (.flat ha)⟩
  .exact⟨i,ah0,.right h (.flat hb)⟩
 .rintro⟨j,hj,ho⟩;rw[ahZ.1 hj]at ho
  cases ho with
  |flat hf=>rw[h]at hf;cases hf
  |left _ t=>exact .inl (t.self ha)
  |right _ t=>exact .inr (t.self hb)⟩
def fK:aB:=(true,false,[4])
def nL:aB:=(false,false,[0,1])
def qT:aB:=(true,false,[0,1])
def zj:EA:=⟨true,false,false,false,false,true,false,false,[],1,2,[],[]⟩
def Kp:EA:=⟨false,false,true,false,false,false,false,false,[0],0,0,[],[]⟩
def Kq:EA:=⟨true,false,true,false,false,false,false,false,[0],0,0,[],[]⟩
theorem ahl:a8 cr true [4]=fK:=by
 unfold a8;rw[ahk (by decide +kernel)];decide +kernel
theorem ahm:a8 cr false [2]=nL:=by
 unfold a8
 rw[TL (S:=[0,1]) (by decide +kernel) (by decide +kernel) (by decide +kernel) (by decide) (fun x=>by
  rw[show(nd cr (2:Int).toNat).a=0 from rfl,show(nd cr (2:Int).toNat).b=1 from rfl]
  simp)]
 decide +kernel
theorem ahn:a8 cr true [3]=qT:=by
 unfold a8
 rw[TL (S:=[0,1]) (by decide +kernel) (by decide +kernel) (by decide +kernel) (by decide) (fun x=>by
  rw[show(nd cr (3:Int).toNat).a=1 from rfl,show(nd cr (3:Int).toNat).b=0 from rfl];simp
  exact Or.comm)]
 decide +kernel
theorem n50:nE fK:=⟨by decide,by decide⟩
theorem n51:nE nL:=⟨by decide,by decide⟩
theorem n52:nE qT:=⟨by decide,by decide⟩
theorem pl1:bV [fK] nL=(1,[fK,nL]):=Qe n51 (fun d hd=>by rw[ahZ.1 hd];exact n50) (by decide)
theorem pl2:bV [fK,nL] qT=(2,[fK,nL,qT]):=Qe n52 (fun d hd=>by
 rcases ah6.1 hd with rfl|hd
 .exact n50
 .rw[ahZ.1 hd];exact n51) (by decide)
theorem aho(x:Int):bw [x]=[x]:=Bd (ajE _ _) fun _=>Iff.rfl
theorem ahp:eO cr fK [fK]=(zj,[fK,nL,qT]):=by
 have h3:bt cr 3 fK=false:=by decide +kernel
 have h4:bt cr 4 fK=false:=by decide +kernel
 have h5:bt cr 5 fK=false:=by decide +kernel
 have h6:bt cr 6 fK=true:=by decide +kernel
 have h7:bt cr 7 fK=false:=by decide +kernel
 have h8:bt cr 8 fK=false:=by decide +kernel
 have ha:eB cr fK [fK]=((1,2),[fK,nL,qT]):=by
  unfold eB;rw[h6,if_pos rfl,show aG cr 6 fK.2.2=[4] by decide +kernel];unfold j9;rw[show([4]:List Int).map (fun x=>(nd cr x.toNat).a)=[2]from rfl,show([4]:List Int).map (fun x=>(nd cr x.toNat).b)=[3]from rfl,show(!fK.1)=false from rfl,show fK.1=true from rfl,ahm,ahn,pl1,pl2]
 have hv:qC cr (aG cr 11 fK.2.2)=[]:=by
  rw[show aG cr 11 fK.2.2=[] by decide +kernel];exact QJ
 unfold eO dx;rw[h3,h4,h5,h6,h7,h8,ha,hv];rfl
theorem TM(c:aB)(hc:c=nL∨c=qT)(W:List aB):eO cr c W=(⟨c.1,false,true,false,false,false,false,false,[0],0,0,[],[]⟩,W):=by
 have hl:c.2.2=[0,1]∧c.2.1=false:=by rcases hc with rfl|rfl<;>exact⟨rfl,rfl⟩
 have h3:bt cr 3 c=true:=by unfold bt;rw[hl.1];decide +kernel
 have h4:bt cr 4 c=false:=by unfold bt;rw[hl.1];decide +kernel
 have h5:bt cr 5 c=false:=by unfold bt;rw[hl.1];decide +kernel
 have h6:bt cr 6 c=false:=by unfold bt;rw[hl.1];decide +kernel
 have h7:bt cr 7 c=false:=by unfold bt;rw[hl.1];decide +kernel
 have h8:bt cr 8 c=false:=by unfold bt;rw[hl.1];decide +kernel
 have hv:qC cr (aG cr 11 c.2.2)=[0]:=by
  rw[hl.1,show aG cr 11 [0,1]=[0] by decide +kernel];exact aho 0
 unfold eO eB dx;rw[h3,h4,h5,h6,h7,h8,hv,hl.2];rfl
theorem TP:nF cr 4 10=some [zj,Kp,Kq]:=by
 unfold nF;rw[ahl,show(bV [] fK).2=[fK]from rfl,show vp 10=10 from rfl];rw[kM,dif_pos (by decide),show([fK]:List aB)[([]:List EA).length]'(by decide)=fK from rfl,ahp,if_neg (by decide)];rw[kM,dif_pos (by decide),show([fK,nL,qT]:List aB)[([]++[zj]:List EA).length]'(by decide)=nL from rfl,TM nL (.inl rfl),if_neg (by decide)];rw[kM,dif_pos (by decide),show([fK,nL,qT]:List aB)[([]++[zj]++[⟨nL.1,false,true,false,false,false,false,false,[0],0,0,[],[]⟩]:List EA).length]'(by decide)=qT from rfl,TM qT (.inr rfl),if_neg (by decide)];rw[kM,dif_neg (by decide)];rfl
theorem ahq:nF cr 4 2000=some [zj,Kp,Kq]:=QK (n:=10) (by decide) 2001 TP
def FH:D:=.agg [.sl (some 4) [.agg [i64 11,i64 0,i64 0,.ai],.agg [i64 3,i64 0,i64 0,.ai],.agg [i64 10,i64 0,i64 1,.ai],.agg [i64 9,i64 1,i64 0,.ai],.agg [i64 6,i64 2,i64 3,.ai]],i64 4]
theorem TQ:Wk FH (bp cr 4):=RJ ⟨⟨.ai,rfl,.inl ⟨rfl,rfl⟩⟩,⟨.ai,rfl,.inl ⟨rfl,rfl⟩⟩,⟨.ai,rfl,.inl ⟨rfl,rfl⟩⟩,⟨.ai,rfl,.inl ⟨rfl,rfl⟩⟩,⟨.ai,rfl,.inl ⟨rfl,rfl⟩⟩,trivial⟩
theorem ahr:HP prog (GT t fz) 5 [] (fun r=>r=.d (.bool true)):=by
 have ty:=yT Ko;have c7:=(Jj (t:=t) (fz:=fz) cr 4 10 TH ty.lB ty.oI ty.rt Ko TJ).wk (show qo [FH,i64 10] [bp cr 4,i64 10]from⟨TQ,.refl _,trivial⟩);have c8:=(ahg (t:=t) (fz:=fz) cr 4 TH ty.lB ty.oI ty.rt Ko TJ).wk (show qo [FH] [bp cr 4]from⟨TQ,trivial⟩)
 rw[TP,show yU (some [zj,Kp,Kq])=.aA [.d (.agg [.sl (some 13) [
  .agg [.bool true,.bool false,.bool false,.bool false,.bool false,.bool true,.bool false,.bool false,.sl none [],i64 1,i64 2,.sl (some 2) [],.sl (some 2) []],
  .agg [.bool false,.bool false,.bool true,.bool false,.bool false,.bool false,.bool false,.bool false,.sl none [i64 0],i64 0,i64 0,.sl (some 2) [],.sl (some 2) []],
  .agg [.bool true,.bool false,.bool true,.bool false,.bool false,.bool false,.bool false,.bool false,.sl none [i64 0],i64 0,i64 0,.sl (some 2) [],.sl (some 2) []]],i64 0]),.d (i64 0)]from rfl]at c7
 rw[ahq]at c8;unfold FH at c7 c8;refine cJ func5 rfl (by decide +kernel) (by simp[ntmps5]) (aT fun E=>?_);simp only[go_sem];refine jg E [11] (some 4) _ rfl (by simp only[go_sem];rfl) ?_;simp only[go_sem];refine bj E (c7) rfl rfl (by simp) ?_;rintro _ rfl;simp only[go_sem];refine bj E (c8) rfl rfl (by simp) ?_;rintro _ rfl;simp only[go_sem];rw[show([.agg [.bool true,.bool false,.bool false,.bool false,.bool false,.bool true,.bool false,.bool false,.sl none [],i64 1,i64 2,.sl (some 2) [],.sl (some 2) []],.agg [.bool false,.bool false,.bool true,.bool false,.bool false,.bool false,.bool false,.bool false,.sl none [i64 0],i64 0,i64 0,.sl (some 2) [],.sl (some 2) []],.agg [.bool true,.bool false,.bool true,.bool false,.bool false,.bool false,.bool false,.bool false,.sl none [i64 0],i64 0,i64 0,.sl (some 2) [],.sl (some 2) []]]:List D).getD 1 .aY=.agg [.bool false,.bool false,.bool true,.bool false,.bool false,.bool false,.bool false,.bool false,.sl none [i64 0],i64 0,i64 0,.sl (some 2) [],.sl (some 2) []]from rfl];simp only[go_sem];rw[show([.agg [.bool true,.bool false,.bool false,.bool false,.bool false,.bool true,.bool false,.bool false,.sl none [],i64 1,i64 2,.sl (some 2) [],.sl (some 2) []],.agg [.bool false,.bool false,.bool true,.bool false,.bool false,.bool false,.bool false,.bool false,.sl none [i64 0],i64 0,i64 0,.sl (some 2) [],.sl (some 2) []],.agg [.bool true,.bool false,.bool true,.bool false,.bool false,.bool false,.bool false,.bool false,.sl none [i64 0],i64 0,i64 0,.sl (some 2) [],.sl (some 2) []]]:List D).getD 2 .aY=.agg [.bool true,.bool false,.bool true,.bool false,.bool false,.bool false,.bool false,.bool false,.sl none [i64 0],i64 0,i64 0,.sl (some 2) [],.sl (some 2) []]from rfl];simp only[go_sem]
end Go.Proofs.YtpmniabdmbmafaaGreatDoor

namespace Go.Proofs.YtpmniabdmbmafaaGreatDoor
open Go.Ab Go.Proofs.Tryz
variable {t:TypeId}{fz:Nat×Nat}
theorem ahs{ns:List TN}{root e:Int}(hm:ek ns root≠0)(h:Ce ns root e):e=ek ns root:=by
 obtain h|⟨h,_⟩:=h.2
 .exact h
 .exact absurd h hm
theorem aht{ns:List TN}{root e:Int}(hm:ek ns root=0)(h:Ce ns root e):e=12:=by
 obtain h2|⟨_,h2,_⟩:=h.2
 .exact absurd (h2.trans hm) h.1
 .exact h2
open Classical in
theorem ahu{ds es:List D}(h:j4 tsT ds)(h':j4 tsT es):HP prog (GT t fz) 3 [.agg ds,.agg es] (fun r=>r=.d (.bool true)):=by
 obtain⟨L,root,ns,rfl,de⟩:=RN h;obtain⟨L',g,gs,rfl,TR⟩:=RN h';have hs:=RQ de 14 (by decide);have bc:=RQ TR 6 (by decide);have h14:=TE (ns:=ns) (most:=14);have h6:=TE (ns:=gs) (most:=6);have hnd:=TF (ns:=ns) (most:=14);have ahv:=TF (ns:=gs) (most:=6);have ca:=RS (G:=GT t fz) root 14 de (by decide);have cb:=RS (G:=GT t fz) g 6 TR (by decide);generalize hT:nk ns 14=T at *
 generalize hU:nk gs 6=U at *
 have jL:=RP T root;have vJ:=RP U g;have Kr:∀k:Int,qo [j5 T root,i64 k] [bp T root,i64 k]:=fun k=>⟨jL,.refl _,trivial⟩
 have c8:=(aha (G:=GT t fz) U g bc).wk (show qo [j5 U g] [bp U g]from⟨vJ,trivial⟩);refine cJ func3 rfl (by decide +kernel) (by simp[ntmps3]) (aT fun E=>?_);simp only[go_sem];refine bj E ahr rfl rfl (by simp) ?_;rintro _ rfl;simp only[go_sem];refine bF mixed E fun X=>?_;simp only[go_sem];refine fo X ca rfl rfl (by simp) ?_;simp only[go_sem];refine fo X cb rfl rfl (by simp) ?_;unfold j5;simp only[go_sem];(try refine⟨by decide +kernel,?_⟩);by_cases hm:ek T root=0
 .obtain⟨l,hl⟩:=afq hm
  cases hp:ly T l with
  |false =>
    have hall:∀m,lx T root m->ly T m=false:=fun m iI=>by rw[<-hl.1.fn iI.1];exact hp
    have c7:HP prog (GT t fz) 7 [j5 T root,i64 40] (fun r=>r=.aA [.d (.agg [.ai,i64 0]),.d (i64 12)]):=(JM (Kn (G:=GT t fz) T root 40 hs (.inr hall)) fun r ⟨e,he,hr⟩=>by rw[hr,aht hm he]).wk (Kr 40);unfold j5 at c7;refine bj E c7 rfl rfl (by simp) ?_;rintro _ rfl;simp only[go_sem]
  |true =>
    have hall:∀m,lx T root m->ly T m=true:=fun m iI=>by rw[<-hl.1.fn iI.1];exact hp
    have ty:=yT hm;have hN:T.length<=14:=h14 ty.lB.len;have c7:=(Jj (t:=t) (fz:=fz) T root 40 hs ty.lB ty.oI ty.rt hm hall).wk (Kr 40)
    cases hr:nF T root 40 with
    |none =>
      rw[hr]at c7;unfold yU at c7;unfold j5 at c7;refine bj E c7 rfl rfl (by simp) ?_;rintro _ rfl;simp only[go_sem]
    |some R =>
      rw[hr]at c7;unfold yU rI at c7;unfold j5 at c7 c8;refine bj E c7 rfl rfl (by simp) ?_;rintro _ rfl;simp only[go_sem];refine bj E c8 rfl rfl (by simp) ?_;rintro _ ⟨bg,rfl,hbg⟩;simp only[go_sem];refine cK E ?_ ?_<;>intro h2<;>simp only[go_sem];obtain⟨Ks,B,hB,hBv⟩:=hbg (by simpa using h2);have TT:U.length<=6:=h6 (yT Ks).lB.len;obtain⟨rl,rs⟩:=ahc ty hr;have ahw:R.length<=40:=by rw[vp,if_neg (by decide)]at rl;omega
      obtain⟨_,e2,_⟩:=aeS ty (n:=vp 40) (by rw[vp,if_neg (by decide)];decide) hr
      have hZ:(df R).length<=1800:=by
       have:=Rp R (b:=21) (fun s hs=>by
        rw[<-JO];have h1:=(JP s (cz s.plus)).2.2.2.2.2.2.2;have h3:=(rs s hs).1
        omega) R.length (ain _)
       have h4:R.length*(1+2*21)<=40*43:=akY ahw (by decide);unfold df;omega
      have TU:=TD (R:=R) (fun s hs=>(rs s hs).2) R.length (ain _);have TV:=acp (G:=GT t fz) R 0 (by omega) e2;have Kt:=afP (G:=GT t fz) R 0 (by omega) (fun s hs=>by have:=rs s hs;omega) (fun n hn=>(TU n hn).symm.imp (fun h=>h.1) id);obtain⟨V,hA,Jp,_⟩:=RE hm hl hp hr;have hg:dJ U (·∈B):=afu Ks hB.2.1 (fun y hy z hz=>hB.1.agS (by simp) y hy z hz) hBv;have Ku:g∈B:=hB.1.agR.2 g (by simp);have TW:=ahe Ks (by omega);have TX:∀n∈U,n.l.length<=1000:=fun n hn=>by have:=ahv n hn;omega
      have hT1:∀n∈T,n.l.length<=1000:=fun n hn=>by have:=hnd n hn;omega
      have hZ1:∀n∈df R,n.l.length<=1000:=fun n hn=>by
       rcases TU n hn with h|h
       .rw[h];simp
       .omega
      have jW:pW R true 0:=y8 hA Jp (oE _ _ _);have hpr:xj l true root:=hl.1.sub.2 _ (by simp);have d1:=(TG (G:=GT t fz) (ns:=df R) (gs:=U) (Ry hA) hg jW Ku hZ TT TW hZ1 TX).wk (show qo [bp (df R) 0,j5 U g] [bp (df R) 0,bp U g]from⟨.refl _,vJ,trivial⟩);have d2:=(TG (G:=GT t fz) (ns:=T) (gs:=U) hA.qO hg hpr Ku (by omega) TT TW hT1 TX).wk (show qo [j5 T root,j5 U g] [bp T root,bp U g]from⟨jL,vJ,trivial⟩);have uT:=afv hm hl hp hr hg Ku;rw[show decide (nH 1000 (aq (df R) U) ([0],[g+(df R).length]))=decide (nH 1000 (aq T U) ([root],[g+T.length]))from decide_eq_decide.2 uT.symm]at d1;generalize decide (nH 1000 (aq T U) ([root],[g+T.length]))=bb at d1 d2;unfold rI at TV Kt;unfold bp at Kt d1;unfold j5 at d1 d2;refine bF mixed E fun X=>?_;simp only[go_sem];refine fo X TV rfl rfl (by simp) ?_;simp only[go_sem];refine fo X Kt rfl rfl (by simp) ?_;simp only[go_sem];refine fo X d1 rfl rfl (by simp) ?_;simp only[go_sem];refine fo X d2 rfl rfl (by simp) ?_;simp only[go_sem];decide +kernel
 .have c7:HP prog (GT t fz) 7 [j5 T root,i64 40] (fun r=>r=.aA [.d (.agg [.ai,i64 0]),.d (i64 (ek T root))]):=(JM (Kn (G:=GT t fz) T root 40 hs (.inl hm)) fun r ⟨e,he,hr⟩=>by rw[hr,ahs hm he]).wk (Kr 40);unfold j5 at c7;refine bj E c7 rfl rfl (by simp) ?_;rintro _ rfl;simp only[go_sem];refine bS E (fun _=>?_) (fun h=>absurd hm h)<;>simp only[go_sem];refine bS E (fun h=>absurd h hm) (fun _=>?_)<;>simp only[go_sem]
end Go.Proofs.YtpmniabdmbmafaaGreatDoor

namespace Go.Proofs.YtpmniabdmbmafaaGreatDoor
open Go.Ab Go.Proofs.Tryz
open Go.ChangeShapes Go.WideShapes Go.ChangeAt Go.RowKit
theorem Tryz.own:ownKnob prog.godebug=none:=by kernel_rfl
def vZ:List (String×DataW Unit):=[("math/bits.deBruijn32tab",Rows.laid_math_bits_deBruijn32tab),("math/bits.deBruijn64tab",Rows.laid_math_bits_deBruijn64tab),("internal/strconv.uint64pow10",Rows.laid_internal_strconv_uint64pow10)]
theorem Ms{P:Program}{x:String×DataW Unit}{r:List (String×DataW Unit)}{W:World}(h:laidMet P (x::r) W):laidMet P r W:=by
 obtain⟨ps,⟨g,t,cs,fuel,p,q,h1,h2,h3,h4,h5,rfl⟩,hnd,hall⟩:=h;exact⟨q,h5,(aiZ.1 hnd).2.1,fun b off hb=>hall b off (ajd _ hb)⟩
theorem Xp:(prog.globals[1]?).map (·.type)=some 245:=by kernel_rfl
theorem Xq{W:World}(h:laidMetH prog vZ W):∃t fz,∀q∈GT t fz,W.heap[q.1]?=some q.2:=by
 have h1:laidMet prog vZ W:=h;have h2:=Lib.tabIs_of_head (k:=.u64) (zs:=Lib.pow10Tab) (show prog.globalNamed "internal/strconv.uint64pow10" = some 1 by kernel_rfl) Xp (show prog.underlying 245=some (.array 20 186) by kernel_rfl) (show prog.underlying 186=some (.int .u64) by kernel_rfl) (by kernel_rfl) (by kernel_rfl) (Ms (Ms h1));unfold Lib.TabIs World.var? at h2;rw[show prog.globalNamed "internal/strconv.uint64pow10" = some 1 by kernel_rfl]at h2;simp only[Option.bind_some]at h2;split at h2
 .rename_i cs t fz hh;simp only[aiv]at h2;subst h2;refine⟨t,fz,fun q hq=>?_⟩;obtain rfl:=ahZ.1 hq;exact hh
 .cases h2
noncomputable def Mt(os:Os):World:=World.laidAll prog os vZ
theorem Xr(os:Os)(args:Array Value):laidMetH prog vZ ((Mt os).forCall (fun _ _=>0) ⟨#[],args,[]⟩).memory :=
 laidMetH_of_parts (laidMet_laidAll args (by kernel_rfl) (by kernel_rfl)) (by kernel_rfl)
theorem Tryz.laidOut:laidOutB prog=true:=by kernel_rfl
theorem Mu{H:Type}{enc:TypeId×Value->H}{t:TypeId}(hr:prog.readableRec t=true)(hrow:t<prog.types.size){W W':World}{v:Value}{d:DataW H}{ps:List MemPlace}
  (h:DataW.Trod enc prog W 0 (fun _=>true) true t v d ps) (he:Ext W W') (hlt:∀x∈ps,x.block<W.heap.size) :
  DataW.Trod enc prog W' 0 (fun b=>decide (b<W.heap.size)) true t v d ps :=
 WideElems.Trod_stays Tryz.laidOut hr hrow h (fun x hx=>by
  have h1:=he.old x.block (hlt x hx)
  cases x with
  |cell b off=>show W'.cell? _=W.cell? _;unfold World.cell?;rw[show W'.heap[b]?=W.heap[b]? from h1]
  |map b=>exact h1) (fun x hx=>by simpa using hlt x hx)
end Go.Proofs.YtpmniabdmbmafaaGreatDoor

namespace Go.Proofs.YtpmniabdmbmafaaGreatDoor
open Go.Ab Go.Proofs.Tryz
open Go.ChangeShapes Go.WideShapes Go.ChangeAt Go.RowKit
theorem Xt:(Rows.subsetSameRow.wf (OpenSpec.ofChange Rows.subsetSameSpec))=true:=by kernel_rfl
theorem Xu:(Tryz.f3.params.all (prog.readableRec ·))=true:=by kernel_rfl
theorem Xv:(namedTie prog Rows.subsetSameRow.named Rows.subsetSameSpec.vars)=true:=by kernel_rfl
theorem Xw:((Rows.subsetSameRow.stops == []))=true:=by kernel_rfl
theorem Xx:((Rows.subsetSameRow.knobs == []))=true:=by kernel_rfl
theorem Xy:((Rows.subsetSameRow.inPlace == prog.inPlace 3))=true:=by kernel_rfl
theorem Xz:((Rows.subsetSameRow.unfollowed == prog.unfollowed 3))=true:=by kernel_rfl
theorem XA:((Rows.subsetSameRow.recurses == prog.recurses 3))=true:=by kernel_rfl
theorem XB:((Rows.subsetSameRow.named == prog.varsNamed 3))=true:=by kernel_rfl
theorem XC:((Rows.subsetSameRow.maps == (Tryz.f3.params.toList++Rows.subsetSameSpec.plain.varTypes prog).any (prog.mapsRec ·)))=true:=by kernel_rfl
theorem XD:((Rows.subsetSameRow.ifaces == (Tryz.f3.params.toList++Rows.subsetSameSpec.plain.varTypes prog).any (prog.ifacesRec ·)))=true:=by kernel_rfl
theorem XE:((Rows.subsetSameRow.mapsOut == prog.mapsAmong Tryz.f3.resultTypes.toList))=true:=by kernel_rfl
theorem XF:((Rows.subsetSameRow.loops == (Tryz.f3.params.toList++Rows.subsetSameSpec.plain.varTypes prog).any (prog.loopsFrom ·)))=true:=by kernel_rfl
theorem XG:((Rows.subsetSameRow.wideKeys == (Tryz.f3.params.toList++Rows.subsetSameSpec.plain.varTypes prog++Tryz.f3.resultTypes.toList).any (prog.wideKeysFrom ·)))=true:=by kernel_rfl
theorem XH:(Rows.subsetSameSpec.vars.all (prog.varReadable ·))=true:=by kernel_rfl
theorem XI:(Tryz.f3.resultTypes.all (fun t=>prog.readableRec t&&decide (t<prog.types.size)))=true:=by kernel_rfl
theorem XJ:((Rows.subsetSameRow.ifacesOut == Tryz.f3.resultTypes.toList.any (prog.ifacesRec ·)))=true:=by kernel_rfl
theorem XK:((Rows.subsetSameRow.loopsOut == Tryz.f3.resultTypes.toList.any (prog.loopsFrom ·)))=true:=by kernel_rfl
theorem XL:((Rows.subsetSameRow.plainKeys == prog.plainKeys))=true:=by kernel_rfl
theorem XM:(Rows.subsetSameRow.shortTexts.isNone)=true:=by kernel_rfl
theorem XO:((Rows.subsetSameRow.lifted == prog.liftsFinal))=true:=by kernel_rfl
theorem XP:((prog.make == some Rows.subsetSameRow.make))=true:=by kernel_rfl
theorem XQ:((Rows.subsetSameRow.kinds == (if Rows.subsetSameRow.domain.isEmpty then[]else Tryz.f3.params.toList.map fun t=>match prog.underlying t with|some (.int k)=>some k|_=>none)))=true:=by kernel_rfl
theorem XR:((Rows.subsetSameRow.pinned == Rows.subsetSameRow.pinnedBy))=true:=by kernel_rfl
theorem XS:((Rows.subsetSameRow.veiled == (Tryz.f3.params.toList++Rows.subsetSameSpec.plain.varTypes prog++Tryz.f3.resultTypes.toList).any (prog.veiledRec ·)))=true:=by kernel_rfl
theorem XT:(Rows.subsetSameRow.veiledFits prog Tryz.f3.params.toList (Tryz.f3.params.toList++Rows.subsetSameSpec.plain.varTypes prog++Tryz.f3.resultTypes.toList))=true:=by kernel_rfl
end Go.Proofs.YtpmniabdmbmafaaGreatDoor

namespace Go.Proofs.YtpmniabdmbmafaaGreatDoor
open Go.Ab Go.Proofs.Tryz
open Go.ChangeShapes Go.WideShapes Go.ChangeAt Go.RowKit
theorem eZ{a b:Bool}(ha:a=true)(hb:b=true):(a&&b)=true:=by rw[ha,hb];rfl
theorem XU:(laidOutB prog)=true:=by kernel_rfl
theorem XV:(mapsRowed prog)=true:=by kernel_rfl
theorem XW:((prog.stops == []))=true:=by kernel_rfl
theorem XX:((prog.stopKnobs == []))=true:=by kernel_rfl
theorem XY:(prog.stopsHeard)=true:=by kernel_rfl
theorem XZ:(prog.mayEnter)=true:=by kernel_rfl
end Go.Proofs.YtpmniabdmbmafaaGreatDoor

namespace Go.Proofs.YtpmniabdmbmafaaGreatDoor
open Go.Ab Go.Proofs.Tryz
open Go.ChangeShapes Go.WideShapes Go.ChangeAt Go.RowKit
set_option maxRecDepth 100000 in
theorem ahx(os:Os)(started:os.Started)(H:Type)(enc:TypeId×Value->H) :
  ReturnsInHanded {} Tryz.checked os 3 .any (fun w args=>(Rows.subsetSameSpec.pre enc prog Tryz.f3 [] false w args∧laidMetH prog vZ w)∧sizedMet enc prog Tryz.f3 (OpenSpec.ofChange Rows.subsetSameSpec) false w args)
   (Rows.subsetSameSpec.post enc prog Tryz.f3 false true false false):=by
 refine returnsInHanded_of_change_and (C:=Tryz.checked) (X:=fun w _=>laidMetH prog vZ w) (fun _ _ _ hh h=>h.of_heap hh) Tryz.own started (by kernel_rfl) func3
  (ChangeSpec.witness_at (enc:=enc) (C:=Tryz.checked) (os:=os) (X:=fun w _=>laidMetH prog vZ w) false (Mt os) #[.agg #[.slice none 0 0,.int .i64 0],.agg #[.slice none 0 0,.int .i64 0]] 8 (World.laidAll_os _ _ _) (by kernel_rfl) (by kernel_rfl) (by kernel_rfl) (by kernel_rfl) (by kernel_rfl) (Xr os _)) ?_
 intro W base args ds gs before hval0 hW _ _ hL _;have hval:∀(j:Nat) t v,Tryz.f3.params[j]?=some t->args[j]?=some v->Value.okWide prog W .any base t v:=hval0;have hW':=hW;obtain⟨p,q,hA0,hV,rfl,hfz,hnd⟩:=hW;have hA:DataW.TrodAll enc prog W 0 (fun _=>true) true Tryz.f3.params.toList args.toList ds p:=hA0;rw[params3]at hA hval;obtain⟨v0,v1,d0,d1,p0,p1,rfl,rfl,rfl,h0,h1⟩:=trodAll_two hA;obtain⟨rfl,rfl⟩:=trodVars_none hV;clear hA0 hval0;obtain⟨tt,fz,hG⟩:=Xq hL;obtain⟨x0,rfl,_⟩:=okWide_struct underlying24 (hval 0 24 v0 rfl rfl);obtain⟨e0,k0,r0⟩:=Mq (m:=30) (show shp prog 30 24=some tsT by kernel_rfl) h0;obtain⟨x1,rfl,_⟩:=okWide_struct underlying24 (hval 1 24 v1 rfl rfl);obtain⟨e1,k1,r1⟩:=Mq (m:=30) (show shp prog 30 24=some tsT by kernel_rfl) h1;have eF:Rows.subsetSameSpec.fn H ([d0,d1]++[])={ results:=[.lit (.bool true)],args:=[d0,d1] }:=rfl;refine(Vu (ahu (t:=tt) (fz:=fz) k0 k1) hG (vs:=#[.agg x0,.agg x1]) rfl ?_).mono ?_
 .intro i d hi
  match i,hi with
  |0,hi=>obtain rfl:=ais hi;exact r0
  |1,hi=>obtain rfl:=ais hi;exact r1
 rintro e W' ⟨v,r,rfl,rfl,hext,_,_,_,_,hv⟩;obtain rfl:=hv.bool;have hlt:∀x∈p0++p1,x.block<W.heap.size:=fun x hx=>by simpa using hW'.lt x (by simpa using hx)
 refine⟨_,rfl,_,_,_,[],p0++p1,[],hW',?_,?_,?_,hext.frame _,fun h=>by cases h⟩
 .rw[eF];exact trodAll_mk1 (shut_bool underlying4 true)
 .rw[eF];exact trodAll_mk2 (Mu (by kernel_rfl) (of_decide_eq_true (by kernel_rfl)) h0 hext (fun x hx=>hlt x (by simp[hx]))) (Mu (by kernel_rfl) (of_decide_eq_true (by kernel_rfl)) h1 hext (fun x hx=>hlt x (by simp[hx])))
 .rw[eF];rfl
set_option maxRecDepth 100000 in
theorem ahy:joinedFacts prog 3 Tryz.f3 Rows.subsetSameSpec Rows.subsetSameRow=true:=by
 unfold joinedFacts;exact eZ (eZ (eZ (eZ (eZ (eZ (eZ (eZ (eZ (eZ (eZ (eZ (eZ (eZ (eZ (eZ (eZ (eZ (eZ (eZ (eZ (eZ (eZ (eZ (eZ (eZ (eZ (eZ (eZ (eZ (eZ Xt XU) XV) Xu) Xv) Xw) XW) Xx) XX) Xy) Xz) XA) XB) XC) XD) XE) XF) XG) XH) XI) XJ) XK) XL) XM) XY) XZ) XO) XP) XQ) XR) XS) XT
theorem ahz:Tryz.pinned.checked.prog.funcNamed Rows.subsetSameRow.func=some 3:=by kernel_rfl
theorem ahA:decide (Tryz.f3.isInstance Tryz.pinned.checked.prog Rows.subsetSameRow.origin Rows.subsetSameRow.targs)=true:=by kernel_rfl
theorem ahB:Rows.SubsetSameSaid :=
 OpenClaim.holds_of_wide 3 Tryz.f3 rfl rfl rfl rfl rfl rfl rfl ⟨rfl,rfl,rfl,rfl,rfl⟩ rfl rfl rfl rfl rfl ahz func3 ahy
  (of_decide_eq_true ahA) (by unfold Func.isWrapper;rw[if_neg (of_decide_eq_false (by kernel_rfl))];exact⟨rfl,rfl⟩)
  (fun os started H enc _=>ahx os started H enc)
theorem subsetSame_card:Rows.SubsetSameCardSaid :=
 Claim7.holds_tied_plain_at .later [] [.data,.data,.data] true (true, "de4a8935c18d3972328e4d4b3aab1a3f0f1457597fa4b24829adf2d535dc83c0") false
  ahB (fun _ h=>by cases h) (by kernel_rfl) (fun _ h=>by cases h) subsetSame_row_tie rfl ⟨rfl,rfl⟩ (by kernel_rfl) rfl
  (fun f fn hf hfn=>by
   obtain rfl:f=3:=ais ((show prog.funcNamed "syntagma/syntagmalaw25.SubsetSame" = some 3 by kernel_rfl).symm.trans hf) |>.symm;obtain rfl:fn=Tryz.f3:=(ais (func3.symm.trans hfn)).symm
   exact⟨by kernel_rfl,fun j t ht=>by
    rw[params3]at ht
    match j,ht with
    |0,ht=>obtain rfl:=ais ht;exact(show prog.wantsStandIn 24=false by kernel_rfl)
    |1,ht=>obtain rfl:=ais ht;exact(show prog.wantsStandIn 24=false by kernel_rfl)⟩)
  (by kernel_rfl)
end Go.Proofs.YtpmniabdmbmafaaGreatDoor

