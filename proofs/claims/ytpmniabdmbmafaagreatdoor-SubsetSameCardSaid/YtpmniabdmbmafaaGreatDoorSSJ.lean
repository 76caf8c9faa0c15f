/-
  The generic layer, part 103: a text's bytes appended. (with the parts that follow it)
-/
import Derived.Test.YtpmniabdmbmafaaGreatDoorSSI
import Derived.Test.YtpmniabdmbmafaaGreatDoorSSG
import Derived.Test.YtpmniabdmbmafaaGreatDoorSSH
import Derived.Test.YtpmniabdmbmafaaGreatDoorSSE
import Derived.Test.YtpmniabdmbmafaaGreatDoorSSF
import Derived.Deep.Upon
import Derived.Lib.MakeNoZero
import Derived.Lib.ItoaLen
import Derived.Shelf.SlSortCmp.WholeK
import Derived.Shelf.Sort.Plain
import Derived.Shelf.Slices.In.SortNone
import Derived.Shelf.LaysM
import Derived.Shelf.Sort.AssemblyIn
import Derived.Shelf.SlLaysF0
import Derived.Ground.NamesProg
set_option linter.all false
set_option maxHeartbeats 16000000
namespace Go.Ab
structure D1(H:Array Obj)(own:Nat->Prop)(wf:W)(xs:List D)(news:List Value):Prop where
 size:news.length=xs.length*wd wf
 ok:∀x∈xs,okW wf x
 rep:∀i x j d,xs[i]?=some x->x.cells[j]?=some d->au H own (news.getD (i*wd wf+j) undef) d
theorem Ph{H:Array Obj}{own:Nat->Prop}(l:List UInt8):D1 H own none (l.map kH) (byteCells ⟨l.toArray⟩):=by
 have hb:byteCells ⟨l.toArray⟩=l.map fun b=>Value.int .u8 b.toNat:=by unfold byteCells;simp
 refine⟨by rw[hb];simp[wd],fun x hx=>?_,fun i x j d hi hj=>?_⟩
 .obtain⟨c,_,rfl⟩:=ah9.1 hx;rfl
 .rw[aii]at hi
  cases hc:l[i]? with
  |none=>rw[hc]at hi;cases hi
  |some c =>
    rw[hc]at hi;obtain rfl:kH c=x:=by simpa using hi
    have l0:j=0∧d=kH c:=by
     obtain _|j:=j
     .refine⟨rfl,?_⟩;have:some (kH c)=some d:=hj;exact(ais this).symm
     .have:([kH c]:List D)[j+1]?=some d:=hj;simp at this
    obtain⟨rfl,rfl⟩:=l0;rw[hb,show i*wd none+0=i by simp[wd],ahX,aii,hc];exact .int _ _
section
variable {P:Program}{B:Base}{β:Name->Option aU}{s:St}{tm:Array Value}{w:World}{t u:TypeId}
section
variable {e:Nat}{i:TypeInfo}{z:Value}
theorem acd(hk:P.underlying t=some (.slice e))(hi:P.info? e=some i)(hz:i.zero=some z)(ty:TypeId){own:Nat->Prop}{wf:W}{xv yv:Value}{xs ys:List D}{olds news:List Value}(hs:i.size=wd wf)
  (hx:mX P w.heap own wf xv xs olds) (hy:Src P i.size u yv ys.length news w) {a:Option Addr} {cap:Nat} (jX:xv=.slice a xs.length cap) (cX:cap<xs.length+ys.length) (hb:(xs.length+ys.length)*i.bytes<=140737488355328) (fg:xs.length+ys.length<=140737488355328) :
  ∃nc,xs.length+ys.length<=nc∧(Builtin.append_ #[t,u] ty #[xv,yv]).run P w =
   .ok (.slice (some ⟨w.heap.size,0,none⟩) (xs.length+ys.length) nc) (w.drew.alloc (.cells (olds.toArray++news.toArray++Builtin.zeroCells z.cells (nc-(xs.length+ys.length))) e)):=by
 subst jX;refine⟨grownCap w (xs.length+ys.length) cap e,grownCap_ge _ _ _ _,?_⟩;have h:=run_append_grow_src w t u ty e i z hk hi hz a xs.length cap olds (by rw[hs];exact hx.run w.drew rfl) yv ys.length news hy cX (by omega) (by have:=growslice_fits cX hb;omega);rw[h];simp
theorem ace(hk:P.underlying t=some (.slice e))(hi:P.info? e=some i)(ty:TypeId){wf:W}{yv:Value}{ys:List D}{news:List Value}(hs:i.size=wd wf)
  (hy:Src P i.size u yv ys.length news w) {b o n cap:Nat} {c:Array Value} {e':TypeId} (hb:w.heap[b]?=some (.cells c e' (0,0))) (hr:n+ys.length<=cap) (lT:o+n*wd wf+news.length<=c.size) :
  (Builtin.append_ #[t,u] ty #[.slice (some ⟨b,o,none⟩) n cap,yv]).run P w =
   .ok (.slice (some ⟨b,o,none⟩) (n+ys.length) cap) (w.setRow b (splice c.toList (o+n*wd wf) news).toArray):=by
 have ah:=run_storeCells_at (P:=P) b (o+n*wd wf) e' news 0 c w hb (by simpa using lT) hy.one;simp only[Nat.add_zero]at ah;have hc:=hy.cells;rw[hs]at hc;rcases hy.kind with⟨e2,hu⟩|hu<;>simp[Builtin.append_,run_underlying hk,run_underlying hu,sizeOf,typeInfo,hi,hy.len,hr,hs,hc,lQ,ah,splice,aiS]
end
theorem acf{H:Array Obj}{own:Nat->Prop}{wf:W}{xs ys:List D}{olds news:List Value}{xv:Value}(hx:mX P H own wf xv xs olds)(hy:D1 H own wf ys news)(rest:Array Value) :
  (∀x∈xs++ys,okW wf x)∧∀i x j d,(xs++ys)[i]?=some x->x.cells[j]?=some d->au H own ((olds.toArray++news.toArray++rest).getD (i*wd wf+j) undef) d:=by
 refine⟨fun x h=>(ah1.1 h).elim (hx.ok x) (hy.ok x),fun i x j d hi hj=>?_⟩
 have eS:∀m,(olds.toArray++news.toArray++rest).getD m undef=if m<olds.length then olds.getD m undef else if m<olds.length+news.length then news.getD (m-olds.length) undef else rest.getD (m-(olds.length+news.length)) undef:=by
  intro m;simp only[ahY,ahX,aiN,ajK,akl,ajf];by_cases h1:m<olds.length
  .simp[h1,show m<olds.length+news.length by omega]
  .by_cases h2:m<olds.length+news.length
   .simp[h1,h2]
   .simp[h1,h2]
 rw[eS];rcases aiG i xs.length with hlt|cy
 .rw[aih hlt]at hi;have iH:=hx.ok x (aiz hi);have fU:j<wd wf:=by rw[<-gN iH];exact(ah3.1 hj).1
  have:i*wd wf+wd wf<=xs.length*wd wf:=by rw[<-ai2];exact aiu _ hlt
  rw[if_pos (by rw[hx.size];omega)];exact hx.rep i x j d hi hj
 .rw[aim cy]at hi;have iH:=hy.ok x (aiz hi);have bR:=(ah3.1 hi).1;have fU:j<wd wf:=by rw[<-gN iH];exact(ah3.1 hj).1
  have h1:xs.length*wd wf<=i*wd wf:=aiu _ cy;have h2:(i-xs.length)*wd wf+wd wf<=ys.length*wd wf:=by rw[<-ai2];exact aiu _ bR
  have h3:i*wd wf=(i-xs.length)*wd wf+xs.length*wd wf:=by rw[<-ai8];congr 1;omega
  rw[if_neg (by rw[hx.size];omega),if_pos (by rw[hx.size,hy.size];omega),hx.size,show i*wd wf+j-xs.length*wd wf=(i-xs.length)*wd wf+j by omega];exact hy.rep _ x j d hi hj
theorem Pj(h:aj B β s tm w){xv yv:Value}{p:Name}{o l:Nat}{tg:Option Nat}{wf:W}{xs ys:List D}{news:List Value}(hx:VR w.heap (s.own B.A β) s.used s.hp β xv (.vw p o l))(hp:s.hp p=some (.bu tg wf xs)){e:Nat}(hk:(P.ti t).k=.slice e)
  (hz:(P.ti e).nN=true) (hw:(P.ti e).fM (P.ti e).w=true) (jq:wf=(P.ti e).w) (ty:TypeId) (vK:tg.getD e=e) {dd:Nat} (mr:dd<B.n) (kC:dd∉s.used) (hb:(l+ys.length)*(P.ti e).lN<=140737488355328)
  (gP:D1 w.heap (s.own B.A β) (P.ti e).w ys news) (Bf:∀it,P.info? e=some it->Src P it.size u yv ys.length news w) :
  ∃v w' β',(Builtin.append_ #[t,u] ty #[xv,yv]).run P w=.ok v w'∧aj B β' (((s.set p none).add dd (.bu tg wf ((xs.drop o).take l++ys))).put dd (.vw [dd] 0 (l+ys.length))) (tm.setIfInBounds dd v) w':=by
 obtain⟨hg,dk,_⟩:=mq hw
 obtain⟨z,hz,qa⟩:∃z,(P.ti e).z=some z∧z.length=(P.ti e).sz:=by
  unfold TI.nN at hz;split at hz
  .rename_i z h1;exact⟨z,h1,by simpa using hz⟩
  .cases hz
 obtain⟨zv,hr,hm,it,hi,p8,kz,kA⟩:=qZ hz;have hu:=kW hk
 have Cq:∀m:Nat,m*(P.ti e).lN<=140737488355328->m*it.bytes<=140737488355328∧m<=140737488355328:=by
  intro m iI;unfold TI.lN at iI;rw[kA];split at iI
  .rename_i h0;rw[h0];simp at iI ⊢;exact iI
  .exact⟨iI,aix (akR m (by omega)) iI⟩
 have fresh:∀(s1:St) (β1:Name->Option aU) (xs ys:List D) (olds news:List Value) (zM:Value) (dd nc:Nat),aj B β1 s1 tm w->mX P w.heap (s1.own B.A β1) (P.ti e).w zM xs olds->D1 w.heap (s1.own B.A β1) (P.ti e).w ys news->dd<B.n->dd∉s1.used ->
   xs.length+ys.length<=nc->∃β',aj B β' ((s1.add dd (.bu tg (P.ti e).w (xs++ys))).put dd (.vw [dd] 0 (xs.length+ys.length))) (tm.setIfInBounds dd (.slice (some ⟨w.heap.size,0,none⟩) (xs.length+ys.length) nc))
    (w.drew.alloc (.cells (olds.toArray++news.toArray++Builtin.zeroCells zv.cells (nc-(xs.length+ys.length))) e)):=by
  intro s1 β1 xs ys olds news zM dd nc h1 fC gP mr kC sA;obtain⟨r1,r2⟩:=acf fC gP (Builtin.zeroCells zv.cells (nc-(xs.length+ys.length)))
  have q7:zv.cells.size=wd (P.ti e).w:=by
   have:=(uc (H:=w.heap) (own:=s.own B.A β) hm).1;simp at this;omega
  have bh:(olds.toArray++news.toArray++Builtin.zeroCells zv.cells (nc-(xs.length+ys.length))).size=nc*wd (P.ti e).w:=by
   simp only[akl,ajK,fC.size,gP.size,size_zeroCells,q7,<-ai8];congr 1;omega
  have:=zH (h1.xy (w':=w.drew) rfl rfl) mr kC (c:=olds.toArray++news.toArray++Builtin.zeroCells zv.cells (nc-(xs.length+ys.length))) (wf:=(P.ti e).w) (xs:=xs++ys) (cap:=nc) (by simpa using sA)
   (by rw[bh];exact ain _) r1 (fun i x j d hi hj=>r2 i x j d hi hj) e tg vK
  simpa using this
 have Bf:=Bf it hi;obtain⟨sB,mY⟩:=Cq _ hb;have iX:kr (P.ti e).w s.hp (.vw p o l)=some ((xs.drop o).take l):=by simp[kr,hp,jq]
 obtain⟨olds,fC⟩:=Co (P:=P) h hx iX;have kx:=ku (h.aO p _ hp).1 kC
 have vL:∀ob,(s.set p none).add dd ob=(s.add dd ob).set p none:=by
  intro ob;unfold St.add St.set;simp only[St.mk.injEq,true_and,and_true];funext q;simp only[aP];by_cases h1:q=[dd]
  .subst h1;simp[Ne.symm kx]
  .simp[h1]
 cases hx with
 |vw _ _ _ _ hn h1 hx =>
   obtain⟨hle,a,cap,rfl,aV⟩:=hx _ _ _ hp;have hlen:((xs.drop o).take l).length=l:=by simp;omega
   by_cases cX:cap<l+ys.length
   ·-- it grows
    have F7:cap<((xs.drop o).take l).length+ys.length:=by rw[hlen];exact cX
    obtain⟨nc,sA,aK⟩:=acd (P:=P) (t:=t) hu hi p8 ty (by rw[kz,dk]) fC Bf (a:=a) (cap:=cap) (by rw[hlen]) F7 (by rw[hlen];exact sB) (by rw[hlen];exact mY);obtain⟨β',hs⟩:=fresh s β _ ys olds news _ dd nc h fC gP mr kC sA;rw[hlen]at hs aK;refine⟨_,_,β',aK,?_⟩;rw[vL,jq];have:=hs.drop p;have e2:((s.add dd (.bu tg (P.ti e).w ((xs.drop o).take l++ys))).put dd (.vw [dd] 0 (l+ys.length))).set p none=((s.add dd (.bu tg (P.ti e).w ((xs.drop o).take l++ys))).set p none).put dd (.vw [dd] 0 (l+ys.length)):=rfl
    rwa [e2]at this
   ·-- there is room
    obtain⟨rfl,rfl⟩|⟨k,az,rfl,fL,gO⟩:=aV
    .have:ys=[]:=ajk.1 (by omega);subst this;have hn0:news=[]:=ajk.1 (by rw[gP.size];simp);subst hn0;have acg:=Bf;have aK:=run_append_nothing w t u ty e it hu hi a 0 0 (ain 0) yv acg;refine⟨_,_,aP β [dd] none,aK,?_⟩;rw[vL];have e3:((xs.drop o).take 0++([]:List D))=[]:=by simp
     rw[e3]
     have:=((h.qY kC tg wf).put mr (v:=.slice a 0 0) (x:=.vw [dd] 0 0) (.vw _ _ _ _ ⟨dd,[],rfl,ah0⟩ rfl fun ty' w' xs' ae=>by
      have:w'=wf∧xs'=[]:=akU (a:=ty'=tg) (by simpa[St.add,aP,eq_comm]using ae);obtain⟨rfl,rfl⟩:=this
      exact⟨by simp,a,0,rfl,.inl ⟨rfl,rfl⟩⟩)).drop p
     exact this
    .have db:=(h.aO p _ hp).2;obtain⟨h0,p7⟩|⟨k',c',e',ug,hc,Cp,gM,zN,hcs⟩:=db
     .rw[h0]at az;cases az
     .rw[az]at ug;cases ug;have hmul:(o+cap)*wd wf=o*wd wf+cap*wd wf:=ai8 _ _ _;have K1:(l+ys.length)*wd wf<=cap*wd wf:=aiu _ (by omega);have US:(l+ys.length)*wd wf=l*wd wf+ys.length*wd wf:=ai8 _ _ _;have iY:=gP.size;rw[<-jq]at iY;have lT:k.o+o*wd wf+l*wd wf+news.length<=c'.size:=by omega
      have aK:=ace (P:=P) (t:=t) hu hi ty (wf:=wf) (by rw[kz,jq,dk]) Bf hc (o:=k.o+o*wd wf) (n:=l) (cap:=cap) (by omega) lT;refine⟨_,_,aP β [dd] (some ⟨k.b,k.o+o*wd wf,k.z⟩),aK,?_⟩
      have bm:=h.renew kC hp az tg wf ((xs.drop o).take l++ys) (k.o+o*wd wf) (w':=w.setRow k.b (splice c'.toList (k.o+o*wd wf+l*wd wf) news).toArray) rfl (by simp)
       (fun b hb=>setRow_other w k.b b _ hb) (fun hr=>?_)
      .refine bm.put mr (.vw _ _ _ _ ⟨dd,[],rfl,ah0⟩ rfl fun ty' w' xs' ae=>?_);have:w'=wf∧xs'=(xs.drop o).take l++ys:=akU (a:=ty'=tg) (by simpa[St.add,aP,eq_comm]using ae);obtain⟨rfl,rfl⟩:=this;refine⟨by simp;omega,_,cap,rfl,.inr ⟨_,by simp[aP];rfl,by simp,by omega,?_⟩⟩;simp only[aiD];omega
      .have gu:=uj c'.toList (k.o+o*wd wf+l*wd wf) news (by simpa using lT);refine⟨_,e',setRow_heap w k.b c' _ _ (0,0) hc,by simp;rw[gu];simpa using Cp,?_,fun x hx=>?_,fun i x j d hi hj=>?_⟩
       .rw[ah7,hlen];omega
       .rcases ah1.1 hx with hx|hx
        .exact zN x (aiX (aiJ hx))
        .rw[jq];exact gP.ok x hx
       .have zK:((splice c'.toList (k.o+o*wd wf+l*wd wf) news).toArray).getD (k.o+o*wd wf+i*wd wf+j) undef =
          if k.o+o*wd wf+l*wd wf<=k.o+o*wd wf+i*wd wf+j∧k.o+o*wd wf+i*wd wf+j<k.o+o*wd wf+l*wd wf+news.length then news.getD (k.o+o*wd wf+i*wd wf+j-(k.o+o*wd wf+l*wd wf)) undef else c'.getD (k.o+o*wd wf+i*wd wf+j) undef:=by
         have:=sv c'.toList (k.o+o*wd wf+l*wd wf) news (by simpa using lT) (k.o+o*wd wf+i*wd wf+j);simp only[aiI]at this;simp only[ahY,ajf,this,ahX];split<;>rfl
        rw[zK];rcases aiG i l with hlt|cy
        .rw[aih (by rw[hlen];exact hlt),ai4,if_pos hlt,aiU]at hi;have iH:=zN x (aiz hi);have fU:j<wd wf:=by rw[<-gN iH];exact(ah3.1 hj).1
         have:i*wd wf+wd wf<=l*wd wf:=by rw[<-ai2];exact aiu _ hlt
         rw[if_neg (by omega)];have:=hr _ _ (hcs _ x j d hi hj)
         rwa [show k.o+o*wd wf+i*wd wf+j=k.o+(o+i)*wd wf+j by rw[ai8];omega]
        .rw[aim (by rw[hlen];exact cy),hlen]at hi;have iH:=gP.ok x (aiz hi);rw[<-jq]at iH;have bR:=(ah3.1 hi).1;have fU:j<wd wf:=by rw[<-gN iH];exact(ah3.1 hj).1
         have g1:l*wd wf<=i*wd wf:=aiu _ cy;have g2:(i-l)*wd wf+wd wf<=ys.length*wd wf:=by rw[<-ai2];exact aiu _ bR
         have g3:i*wd wf=(i-l)*wd wf+l*wd wf:=by rw[<-ai8];congr 1;omega
         rw[if_pos (by omega),show k.o+o*wd wf+i*wd wf+j-(k.o+o*wd wf+l*wd wf)=(i-l)*wd wf+j by omega];have:=gP.rep _ x j d hi hj;rw[<-jq]at this;exact hr _ _ this
end
section
variable {P:Program}{cf:Cf}{Q:Exit->St->Prop}{s:St}{k:List It}
theorem ach(E:bB P cf Q){d t u e:Nat}{x y:Operand}{ty:TypeId}{pos:String}{af:Array Edge}(tg:Option Nat)(p:Name)(xs:List D)(l:List UInt8)(hk:(P.ti t).k=.slice e)(hu:(P.ti u).k=.str)(hz:(P.ti e).nN=true)(hw:(P.ti e).fM (P.ti e).w=true)(wK:(P.ti e).w=none)
  (vK:tg.getD e=e) (hd:d<cf.n∧d∉s.used) (hx:ev s x=.vw p 0 xs.length) (hp:s.hp p=some (.bu tg none xs)) (hy:ev s y=.d (.str l)) (hl:(xs.length+l.length)*(P.ti e).lN<=140737488355328)
  (h:E.run k (((s.set p none).add d (.bu tg none (xs++l.map kH))).put d (.vw [d] 0 (xs.length+l.length)))) :
  E.aX { dst:=some d,op:=.call { callee:=.builtin .append,args:=#[x,y],argTypes:=#[t,u] },type:=ty,pos:=pos,after:=af,guard:=none } s k .no:=by
 rw[gx];rw[E.run_eq]at h;intro B hB ds β a w ak hs Q';have lp:=hs.ev x;have rH:=hs.ev y;rw[hx]at lp;rw[hy]at rH
 have iN:a.eval y=.string ⟨l.toArray⟩:=by
  have g:∀v,au w.heap (s.own B.A β) v (.str l)->v=.string ⟨l.toArray⟩:=fun v hv=>by
   cases hv with
   |str l=>rfl
  exact g _ rH.cU
 obtain⟨hg,dk,_⟩:=mq hw;have nQ:P.underlying u=some .string:=p5 hu
 have key:=Pj (P:=P) (t:=t) (u:=u) (ys:=l.map kH) (news:=byteCells ⟨l.toArray⟩) hs lp hp hk hz hw wK.symm ty vK (by rw[hB.1];exact hd.1) hd.2 (by rw[aik];exact hl) (by rw[wK];exact Ph l) (yv:=.string ⟨l.toArray⟩) (fun it hi=>by
  have h1:=Src.ofString (P:=P) w nQ ⟨l.toArray⟩
  have h2:it.size=1:=by
   have gO:=hz;unfold TI.nN at gO;split at gO
   .rename_i z um;obtain⟨_,_,_,it',ao,_,kz,_⟩:=qZ um;rw[hi]at ao;cases ao;rw[kz,<-dk,wK];rfl
   .cases gO
  rw[h2,aik]
  exact h1)
 obtain⟨v,w',β',aK,bm⟩:=key;rw[akB,aij,aik]at bm;refine iZ (v:=v) (by simp) (by simp[execOp,resolve,invoke,builtin,iN,aK]) (.inl rfl) ⟨ak,_,β',eT h,bm⟩
end
end Go.Ab

namespace Go.Ab
theorem Pk:∀(n t:Nat) (acc:Array Value),(∀v∈acc,v.oneCell'=true)->∀v∈Extern.BytealgMakeNoZero.digits n t acc,v.oneCell'=true
 |0,_,_,h=>h
 |n+1,t,acc,h=>by
   rw[Extern.BytealgMakeNoZero.digits];refine Pk n _ _ fun v hv=>?_;rcases Array.mem_push.1 hv with hv|rfl
   .exact h v hv
   .rfl
theorem aci{P:Program}(w:World)(ps:Array TypeId)(t e:TypeId)(ht:P.underlying t=some (.slice e))(n:Nat)(hn:n<=281474976710656) :
  ∃cs:Array Value,(Extern.BytealgMakeNoZero.makeNoZero ps #[t] #[.int .i64 n]).run P w=.ok (.slice (some ⟨w.heap.size,0,none⟩) n cs.size) (w.drew.drew.alloc (.cells cs e))∧n<=cs.size∧∀v∈cs,v.oneCell'=true:=by
 obtain⟨z1,z2,z3,NK,HZ⟩:∃(z1 z2:String) (z3:Question),z3.forced=false∧Extern.BytealgMakeNoZero.makeNoZero ps #[t] #[.int .i64 n] =
  (do
   let .slice elem <-underlying t|stuck z1
   if(n:Int)<0||(n:Int) > 2 ^ 48 then runtimePanic (.error z2)
   let cap <-choose (.appendCap (n:Int).toNat 0 elem)
   askRoom cap
   let bytes <-choose z3
   let a <-newRow elem (Extern.BytealgMakeNoZero.digits cap bytes #[])
   pure (.slice (some a) (n:Int).toNat cap)) :=⟨_,_,_,rfl,rfl⟩
 refine⟨Extern.BytealgMakeNoZero.digits (grownCap w n 0 e) (z3.cut (w.tape (w.drawn+1) z3)) #[],?_,?_,Pk _ _ _ fun v hv=>by simp at hv⟩
 .rw[HZ];have h1:¬(n:Int)<0:=by omega
  have h2:¬(281474976710656:Int)<(n:Int):=by omega
  simp[run_underlying ht,h1,h2,show ∀a b c,(Question.appendCap a b c).forced=false from fun _ _ _=>rfl,NK,newRow,Lib.size_digits,grownCap]
 .rw[Lib.size_digits];simpa using grownCap_ge w n 0 e
section
variable {P:Program}{cf:Cf}{ops:Array Oper}{K:St->Ns->Prop}{r:List Oper}{s:St}{ns:Ns}
theorem acj(E:lg P cf ops K){d e n:Nat}{fv x:Operand}{at':Array TypeId}{ty:TypeId}{pos:String}{af:Array Edge}(f:FuncId)
  (aK:∀w:World,∃cs:Array Value,(callFunc f #[.int .i64 n]).run P w=.ok (.value (.slice (some ⟨w.heap.size,0,none⟩) n cs.size)) (w.drew.drew.alloc (.cells cs e))∧n<=cs.size∧∀v∈cs,v.oneCell'=true)
  (hd:d<cf.n∧d∉s.used) (hf:ev s fv=.aW f []) (hx:ev s x=.d (.int .i64 n))
  (hk:E.run r ((s.add d (.bu (some e) none (List.replicate n .unk))).put d (.vw [d] 0 n)) (ns++[([],[[d]],[d])])) :
  E.aX { dst:=some d,op:=.call { callee:=.value fv,args:=#[x],argTypes:=at' },type:=ty,pos:=pos,after:=af,guard:=none } r s ns .no:=by
 have eD:∀s':St,(s'.add d (.bu (some e) none (List.replicate n .unk))).put d (.vw [d] 0 n)=s'.go (some d) (.vw [d] 0 n) ⟨[([d],some (.bu (some e) none (List.replicate n .unk)))],[d]⟩:=fun s'=>by unfold St.go;rw[v7];rfl
 rw[E.eE];refine⟨.vw [d] 0 n,([],⟨[([d],some (.bu (some e) none (List.replicate n .unk)))],[d]⟩),fun s' hu hh he B hB gm β a w ak hs Q'=>?_,fun q hq=>?_,hd.1,?_⟩
 .have h1:ev s' fv=.aW f []:=(he fv (by simp[Op.operands,Call.operands])).trans hf;have h2:ev s' x=.d (.int .i64 n):=(he x (by simp[Op.operands,Call.operands])).trans hx;have oa:=hs.ev fv;rw[h1]at oa;have aV:=hs.ev x;rw[h2]at aV;have aV:=aV.int;generalize k9:a.eval fv=xZ at oa
  cases oa with
  |aW _ cvs _ hcs jV =>
  have mV:cvs=#[]:=ajx (by simpa using hcs);subst mV;obtain⟨cs,hrn,hle,Pl⟩:=aK w
  have e1:(execOp a.eval { dst:=some d,op:=.call { callee:=.value fv,args:=#[x],argTypes:=at' },type:=ty,pos:=pos,after:=af,guard:=none }:Sem Next)=callFunc f (#[]++#[x].map a.eval++#[]):=by
   show(do let d <-(Deferred.ofValue (a.eval fv) (#[x].map a.eval));invoke d.target d.args:Sem Next)=_;rw[k9];rfl
  have vM:d<B.n:=by rw[hB.1];exact hd.1
  obtain⟨β',bm⟩:=zH (hs.xy (w':=w.drew.drew) rfl rfl) vM (hu d (by simp)) (c:=cs) (wf:=none) (xs:=List.replicate n .unk) (cap:=cs.size) (by simpa using hle) (by simp[wd]) (fun y hy=>by rw[ajb hy];rfl)
   (fun i y j q hi hj=>by
    have hy:y=.unk:=ajb (aiz hi);subst hy;have bR:i<n:=by have:=(ah3.1 hi).1;simpa using this
    have l0:j=0∧q=.unk:=by
     obtain _|j:=j
     .have:some D.unk=some q:=hj;exact⟨rfl,(ais this).symm⟩
     .have:([D.unk]:List D)[j+1]?=some q:=hj;simp at this
    obtain⟨rfl,rfl⟩:=l0;refine .unk _ ?_;have:i*wd none+0<cs.size:=by simp[wd];omega
    rw[ahY,aiH this]
    exact Pl _ (Array.getElem_mem this)) e (some e) rfl
  rw[ai9]at bm;refine iZ (v:=.slice (some ⟨w.heap.size,0,none⟩) n cs.size) (w':=w.drew.drew.alloc (.cells cs e)) (by simp) (by rw[e1];simpa[aV]using hrn) (.inl rfl) ⟨ak,β',by rw[<-eD];exact bm⟩
 .obtain rfl:=ahZ.1 hq;exact hd.2
 .rw[<-E.run_eq,<-eD];exact hk
theorem Pm(E:lg P cf ops K){d t e:Nat}{x:Operand}{ty:TypeId}{pos:String}{af:Array Edge}{g:Option (Nat×Bool)}(hk:(P.ti t).k=.slice e)(hd:d<cf.n)(hx:ev s x=.d .ai)(h:E.run r (s.put d (.d (.int .i64 0))) (ns++[([],[],[])])) :
  E.aX { dst:=some d,op:=.call { callee:=.builtin .cap,args:=#[x],argTypes:=#[t] },type:=ty,pos:=pos,after:=af,guard:=g } r s ns .no:=by
 refine wb E (x:=.d (.int .i64 0)) [] (fun t ht=>by rw[Option.mem_def,aiv]at ht;rw[<-ht];exact hd) (fun s' _ he=>?_) h;refine wB rfl hd (by simp) (fun B β a w hs=>⟨.int .i64 0,?_,.d _ _ (.int _ _)⟩) (by rw[mU];rfl);have hv:=hs.ev x;rw[(he x (by simp[Op.operands,Call.operands])).trans hx]at hv;have hv:=hv.ai;simp[execOp,resolve,invoke,builtin,hv,Builtin.cap_,run_underlying (kW hk),goInt]
theorem ack(E:lg P cf ops K){d t e n o b:Nat}{x h:Operand}{ty:TypeId}{pos:String}{af:Array Edge}{g:Option (Nat×Bool)}(p:Name)(tg:Option Nat)(wf:W)(xs:List D)(hk:(P.ti t).k=.slice e)(hw:(P.ti e).fM wf=true)(hd:d<cf.n)
  (hx:ev s x=.vw p o n) (hp:s.hp p=some (.bu tg wf xs)) (hh:ev s h=.d (.int .i64 b)) (hb:b<=n) (hr:E.run r (s.put d (.vw p o b)) (ns++[([p],[],[])])) :
  E.aX { dst:=some d,op:=.slice t x none (some h) none,type:=ty,pos:=pos,after:=af,guard:=g } r s ns .no:=by
 refine wb E (x:=.vw p o b) [p] (fun q hq=>by rw[Option.mem_def,aiv]at hq;rw[<-hq];exact hd) (fun s' dz he=>?_) hr;refine wB rfl hd (by simp) (fun B β a w hs=>?_) (by rw[mU];rfl);have lp:=hs.ev x;have Pn:=hs.ev h;rw[(he x (by simp[Op.operands])).trans hx]at lp;rw[(he h (by simp[Op.operands])).trans hh]at Pn;have ae:s'.hp p=some (.bu tg wf xs):=(dz p (by simp)).trans hp;obtain⟨hg,dk,_⟩:=mq hw;have hu:=kW hk;generalize oz:a.eval x=vx at lp
 cases lp with
 |vw _ _ _ _ hn cw hx =>
   obtain⟨hle,a0,cap,rfl,aV⟩:=hx _ _ _ ae
   have fL:n<=cap:=by
    obtain⟨rfl,rfl⟩|⟨k,_,_,h,_⟩:=aV
    .exact ain _
    .exact h
   have IA:=xG (P:=P) true n cap none (some (.int .i64 b)) 0 b (.inl ⟨rfl,rfl⟩) (.inr ⟨_,rfl⟩) (Int.le_refl 0) (by omega) (by omega) w;refine⟨.slice (if cap=0 then a0 else a0.map (·.add (0*(P.ti e).sz))) b cap,?_,.vw _ _ _ _ hn rfl fun ty' w' xs' qd=>?_⟩
   .have e1:(Instr.sliceAt t (.slice a0 n cap) none (some (.int .i64 b)) none).run P w=.ok (.slice (if cap=0 then a0 else a0.map (·.add (0*(P.ti e).sz))) b cap) w:=by
     simp[Instr.sliceAt,run_underlying hu,Instr.slice,IA,run_sizeOf hg]
    simp[execOp,oz,Pn.int,e1]
   .rw[ae]at qd;cases qd;refine⟨by omega,_,_,rfl,?_⟩;by_cases mV:cap=0
    .exact .inl ⟨by omega,mV⟩
    .rw[if_neg mV];obtain⟨rfl,rfl⟩|⟨k,az,rfl,h3,h4⟩:=aV
     .exact absurd rfl mV
     .exact .inr ⟨k,az,by simp[lQ],by omega,h4⟩
end
section
variable {P:Program}{cf:Cf}{Q:Exit->St->Prop}{s:St}{k:List It}
theorem acm(E:bB P cf Q){x y:Operand}{d:Nat}{dT sT e0:Nat}{ty:TypeId}{pos:String}{af:Array Edge}{p:Name}{off len:Nat}{tg:Option Nat}{zs:List D}(hd:d<cf.n)(hk:(P.ti dT).k=.slice e0)(hw:(P.ti e0).fM none=true)
  (hx:ev s x=.vw p off len) (hp:s.hp p=some (.bu tg none zs)) (hy:ev s y=.d .ai) (h:E.run k (s.put d (.d (.int .i64 0)))) :
  E.aX { dst:=some d,op:=.call { callee:=.builtin .copy,args:=#[x,y],argTypes:=#[dT,sT] },type:=ty,pos:=pos,after:=af,guard:=none } s k .no:=by
 obtain⟨hg,dk,_⟩:=mq hw;have hu:=kW hk
 have bh:(P.info? e0).map (·.size)=some 1:=by
  obtain⟨i,_,hi,_,_,bh,_⟩:=oO hg;rw[hi];simp only[Option.map_some,aiv];rw[<-bh,<-dk];rfl
 refine wC E (x:=.d (.int .i64 0)) rfl hd (by simp) (fun B β a w hs=>⟨goInt 0,?_,.d _ _ (.int _ _)⟩) h;have lp:=hs.ev x;rw[hx]at lp;have rH:=hs.ev y;rw[hy]at rH;have rH:=rH.ai;generalize oz:a.eval x=vx at lp
 cases lp with
 |vw _ _ _ _ hn cw aV =>
 obtain⟨hle,a0,cap,rfl,OB⟩:=aV _ _ _ hp;have hr:=run_copy_none (P:=P) w dT sT ty e0 a0 none len cap 0 0 hu bh (aj0 (aie _));simp[execOp,resolve,invoke,builtin,oz,rH,hr,Result.andThen]
theorem acn(E:bB P cf Q){d t u e:Nat}{x y:Operand}{ty:TypeId}{pos:String}{af:Array Edge}(tg:Option Nat)(p:Name)(xs:List D)(n:Nat)(l:List UInt8)(hk:(P.ti t).k=.slice e)(hu:(P.ti u).k=.str)(hz:(P.ti e).nN=true)(hw:(P.ti e).fM (P.ti e).w=true)(wK:(P.ti e).w=none)
  (vK:tg.getD e=e) (hd:d<cf.n∧d∉s.used) (hx:ev s x=.vw p 0 n) (hp:s.hp p=some (.bu tg none xs)) (hy:ev s y=.d (.str l)) (hl:(n+l.length)*(P.ti e).lN<=140737488355328)
  (h:E.run k (((s.set p none).add d (.bu tg none (xs.take n++l.map kH))).put d (.vw [d] 0 (n+l.length)))) :
  E.aX { dst:=some d,op:=.call { callee:=.builtin .append,args:=#[x,y],argTypes:=#[t,u] },type:=ty,pos:=pos,after:=af,guard:=none } s k .no:=by
 rw[gx];rw[E.run_eq]at h;intro B hB ds β a w ak hs Q';have lp:=hs.ev x;have rH:=hs.ev y;rw[hx]at lp;rw[hy]at rH
 have iN:a.eval y=.string ⟨l.toArray⟩:=by
  have g:∀v,au w.heap (s.own B.A β) v (.str l)->v=.string ⟨l.toArray⟩:=fun v hv=>by
   cases hv with
   |str l=>rfl
  exact g _ rH.cU
 obtain⟨hg,dk,_⟩:=mq hw;have nQ:P.underlying u=some .string:=p5 hu
 have key:=Pj (P:=P) (t:=t) (u:=u) (ys:=l.map kH) (news:=byteCells ⟨l.toArray⟩) hs lp hp hk hz hw wK.symm ty vK (by rw[hB.1];exact hd.1) hd.2 (by rw[aik];exact hl) (by rw[wK];exact Ph l) (yv:=.string ⟨l.toArray⟩) (fun it hi=>by
  have h1:=Src.ofString (P:=P) w nQ ⟨l.toArray⟩
  have h2:it.size=1:=by
   have gO:=hz;unfold TI.nN at gO;split at gO
   .rename_i z um;obtain⟨_,_,_,it',ao,_,kz,_⟩:=qZ um;rw[hi]at ao;cases ao;rw[kz,<-dk,wK];rfl
   .cases gO
  rw[h2,aik]
  exact h1)
 obtain⟨v,w',β',aK,bm⟩:=key;rw[akB,aik]at bm;refine iZ (v:=v) (by simp) (by simp[execOp,resolve,invoke,builtin,iN,aK]) (.inl rfl) ⟨ak,_,β',eT h,bm⟩
end
end Go.Ab

namespace Go.Ab
end Go.Ab

namespace Go.Proofs.YtpmniabdmbmafaaGreatDoor
open Go.Ab
def gE(s:EA):D:=.agg [.bool s.plus,.bool s.al,.bool s.int,.bool s.bool,.bool s.str,.bool s.arr,.bool s.rc,.bool s.tg,aL s.vars,i64 s.dp,i64 s.dq,mC s.fl,mC s.tl]
def rI(l:List EA)(start:Int):D:=.agg [.sl (some 13) (l.map gE),i64 start]
theorem Po{l:List EA}{i:Nat}(h:i<l.length):(l.map gE).getD i .aY=gE l[i]:=by simp[h]
def mc(l:List EA)(k:Int)(p:Bool):Bool:=(decide (0<=k)&&decide (k<l.length))&&((l.getD k.toNat default).plus == p)
def IB(s:EA):Bool :=
 !(s.al&&(s.int||s.bool||s.str||s.arr||s.rc||s.tg||!s.vars.isEmpty))&&!(!s.arr&&(!decide (s.dp=0)||!decide (s.dq=0)))&&((s.rc||s.fl.isEmpty)&&(s.tg||s.tl.isEmpty))
def Pp(l:List Int)(i:Nat):Bool:=(decide (0<=l.getD i 0)&&decide (l.getD i 0<=999))&&(decide (i=0)||decide (l.getD (i-1) 0<l.getD i 0))
def D2(l:List Int):Bool:=(List.range l.length).all (Pp l)
def sX(is:List UInt8->Bool)(l:List cn):Bool:=(List.range l.length).all fun i=>is (eW l i)&&!lh l i
end Go.Proofs.YtpmniabdmbmafaaGreatDoor

namespace Go.Proofs.YtpmniabdmbmafaaGreatDoor
open Go.Ab
def IC(s:EA):List Int:=s.fl.map (·.2)++s.tl.map (·.2)
def IE(l:List EA)(s:EA):Bool :=
 (IB s&&D2 s.vars&&(sX qn s.fl&&decide (s.fl.length<=30))&&(sX ru s.tl&&decide (s.tl.length<=30))) &&
 !(s.arr&&(!mc l s.dp (!s.plus)||!mc l s.dq s.plus))&&!(IC s).any fun k=>!mc l k s.plus
structure Pq(s:EA):Prop where
 v:s.vars.length<=1000000
 f:s.fl.length<=400000
 t:s.tl.length<=400000
 fs:∀x∈s.fl,x.1.length<=9223372036854775807
 ts:∀x∈s.tl,x.1.length<=9223372036854775807
end Go.Proofs.YtpmniabdmbmafaaGreatDoor

namespace Go.Proofs.YtpmniabdmbmafaaGreatDoor
open Go.Ab
theorem sY(s:EA):gE s=.agg [.bool s.plus,.bool s.al,.bool s.int,.bool s.bool,.bool s.str,.bool s.arr,.bool s.rc,.bool s.tg,.sl none (s.vars.map i64),i64 s.dp,i64 s.dq,.sl (some 2) (s.fl.map bf),.sl (some 2) (s.tl.map bf)]:=rfl
def IG(l:List EA)(st:Int):Int:=if l.length=0∨2000<l.length then 8 else if !mc l st true||l.any (fun s=>!IE l s)then 4 else 0
end Go.Proofs.YtpmniabdmbmafaaGreatDoor

namespace Go.Proofs.YtpmniabdmbmafaaGreatDoor
open Go.Ab
end Go.Proofs.YtpmniabdmbmafaaGreatDoor

namespace Go.Proofs.YtpmniabdmbmafaaGreatDoor
open Go.Ab
end Go.Proofs.YtpmniabdmbmafaaGreatDoor

namespace Go.Proofs.YtpmniabdmbmafaaGreatDoor
open Go.Ab Tryz
theorem aco{G}(l:List Int)(hl:l.length<=1000000):HP prog G 26 [aL l] (fun r=>r=.d (aL l)):=by
 refine uN ?_;unfold aL;refine gy func26 rfl (by decide +kernel) (by simp[ntmps26]) (aT fun E=>?_);simp only[go_sem];refine⟨by omega,[([5],none,l.map i64)],?_⟩;simp only[go_sem];refine⟨_,rfl,?_⟩;exact .refl _
end Go.Proofs.YtpmniabdmbmafaaGreatDoor

namespace Go.Proofs.YtpmniabdmbmafaaGreatDoor
open Go.Ab Tryz
theorem D3{l:List cn}{i:Nat}(h:i<l.length):(l.map bf).getD i .aY=.agg [.str l[i].1,i64 l[i].2]:=by simp[h,bf]
theorem IK{α:Type}{β:Type}{f:α->β}{l:List α}{i:Nat}(h:i<l.length):(l.take i).map f++[f l[i]]=(l.take (i+1)).map f:=by
 rw[ah5 h,ail];rfl
def pn(s:EA)(a b:AV):List AV:=[.d (.bool s.plus),.d (.bool s.al),.d (.bool s.int),.d (.bool s.bool),.d (.bool s.str),.d (.bool s.arr),.d (.bool s.rc),.d (.bool s.tg),.d (.sl none (s.vars.map i64)),.d (i64 s.dp),.d (i64 s.dq),a,b]
theorem acp{G}(l:List EA)(st:Int)(hl:l.length<=1000000)(hs:∀s∈l,Pq s):HP prog G 11 [rI l st] (fun r=>r=.d (rI l st)):=by
 refine uN ?_;unfold rI;refine gy func11 rfl (by decide +kernel) (by simp[ntmps11]) (aT fun E=>?_);simp only[go_sem];refine eP E [1] (.agg [.sl (some 13) (l.map gE),i64 st]) rfl rfl ?_;simp only[go_sem];refine om E [3] 0 99 (some 13) [.d .ai,.d (i64 st)] rfl rfl (by rw[ay];decide) ?_;simp only[go_sem]
 refine bK E (X:={ i:Nat // i<=l.length }) (fun x=>[(1,.d (.ptr (.agg [.sl (some 13) (l.map gE),i64 st]))),(2,.bx [2] 0),(3,.bx [3] 0),(4,.d (i64 x.1))])
  (fun x=>[([2],.box [.d .ai,.d (i64 0)]),([3],.box [.vw [99] 0 x.1,.d (i64 st)]),([99],.arr (some 13) ((l.take x.1).map gE))]) [99,3,2] (fun x=>l.length-x.1) ⟨0,aie _⟩ id ?_ ?_
 .simp only[go_sem]
  all_goals (and_intros<;>first|rfl|trivial)
 rintro⟨i,hi⟩ E0;refine bW E0 fun Q' hQ E'=>?_;simp only at hi ⊢;simp only[go_sem];refine aH E' ?_ ?_<;>intro h1<;>simp only[go_sem]
 .have cw:i<l.length:=by omega
  obtain⟨hv,hf,ht,hfs,Mn⟩:=hs _ (ah2 cw);have c1:=aco (G:=G) l[i].vars hv;unfold aL at c1;refine⟨by omega,?_⟩;rw[Po cw];simp only[sY];simp only[go_sem];refine eP E' [5] (gE l[i]) rfl rfl ?_;simp only[sY];simp only[go_sem];refine bF mixed E' fun X=>?_;simp only[go_sem];refine fo X c1 rfl rfl (by simp) ?_;simp only[go_sem];(try refine⟨by decide +kernel,?_⟩);generalize sZ:l[i]=s at *
  refine om E' [6] 11 98 (some 2) (pn s (.d .ai) (.d .ai)) rfl rfl (by rw[ay];decide) ?_;simp only[pn];simp only[go_sem]
  refine bK E' (X:={ j:Nat // j<=(s.fl).length }) (fun x=>[(1,.d (.ptr (.agg [.sl (some 13) (l.map gE),i64 st]))),(2,.bx [2] 0),(3,.bx [3] 0),(4,.d (i64 i)),(5,.d (.ptr (gE s))),(6,.bx [6] 0)]++[(7,.d (i64 x.1))])
   (fun x=>[([2],.box [.d .ai,.d (i64 0)]),([3],.box [.vw [99] 0 i,.d (i64 st)]),([99],.arr (some 13) ((l.take i).map gE))]++[([6],.box (pn s (.vw [98] 0 x.1) (.d .ai))),([98],.arr (some 2) (((s.fl).take x.1).map bf))]) [98,6,99,3,2] (fun x=>(s.fl).length-x.1) ⟨0,aie _⟩ id ?_ ?_
  .simp only[pn,List.cons_append,List.nil_append];simp only[go_sem]
   all_goals (and_intros<;>first|rfl|trivial)
  rintro⟨j,hj⟩ E3;refine bW E3 fun Q3 po E4=>?_;simp only[pn,List.cons_append,List.nil_append,sY]at hj ⊢;simp only[go_sem];refine aH E4 ?_ ?_<;>intro h4<;>simp only[go_sem]
  .have oC:j<(s.fl).length:=by omega
   refine bF mixed E4 fun X=>?_;simp only[go_sem];refine⟨by omega,?_⟩;rw[D3 oC];simp only[go_sem];refine⟨by omega,?_⟩;rw[D3 oC];simp only[go_sem];refine⟨by omega,?_⟩;(try refine⟨by decide +kernel,?_⟩);rw[po];simp only[go_sem];refine⟨⟨j+1,by omega⟩,by show(s.fl).length-(j+1)<_;omega,ar [([98],[71])],?_⟩;simp only[pn,List.cons_append,List.nil_append];simp only[go_sem];rw[show List.take j (((s.fl).take j).map bf)=((s.fl).take j).map bf from aic (by simp;omega),<-IK oC,aD ⟨by omega,by omega⟩]
   and_intros<;>first|rfl|trivial
  have h5:j=(s.fl).length:=by omega
  subst h5;rw[aij,po];simp only[go_sem];refine uQ E' [98] (some 2) (s.fl.map bf) rfl ?_;simp only[go_sem];refine om E' [6] 12 97 (some 2) (pn s (.d (.sl (some 2) (s.fl.map bf))) (.d .ai)) rfl rfl (by rw[ay];decide) ?_;simp only[pn];simp only[go_sem]
  refine bK E' (X:={ j:Nat // j<=(s.tl).length }) (fun x=>[(1,.d (.ptr (.agg [.sl (some 13) (l.map gE),i64 st]))),(2,.bx [2] 0),(3,.bx [3] 0),(4,.d (i64 i)),(5,.d (.ptr (gE s))),(6,.bx [6] 0)]++[(8,.d (i64 x.1))])
   (fun x=>[([2],.box [.d .ai,.d (i64 0)]),([3],.box [.vw [99] 0 i,.d (i64 st)]),([99],.arr (some 13) ((l.take i).map gE))]++[([6],.box (pn s (.d (.sl (some 2) (s.fl.map bf))) (.vw [97] 0 x.1))),([97],.arr (some 2) (((s.tl).take x.1).map bf))]) [97,6,99,3,2] (fun x=>(s.tl).length-x.1) ⟨0,aie _⟩ id ?_ ?_
  .simp only[pn,List.cons_append,List.nil_append];simp only[go_sem]
   all_goals (and_intros<;>first|rfl|trivial)
  rintro⟨j,hj⟩ E3;refine bW E3 fun Q3 po E4=>?_;simp only[pn,List.cons_append,List.nil_append,sY]at hj ⊢;simp only[go_sem];refine aH E4 ?_ ?_<;>intro h4<;>simp only[go_sem]
  .have oC:j<(s.tl).length:=by omega
   refine bF mixed E4 fun X=>?_;simp only[go_sem];refine⟨by omega,?_⟩;rw[D3 oC];simp only[go_sem];refine⟨by omega,?_⟩;rw[D3 oC];simp only[go_sem];refine⟨by omega,?_⟩;(try refine⟨by decide +kernel,?_⟩);rw[po];simp only[go_sem];refine⟨⟨j+1,by omega⟩,by show(s.tl).length-(j+1)<_;omega,ar [([97],[96])],?_⟩;simp only[pn,List.cons_append,List.nil_append];simp only[go_sem];rw[show List.take j (((s.tl).take j).map bf)=((s.tl).take j).map bf from aic (by simp;omega),<-IK oC,aD ⟨by omega,by omega⟩]
   and_intros<;>first|rfl|trivial
  have h5:j=(s.tl).length:=by omega
  subst h5;rw[aij,po];simp only[go_sem];refine jg E' [97] (some 2) (s.tl.map bf) rfl rfl ?_;simp only[go_sem];refine⟨by omega,?_⟩;rw[hQ];simp only[go_sem];refine⟨⟨i+1,by omega⟩,by show l.length-(i+1)<_;omega,ar [([99],[102])],?_⟩;simp only[go_sem];rw[show List.take i ((l.take i).map gE)=(l.take i).map gE from aic (by simp;omega),<-IK cw,sZ,aD ⟨by omega,by omega⟩];exact⟨rfl,rfl⟩
 .rw[hQ];have h5:i=l.length:=by omega
  subst h5;simp only[go_sem];refine⟨[([99],some 13,l.map gE)],?_⟩;simp only[go_sem];exact⟨_,rfl,.refl _⟩
end Go.Proofs.YtpmniabdmbmafaaGreatDoor

namespace Go.Proofs.YtpmniabdmbmafaaGreatDoor
open Go.Ab
end Go.Proofs.YtpmniabdmbmafaaGreatDoor

namespace Go.Proofs.YtpmniabdmbmafaaGreatDoor
open Go.Ab
end Go.Proofs.YtpmniabdmbmafaaGreatDoor

namespace Go.Proofs.YtpmniabdmbmafaaGreatDoor
open Go.Ab
def nD(k:Nat):D:=i64 (k:Int)
end Go.Proofs.YtpmniabdmbmafaaGreatDoor

namespace Go.Proofs.YtpmniabdmbmafaaGreatDoor
open Go.Ab
end Go.Proofs.YtpmniabdmbmafaaGreatDoor

namespace Go.Proofs.YtpmniabdmbmafaaGreatDoor
open Go.Ab
theorem acq{l:List EA}{k:Int}{p:Bool}(h:mc l k p=true):0<=k∧k<l.length:=by
 simp only[mc,aia,decide_eq_true_eq]at h;exact h.1
end Go.Proofs.YtpmniabdmbmafaaGreatDoor

namespace Go.Proofs.YtpmniabdmbmafaaGreatDoor
open Go.Ab
end Go.Proofs.YtpmniabdmbmafaaGreatDoor

namespace Go.Proofs.YtpmniabdmbmafaaGreatDoor
open Go.Ab
end Go.Proofs.YtpmniabdmbmafaaGreatDoor

namespace Go.Proofs.YtpmniabdmbmafaaGreatDoor
open Go.Ab
end Go.Proofs.YtpmniabdmbmafaaGreatDoor

namespace Go.Proofs.YtpmniabdmbmafaaGreatDoor
open Go.Ab
end Go.Proofs.YtpmniabdmbmafaaGreatDoor

namespace Go.Proofs.YtpmniabdmbmafaaGreatDoor
open Go.Ab
end Go.Proofs.YtpmniabdmbmafaaGreatDoor

namespace Go.Proofs.YtpmniabdmbmafaaGreatDoor
open Go.Ab
end Go.Proofs.YtpmniabdmbmafaaGreatDoor

namespace Go.Proofs.YtpmniabdmbmafaaGreatDoor
open Go.Ab
end Go.Proofs.YtpmniabdmbmafaaGreatDoor

namespace Go.Proofs.YtpmniabdmbmafaaGreatDoor
open Go.Ab Tryz
def qz:List (Name×Ob):=[([0],.bz (some 167) [.d .aY,.d .ai])]
def wL(l:List UInt8):List (Name×Ob):=[([0],.bz (some 167) [.bx [0] 0,.vw [2] 0 l.length]),([2],.bu (some 5) none (l.map kH))]
def ji(l:List UInt8):List (Name×Ob):=[([0],.bz (some 167) [.bx [0] 0,.vw [1] 0 l.length]),([1],.bu (some 5) none (l.map kH))]
theorem Pr(v:Value)(w:World):(callFunc 168 #[v]).run prog w=.ok (.value v) w:=by
 rw[run_callFunc_extern func168 (by kernel_rfl) (by kernel_rfl) (by kernel_rfl) (e:=Extern.AbiNoEscape.same) (by kernel_rfl)];rw[Lib.run_noEscape];rfl
theorem Ps:(prog.ti 222).k=.Kv:=by kernel_rfl
theorem D4:prog.underlying 222=some .unsafePointer:=by kernel_rfl
theorem ahH{G}:bA prog G 145 [.bx [0] 0] [([0],.bz (some 167) [.d .aY,.vw [1] 0 0]),([1],.bu (some 5) none [])] [0,1] (fun r ae=>r=.aA []∧ae=[([0],.bz (some 167) [.bx [0] 0,.vw [1] 0 0]),([1],.bu (some 5) none [])]):=by
 refine eV func145 rfl (by decide +kernel) (by simp[ntmps145]) (aT fun E=>?_);simp only[go_sem];refine DC E (e:=167) true (by rw[qk]) (by simp only[go_sem]) rfl ?_;simp only[go_sem];refine Oe E (e:=167) [0] 0 167 [.d .aY,.vw [1] 0 0] (by rw[qk]) D4 (by kernel_rfl) (by simp only[go_sem]) rfl rfl (by decide) ?_;simp only[go_sem];refine Oh E 168 (.bx [0] 0) Pr (by simp only[go_sem]) rfl rfl ?_;simp only[go_sem];simp only[Ps];simp only[go_sem];refine Og E (e:=167) [0] 0 167 [.d .aY,.vw [1] 0 0] (by rw[qk]) D4 (by kernel_rfl) (by simp only[go_sem]) rfl rfl 2 rfl (by kernel_rfl) ?_;simp only[go_sem];refine⟨_,_,[0,1],id,⟨rfl,rfl⟩,?_⟩;simp only[go_sem]
theorem acr{G}(l:List UInt8):bA prog G 145 [.bx [0] 0] (ji l) [0,1] (fun r ae=>r=.aA []∧ae=ji l):=by
 unfold ji;refine eV func145 rfl (by decide +kernel) (by simp[ntmps145]) (aT fun E=>?_);simp only[go_sem];refine DC E (e:=167) false (by rw[qk]) (by simp only[go_sem]) rfl ?_;simp only[go_sem];refine Oc E (e:=167) [0] 0 (by rw[qk]) (by kernel_rfl) (by simp only[go_sem]) rfl rfl rfl ?_;simp only[go_sem];refine⟨_,_,[0,1],id,⟨rfl,rfl⟩,?_⟩;simp only[go_sem]
theorem ahI{G}:bA prog G 104 [.bx [0] 0] qz [0] (fun r ae=>r=.d (.str [])∧ae=qz):=by
 unfold qz;refine eV func104 rfl (by decide +kernel) (by simp[ntmps104]) (aT fun E=>?_);simp only[go_sem];refine Oa 10 mixed E (by simp only[List.take_succ_cons,List.take_zero];exact rfl) (by simp only[List.drop_succ_cons,akB];exact rfl) rfl rfl (by decide +kernel) fun X=>?_;simp only[go_sem];refine eg X (d:=4) [0] 0 (some 167) [.d .aY,.d .ai] (by simp only[go_sem]) rfl rfl ?_;simp only[go_sem];refine aa7 X (d:=7) (by simp only[go_sem]) rfl ?_;simp only[go_sem];refine eg X (d:=9) [0] 0 (some 167) [.d .aY,.d .ai] (by simp only[go_sem]) rfl rfl ?_;simp only[go_sem];(try refine⟨by decide +kernel,?_⟩);refine aa5 E (by simp only[go_sem]) rfl rfl ?_;simp only[go_sem];refine⟨_,_,[0],id,⟨rfl,rfl⟩,?_⟩;simp only[go_sem]
theorem acs:prog.cellsOf 5=1:=by kernel_rfl
theorem acu:prog.underlying 204=some (.pointer 5):=by kernel_rfl
theorem acv{G}(l:List UInt8)(h0:l≠[])(hl:l.length<=1000000000):bA prog G 104 [.bx [0] 0] (ji l) [0,1] (fun r ae=>r=.d (.str l)∧ae=[]):=by
 unfold ji;refine eV func104 rfl (by decide +kernel) (by simp[ntmps104]) (aT fun E=>?_);simp only[go_sem];refine Oa 10 mixed E (by simp only[List.take_succ_cons,List.take_zero];exact rfl) (by simp only[List.drop_succ_cons,akB];exact rfl) rfl rfl (by decide +kernel) fun X=>?_;simp only[go_sem];refine eg X (d:=4) [0] 0 (some 167) [.bx [0] 0,.vw [1] 0 l.length] (by simp only[go_sem]) rfl rfl ?_;simp only[go_sem];refine aa8 X (d:=7) [1] (some 5) none (l.map kH) l.length (by simp only[go_sem]) rfl rfl (ajO.2 h0) ?_;simp only[go_sem];refine eg X (d:=9) [0] 0 (some 167) [.bx [0] 0,.vw [1] 0 l.length] (by simp only[go_sem]) rfl rfl ?_;simp only[go_sem];(try refine⟨by decide +kernel,?_⟩);refine aa6 E (e:=5) [1] l (by simp only[go_sem]) acu acs h0 (by omega) rfl rfl rfl ?_;simp only[go_sem];refine⟨_,_,[0,1],id,⟨rfl,rfl⟩,?_⟩;simp only[go_sem]
end Go.Proofs.YtpmniabdmbmafaaGreatDoor

namespace Go.Proofs.YtpmniabdmbmafaaGreatDoor
open Go.Ab Tryz
theorem Pt{G}(l s:List UInt8)(hl:l.length+s.length<=1000000000):bA prog G 103 [.bx [0] 0,.d (.str s)] (ji l) [0,1] (fun r ae=>r=.aA [.d (i64 (s.length:Nat)),.d .lK]∧ae=wL (l++s)):=by
 have h0:=acr (G:=G) l;unfold ji at *
 unfold wL;refine eV func103 rfl (by decide +kernel) (by simp[ntmps103]) (aT fun E=>?_);simp only[go_sem];refine je E [.bx [0] 0] [([0],.bz (some 167) [.bx [0] 0,.vw [1] 0 l.length]),([1],.bu (some 5) none (l.map kH))] [0,1] h0 rfl rfl ⟨by simp only[go_sem],by rw[ay];decide⟩ rfl (by simp only[go_sem]) (by simp only[go_sem]) ?_;rintro _ _ ⟨rfl,rfl⟩;simp only[go_sem];refine⟨ain _,?_⟩;have oB:(l.map kH).length=l.length:=by simp
 refine ach E (d:=14) (e:=5) (some 5) [1] (l.map kH) s (by rw[vY]) (by rw[CX]) (by rw[qj];rfl) (by rw[qj];rfl) (by rw[qj];rfl) rfl ⟨by simp only[go_sem],by rw[ay];decide⟩ (by rw[oB];rfl) rfl rfl (by rw[qj,oB];simp[TI.lN];omega) ?_;rw[oB,<-ail];simp only[go_sem];refine⟨_,_,[0,1,2],ar [([2],[14])],⟨rfl,rfl⟩,?_⟩;rw[show(l++s).length=l.length+s.length by simp];simp only[go_sem]
end Go.Proofs.YtpmniabdmbmafaaGreatDoor

namespace Go.Proofs.YtpmniabdmbmafaaGreatDoor
open Go.Ab Tryz
variable {t:TypeId}{fz:Nat×Nat}
theorem acw(n:Int)(hn:zZ n):HP prog (GT t fz) 101 [i64 n] (fun r=>r=.d (.str (Lib.itoa n))):=by
 refine cJ func101 rfl (by decide +kernel) (by simp[ntmps101]) (aT fun E=>?_);simp only[go_sem];refine bj E (Xo n hn) rfl rfl (by simp) ?_;rintro _ rfl;simp only[go_sem]
theorem acx(n:Int)(hn:zZ n):HP prog (GT t fz) 58 [i64 n] (fun r=>r=.d (.str (Lib.itoa n))):=by
 refine cJ func58 rfl (by decide +kernel) (by simp[ntmps58]) (aT fun E=>?_);simp only[go_sem];refine bj E (acw n hn) rfl rfl (by simp) ?_;rintro _ rfl;simp only[go_sem]
end Go.Proofs.YtpmniabdmbmafaaGreatDoor

namespace Go.Proofs.YtpmniabdmbmafaaGreatDoor
open Go.Ab Tryz
theorem acy:qf prog 3=some (i64 0):=by kernel_rfl
end Go.Proofs.YtpmniabdmbmafaaGreatDoor

namespace Go.Proofs.YtpmniabdmbmafaaGreatDoor
open Go.Ab
end Go.Proofs.YtpmniabdmbmafaaGreatDoor

namespace Go.Ab
open Go.Sort Go.Lib Go.Proofs Go.Shelf Go.RowKit
theorem aj.grown{B:Base}{β:Name->Option aU}{s:St}{tm:Array Value}{w w':World}(h:aj B β s tm w)(hs:w.heap.size<=w'.heap.size)(ho:∀b,b<w.heap.size->w'.heap[b]?=w.heap[b]?)(ic:dy w'=dy w):aj B β s tm w':=by
 have hr:∀v d,au w.heap (s.own B.A β) v d->au w'.heap (s.own B.A β) v d:=fun v d hd=>hd.mono (fun b _ hb=>ho b hb) (fun _ _ h=>h);have ah:∀p,nm s.used p->iG s.hp s.hp β β p:=fun p _ o' aM=>⟨o',aM,Ob.mS _,rfl⟩
 refine { bE:=h.bE,io:=ic.trans h.io,size:=aix h.size hs,frame:=fun b hb hn=>(ho b (aiK hb h.size)).trans (h.frame b hb hn),slots:=fun t=>(h.slots t).mono hr (fun _ h=>h) ah,aO:=fun p o aM=>?_,blocks:=fun p k hp hk=>?_,inj:=h.inj,us:=h.us,stay:=h.stay }
 .obtain⟨h1,h2⟩:=h.aO p o aM;exact⟨h1,h2.mono hr (fun _ h=>h) ah rfl fun k hk=>ho k.b (h.blocks p k (by rw[aM];simp) hk).1⟩
 .obtain⟨h1,h2⟩:=h.blocks p k hp hk;exact⟨aiK h1 hs,h2⟩
end Go.Ab

namespace Go.Ab
open Go.Sort Go.Lib Go.Proofs Go.Shelf Go.RowKit
section
variable {P:Program}
theorem acz{G:List (Nat×Obj)}{f:Nat}(he:∀vs w,(callFunc f vs).run P w=.ok (.enter f vs) w)
  (acA:∀(ff off cap:Nat) (zs:List Int) (w:World),Holds (Value.int .i64) w ff off zs.toArray->ff<w.heap.size->zs.length<4611686018427387904->Calls P f #[.slice (some ⟨ff,off,none⟩) zs.length cap] w fun e w' =>
   e=.returned (.tuple #[])∧∃n os,w'=grow (putRow (Value.int .i64) (Go.Sort.ahead w n) ff off (zs.mergeSort fun x y=>decide (x<=y)).toArray) os)
  (Lr:∀(p:Option Addr) (cap:Nat) (w:World),Calls P f #[.slice p 0 cap] w fun e w'=>e=.returned (.tuple #[])∧w'=w)
  (a:Nat) (l:List Int) (hl:l.length<4611686018427387904) :
  bA P G f [.vw [a] 0 l.length] [([a],.arr none (l.map fun z=>D.int .i64 z))] [a] (fun r ae=>r=.aA []∧ae=[([a],.arr none ((l.mergeSort fun x y=>decide (x<=y)).map fun z=>D.int .i64 z))]):=by
 refine⟨he,fun B β vs w h1 h2 h3 h4 hs=>?_⟩;have bh:vs.size=1:=by rw[hs.bE,h1];rfl
 obtain⟨v0,rfl⟩:∃v0,vs=#[v0]:=by
  rcases vs with⟨_|⟨x,_|⟨y,r⟩⟩⟩<;>simp at bh;exact⟨x,rfl⟩
 have l8:=hs.slots 0;have dz:(mk (dM 0 [.vw [a] 0 l.length]) [([a],.arr none (l.map fun z=>D.int .i64 z))] [a]).hp [a]=some (.arr none (l.map fun z=>D.int .i64 z)):=by simp[mk,aE]
 have e0:(#[v0]:Array Value).getD 0 undef=v0:=rfl;rw[e0]at l8;have oB:(l.mergeSort fun x y=>decide (x<=y)).length=l.length:=ajR _
 obtain⟨av,cap,rj,acB⟩:∃av cap,v0=.slice av l.length cap∧(l.length=0∧cap=0∨∃kk,β [a]=some kk∧av=some ⟨kk.b,kk.o+0*wd none,none⟩∧l.length<=cap∧kk.o+(0+cap)*wd none<=kk.z):=by
  have acC:VR w.heap _ _ _ β v0 (.vw [a] 0 l.length):=l8
  cases acC with
  |vw _ _ _ _ _ _ h=>exact(h _ _ _ dz).2
 subst rj;by_cases ud:l=[]
 .subst ud;have hn:(([]:List Int).mergeSort fun x y=>decide (x<=y))=[]:=List.mergeSort_nil;rw[hn];refine((callsIn_wide (n:=0)).2 (Lr av cap w)).mono ?_;rintro e w' ⟨rfl,rfl⟩;refine⟨_,.aA [],_,[a],β,rfl,⟨rfl,rfl⟩,?_⟩;refine { bE:=rfl,io:=hs.io,size:=hs.size,frame:=hs.frame,slots:=fun t=>?_,aO:=hs.aO,blocks:=hs.blocks,inj:=hs.inj,us:=hs.us,stay:=hs.stay };rw[kV,lP,xE];by_cases ht:t=0
  .subst ht;rw[if_pos rfl];exact .aA _ _ rfl fun i x hi=>by simp at hi
  .rw[if_neg ht];exact .un _
 have La:0<l.length:=ajO.2 ud;obtain⟨kk,nt,rfl,fL,hz⟩:=acB.resolve_left (by omega);obtain⟨k',c,e,az,hc,CP,Pu,hw,cD⟩:=((hs.aO [a] _ dz).2).resolve_left (fun h=>by rw[nt]at h;cases h.1);obtain rfl:=ais (nt.symm.trans az);have hblk:=dK hc;have dk:wd none=1:=rfl;rw[dk]at Pu hz;rw[aik]at Pu
 have hcell:∀i,(hi:i<l.length)->c.getD (kk.o+i) undef=.int .i64 l[i]:=by
  intro i hi;have h1:(l.map fun z=>D.int .i64 z)[i]?=some (.int .i64 l[i]):=by simp[hi]
  have h2:=cD i _ 0 (.int .i64 l[i]) h1 rfl;rw[dk,akn,Nat.add_zero]at h2;cases hv:c.getD (kk.o+i) undef<;>rw[hv]at h2<;>cases h2;rfl
 have hH:Holds (Value.int .i64) w kk.b kk.o l.toArray:=by
  intro t ht;have kD:t<l.length:=by simpa using ht
  have:=hcell t kD;have hlt:kk.o+t<c.size:=by omega
  refine⟨?_,?_⟩
  .simp only[World.cell?,hc];rw[ahY,aiH hlt,Option.getD_some]at this;rw[aiH hlt,this];simp[kD]
  .simp[World.frozen?,hc]
 have ju:=(callsIn_wide (n:=0)).2 (acA kk.b kk.o cap l w hH hblk hl);have e3:(⟨kk.b,kk.o+0*wd none,none⟩:Addr)=⟨kk.b,kk.o,none⟩:=by rw[Nat.zero_mul,Nat.add_zero]
 rw[e3];refine ju.mono ?_;rintro _ w' ⟨rfl,n,os,rfl⟩;obtain⟨m,hm⟩:∃m,(l.mergeSort fun x y=>decide (x<=y))=m:=⟨_,rfl⟩
 rw[hm]at oB ⊢;refine⟨_,.aA [],_,[a],β,rfl,⟨rfl,rfl⟩,?_⟩
 have Ge:(Ob.arr none (l.map fun z=>D.int .i64 z)).like (.arr none (m.map fun z=>D.int .i64 z)):=by
  refine⟨⟨rfl,rfl⟩,?_⟩;simp only[aik,oB];exact ain _
 have jL:(putRow (Value.int .i64) (Go.Sort.ahead w n) kk.b kk.o m.toArray).heap=w.heap.modify kk.b (onCells (putCells (Value.int .i64) kk.o m.toArray)):=rfl
 obtain⟨bm,_⟩:=hs.modify (p:=[a]) (ob':=.arr none (m.map fun z=>D.int .i64 z)) dz Ge (w':=putRow (Value.int .i64) (Go.Sort.ahead w n) kk.b kk.o m.toArray) rfl (by rw[jL];simp)
  (fun b hb=>by
   have:=hb kk nt
   rw[jL,ajg,if_neg (Ne.symm this)])
  (fun _ _=>by
   refine .inr ⟨kk,putCells (Value.int .i64) kk.o m.toArray c,e,nt,?_,?_,?_,?_,?_⟩
   .rw[jL,ajg,if_pos rfl,hc];rfl
   .simp[putCells,CP]
   .simp only[aik,oB,dk];omega
   .intro x hx;obtain⟨y,_,rfl⟩:=ah9.1 hx;rfl
   .intro i x j dd hi hj;rw[aii,ah4]at hi;obtain⟨y,hy,rfl⟩:=hi;have bR:i<m.length:=(ah3.1 hy).1;have hj:[D.int .i64 y][j]?=some dd:=hj
    have l0:j=0:=by
     have:=(ah3.1 hj).1;simpa using this
    subst l0;obtain rfl:=ais hj;have hlt:kk.o+i<c.size:=by omega
    have eS:(putCells (Value.int .i64) kk.o m.toArray c).getD (kk.o+i*wd none+0) undef=.int .i64 y:=by
     rw[dk,akn,Nat.add_zero];simp only[putCells,ahY,Array.getElem?_mapIdx,aiH hlt,Option.map_some,Option.getD_some];rw[if_pos ⟨by omega,by simp;omega⟩,show kk.o+i-kk.o=i by omega];have:=(ah3.1 hy).2;simp[bR,this]
    rw[eS]
    exact .int _ _)
 have cX:=bm.grown (w':=grow (putRow (Value.int .i64) (Go.Sort.ahead w n) kk.b kk.o m.toArray) os) (by simp) (fun b hb=>heap_grow_old _ _ hb) rfl
 have ah:(mk (dM 0 [.vw [a] 0 l.length]) [([a],.arr none (l.map fun z=>D.int .i64 z))] [a]).set [a] (some (.arr none (m.map fun z=>D.int .i64 z)))=mk (dM 0 [.vw [a] 0 l.length]) [([a],.arr none (m.map fun z=>D.int .i64 z))] [a]:=by
  rw[Lt];simp[jM]
 rw[ah]at cX;refine { bE:=rfl,io:=cX.io,size:=cX.size,frame:=cX.frame,slots:=fun t=>?_,aO:=cX.aO,blocks:=cX.blocks,inj:=cX.inj,us:=cX.us,stay:=cX.stay };rw[kV,lP,xE];by_cases ht:t=0
 .subst ht;rw[if_pos rfl];exact .aA _ _ rfl fun i x hi=>by simp at hi
 .rw[if_neg ht];exact .un _
end
end Go.Ab

namespace Go.Proofs
open Go.Shelf
def Tryz.acD:Go.Shelf.Ren:=⟨fun|189=>44|125=>78|257=>77|128=>120|129=>121|294=>111|295=>112|296=>113|297=>114|298=>115|299=>116|216=>117|300=>118|301=>119|328=>153|329=>154|330=>155|331=>156|332=>157|215=>158|343=>182|n=>n,fun|28=>48|3=>3|46=>137|0=>0|51=>184|53=>186|4=>4|183=>177|182=>176|131=>86|5=>5|9=>9|218=>208|222=>212|228=>234|229=>88|n=>n,fun|n=>n⟩
theorem Tryz.Pv:Go.Proofs.Lays.n189 Tryz.prog Tryz.acD:={
 mixed:=by kernel_rfl
 f125:=Tryz.func78.trans (congrArg some (by kernel_rfl))
 f128:=Tryz.func120.trans (congrArg some (by kernel_rfl))
 f129:=Tryz.func121.trans (congrArg some (by kernel_rfl))
 f189:=Tryz.func44.trans (congrArg some (by kernel_rfl))
 f215:=Tryz.func158.trans (congrArg some (by kernel_rfl))
 f216:=Tryz.func117.trans (congrArg some (by kernel_rfl))
 f257:=Tryz.func77.trans (congrArg some (by kernel_rfl))
 f294:=Tryz.func111.trans (congrArg some (by kernel_rfl))
 f295:=Tryz.func112.trans (congrArg some (by kernel_rfl))
 f296:=Tryz.func113.trans (congrArg some (by kernel_rfl))
 f297:=Tryz.func114.trans (congrArg some (by kernel_rfl))
 f298:=Tryz.func115.trans (congrArg some (by kernel_rfl))
 f299:=Tryz.func116.trans (congrArg some (by kernel_rfl))
 f300:=Tryz.func118.trans (congrArg some (by kernel_rfl))
 f301:=Tryz.func119.trans (congrArg some (by kernel_rfl))
 f328:=Tryz.func153.trans (congrArg some (by kernel_rfl))
 f329:=Tryz.func154.trans (congrArg some (by kernel_rfl))
 f330:=Tryz.func155.trans (congrArg some (by kernel_rfl))
 f331:=Tryz.func156.trans (congrArg some (by kernel_rfl))
 f332:=Tryz.func157.trans (congrArg some (by kernel_rfl))
 f343:=Tryz.func182.trans (congrArg some (by kernel_rfl))
 t0:=Tryz.underlying0
 a0:=Tryz.isAgg0
 z0:=Tryz.sizeOf0
 v0:=Tryz.zeroValue0
 t3:=Tryz.underlying3
 a3:=Tryz.isAgg3
 z3:=Tryz.sizeOf3
 v3:=Tryz.zeroValue3
 t4:=Tryz.underlying4
 a4:=Tryz.isAgg4
 z4:=Tryz.sizeOf4
 v4:=Tryz.zeroValue4
 t5:=Tryz.underlying5
 a5:=Tryz.isAgg5
 z5:=Tryz.sizeOf5
 v5:=Tryz.zeroValue5
 t9:=Tryz.underlying9
 a9:=Tryz.isAgg9
 z9:=Tryz.sizeOf9
 v9:=Tryz.zeroValue9
 t28:=Tryz.underlying48
 a28:=Tryz.isAgg48
 z28:=Tryz.sizeOf48
 v28:=Tryz.zeroValue48
 t46:=Tryz.underlying137
 a46:=Tryz.isAgg137
 z46:=Tryz.sizeOf137
 v46:=Tryz.zeroValue137
 t51:=Tryz.underlying184
 a51:=Tryz.isAgg184
 z51:=Tryz.sizeOf184
 v51:=Tryz.zeroValue184
 t53:=Tryz.underlying186
 a53:=Tryz.isAgg186
 z53:=Tryz.sizeOf186
 v53:=Tryz.zeroValue186
 t131:=Tryz.underlying86
 a131:=Tryz.isAgg86
 z131:=Tryz.sizeOf86
 v131:=Tryz.zeroValue86
 t182:=Tryz.underlying176
 a182:=Tryz.isAgg176
 z182:=Tryz.sizeOf176
 v182:=Tryz.zeroValue176
 t183:=Tryz.underlying177
 a183:=Tryz.isAgg177
 z183:=Tryz.sizeOf177
 v183:=Tryz.zeroValue177
 t218:=Tryz.underlying208
 a218:=Tryz.isAgg208
 z218:=Tryz.sizeOf208
 v218:=Tryz.zeroValue208
 t222:=Tryz.underlying212
 a222:=Tryz.isAgg212
 z222:=Tryz.sizeOf212
 v222:=Tryz.zeroValue212
 t228:=Tryz.underlying234
 a228:=Tryz.isAgg234
 z228:=Tryz.sizeOf234
 v228:=Tryz.zeroValue234
 t229:=Tryz.underlying88
 a229:=Tryz.isAgg88
 z229:=Tryz.sizeOf88
 v229:=Tryz.zeroValue88 }
end Go.Proofs

namespace Go.Proofs.YtpmniabdmbmafaaGreatDoor
open Go.Ab Tryz
theorem acE:∀args w,(callFunc 44 args).run prog w=.ok (.enter 44 args) w:=fun args w=>ra func44 rfl (by decide +kernel) args w
theorem IL{G}(a:Nat)(l:List Int)(hl:l.length<=1000000):bA prog G 44 [.vw [a] 0 l.length] [([a],.arr none (l.map i64))] [a] (fun r ae=>r=.aA []∧ae=[([a],.arr none ((l.mergeSort fun x y=>decide (x<=y)).map i64))]) :=
 acz (P:=prog) acE (fun ff off cap zs w h1 h2 h3=>Any.slices_Sort_int Tryz.Pv ff off cap zs w h1 h2 h3) (fun p cap w=>Any.slices_Sort_int_none Tryz.Pv p cap w) a l (by omega)
end Go.Proofs.YtpmniabdmbmafaaGreatDoor

namespace Go.Proofs.YtpmniabdmbmafaaGreatDoor
open Go.Ab Tryz
def wM(ns:List TN)(l:List Int)(s:List Int×List Int):Prop:=rG ns [] s.1 s.2∧∀z,z∈s.2↔∃i∈l,dH ns i z
theorem acF(ns:List TN):wM ns [] ([],[]):=⟨⟨by simp,by simp,.nil,.nil,by simp⟩,by simp⟩
theorem wM.next{ns:List TN}(h:dO ns){l:List Int}{s:List Int×List Int}(ho:wM ns l s){i:Int}(hi:aC ns i):wM ns (l++[i]) (mG ns (ns.length+1) i s):=by
 have t:=DW h (ns.length+1) i [] s.1 s.2 hi (Pg h hi) (by simp) ho.1;refine⟨t.w,fun z=>⟨fun hz=>?_,?_⟩⟩
 .rcases t.org z hz with g|g
  .obtain⟨j,hj,hz⟩:=(ho.2 z).1 g;exact⟨j,aif _ hj,hz⟩
  .exact⟨i,by simp,g⟩
 .rintro⟨j,hj,hz⟩;rcases ah1.1 hj with hj|hj
  .exact t.sub z ((ho.2 z).2 ⟨j,hj,hz⟩)
  .rw[ahZ.1 hj]at hz;exact t.all z hz
theorem wM.lr{ns:List TN}{l:List Int}{s:List Int×List Int}(ho:wM ns l s):lr s.2=j8 ns l :=
 (yF ⟨ab6 ho.1.nd,fun x=>by rw[O6,ho.2]⟩).symm
theorem acG{G}(ns:List TN)(root:Int)(l:List Int)(h:dO ns)(hl:l.length<=10000000)(hk:∀x∈l,aC ns x) :
  bA prog G 34 [.d (.ptr (bD ns root)),.d (aL l)] [] [] (fun r ae=>r=.vw [0] 0 (j8 ns l).length∧ae=[([0],.arr none ((j8 ns l).map i64))]):=by
 unfold aL;refine eV func34 rfl (by decide +kernel) (by simp[ntmps34]) (aT fun E=>?_);simp only[go_sem];refine GU E (by simp only[go_sem]) (by rw[ay];decide) ?_;simp only[go_sem];refine eP E [2] (.ptr (bD ns root)) rfl rfl ?_;simp only[go_sem];refine om E [5] 0 98 none [.d .ai] rfl rfl (by rw[ay];decide) ?_;simp only[go_sem];obtain⟨Bp,Pw⟩:∃Bp,Bp=(bD ns root).ptr.ptr:=⟨_,rfl⟩
 rw[<-Pw]
 refine bK E (X:={ x:Nat×(List Int×List Int) // x.1<=l.length∧wM ns (l.take x.1) x.2 }) (fun x=>[(7,.bx [7] 0),(5,.bx [5] 0),(12,.d (.sl none (l.map i64))),(13,.d (i64 l.length)),(14,.d (i64 x.1.1))])
  (fun x=>[([5],.box [.vw [98] 0 x.1.2.2.length]),([10],.map (bT (fun n:Int=>i64 n) (mH x.1.2.1))),([6],.box [.mp [10]]),([7],.box [.aW 60 [.bx [6] 0,.d Bp,.bx [7] 0,.bx [5] 0]]),([98],.arr none (x.1.2.2.map i64))])
  [98,7,6,10,5,2] (fun x=>l.length-x.1.1) ⟨(0,([],[])),aie _,acF ns⟩ id ?_ ?_
 .simp only[go_sem]
  all_goals first|rfl|(and_intros<;>first|rfl|trivial)
 rintro⟨⟨k,s⟩,jd,ho⟩ E0;refine bW E0 fun Q' hQ E'=>?_;simp only at jd ho ⊢;simp only[go_sem];refine aH E' ?_ ?_<;>intro h1<;>simp only[go_sem]
 .have az:k<l.length:=by omega
  refine⟨by omega,?_⟩;rw[dF az];simp only[go_sem];have aF:=hk _ (ah2 az);have c1:=Iz (G:=G) ns root h (ns.length+1) l[k] [] s.1 s.2 aF (Pg h aF) (by simp) ho.1;have aM:=ho.next h aF;rw[<-ah5 az]at aM;obtain⟨s',bc⟩:∃s',s'=mG ns (ns.length+1) l[k] s:=⟨_,rfl⟩
  rw[show mG ns (ns.length+1) l[k] (s.1,s.2)=s' from bc.symm]at c1;rw[<-bc]at aM;unfold DZ wJ at c1;rw[<-Pw]at c1;refine jh E' (ar [([101],[6]),([102],[10]),([103],[7]),([104],[5]),([105],[98])]) _ _ _ c1 rfl rfl ⟨by simp only[go_sem],by rw[ay];decide⟩ rfl (by simp only[go_sem]) (by simp only[go_sem]) ?_;rintro _ _ ⟨rfl,rfl⟩;refine⟨by simp only[go_sem];try omega,?_⟩;simp only[go_sem];rw[hQ];simp only[go_sem];refine⟨⟨(k+1,s'),az,aM⟩,by show l.length-(k+1)<l.length-k;omega,ar [([98],[20,106])],?_⟩;simp only[go_sem];rw[aD ⟨by omega,by omega⟩]
  and_intros<;>first|rfl|trivial
 .have mB:k=l.length:=by omega
  subst mB;rw[aij]at ho;have hlen:=ho.1.len h;rw[hQ];simp only[go_sem];refine je E _ _ _ (IL 98 s.2 (by omega)) rfl rfl ⟨by simp only[go_sem],by rw[ay];decide⟩ (by simp only[go_sem]) (by simp only[go_sem]) (by simp only[go_sem]) ?_;rintro _ _ ⟨rfl,rfl⟩;refine⟨by simp only[go_sem];try simp,?_⟩;simp only[go_sem];rw[show s.2.mergeSort (fun x y=>decide (x<=y))=j8 ns l from ho.lr];have vb:(j8 ns l).length=s.2.length:=by rw[<-ho.lr,uZ]
  refine⟨_,_,[0],ar [([0],[98])],⟨rfl,rfl⟩,?_⟩;rw[vb];simp only[go_sem]
end Go.Proofs.YtpmniabdmbmafaaGreatDoor

namespace Go.Ab
section
variable {P:Program}{cf:Cf}{Q:Exit->St->Prop}{s:St}{k:List It}
theorem acH(E:bB P cf Q){d:Option Nat}{op:Op}{ty:TypeId}{ps:String}{af:Array Edge}(t:Nat)(f:FuncId)(aR:List D)(ht:s.fr t=.aW f (aR.map .d)){s':St}(he:s.put t (.d (.aW f aR))=s')(h:E.aX { dst:=d,op:=op,type:=ty,pos:=ps,after:=af,guard:=none } s' k (cR P.ti cf.n op d s')) :
  E.aX { dst:=d,op:=op,type:=ty,pos:=ps,after:=af,guard:=none } s k .no:=by
 subst he;rw[gx];rw[E.eE]at h;have h0:=sG (o:={ dst:=d,op:=op,type:=ty,pos:=ps,after:=af,guard:=none }) rfl h;intro B hB ds β a w' ak hs Q';refine h0 B hB ds β a w' ak (hs.sD ?_) Q';have hv:=hs.slots t;rw[ht]at hv;generalize a.tmps.getD t undef=v at hv
 cases hv with
 |aW _ vs _ bh hc=>exact .d _ _ (.aW _ _ _ (by simpa using bh) fun i x hi=>(hc i (.d x) (by simp[hi])).cU)
end
section
variable {P:Program}{cf:Cf}{s:St}{κ:Type}[DecidableEq κ]{ke:κ->D}{kv:κ->Value}
theorem acI{xt kt et:Nat}{x y z:Operand}{ty:TypeId}{pos:String}{af:Array Edge}(p:Name)(ms:List (κ×D))(key:κ)(d:D)(hm:(P.ti xt).k=.map kt et)(K:j3 P kt ke kv)
  (hx:ev s x=.mp p) (hp:s.hp p=some (.map (bT ke ms))) (hy:ev s y=.d (ke key)) (hd:ev s z=.d d) :
  QE P cf { dst:=none,op:=.mapUpdate xt x y z,type:=ty,pos:=pos,after:=af,guard:=none } s .un ([p],⟨[(p,some (.map (bT ke (gA ms key d))))],[]⟩):=by
 intro s' _ hh he B hB ds β a w ak hs Q';obtain⟨E⟩:=LF P cf (fun _ s2=>s2=s'.set p (some (.map (bT ke (gA ms key d)))));have h1:=GZ E (k:=[]) (s:=s') (ty:=ty) (pos:=pos) (af:=af) (dst:=none) p ms key d hm K ((he x (by simp[Op.operands])).trans hx) ((hh p (by simp)).trans hp) ((he y (by simp[Op.operands])).trans hy) ((he z (by simp[Op.operands])).trans hd) rfl (by rw[E.run_eq,mU]);rw[gx]at h1;refine Oper.wpIn_mono ?_ (h1 B hB ds β a w ak hs Q');rintro a' w' ⟨dB,s2,β',aK,br⟩;obtain⟨_,s3,β3,rfl,gQ⟩:=aK B hB ds β' a' w' dB br
 exact⟨dB,β3,by
  have e:s'.go none .un ⟨[(p,some (.map (bT ke (gA ms key d))))],[]⟩=s'.set p (some (.map (bT ke (gA ms key d)))):=by unfold St.go;rw[Av];rfl
  rw[e];exact gQ⟩
theorem acJ{ops:Array Oper}{K0:St->Ns->Prop}{r:List Oper}{ns:Ns}(E:lg P cf ops K0){xt kt et:Nat}{x y z:Operand}{ty:TypeId}{pos:String}{af:Array Edge}(p:Name)(ms:List (κ×D))(key:κ)(d:D)(hm:(P.ti xt).k=.map kt et)(K:j3 P kt ke kv)
  (hx:ev s x=.mp p) (hp:s.hp p=some (.map (bT ke ms))) (hy:ev s y=.d (ke key)) (hd:ev s z=.d d) (hk:E.run r (s.set p (some (.map (bT ke (gA ms key d))))) (ns++[([p],[p],[])])) :
  E.aX { dst:=none,op:=.mapUpdate xt x y z,type:=ty,pos:=pos,after:=af,guard:=none } r s ns .no:=by
 refine qt E .un ([p],⟨[(p,some (.map (bT ke (gA ms key d))))],[]⟩) (acI p ms key d hm K hx hp hy hd) (by simp) ?_;rw[ML];exact hk
end
theorem acK{H:Array Obj}{own:Nat->Prop}{used:List Nat}{hp:Name->Option Ob}{β:Name->Option aU}{v:Value}{p:Name}{w:W}{pre post:List D}(hu:nm used p)(ho:hp p=some (.arr w []))(h:VR H own used hp β v (.d (.agg (pre++.ai::post)))) :
  VR H own used hp β v (.agg (pre.map .d++.vw p 0 0::post.map .d)):=by
 have h1:=h.cU
 cases h1 with
 |agg vs _ hs hc hg =>
 refine .agg vs _ (by simpa using hs) (fun x hx=>?_) fun i x hi=>?_
 .obtain⟨i,hi,rfl⟩:=Array.getElem_of_mem hx;have ao:i<(pre++D.ai::post).length:=by rw[<-hs];exact hi
  have:=hg i _ (aib ao);have h2:=this.vD (hc _ (ah2 ao))
  rwa [show vs.getD i undef=vs[i] by simp[hi]]at h2
 .by_cases hlt:i<pre.length
  .rw[aih (by simpa using hlt),aii,ah4]at hi;obtain⟨d,hd,rfl⟩:=hi;exact .d _ _ (hg i d (by rw[aih hlt];exact hd))
  .rw[aim (by simpa using aju hlt),aik]at hi;have l6:(pre++D.ai::post)[i]?=(D.ai::post)[i-pre.length]?:=aim (aju hlt)
   cases hj:i-pre.length with
   |zero =>
     rw[hj]at hi l6;simp only[List.getElem?_cons_zero,aiv]at hi l6;subst hi;exact wc (w:=w) hu ho (.d _ _ (hg i _ l6))
   |succ j =>
     rw[hj]at hi l6;simp only[List.getElem?_cons_succ,aii,ah4]at hi l6;obtain⟨d,hd,rfl⟩:=hi;exact .d _ _ (hg i d (by rw[l6];exact hd))
theorem bA.acL{P:Program}{G:List (Nat×Obj)}{f:FuncId}{args:List AV}{hp:List (Name×Ob)}{u:List Nat}{Q Q':AV->List (Name×Ob)->Prop}(h:bA P G f args hp u Q)(n:Nat)(w:W)(hn:n∉u)
  (hQ:∀r ae,Q r ae->Q' r ae∨∃pre post,r=.d (.agg (pre++.ai::post))∧ae=[]∧Q' (.agg (pre.map .d++.vw [n] 0 0::post.map .d)) [([n],.arr w [])]):bA P G f args hp u Q':=by
 refine⟨h.1,fun B β vs W h1 h2 h3 h4 h5=>?_⟩;refine(h.2 B β vs W h1 h2 h3 h4 h5).mono ?_;rintro e w' ⟨v,r,ae,u',β',he,hq,hs⟩;rcases hQ r ae hq with cg|⟨pre,post,rfl,rfl,cg⟩
 .exact⟨v,r,ae,u',β',he,cg,hs⟩
 .have hle:Le ({ B with n:=1 }:Base).U0 id (mk [(0,.d (.agg (pre++.ai::post)))] [] u') (mk [(0,.d (.agg (pre++.ai::post)))] [] u):=by
   refine cF.le ?_;refine⟨⟨⟨rfl,rfl⟩,trivial⟩,trivial,trivial,?_,trivial⟩;rw[show({ B with n:=1 }:Base).U0=u from h3];simp
  obtain⟨β2,br,_⟩:=hs.le hle;have h6:=br.qY (t:=n) (by rw[ay];exact hn) none w;have h7:=h6.slots 0;rw[show((mk [(0,AV.d (.agg (pre++.ai::post)))] [] u).add n (.arr w [])).fr 0=.d (.agg (pre++.ai::post))from rfl]at h7;have h8:=h6.sD (acK (p:=[n]) (w:=w) ⟨n,[],rfl,ah0⟩ (by simp[St.add,aP]) h7)
  have e2:((mk [(0,AV.d (.agg (pre++.ai::post)))] [] u).add n (.arr w [])).put 0 (.agg (pre.map .d++.vw [n] 0 0::post.map .d))=mk [(0,.agg (pre.map .d++.vw [n] 0 0::post.map .d))] [([n],.arr w [])] (n::u):=by
   rw[Gn,Gm];rfl
  rw[e2]at h8;exact⟨v,_,_,_,_,he,cg,h8⟩
end Go.Ab

namespace Go.Proofs.YtpmniabdmbmafaaGreatDoor
open Go.Ab Tryz
abbrev aB:=Bool×Bool×List Int
def fY(c:aB):D:=.agg [.bool c.1,.bool c.2.1,.sl none (c.2.2.map i64)]
def ag(ns:List TN)(i:Int):Int:=(nd ns i.toNat).k
theorem fZ{ns:List TN}{i:Int}(hi:aC ns i):(ns.map aw).getD i.toNat .aY=.agg [i64 (nd ns i.toNat).k,i64 (nd ns i.toNat).a,i64 (nd ns i.toNat).b,.sl (some 2) ((nd ns i.toNat).l.map bf)] :=
 uP (by have:=hi.1;have:=hi.2;omega)
theorem acM{G}(l:List Int)(hl:l.length<=1000000):bA prog G 62 [.d (aL l)] [] [] (fun r ae=>r=.vw [0] 0 l.length∧ae=[([0],.arr none (l.map i64))]):=by
 refine bA.Nc (Q:=fun r ae=>(r=.d .ai∧ae=[]∧l=[])∨(r=.vw [0] 0 l.length∧ae=[([0],.arr none (l.map i64))])) ?_ 0 none (by simp) ?_
 .unfold aL;refine eV func62 rfl (by decide +kernel) (by simp[ntmps62]) (aT fun E=>?_);simp only[go_sem];refine Nb E (e:=3) (by simp only[go_sem]) (by simp only[go_sem]) rfl fun b hb=>?_;simp only[go_sem];refine cK E ?_ ?_<;>intro h<;>simp only[go_sem]
  .have:l=[]:=by simpa using hb h
   subst this;refine⟨_,[],[],id,.inl ⟨rfl,rfl,rfl⟩,?_⟩;simp only[go_sem]
  .refine⟨by omega,_,_,[0],ar [([0],[7])],.inr ⟨rfl,rfl⟩,?_⟩;simp only[go_sem]
 .rintro r ae (⟨rfl,rfl,rfl⟩|h)
  .exact .inr ⟨rfl,rfl,rfl,rfl⟩
  .exact .inl h
theorem acN{G}(ns:List TN)(root k:Int)(h:dO ns)(x:Int)(hx:aC ns x):HP prog G 63 [i64 x,.ptr (.ptr (bD ns root)),.ptr (i64 k)] (fun r=>r=.d (.bool (!decide (ag ns x=k)))):=by
 refine uN ?_;unfold bD;refine gy func63 rfl (by decide +kernel) (by simp[ntmps63]) (aT fun E=>?_);simp only[go_sem];refine bF mixed E fun X=>?_;simp only[go_sem];refine wG X (by simp) rfl ?_;simp only[go_sem];have gB:=hx.1;have iO:=hx.2;have hl:=h.len;refine⟨by omega,?_⟩;rw[fZ hx];simp only[go_sem];refine⟨by decide +kernel,[],?_⟩;simp only[go_sem];refine⟨_,rfl,?_⟩;rw[ag,decide_not];exact .refl _
def aG(ns:List TN)(k:Int)(l:List Int):List Int:=l.filter fun x=>decide (ag ns x=k)
theorem acO(ns:List TN)(k:Int)(l:List Int):l.filter (fun x=>!!decide (ag ns x=k))=aG ns k l:=by
 unfold aG;congr 1;funext x;simp
theorem qA{G}(ns:List TN)(root k:Int)(h:dO ns)(c:aB)(hl:c.2.2.length<=1000000)(hk:∀x∈c.2.2,aC ns x) :
  bA prog G 35 [.d (.ptr (bD ns root)),.d (fY c),.d (i64 k)] [] [] (fun r ae=>∃zs,r=.vw [0] 0 (aG ns k c.2.2).length∧ae=[([0],.arr none zs)]∧zs.take (aG ns k c.2.2).length=(aG ns k c.2.2).map i64∧dG zs=true):=by
 have c1:=acM (G:=G) c.2.2 hl;have c2:=abY (G:=G) c.2.2 (fun x=>!decide (ag ns x=k)) 63 [.ptr (.ptr (bD ns root)),.ptr (i64 k)] hl fun x hx=>acN ns root k h x (hk x hx);rw[acO]at c2;unfold aL at c1;unfold fY;refine eV func35 rfl (by decide +kernel) (by simp[ntmps35]) (aT fun E=>?_);simp only[go_sem];refine C9 E [3] (.ptr (bD ns root)) rfl rfl ?_;simp only[go_sem];refine C9 E [5] (i64 k) rfl rfl ?_;simp only[go_sem];refine je E _ _ _ c1 rfl rfl ⟨by simp only[go_sem],by first|(rw[ay];decide)|(simp only[go_sem]<;>(try rw[ay])<;>decide)⟩ (by simp only[go_sem]) (by simp only[go_sem]) (by simp only[go_sem]) ?_;rintro _ _ ⟨rfl,rfl⟩;refine⟨by simp only[go_sem];try simp,?_⟩;simp only[go_sem];refine acH E 10 63 [.ptr (.ptr (bD ns root)),.ptr (i64 k)] rfl rfl ?_;simp only[go_sem];refine jh E (ar [([0],[9,0])]) _ _ _ c2 rfl rfl ⟨by simp only[go_sem],by first|(rw[ay];decide)|(simp only[go_sem]<;>(try rw[ay])<;>decide)⟩ rfl (by simp only[go_sem]) (by simp only[go_sem]) ?_;rintro _ _ ⟨zs,rfl,rfl,hz,hf,qa⟩;refine⟨by simp only[go_sem];omega,?_⟩;simp only[go_sem];refine⟨_,_,[0],ar [([0],[9,0])],⟨zs,rfl,rfl,hz,hf⟩,?_⟩;simp only[go_sem]
theorem acP(l:List Int):eG (lr l)=bw l:=rfl
def qC(ns:List TN)(l:List Int):List Int:=bw (l.map fun x=>(nd ns x.toNat).a)
theorem acQ{G}(ns:List TN)(root:Int)(h:dO ns)(l:List Int)(hl:l.length<=1000000)(hk:∀x∈l,aC ns x) :
  bA prog G 36 [.d (.ptr (bD ns root)),.d (aL l)] [] [] (fun r ae=>∃zs,r=.vw [0] 0 (qC ns l).length∧ae=[([0],.arr none zs)]∧zs.take (qC ns l).length=(qC ns l).map i64∧dG zs=true):=by
 unfold aL bD;refine eV func36 rfl (by decide +kernel) (by simp[ntmps36]) (aT fun E=>?_);simp only[go_sem];refine wi E 5 98 none rfl (by rw[ay];decide) ?_;simp only[go_sem]
 refine bK E (X:={ i:Nat // i<=l.length }) (fun x=>[(0,.d (.ptr (.agg [.sl (some 4) (ns.map aw),i64 root,.unk,.unk,.unk]))),(5,.vw [98] 0 x.1),(8,.d (.sl none (l.map i64))),(9,.d (i64 l.length)),(10,.d (i64 x.1))])
  (fun x=>[([98],.arr none ((l.take x.1).map fun x=>i64 (nd ns x.toNat).a))]) [98] (fun x=>l.length-x.1) ⟨0,aie _⟩ id ?_ ?_
 .simp only[go_sem]
  all_goals first|rfl|(and_intros<;>first|rfl|trivial)
 rintro⟨i,hi⟩ E0;refine bW E0 fun Q' hQ E'=>?_;simp only at hi ⊢;simp only[go_sem];refine aH E' ?_ ?_<;>intro h1<;>simp only[go_sem]
 .have ao:i<l.length:=by omega
  have hx:=hk _ (ah2 ao);have gB:=hx.1;have iO:=hx.2;have hn:=h.len;refine⟨by omega,?_⟩;rw[dF ao];simp only[go_sem];refine yy E' (by simp) rfl ?_;simp only[go_sem];refine⟨by omega,?_⟩;rw[fZ hx];simp only[go_sem];refine⟨by omega,?_⟩;rw[hQ];refine⟨⟨i+1,ao⟩,by show l.length-(i+1)<l.length-i;omega,ar [([98],[25])],?_⟩;simp only[go_sem];rw[aD ⟨by omega,by omega⟩,aic (by simp;omega),ah5 ao,ail]
  and_intros<;>first|rfl|trivial
 .have bJ:i=l.length:=by omega
  subst bJ;rw[hQ];simp only[go_sem];obtain⟨l',gM⟩:∃l',l'=l.map fun x=>(nd ns x.toNat).a:=⟨_,rfl⟩
  have hlen:l'.length=l.length:=by rw[gM,aik]
  have c1:=IL (G:=G) 98 l' (by omega);have c2:=OZ (G:=G) (lr l') (by rw[uZ];omega);rw[acP,show bw l'=qC ns l by rw[gM,qC],uZ]at c2;rw[hlen]at c1 c2;rw[show l.map (fun x=>i64 (nd ns x.toNat).a)=l'.map i64 by rw[gM,aiV];rfl];refine je E _ _ _ c1 rfl rfl ⟨by simp only[go_sem],by rw[ay];decide⟩ (by simp only[go_sem]) (by simp only[go_sem]) (by simp only[go_sem]) ?_;rintro _ _ ⟨rfl,rfl⟩;refine⟨by simp only[go_sem];try simp,?_⟩;simp only[go_sem];rw[show l'.mergeSort (fun x y=>decide (x<=y))=lr l' from rfl];refine jh E (ar [([0],[98])]) _ _ _ c2 rfl rfl ⟨by simp only[go_sem],by rw[ay];decide⟩ rfl (by simp only[go_sem]) (by simp only[go_sem]) ?_;rintro _ _ ⟨zs,rfl,rfl,hz,hf,qa⟩;refine⟨by simp only[go_sem];rw[uZ];omega,?_⟩;simp only[go_sem];refine⟨_,_,[0],ar [([0],[98])],⟨zs,rfl,rfl,hz,hf⟩,?_⟩;simp only[go_sem]
end Go.Proofs.YtpmniabdmbmafaaGreatDoor

namespace Go.Proofs.YtpmniabdmbmafaaGreatDoor
open Go.Ab Tryz
def rJ(ns:List TN)(p:Bool)(x:Int):Bool:=decide (ag ns x=cz p)
def mf(ns:List TN)(p:Bool)(x:Int):Bool:=decide (ag ns x=cx p)
noncomputable def a8(ns:List TN)(p:Bool)(l:List Int):aB:=if(j8 ns l).any (rJ ns p)then(p,true,[])else(p,false,(j8 ns l).filter fun x=>!mf ns p x)
theorem D5{ns:List TN}{l:List Int}(h:dO ns)(hk:∀x∈l,aC ns x):∀x∈j8 ns l,aC ns x:=fun x hx=>by
 by_cases he:∃out,u7 ns l out
 .obtain⟨out,ho⟩:=he;rw[yF ho]at hx;obtain⟨i,hi,ic⟩:=(ho.2 x).1 hx;exact ic.ok h (hk i hi)
 .unfold j8 at hx;rw[dif_neg he]at hx;cases hx
theorem acR(ns:List TN)(l:List Int):eQ (j8 ns l):=by
 by_cases he:∃out,u7 ns l out
 .obtain⟨out,ho⟩:=he;rw[yF ho];exact ho.1
 .unfold j8;rw[dif_neg he];exact .nil
theorem IP{ns:List TN}{l:List Int}(h:dO ns)(hk:∀x∈l,aC ns x):(j8 ns l).length<=2000 :=
 aix (Ix ((acR ns l).imp fun eL e=>by omega) (D5 h hk)) h.len
theorem wN{α:Type}{p:α->Bool}{l:List α}{i:Nat}(h:i<l.length):(l.take (i+1)).filter p=(l.take i).filter p++(if p l[i]then[l[i]]else[]):=by
 rw[ah5 h,akg];cases hp:p l[i]<;>simp[hp]
theorem yG{ns:List TN}{p:Bool}{x:Int}{k:Int}(hk:cz p=k):rJ ns p x=decide ((nd ns x.toNat).k=k):=by rw[rJ,hk];rfl
theorem D6{ns:List TN}{p:Bool}{x:Int}{k:Int}(hk:cx p=k):mf ns p x=decide ((nd ns x.toNat).k=k):=by rw[mf,hk];rfl
theorem D7{q:Int->Bool}{l:List Int}{i:Nat}(h:i<l.length)(ha:(l.take i).any q=false)(hq:q l[i]=false):(l.take (i+1)).any q=false:=by
 rw[ah5 h,akv,ha];simp[hq]
theorem acS{G}(ns:List TN)(root:Int)(h:dO ns)(p:Bool)(l:List Int)(hl:l.length<=10000000)(hk:∀x∈l,aC ns x) :
  bA prog G 18 [.d (.ptr (bD ns root)),.d (.bool p),.d (aL l)] [] [] (fun r ae=>((a8 ns p l)=(p,true,[])∧r=.d (.agg [.bool p,.bool true,.ai])∧ae=[]) ∨
   ∃L,a8 ns p l=(p,false,L)∧r=.agg [.d (.bool p),.d (.bool false),.vw [0] 0 L.length]∧ae=[([0],.arr none (L.map i64))]):=by
 have c1:=acG (G:=G) ns root l h hl hk;have uv:=D5 h hk;have rK:=IP h hk;generalize hC:a8 ns p l=C;unfold a8 at hC;generalize j8 ns l=O at c1 uv rK hC;unfold aL at c1 ⊢;unfold bD at c1 ⊢;refine eV func18 rfl (by decide +kernel) (by simp[ntmps18]) (aT fun E=>?_);simp only[go_sem];refine cK E ?_ ?_<;>intro hp<;>simp only[go_sem]
 .have bd:cz p=1:=by rw[cz,if_pos (by simpa using hp)]
  have bH:cx p=2:=by rw[cx,if_pos (by simpa using hp)]
  refine je E _ _ _ c1 rfl rfl ⟨by simp only[go_sem],by rw[ay];decide⟩ (by simp only[go_sem]) (by simp only[go_sem]) (by simp only[go_sem]) ?_;rintro _ _ ⟨rfl,rfl⟩;refine⟨by simp only[go_sem];try simp,?_⟩;simp only[go_sem];refine uQ E [19,0] none (O.map i64) rfl ?_;simp only[go_sem];refine om E [9] 2 98 none [.d (.bool p),.d (.bool false),.d .ai] rfl rfl (by rw[ay];decide) ?_;simp only[go_sem]
  refine bK E (X:={ i:Nat // i<=O.length∧(O.take i).any (rJ ns p)=false }) (fun x=>[(0,.d (.ptr (.agg [.sl (some 4) (ns.map aw),i64 root,.unk,.unk,.unk]))),(1,.d (.bool p)),(6,.bx [6] 0),(7,.d (i64 2)),(8,.d (i64 1)),(9,.bx [9] 0),(19,.d (.sl none (O.map i64))),(20,.d (i64 O.length)),(21,.d (i64 x.1))])
   (fun x=>[([6],.box [.d (.bool false),.d (.bool false),.d .ai]),([9],.box [.d (.bool p),.d (.bool false),.vw [98] 0 ((O.take x.1).filter fun x=>!mf ns p x).length]),([98],.arr none (((O.take x.1).filter fun x=>!mf ns p x).map i64))]) [98,9,6] (fun x=>O.length-x.1) ⟨0,aie _,rfl⟩ id ?_ ?_
  .simp only[go_sem]
   all_goals first|rfl|(and_intros<;>first|rfl|trivial)
  rintro⟨i,hi,ha⟩ E0;refine bW E0 fun Q' hQ E'=>?_;simp only at hi ha ⊢;simp only[go_sem];refine aH E' ?_ ?_<;>intro h1<;>simp only[go_sem]
  .have ao:i<O.length:=by omega
   have hx:=uv _ (ah2 ao);have gB:=hx.1;have iO:=hx.2;have hn:=h.len;have cT:((O.take i).filter fun x=>!mf ns p x).length<=2000:=aix (aiF _ _) (by simp;omega);have bU:=wN (p:=fun x=>!mf ns p x) ao;refine⟨by omega,?_⟩;rw[dF ao];simp only[go_sem];refine yy E' (by simp) rfl ?_;simp only[go_sem];refine⟨by omega,?_⟩;rw[fZ hx];simp only[go_sem];refine aH E' ?_ ?_<;>intro h2<;>simp only[go_sem]
   .rw[hQ];simp only[go_sem];have IQ:O.any (rJ ns p)=true:=aiA.2 ⟨O[i],ah2 ao,by rw[yG bd];exact decide_eq_true h2⟩;rw[if_pos IQ]at hC;refine⟨_,_,[],id,.inl ⟨hC.symm,rfl,rfl⟩,?_⟩;simp only[go_sem]
   refine aH E' ?_ ?_<;>intro h3<;>simp only[go_sem]
   .rw[show mf ns p O[i]=true by rw[D6 bH];exact decide_eq_true h3]at bU;rw[hQ];simp only[go_sem];refine⟨⟨i+1,ao,D7 ao ha (by rw[yG bd];exact decide_eq_false h2)⟩,by show O.length-(i+1)<O.length-i;omega,id,?_⟩;simp only[go_sem];rw[aD ⟨by omega,by omega⟩];simp only[bU,ajo,aip,if_false,aiR]
    and_intros<;>first|rfl|trivial
   .rw[show mf ns p O[i]=false by rw[D6 bH];exact decide_eq_false h3]at bU;refine⟨by omega,?_⟩;rw[hQ];refine⟨⟨i+1,ao,D7 ao ha (by rw[yG bd];exact decide_eq_false h2)⟩,by show O.length-(i+1)<O.length-i;omega,ar [([98],[38])],?_⟩;simp only[go_sem];rw[aD ⟨by omega,by omega⟩];simp only[bU,aj6,if_true,ail,ah7,aid,aiO,List.length_cons,List.length_nil]
    and_intros<;>first|rfl|trivial
  .have bJ:i=O.length:=by omega
   subst bJ;rw[aij]at ha;rw[if_neg (by rw[ha];simp)]at hC;rw[hQ];simp only[go_sem];refine⟨_,_,[0],ar [([0],[98])],.inr ⟨_,hC.symm,rfl,rfl⟩,?_⟩;simp only[go_sem]
 .have bd:cz p=2:=by rw[cz,if_neg (by simpa using hp)]
  have bH:cx p=1:=by rw[cx,if_neg (by simpa using hp)]
  refine je E _ _ _ c1 rfl rfl ⟨by simp only[go_sem],by rw[ay];decide⟩ (by simp only[go_sem]) (by simp only[go_sem]) (by simp only[go_sem]) ?_;rintro _ _ ⟨rfl,rfl⟩;refine⟨by simp only[go_sem];try simp,?_⟩;simp only[go_sem];refine uQ E [19,0] none (O.map i64) rfl ?_;simp only[go_sem];refine om E [9] 2 98 none [.d (.bool p),.d (.bool false),.d .ai] rfl rfl (by rw[ay];decide) ?_;simp only[go_sem]
  refine bK E (X:={ i:Nat // i<=O.length∧(O.take i).any (rJ ns p)=false }) (fun x=>[(0,.d (.ptr (.agg [.sl (some 4) (ns.map aw),i64 root,.unk,.unk,.unk]))),(1,.d (.bool p)),(6,.bx [6] 0),(7,.d (i64 1)),(8,.d (i64 2)),(9,.bx [9] 0),(19,.d (.sl none (O.map i64))),(20,.d (i64 O.length)),(21,.d (i64 x.1))])
   (fun x=>[([6],.box [.d (.bool false),.d (.bool false),.d .ai]),([9],.box [.d (.bool p),.d (.bool false),.vw [98] 0 ((O.take x.1).filter fun x=>!mf ns p x).length]),([98],.arr none (((O.take x.1).filter fun x=>!mf ns p x).map i64))]) [98,9,6] (fun x=>O.length-x.1) ⟨0,aie _,rfl⟩ id ?_ ?_
  .simp only[go_sem]
   all_goals first|rfl|(and_intros<;>first|rfl|trivial)
  rintro⟨i,hi,ha⟩ E0;refine bW E0 fun Q' hQ E'=>?_;simp only at hi ha ⊢;simp only[go_sem];refine aH E' ?_ ?_<;>intro h1<;>simp only[go_sem]
  .have ao:i<O.length:=by omega
   have hx:=uv _ (ah2 ao);have gB:=hx.1;have iO:=hx.2;have hn:=h.len;have cT:((O.take i).filter fun x=>!mf ns p x).length<=2000:=aix (aiF _ _) (by simp;omega);have bU:=wN (p:=fun x=>!mf ns p x) ao;refine⟨by omega,?_⟩;rw[dF ao];simp only[go_sem];refine yy E' (by simp) rfl ?_;simp only[go_sem];refine⟨by omega,?_⟩;rw[fZ hx];simp only[go_sem];refine aH E' ?_ ?_<;>intro h2<;>simp only[go_sem]
   .rw[hQ];simp only[go_sem];have IQ:O.any (rJ ns p)=true:=aiA.2 ⟨O[i],ah2 ao,by rw[yG bd];exact decide_eq_true h2⟩;rw[if_pos IQ]at hC;refine⟨_,_,[],id,.inl ⟨hC.symm,rfl,rfl⟩,?_⟩;simp only[go_sem]
   refine aH E' ?_ ?_<;>intro h3<;>simp only[go_sem]
   .rw[show mf ns p O[i]=true by rw[D6 bH];exact decide_eq_true h3]at bU;rw[hQ];simp only[go_sem];refine⟨⟨i+1,ao,D7 ao ha (by rw[yG bd];exact decide_eq_false h2)⟩,by show O.length-(i+1)<O.length-i;omega,id,?_⟩;simp only[go_sem];rw[aD ⟨by omega,by omega⟩];simp only[bU,ajo,aip,if_false,aiR]
    and_intros<;>first|rfl|trivial
   .rw[show mf ns p O[i]=false by rw[D6 bH];exact decide_eq_false h3]at bU;refine⟨by omega,?_⟩;rw[hQ];refine⟨⟨i+1,ao,D7 ao ha (by rw[yG bd];exact decide_eq_false h2)⟩,by show O.length-(i+1)<O.length-i;omega,ar [([98],[38])],?_⟩;simp only[go_sem];rw[aD ⟨by omega,by omega⟩];simp only[bU,aj6,if_true,ail,ah7,aid,aiO,List.length_cons,List.length_nil]
    and_intros<;>first|rfl|trivial
  .have bJ:i=O.length:=by omega
   subst bJ;rw[aij]at ha;rw[if_neg (by rw[ha];simp)]at hC;rw[hQ];simp only[go_sem];refine⟨_,_,[0],ar [([0],[98])],.inr ⟨_,hC.symm,rfl,rfl⟩,?_⟩;simp only[go_sem]
end Go.Proofs.YtpmniabdmbmafaaGreatDoor

