/-
  The generic layer, part 10: each step is sound: variables, structs, rows, stores. (with the parts that follow it) (with the parts that follow it)
-/
import Derived.Test.YtpmniabdmbmafaaGreatDoorPTB
set_option linter.all false
set_option maxHeartbeats 16000000
namespace Go.Ab
section
variable {P:Program}{B:Base}{β:Name->Option a8}{s:St}{tm:Array Value}{w:World}{t:Nat}
theorem rP{z:List D}(hz:(P.ti t).z=some z):∃v,(∀w,(zeroValue t).run P w=.ok v w)∧v.cells.toList.mapM zd=some z∧∃i,P.info? t=some i∧i.zero=some v∧i.size=(P.ti t).sz∧i.bytes=(P.ti t).by':=by
 obtain⟨i,d,hi,hd,_,hs,hb,lI⟩:=rI (Xb hz);rw[hz]at lI
 cases hv:i.zero with
 |none=>rw[hv]at lI;cases lI
 |some v =>
   rw[hv]at lI;exact⟨v,fun w=>by simp[zeroValue,typeInfo,hi,hv],lI.symm,i,hi,hv,hs.symm,hb.symm⟩
theorem XC(h:aj B β s tm w){z:List D}(hz:(P.ti t).z=some z){d:Nat}(hd:d<B.n)(hu:d∉s.used)(ty:Option Nat)(hty:ty.getD t=t) :
  ∃v w' β',(Instr.alloc t true (.tuple #[])).run P w=.ok v w'∧aj B β' ((s.add d (.bt ty (z.map .d))).put d (.bx [d] 0)) (tm.setIfInBounds d v) w':=by
 obtain⟨v,hr,hm,_⟩:=rP hz;obtain⟨h1,h2,h3,h4⟩:=sL (H:=w.heap) (own:=s.own B.A β) hm
 obtain⟨β',hs⟩:=Nw h hd hu (c:=v.cells) (cs:=z.map .d) (by simpa using h1.symm) (by simpa using h3) (fun i x hi=>by
  simp only[ala,ak8]at hi;obtain⟨d',dP,rfl⟩:=hi;obtain⟨u,qD,cd⟩:=h4 i d' dP
  have:v.cells.getD i undef=u:=by
   simp only[alM]at qD;simp[akZ,qD]
  rw[this];exact .d _ _ cd) t ty hty
 exact⟨_,_,β',by simp[Instr.alloc,hr,newVar,newRow],hs⟩
theorem XD(h:aj B β s tm w){xv:Value}{x:AV}(hx:VR w.heap (s.own B.A β) s.used s.hp β xv x){cs:List AV}(hc:jE x=some cs){d:Nat}(hd:d<B.n)(hu:d∉s.used) :
  ∃v w' β',(Instr.box t xv).run P w=.ok v w'∧aj B β' ((s.add d (.box cs)).put d (.bx [d] 0)) (tm.setIfInBounds d v) w':=by
 obtain⟨h1,h2,h3⟩:=HY hc hx;obtain⟨β',hs⟩:=Nw h hd hu h1 h2 h3 t none rfl;exact⟨_,_,β',by simp[Instr.box,newVar,newRow],hs⟩
theorem um{α:Type}(l:List α)(c:Nat)(xs:List α)(h:c+xs.length<=l.length):(splice l c xs).length=l.length:=by simp[splice];omega
theorem uo{α:Type}(l:List α)(c:Nat)(xs:List α)(h:c+xs.length<=l.length)(i:Nat):(splice l c xs)[i]?=if c<=i∧i<c+xs.length then xs[i-c]? else l[i]?:=by
 unfold splice;by_cases h1:i<c
 .rw[if_neg (by omega),alj (by simp;omega)];simp[h1]
 .have e:(l.take c).length=c:=by simp;omega
  rw[aln (by omega),e];by_cases h2:i<c+xs.length
  .rw[if_pos ⟨by omega,h2⟩,alj (by omega)]
  .rw[if_neg (by omega),aln (by omega),alY];congr 1;omega
theorem Nx(cells vs:Array Value)(off:Nat)(h:off+vs.size<=cells.size) :
  ((vs.zipIdx.foldl (fun cs (c,j)=>cs.setIfInBounds (off+j) c) cells:Array Value)).toList=splice cells.toList off vs.toList:=by
 have gen:∀(l:List Value) (k:Nat) (cells:Array Value),off+k+l.length<=cells.size ->
   ((l.zipIdx k).foldl (fun(cs:Array Value) (p:Value×Nat)=>cs.setIfInBounds (off+p.2) p.1) cells).toList=splice cells.toList (off+k) l:=by
  intro l
  induction l with
  |nil=>intro k cells h;simp[splice]
  |cons a r ih =>
    intro k cells h;simp only[List.zipIdx_cons,List.foldl_cons,List.length_cons]at h ⊢;rw[ih (k+1) _ (by simp;omega)];apply amg;intro i;rw[uo _ _ _ (by simp;omega),uo _ _ _ (by simp;omega)];simp only[Array.toList_setIfInBounds,List.length_cons,am1,Array.length_toList];by_cases h1:i=off+k
    .subst h1;simp[show¬(off+(k+1)<=off+k) by omega,show off+k<cells.size by omega]
    .by_cases h2:off+(k+1)<=i∧i<off+(k+1)+r.length
     .rw[if_pos h2,if_pos (by omega),show i-(off+k)=(i-(off+(k+1)))+1 by omega,List.getElem?_cons_succ]
     .rw[if_neg h2,if_neg (by omega),if_neg (by omega)]
 have:=gen vs.toList 0 cells (by simpa using h);rw[Nat.add_zero]at this;rw[<-this];rw[<-Array.foldl_toList,Array.toList_zipIdx]
section
variable {H:Array Obj}{own:Nat->Prop}{used:List Nat}{hp:Name->Option Ob}
def CR(H:Array Obj)(own:Nat->Prop)(used:List Nat)(hp:Name->Option Ob)(β:Name->Option a8)(vs:List Value)(cs:List AV):Prop :=
 vs.length=cs.length∧(∀v∈vs,v.oneCell'=true)∧∀(i:Nat) x,cs[i]?=some x->VR H own used hp β (vs.getD i undef) x
theorem CR.splice{vs us:List Value}{cs ds:List AV}(h:CR H own used hp β vs cs)(g:CR H own used hp β us ds){c:Nat}(hc:c+us.length<=vs.length):CR H own used hp β (splice vs c us) (splice cs c ds):=by
 have sN:c+ds.length<=cs.length:=by rw[<-h.1,<-g.1];exact hc
 refine⟨by rw[um _ _ _ hc,um _ _ _ sN,h.1],fun v hv=>?_,fun i x hi=>?_⟩
 .simp only[Ab.splice,ak1]at hv;obtain hv|hv|hv:=hv
  .exact h.2.1 v (alL hv)
  .exact g.2.1 v hv
  .exact h.2.1 v (al5 hv)
 .rw[uo _ _ _ sN]at hi;rw[akX,uo _ _ _ hc,g.1];split at hi
  .rename_i kg;rw[if_pos kg];have:=g.2.2 _ x hi
   rwa [akX]at this
  .rename_i kg;rw[if_neg kg];have:=h.2.2 _ x hi
   rwa [akX]at this
theorem CR.Ny{v:Value}{x:AV}{cs:List AV}(hc:jE x=some cs)(h:VR H own used hp β v x):CR H own used hp β v.cells.toList cs:=by
 obtain⟨h1,h2,h3⟩:=HY hc h;refine⟨by simpa using h1,by simpa using h2,fun i x hi=>?_⟩;have:=h3 i x hi;simpa[akZ,akX]using this
theorem CR.oA{vs:List Value}{cs:List AV}(h:CR H own used hp β vs cs):VR H own used hp β (.agg vs.toArray) (oA cs) :=
 yX h.1 h.2.1 fun i v x hv hx=>by
  have:=h.2.2 i x hx
  rwa [akX,hv]at this
theorem CR.zero{v:Value}{z:List D}(hm:v.cells.toList.mapM zd=some z):CR H own used hp β v.cells.toList (z.map .d):=by
 obtain⟨h1,h2,h3,h4⟩:=sL (H:=H) (own:=own) hm;refine⟨by simpa using h1.symm,h3,fun i x hi=>?_⟩;simp only[ala,ak8]at hi;obtain⟨d',dP,rfl⟩:=hi;obtain⟨u,qD,cd⟩:=h4 i d' dP;rw[akX,qD];exact .d _ _ cd
theorem Nz{fl:List Field}(place:Nat->Option (Nat×Nat))(oE:∀f o tt,(fl.map fun f=>(f.offset,f.type))[f]?=some (o,tt)->place f=some (o,(P.ti tt).sz)) :
  ∀(parts:List (Nat×AV)) (pv:List (Nat×Value)) (cells:Array Value) (cs cs':List AV),CR H own used hp β cells.toList cs ->
   pv.length=parts.length->(∀(i:Nat) q u,parts[i]?=some q->pv[i]?=some u->u.1=q.1∧VR H own used hp β u.2 q.2) ->
   yT P.ti (fl.map fun f=>(f.offset,f.type)) cs parts=some cs'->∃cells',Instr.fill place cells pv=some cells'∧CR H own used hp β cells'.toList cs'
 |[],[],cells,cs,cs',hc,_,_,h=>by simp[yT]at h;subst h;exact⟨cells,rfl,hc⟩
 |q::r,u::pr,cells,cs,cs',hc,hl,hq,h=>by
   obtain⟨e1,hv⟩:=hq 0 q u rfl rfl;simp only[yT]at h;split at h
   .rename_i o tt vs hf mh;split at h
    .rename_i kg;have vA:=CR.Ny mh hv;have XE:=oE _ _ _ hf;have hlen:u.2.cells.size=vs.length:=by simpa using vA.1
     have hcs:=hc.1;simp at hcs;have bY:¬(u.2.cells.size≠(P.ti tt).sz||o+u.2.cells.size > cells.size)=true:=by simp;omega
     have k7:=Nx cells u.2.cells o (by omega);have fD:=hc.splice vA (c:=o) (by simp;omega);rw[<-k7]at fD;obtain⟨cells',sO,XF⟩:=Nz place oE r pr _ _ cs' fD (by simpa using hl) (fun i q' u' h1 h2=>hq (i+1) q' u' (by simpa using h1) (by simpa using h2)) h;refine⟨cells',?_,XF⟩;obtain⟨i,v⟩:=u;simp only at e1 bY sO ⊢;subst e1;simp only[Instr.fill,XE,if_neg bY];exact sO
    .cases h
   .cases h
 |[],_::_,_,_,_,_,hl,_,_=>by simp at hl
 |_::_,[],_,_,_,_,hl,_,_=>by simp at hl
end
theorem NA:∀(fl:List Field),A3 P.ti (fl.map fun f=>(f.offset,f.type))=true ->
  fl.mapM (fun f=>(P.info? f.type).map fun i=>(f.offset,i.size))=some (fl.map fun f=>(f.offset,(P.ti f.type).sz))
 |[],_=>rfl
 |f::r,h=>by
   simp only[alf,A3,ak7,alH]at h;obtain⟨i,d,hi,_,_,hs,_⟩:=rI h.1;simp[anM,hi,NA r h.2,hs]
theorem XG{parts:List (Nat×AV)}{pv:Array (Nat×Value)}(hl:pv.size=parts.length)
  (hq:∀(i:Nat) q u,parts[i]?=some q->pv.toList[i]?=some u->u.1=q.1∧VR w.heap (s.own B.A β) s.used s.hp β u.2 q.2) :
  RV (A4 P.ti (P.ti t) parts) fun y=>∃v,(Instr.build t pv).run P w=.ok v w∧VR w.heap (s.own B.A β) s.used s.hp β v y:=by
 unfold A4;split
 rotate_left
 .rename_i l e zs hk hz;split<;>try trivial
  split<;>try trivial
  rename_i hg;have hg:(P.ti e).k.dM=false:=by simpa using hg
  have hu:=H4 hk;obtain⟨v,hr,hm,it,hi,ny,_,_⟩:=rP hz;have nB:pv=#[]:=amK (by simpa using hl);subst nB;refine⟨.agg v.cells,?_,by simpa using(CR.zero (H:=w.heap) (own:=s.own B.A β) (used:=s.used) (hp:=s.hp) (β:=β) hm).oA⟩;simp[Instr.build,hr,run_underlying hu,run_sizeOf hg,Instr.fill]
 .trivial
 rename_i fs zs hk hz;split<;>try trivial
 rename_i gO;obtain⟨fl,hu,rfl⟩:=Ba hk;obtain⟨v,hr,hm,it,hi,ny,_,_⟩:=rP hz;refine RV.kA fun y hy=>?_;simp only[ak8]at hy;obtain⟨cs,hb,rfl⟩:=hy;have oE:=NA fl.toList gO
 obtain⟨cells',sO,vA⟩:=Nz (P:=P) (fl:=fl.toList) ((fl.toList.map fun f=>(f.offset,(P.ti f.type).sz)).toArray[·]?) (fun f o tt hf=>by
  simp only[ala,ak8,amd]at hf;obtain⟨fd,Bb,rfl,rfl⟩:=hf
  simp[show fl[f]?=some fd by simpa using Bb]) parts pv.toList v.cells (zs.map .d) cs (CR.zero (H:=w.heap) (own:=s.own B.A β) (used:=s.used) (hp:=s.hp) (β:=β) hm) (by simpa using hl) hq hb
 refine⟨_,run_build w t pv cells' ?_,by simpa using vA.oA⟩;simp only[Program.built,hi,hu,ny,oE];exact sO
def H7(H:Array Obj)(own:Nat->Prop)(c:Array Value)(o:Nat)(wf:W)(xs:List D):Prop :=
 (∀x∈xs,okW wf x)∧∀i x j d,xs[i]?=some x->x.cells[j]?=some d->au H own (c.getD (o+i*wd wf+j) undef) d
theorem XH{d:D}{cs:List AV}(h:cellsD d=some cs):cs=d.cells.map .d:=by
 cases d<;>simp only[cellsD,alE]at h<;>subst h<;>rfl
theorem H8{H:Array Obj}{own:Nat->Prop}{v:Value}{d:D}(h:au H own v d):v.cells.size=d.cells.length∧(∀u∈v.cells,u.oneCell'=true)∧(∀x∈d.cells,x.bR=true) ∧
  ∀j x,d.cells[j]?=some x->au H own (v.cells.getD j undef) x:=by
 obtain⟨cs,hc⟩:∃cs,cellsD d=some cs:=by cases d<;>exact⟨_,rfl⟩
 have e:=XH hc;obtain⟨h1,h2,h3⟩:=Nn (used:=[]) (hp:=fun _=>none) (β:=fun _=>none) hc h;subst e;refine⟨by simpa using h1,h2,?_,fun j x hj=>(h3 j (.d x) (by simp[hj])).cA⟩;intro x hx
 cases d with
 |agg cs=>cases h with|agg _ _ _ dv _=>exact dv x hx
 |_=>simp[D.cells]at hx;subst hx;rfl
theorem NB{H:Array Obj}{own:Nat->Prop}(size:Nat)(wf:W)(hw:wd wf=size):∀(parts:List (Nat×AV)) (pv:List (Nat×Value)) (k:Nat) (cells:Array Value) (pre xs:List D),pre.length=k->H7 H own cells 0 wf pre ->
  pv.length=parts.length->(∀(i:Nat) q u,parts[i]?=some q->pv[i]?=some u->u.1=q.1∧∀d,q.2=.d d->au H own u.2 d)->uj k parts=some xs->(∀x∈xs,okW wf x)->(k+xs.length)*size<=cells.size ->
  ∃cells',Instr.fill (fun i=>some (i*size,size)) cells pv=some cells'∧cells'.size=cells.size∧H7 H own cells' 0 wf (pre++xs)
 |[],[],k,cells,pre,xs,hk,xp,_,_,h,_,_=>by
   simp[uj]at h;subst h;exact⟨cells,rfl,rfl,by simpa using xp⟩
 |q::r,u::pr,k,cells,pre,xs,hk,xp,hl,hq,h,aW,hz=>by
   obtain⟨e1,hv⟩:=hq 0 q u rfl rfl;simp only[uj]at h;split at h<;>try cases h
   rename_i d H9;split at h<;>try cases h
   rename_i XI;simp only[ak8]at h;obtain⟨xs',aR,rfl⟩:=h;have cd:=hv d H9;have Ib:okW wf d:=aW d alb;obtain⟨c1,c2,c3,c4⟩:=H8 cd;rw[iE Ib,hw]at c1;simp only[List.length_cons]at hz
   have hle:k*size+size<=(k+(xs'.length+1))*size:=by
    rw[<-al8];exact alz _ (by omega)
   have bY:¬(u.2.cells.size≠size||k*size+u.2.cells.size > cells.size)=true:=by simp;omega
   have k7:=Nx cells u.2.cells (k*size) (by omega);obtain⟨Ew,pO⟩:∃c,(u.2.cells.zipIdx.foldl (fun cs (c,j)=>cs.setIfInBounds (k*size+j) c) cells:Array Value)=c:=⟨_,rfl⟩
   rw[pO]at k7
   have NC:Ew.size=cells.size:=by
    have:=congrArg List.length k7;rw[um _ _ _ (by simp;omega)]at this;simpa using this
   have dj:∀i,Ew.getD i undef=if k*size<=i∧i<k*size+size then u.2.cells.getD (i-k*size) undef else cells.getD i undef:=by
    intro i;have:=uo cells.toList (k*size) u.2.cells.toList (by simp;omega) i;rw[<-k7]at this;simp only[alM,Array.length_toList,c1]at this;simp only[akZ,this];split<;>rfl
   have XJ:H7 H own Ew 0 wf (pre++[d]):=by
    refine⟨fun x hx=>?_,fun i x j d' hi hj=>?_⟩
    .rcases ak1.1 hx with hx|hx
     .exact xp.1 x hx
     .simp at hx;subst hx;exact Ib
    .rw[dj];rcases alP i pre.length with hlt|cK
     .rw[alj hlt]at hi;have jm:=xp.1 x (alp hi);have e6:j<wd wf:=by rw[<-iE jm];exact(akY.1 hj).1
      have:i*wd wf+wd wf<=k*size:=by rw[<-al8,hw];exact alz _ (by omega)
      rw[if_neg (by omega)];exact xp.2 i x j d' hi hj
     .rw[aln cK]at hi
      have Bj:i=pre.length:=by
       have:=(akY.1 hi).1;simp at this;omega
      subst Bj;simp at hi;subst hi;have e6:j<wd wf:=by rw[<-iE Ib];exact(akY.1 hj).1
      rw[hk,hw,if_pos (by omega),show 0+k*size+j-k*size=j by omega];exact c4 j d' hj
   obtain⟨cells',sO,bm,hrow⟩:=NB size wf hw r pr (k+1) Ew (pre++[d]) xs' (by simp[hk]) XJ (by simpa using hl) (fun i q' u' h1 h2=>hq (i+1) q' u' (by simpa using h1) (by simpa using h2)) aR
    (fun x hx=>aW x (ald _ hx)) (by rw[NC];rw[show k+1+xs'.length=k+(xs'.length+1) by omega];exact hz)
   refine⟨cells',?_,bm.trans NC,by simpa using hrow⟩;obtain⟨i,v⟩:=u;simp only at e1 bY sO pO ⊢;subst e1;rw[XI]at *
   simp only[Instr.fill,if_neg bY,pO];exact sO
 |[],_::_,_,_,_,_,_,_,hl,_,_,_,_=>by simp at hl
 |_::_,[],_,_,_,_,_,_,hl,_,_,_,_=>by simp at hl
theorem XK(h:aj B β s tm w){parts:List (Nat×AV)}{pv:Array (Nat×Value)}(hl:pv.size=parts.length)
  (hq:∀(i:Nat) q u,parts[i]?=some q->pv.toList[i]?=some u->u.1=q.1∧VR w.heap (s.own B.A β) s.used s.hp β u.2 q.2) {e:Nat} (hk:(P.ti t).k=.slice e) {xs:List D} (hx:uj 0 parts=some xs)
  {z:List D} (hz:(P.ti e).z=some z) (hw:(P.ti e).gD (P.ti e).w=true) (aW:∀x∈xs,okW (P.ti e).w x) (hb:xs.length*(P.ti e).sz<=16777216) {d:Nat} (hd:d<B.n) (hu:d∉s.used) :
  ∃v w' β',(Instr.buildSlice t xs.length pv).run P w=.ok v w'∧aj B β' ((s.add d (.arr (P.ti e).w xs)).put d (.vw [d] 0 xs.length)) (tm.setIfInBounds d v) w':=by
 obtain⟨hg,cW,_⟩:=oC hw;obtain⟨v,hr,hm,it,hi,ny,_,_⟩:=rP hz;obtain⟨zc,ml⟩:∃zc:Array Value,(Array.range (xs.length*(P.ti e).sz)).map ((if xs.length*(P.ti e).sz=0 then #[]else v.cells)[· % (if xs.length*(P.ti e).sz=0 then #[]else v.cells).size]!)=zc:=⟨_,rfl⟩
 have mq:zc.size=xs.length*(P.ti e).sz:=by rw[<-ml];simp
 obtain⟨cells',sO,bm,hrow⟩:=NB (H:=w.heap) (own:=s.own B.A β) (P.ti e).sz (P.ti e).w cW parts pv.toList 0 zc [] xs rfl ⟨fun x hx=>by simp at hx,fun i x j d hi=>by simp at hi⟩ (by simpa using hl)
  (fun i q u h1 h2=>let ⟨a,b⟩:=hq i q u h1 h2;⟨a,fun d hd=>by rw[hd]at b;exact b.cA⟩) hx aW (by simp;omega)
 obtain⟨β',bh⟩:=Bi h hd hu (c:=cells') (wf:=(P.ti e).w) (xs:=xs) (cap:=xs.length) (ali _) (by rw[cW,bm,mq];exact ali _) aW (fun i x j d hi hj=>by
  have:=hrow.2 i x j d (by simpa using hi) hj
  simpa using this) e none rfl
 refine⟨_,_,β',?_,bh⟩;have eI:¬(xs.length*(P.ti e).sz > 2 ^ 24):=by omega
 simp only[Instr.buildSlice,Sem.run_bind,run_underlying (k5 hk),Result.andThen_ok,run_sizeOf hg,if_neg eI];by_cases h0:xs.length*(P.ti e).sz=0
 .simp only[h0,if_true]at ml ⊢;simp only[Sem.run_pure,Result.andThen_ok,ml,sO,newRow,Sem.run_bind,run_newObj];rfl
 .simp only[h0,if_false]at ml ⊢;simp only[Sem.run_bind,hr,Sem.run_pure,Result.andThen_ok,ml,sO,newRow,run_newObj];rfl
end
end Go.Ab
namespace Go.Ab
theorem Ic{w:W}{d:D}(h:rF w d=true):okW w d:=by
 cases w with
 |none=>exact h
 |some n=>cases d<;>simp[rF]at h;exact⟨h.1,h.2⟩
section
variable {P:Program}{B:Base}{β:Name->Option a8}{s:St}{tm:Array Value}{w:World}{t:Nat}
theorem Ie(hg:(P.ti t).k.dM=false){w:World}{b o:Nat}{c:Array Value}{e:TypeId}(hb:w.heap[b]?=some (.cells c e (0,0))){v:Value}(hs:v.cells.size=(P.ti t).sz)(hz:o+v.cells.size<=c.size)(h1:∀u∈v.cells,u.oneCell'=true) :
  (storeVar t ⟨b,o,none⟩ v).run P w=.ok () (w.setRow b (splice c.toList o v.cells.toList).toArray):=by
 have:=run_storeCells_at (P:=P) b o e v.cells.toList 0 c w hb (by simpa using hz) (by simpa using h1);simp only[Nat.add_zero,Array.length_toList]at this;simp only[storeVar,Sem.run_bind,run_sizeOf hg,Result.andThen_ok,ne_eq,hs,not_true_eq_false,if_false];simp only[hs]at this;simp only[this,splice,Array.length_toList,hs];simp[alK]
theorem XL(h:aj B β s tm w){xv yv:Value}{x y:AV}(hx:VR w.heap (s.own B.A β) s.used s.hp β xv x)(hy:VR w.heap (s.own B.A β) s.used s.hp β yv y) :
  RV (vl (P.ti t) s x y) fun s'=>∃w',(Instr.storeAt t xv yv).run P w=.ok () w'∧aj B β s' tm w':=by
 unfold vl;split
 .rename_i p c;split<;>try trivial
  rename_i ty cs hp;split<;>try trivial
  rename_i vs eJ;split<;>try trivial
  rename_i kg;obtain⟨hg,hlen,hle⟩:=kg;have vA:=CR.Ny eJ hy
  cases hx with
  |bx _ _ _ hn h1 hx =>
    obtain⟨k,hk,k6,rfl⟩:=hx ty cs hp;obtain⟨k',c',e,aC,_,hc,hz,hl,bf,hcs⟩:=(h.aJ p _ hp).2;rw[hk]at aC;cases aC;have bj:yv.cells.size=(P.ti t).sz:=by have:=vA.1;simp at this;omega
    have kE:c+yv.cells.size<=c'.size:=by omega
    have aF:=Ie (P:=P) (t:=t) hg hc (o:=c) bj kE (fun u hu=>vA.2.1 u (by simpa using hu));refine⟨_,by simpa[Instr.storeAt,Instr.sureAddr]using aF,?_⟩
    have XM:CR w.heap (s.own B.A β) s.used s.hp β c'.toList cs:=⟨by simpa using hl,by simpa using bf,fun i x hi=>by
     have:=hcs i x hi
     simpa[akZ,akX]using this⟩
    have fC:=XM.splice vA (c:=c) (by simpa using kE);refine(h.modify (p:=p) hp (ob':=.bt ty (splice cs c vs)) rfl (w':=w.setRow k.b _) rfl (by simp) (fun b hb=>setRow_other w k.b b _ (hb k hk)) (fun hv _=>?_)).1;refine⟨k,_,e,hk,k6,setRow_heap w k.b c' _ (ty.getD e) (0,0) hc,?_,?_,?_,fun j x hj=>?_⟩
    .simp;rw[um _ _ _ (by simpa using kE)];simpa using hz
    .simpa using fC.1
    .intro v qE;exact fC.2.1 v (by simpa using qE)
    .have:=hv _ _ (fC.2.2 j x hj);simpa[akZ,akX]using this
 .rename_i p j c;split<;>try trivial
  rename_i wf xs y' hp;split<;>try trivial
  rename_i ys ic;have cd:au w.heap (s.own B.A β) yv y':=hy.cA
  cases hx with
  |el _ _ _ _ hn h1 hx =>
    obtain⟨hj,k,hk,rfl⟩:=hx none wf xs hp;rcases(h.aJ p _ hp).2 with⟨h0,rL⟩|⟨k',c',e,aC,hc,hz,hl,hw,hcs⟩
    .rw[rL]at hj;simp at hj
    .rw[hk]at aC;cases aC;have dj:xs[j]?=some (xs.getD j .aY):=by simp[akX,hj]
     have aW:=hw _ (alp dj)
     have akC:j*wd wf+wd wf<=xs.length*wd wf:=by
      have:=alz (wd wf) (anR hj);rwa [al8]at this
     obtain⟨z,qF,XO,XP,hg,kE,bj⟩:∃z,okW wf z∧ys=xs.set j z∧(∀i,z.cells[i]?=if c<=i∧i<c+yv.cells.size then y'.cells[i-c]? else(xs.getD j .aY).cells[i]?) ∧
       (P.ti t).k.dM=false∧c+yv.cells.size<=wd wf∧yv.cells.size=(P.ti t).sz:=by
      obtain⟨c1,c2,c3,c4⟩:=H8 cd;unfold yS at ic;split at ic
      .cases ic
      rename_i hg;have hg:(P.ti t).k.dM=false:=by simpa using hg
      split at ic
      .rename_i kg;simp only[ak7,beq_iff_eq]at kg;obtain⟨⟨jn,xq⟩,rfl⟩:=kg;cases ic;obtain⟨_,cW,_⟩:=oC jn;have Ig:=Ic xq;rw[iE Ig]at c1;refine⟨y',Ig,rfl,fun i=>?_,hg,by omega,by omega⟩;by_cases hi:i<wd wf
       .rw[if_pos (by omega)];simp
       .rw[if_neg (by omega),alN (by rw[iE Ig];omega),alN (by rw[iE aW];omega)]
      .split at ic
       .cases ic
       .split at ic<;>try cases ic
        rename_i cs ND;split at ic<;>try cases ic
        rename_i kg;obtain⟨dv,hlt,mr⟩:=kg;have e1:y'.cells=[y']:=by cases y'<;>first|rfl|simp[D.bR]at dv
        rw[e1]at c1;simp at c1;rw[ND]at aW;have hlen:cs.length=wd wf:=iE aW
        have XQ:okW wf (.agg (cs.set c y')):=by
         cases wf with
         |none=>simp[okW,D.bR]at aW
         |some n =>
           refine⟨by simpa using aW.1,fun d hd=>?_⟩;rcases ans hd with hd|rfl
           .exact aW.2 d hd
           .exact dv
        refine⟨_,XQ,rfl,fun i=>?_,hg,by omega,by omega⟩;rw[ND,c1,e1];simp only[D.cells,am1];by_cases hi:c=i
        .subst hi;simp[hlt]
        .rw[if_neg hi,if_neg (by omega)]
     obtain⟨c1,c2,c3,c4⟩:=H8 cd;have Ih:k.o+j*wd wf+c+yv.cells.size<=c'.size:=by omega
     have aF:=Ie (P:=P) (t:=t) hg hc (o:=k.o+j*wd wf+c) bj Ih c2;refine⟨_,by simpa[Instr.storeAt,Instr.sureAddr]using aF,?_⟩;subst XO;refine(h.modify (p:=p) hp (ob':=.arr wf (xs.set j z)) ⟨⟨rfl,rfl⟩,by simp⟩ (w':=w.setRow k.b _) rfl (by simp) (fun b hb=>setRow_other w k.b b _ (hb k hk)) (fun _ hr=>?_)).1;have iF:=um c'.toList (k.o+j*wd wf+c) yv.cells.toList (by simpa using Ih);refine .inr ⟨k,_,e,hk,setRow_heap w k.b c' _ e (0,0) hc,by simp;rw[iF];simpa using hz,by simpa using hl,fun x hx=>?_,fun i x m d hi hm=>?_⟩
     .rcases ans hx with hx|rfl
      .exact hw x hx
      .exact qF
     .have Bk:((splice c'.toList (k.o+j*wd wf+c) yv.cells.toList).toArray).getD (k.o+i*wd wf+m) undef =
        if k.o+j*wd wf+c<=k.o+i*wd wf+m∧k.o+i*wd wf+m<k.o+j*wd wf+c+yv.cells.size then yv.cells.getD (k.o+i*wd wf+m-(k.o+j*wd wf+c)) undef else c'.getD (k.o+i*wd wf+m) undef:=by
       have:=uo c'.toList (k.o+j*wd wf+c) yv.cells.toList (by simpa using Ih) (k.o+i*wd wf+m);simp only[alM,Array.length_toList]at this;simp only[akZ,amm,this];split<;>rfl
      rw[Bk];rw[am1]at hi;split at hi
      .rename_i uq;subst uq;simp at hi;obtain⟨_,rfl⟩:=hi;rw[XP m]at hm;by_cases yZ:c<=m∧m<c+yv.cells.size
       .rw[if_pos yZ]at hm;rw[if_pos (by omega),show k.o+j*wd wf+m-(k.o+j*wd wf+c)=m-c by omega];exact hr _ _ (c4 _ d hm)
       .rw[if_neg yZ]at hm;rw[if_neg (by omega)];exact hr _ _ (hcs j _ m d dj hm)
      .rename_i uq;have jm:=hw x (alp hi);have nC:m<wd wf:=by rw[<-iE jm];exact(akY.1 hm).1
       have aB:¬(k.o+j*wd wf+c<=k.o+i*wd wf+m∧k.o+i*wd wf+m<k.o+j*wd wf+c+yv.cells.size):=by
        rcases Nat.lt_or_gt_of_ne uq with hlt|XR
        .have:j*wd wf+wd wf<=i*wd wf:=by rw[<-al8];exact alz _ hlt
         omega
        .have:i*wd wf+wd wf<=j*wd wf:=by rw[<-al8];exact alz _ XR
         omega
       rw[if_neg aB];exact hr _ _ (hcs i x m d hi hm)
 .trivial
end
end Go.Ab
namespace Go.Ab
section
variable {P:Program}{B:Base}{β:Name->Option a8}{s:St}{tm:Array Value}{w:World}{t:Nat}
structure mA(P:Program)(H:Array Obj)(own:Nat->Prop)(wf:W)(v:Value)(xs:List D)(news:List Value):Prop where
 len:∃a cap,v=.slice a xs.length cap
 size:news.length=xs.length*wd wf
 one:∀u∈news,u.oneCell'=true
 ok:∀x∈xs,okW wf x
 rep:∀i x j d,xs[i]?=some x->x.cells[j]?=some d->au H own (news.getD (i*wd wf+j) undef) d
 run:∀w':World,w'.heap=H->(Builtin.firstCells (wd wf) xs.length v).run P w'=.ok news.toArray w'
theorem y0{H own}{wf:W}{a:Option Addr}{cap:Nat}:mA P H own wf (.slice a 0 cap) [] []:=by
 refine⟨⟨a,cap,rfl⟩,by simp,by simp,by simp,by simp,fun w' _=>?_⟩
 cases a with
 |none=>simp[Builtin.firstCells]
 |some a=>simp[Builtin.firstCells,loadCells,loadCellsFrom]
theorem cells_one{H:Array Obj}{own:Nat->Prop}{c:Array Value}{o:Nat}{wf:W}{xs:List D}(aW:∀x∈xs,okW wf x)
  (h:∀i x j d,xs[i]?=some x->x.cells[j]?=some d->au H own (c.getD (o+i*wd wf+j) undef) d):∀m,m<xs.length*wd wf->(c.getD (o+m) undef).oneCell'=true:=by
 intro m hm
 have hw:0<wd wf:=by rcases Nat.eq_zero_or_pos (wd wf)with h0|h0
                     .rw[h0]at hm;simp at hm
                     .exact h0
 have hi:m / wd wf<xs.length:=by rw[Nat.div_lt_iff_lt_mul hw];exact hm
 have dj:xs[m / wd wf]?=some xs[m / wd wf]:=ak0 hi;have hx:=aW _ (ak2 hi);have hj:m % wd wf<(xs[m / wd wf]).cells.length:=by rw[iE hx];exact Nat.mod_lt _ hw
 have hr:=h _ _ _ _ dj (ak0 hj);have:=hr.yR (Ev hx _ (ak2 hj))
 rwa [amF,anY,Nat.div_add_mod]at this
theorem Ii{b o cap:Nat}{c:Array Value}{e:TypeId}{fz:Nat×Nat}{own:Nat->Prop}{wf:W}{xs:List D}(hb:w.heap[b]?=some (.cells c e fz))(hz:o+xs.length*wd wf<=c.size)(aW:∀x∈xs,okW wf x)
  (h:∀i x j d,xs[i]?=some x->x.cells[j]?=some d->au w.heap own (c.getD (o+i*wd wf+j) undef) d) :
  mA P w.heap own wf (.slice (some ⟨b,o,none⟩) xs.length cap) xs ((c.toList.drop o).take (xs.length*wd wf)):=by
 have hl:((c.toList.drop o).take (xs.length*wd wf)).length=xs.length*wd wf:=by simp;omega
 have hg:∀m,m<xs.length*wd wf->((c.toList.drop o).take (xs.length*wd wf)).getD m undef=c.getD (o+m) undef:=by
  intro m hm;simp[akX,akZ,hm]
 refine⟨⟨_,cap,rfl⟩,hl,fun u hu=>?_,aW,fun i x j d hi hj=>?_,fun w' rQ=>?_⟩
 .obtain⟨m,hm⟩:=amB.1 hu;have hlt:m<xs.length*wd wf:=by rw[<-hl];exact(akY.1 hm).1
  have:=cells_one aW h m hlt;rw[<-hg m hlt,akX,hm]at this;exact this
 .have jm:=aW x (alp hi);have e6:j<wd wf:=by rw[<-iE jm];exact(akY.1 hj).1
  have bF:=(akY.1 hi).1;have:i*wd wf+wd wf<=xs.length*wd wf:=by rw[<-al8];exact alz _ bF
  rw[hg _ (by omega),<-amF];exact h i x j d hi hj
 .refine run_firstCells_some (P:=P) w' (wd wf) xs.length ⟨b,o,none⟩ xs.length cap _ hl (fun j v hv=>?_);rw[nr,cell_of_row w' b (o+j) c e fz (by rw[rQ];exact hb)];rw[amb]at hv;split at hv
  .simpa using hv
  .cases hv
theorem Bm(h:aj B β s tm w){yv:Value}{y:AV}(hy:VR w.heap (s.own B.A β) s.used s.hp β yv y){wf:W}{ys:List D}(hl:jl wf s.hp y=some ys):∃news,mA P w.heap (s.own B.A β) wf yv ys news:=by
 unfold jl at hl;split at hl
 .rename_i p o l;split at hl<;>try cases hl
  rename_i ty w' xs hp;split at hl<;>try cases hl
  rename_i hw;subst hw
  cases hy with
  |vw _ _ _ _ hn h1 hx =>
    obtain⟨hle,a,cap,rfl,aR⟩:=hx _ _ _ hp;have hlen:((xs.drop o).take l).length=l:=by simp;omega
    obtain⟨rfl,rfl⟩|⟨k,hk,rfl,eY,hz⟩:=aR
    .exact⟨[],by simpa using y0⟩
    .rcases(h.aJ p _ hp).2 with⟨h0,rL⟩|⟨k',c',e,aC,hc,xr,jO,hw,hcs⟩
     .rw[h0]at hk;cases hk
     .rw[hk]at aC;cases aC;have NF:o*wd w'+l*wd w'<=xs.length*wd w':=by rw[<-amf];exact alz _ hle
      have:=Ii (P:=P) (w:=w) (own:=s.own B.A β) (cap:=cap) (wf:=w') (xs:=(xs.drop o).take l) (b:=k.b) (o:=k.o+o*wd w') hc (by rw[hlen];omega)
       (fun x hx=>hw x (al5 (alL hx))) (fun i x j d hi hj=>by
        rw[amb]at hi;split at hi
        .rw[alY]at hi;have:=hcs _ x j d hi hj
         rwa [show k.o+o*wd w'+i*wd w'+j=k.o+(o+i)*wd w'+j by rw[amf];omega]
        .cases hi)
      rw[hlen]at this;exact⟨_,this⟩
 .rename_i w' xs;split at hl<;>try cases hl
  rename_i hw;subst hw
  cases hy.cA with
  |kZ a cap _=>exact⟨[],y0⟩
  |sl b o cap c e fz _ _ hb hn eY hz aW hc=>exact⟨_,Ii hb hz aW hc⟩
 .cases hl;obtain rfl:=hy.ao;exact⟨[],y0⟩
 .cases hl
section
variable {e:Nat}{i:TypeInfo}{z:Value}
theorem Ij(hk:P.underlying t=some (.slice e))(hi:P.info? e=some i)(hz:i.zero=some z)(ty:TypeId){own:Nat->Prop}{wf:W}{xv yv:Value}{xs ys:List D}{olds news:List Value}(hs:i.size=wd wf)
  (hx:mA P w.heap own wf xv xs olds) (hy:mA P w.heap own wf yv ys news) {a:Option Addr} {cap:Nat} (iV:xv=.slice a xs.length cap) (cX:cap<xs.length+ys.length) (hb:(xs.length+ys.length)*i.bytes<=140737488355328) (eI:xs.length+ys.length<=140737488355328) :
  ∃nc,xs.length+ys.length<=nc∧(Builtin.append_ #[t,t] ty #[xv,yv]).run P w =
   .ok (.slice (some ⟨w.heap.size,0,none⟩) (xs.length+ys.length) nc) (w.drew.alloc (.cells (olds.toArray++news.toArray++Builtin.zeroCells z.cells (nc-(xs.length+ys.length))) e)):=by
 obtain⟨ya,yc,rfl⟩:=hy.len;subst iV;refine⟨grownCap w (xs.length+ys.length) cap e,grownCap_ge _ _ _ _,?_⟩;have hn:¬(xs.length+ys.length<=cap):=by omega
 have Ik:¬(9223372036854775807<((xs.length:Int)+(ys.length:Int))):=by omega
 have XS:¬(281474976710656<Builtin.nextslicecap (xs.length+ys.length) cap*i.bytes):=by have:=growslice_fits cX hb;omega
 have hf:=hy.run w.drew rfl;have XT:=hx.run w.drew rfl;simp[Builtin.append_,run_underlying hk,sizeOf,typeInfo,zeroValue,hi,hz,Builtin.lenOf,hn,Ik,XS,Question.forced,hs,hf,XT,newRow,grownCap];congr 2;apply ani;simp[alK]
theorem NG(hk:P.underlying t=some (.slice e))(hi:P.info? e=some i)(ty:TypeId){own:Nat->Prop}{wf:W}{yv:Value}{ys:List D}{news:List Value}(hs:i.size=wd wf)
  (hy:mA P w.heap own wf yv ys news) {b o n cap:Nat} {c:Array Value} {e':TypeId} (hb:w.heap[b]?=some (.cells c e' (0,0))) (hr:n+ys.length<=cap) (kE:o+n*wd wf+news.length<=c.size) :
  (Builtin.append_ #[t,t] ty #[.slice (some ⟨b,o,none⟩) n cap,yv]).run P w =
   .ok (.slice (some ⟨b,o,none⟩) (n+ys.length) cap) (w.setRow b (splice c.toList (o+n*wd wf) news).toArray):=by
 obtain⟨ya,yc,rfl⟩:=hy.len;have hf:=hy.run w rfl;have ag:=run_storeCells_at (P:=P) b (o+n*wd wf) e' news 0 c w hb (by simpa using kE) hy.one;simp only[Nat.add_zero]at ag;simp[Builtin.append_,run_underlying hk,sizeOf,typeInfo,hi,Builtin.lenOf,hr,hs,hf,nr,ag,splice,alK]
theorem NH(hk:P.underlying t=some (.slice e))(hi:P.info? e=some i)(ty:TypeId){own:Nat->Prop}{wf:W}{yv:Value}{news:List Value}(hs:i.size=wd wf)(hy:mA P w.heap own wf yv [] news)(a:Option Addr)(cap:Nat)  :
  (Builtin.append_ #[t,t] ty #[.slice a 0 cap,yv]).run P w=.ok (.slice a 0 cap) w:=by
 obtain⟨ya,yc,rfl⟩:=hy.len;have hf:=hy.run w rfl;have:news=[]:=by have:=hy.size;simpa using this
 subst this;simp only[List.length_nil]at hf;cases a<;>simp[Builtin.append_,run_underlying hk,sizeOf,typeInfo,hi,Builtin.lenOf,hs,hf,storeCells]
end
theorem XU{H:Array Obj}{own:Nat->Prop}{wf:W}{xs ys:List D}{olds news:List Value}{xv yv:Value}(hx:mA P H own wf xv xs olds)(hy:mA P H own wf yv ys news)(rest:Array Value) :
  (∀x∈xs++ys,okW wf x)∧∀i x j d,(xs++ys)[i]?=some x->x.cells[j]?=some d->au H own ((olds.toArray++news.toArray++rest).getD (i*wd wf+j) undef) d:=by
 refine⟨fun x h=>(ak1.1 h).elim (hx.ok x) (hy.ok x),fun i x j d hi hj=>?_⟩
 have dj:∀m,(olds.toArray++news.toArray++rest).getD m undef=if m<olds.length then olds.getD m undef else if m<olds.length+news.length then news.getD (m-olds.length) undef else rest.getD (m-(olds.length+news.length)) undef:=by
  intro m;simp only[akZ,akX,alO,amI,amS,amm];by_cases h1:m<olds.length
  .simp[h1,show m<olds.length+news.length by omega]
  .by_cases h2:m<olds.length+news.length
   .simp[h1,h2]
   .simp[h1,h2]
 rw[dj];rcases alP i xs.length with hlt|cK
 .rw[alj hlt]at hi;have jm:=hx.ok x (alp hi);have e6:j<wd wf:=by rw[<-iE jm];exact(akY.1 hj).1
  have:i*wd wf+wd wf<=xs.length*wd wf:=by rw[<-al8];exact alz _ hlt
  rw[if_pos (by rw[hx.size];omega)];exact hx.rep i x j d hi hj
 .rw[aln cK]at hi;have jm:=hy.ok x (alp hi);have bF:=(akY.1 hi).1;have e6:j<wd wf:=by rw[<-iE jm];exact(akY.1 hj).1
  have h1:xs.length*wd wf<=i*wd wf:=alz _ cK;have h2:(i-xs.length)*wd wf+wd wf<=ys.length*wd wf:=by rw[<-al8];exact alz _ bF
  have h3:i*wd wf=(i-xs.length)*wd wf+xs.length*wd wf:=by rw[<-amf];congr 1;omega
  rw[if_neg (by rw[hx.size];omega),if_pos (by rw[hx.size,hy.size];omega),hx.size,show i*wd wf+j-xs.length*wd wf=(i-xs.length)*wd wf+j by omega];exact hy.rep _ x j d hi hj
theorem NI(h:aj B β s tm w){xv yv:Value}{x y:AV}(hx:VR w.heap (s.own B.A β) s.used s.hp β xv x)(hy:VR w.heap (s.own B.A β) s.used s.hp β yv y){e:Nat}(hk:(P.ti t).k=.slice e)
  (hz:(P.ti e).oB=true) (hw:(P.ti e).gD (P.ti e).w=true) (ty:TypeId) (d:Option Nat) (tg:Option Nat) (ur:tg.getD e=e) :
  RV (yU tg B.n (P.ti e) d s x y) fun s'=>∃dd v w' β',d=some dd∧(Builtin.append_ #[t,t] ty #[xv,yv]).run P w=.ok v w'∧aj B β' s' (tm.setIfInBounds dd v) w':=by
 obtain⟨hg,cW,_⟩:=oC hw
 obtain⟨z,hz,uu⟩:∃z,(P.ti e).z=some z∧z.length=(P.ti e).sz:=by
  unfold TI.oB at hz;split at hz
  .rename_i z h1;exact⟨z,h1,by simpa using hz⟩
  .cases hz
 obtain⟨zv,hr,hm,it,hi,ny,jF,jo⟩:=rP hz;have hu:=k5 hk
 have Ex:∀m:Nat,m*(P.ti e).iT<=140737488355328->m*it.bytes<=140737488355328∧m<=140737488355328:=by
  intro m kF;unfold TI.iT at kF;rw[jo];split at kF
  .rename_i h0;rw[h0];simp at kF ⊢;exact kF
  .exact⟨kF,alU (am7 m (by omega)) kF⟩
 have fresh:∀(s1:St) (β1:Name->Option a8) (xs ys:List D) (olds news:List Value) (Bn NJ:Value) (dd nc:Nat),aj B β1 s1 tm w->mA P w.heap (s1.own B.A β1) (P.ti e).w Bn xs olds->mA P w.heap (s1.own B.A β1) (P.ti e).w NJ ys news->dd<B.n->dd∉s1.used ->
   xs.length+ys.length<=nc->∃β',aj B β' ((s1.add dd (.bB tg (P.ti e).w (xs++ys))).put dd (.vw [dd] 0 (xs.length+ys.length))) (tm.setIfInBounds dd (.slice (some ⟨w.heap.size,0,none⟩) (xs.length+ys.length) nc))
    (w.drew.alloc (.cells (olds.toArray++news.toArray++Builtin.zeroCells zv.cells (nc-(xs.length+ys.length))) e)):=by
  intro s1 β1 xs ys olds news Bn NJ dd nc h1 dk fE lJ iW pP;obtain⟨r1,r2⟩:=XU dk fE (Builtin.zeroCells zv.cells (nc-(xs.length+ys.length)))
  have mq:zv.cells.size=wd (P.ti e).w:=by
   have:=(sL (H:=w.heap) (own:=s.own B.A β) hm).1;simp at this;omega
  have bj:(olds.toArray++news.toArray++Builtin.zeroCells zv.cells (nc-(xs.length+ys.length))).size=nc*wd (P.ti e).w:=by
   simp only[amS,amI,dk.size,fE.size,size_zeroCells,mq,<-amf];congr 1;omega
  have:=Bi (h1.xe (w':=w.drew) rfl rfl) lJ iW (c:=olds.toArray++news.toArray++Builtin.zeroCells zv.cells (nc-(xs.length+ys.length))) (wf:=(P.ti e).w) (xs:=xs++ys) (cap:=nc) (by simpa using pP)
   (by rw[bj];exact ali _) r1 (fun i x j d hi hj=>r2 i x j d hi hj) e tg ur
  simpa using this
 unfold yU;split
 ·-- XV nil
  rename_i ys ic;obtain rfl:=hx.ao;intro hb;obtain⟨rR,eQ⟩:=Ex _ hb;unfold gN;split<;>try trivial
  rename_i dd;split<;>try trivial
  rename_i kg;obtain⟨lJ,iW⟩:=kg;obtain⟨news,fE⟩:=Bm (P:=P) h hy ic;by_cases h0:ys.length=0
  .have:ys=[]:=amE.1 h0;subst this;have aF:=NH (P:=P) (t:=t) hu hi ty (by rw[jF,cW]) fE none 0;refine⟨dd,_,_,_,rfl,aF,(h.sM iW tg _).put lJ (.vw _ _ _ _ ⟨dd,[],rfl,alb⟩ rfl fun ty' w' xs' ae=>?_)⟩;have:w'=(P.ti e).w∧xs'=[]:=an3 (a:=ty'=tg) (by simpa[St.add,aA,eq_comm]using ae);obtain⟨rfl,rfl⟩:=this;exact⟨by simp,_,0,rfl,.inl ⟨rfl,rfl⟩⟩
  .obtain⟨nc,pP,aF⟩:=Ij (P:=P) (t:=t) hu hi ny ty (by rw[jF,cW]) (y0 (P:=P) (H:=w.heap) (own:=s.own B.A β) (wf:=(P.ti e).w) (a:=none) (cap:=0)) fE rfl (by simp;omega) (by simpa using rR) (by simpa using eQ);obtain⟨β',hs⟩:=fresh s β [] ys [] news _ _ dd nc h (y0 (a:=none) (cap:=0)) fE lJ iW pP;exact⟨dd,_,_,β',rfl,aF,by simpa using hs⟩
 ·-- XV a view
  rename_i ys p o l ic;split<;>try trivial
  rename_i y1 wf xs hp;split<;>try trivial
  rename_i jq;obtain⟨rfl,jq⟩:=jq;intro hb;obtain⟨rR,eQ⟩:=Ex _ hb;unfold gN;split<;>try trivial
  rename_i dd;split<;>try trivial
  rename_i kg;obtain⟨lJ,iW⟩:=kg;have iW:dd∉s.used:=iW;obtain⟨news,fE⟩:=Bm (P:=P) h hy ic;have nE:jl (P.ti e).w s.hp (.vw p o l)=some ((xs.drop o).take l):=by simp[jl,hp,jq]
  obtain⟨olds,dk⟩:=Bm (P:=P) h hx nE;have ib:=iU (h.aJ p _ hp).1 iW
  have uv:∀ob,(s.set p none).add dd ob=(s.add dd ob).set p none:=by
   intro ob;unfold St.add St.set;simp only[St.mk.injEq,true_and,and_true];funext q;simp only[aA];by_cases h1:q=[dd]
   .subst h1;simp[Ne.symm ib]
   .simp[h1]
  cases hx with
  |vw _ _ _ _ hn h1 hx =>
    obtain⟨hle,a,cap,rfl,aR⟩:=hx _ _ _ hp;have hlen:((xs.drop o).take l).length=l:=by simp;omega
    by_cases cX:cap<l+ys.length
    ·-- it grows
     have Il:cap<((xs.drop o).take l).length+ys.length:=by rw[hlen];exact cX
     obtain⟨nc,pP,aF⟩:=Ij (P:=P) (t:=t) hu hi ny ty (by rw[jF,cW]) dk fE (a:=a) (cap:=cap) (by rw[hlen]) Il (by rw[hlen];exact rR) (by rw[hlen];exact eQ);obtain⟨β',hs⟩:=fresh s β _ ys olds news _ _ dd nc h dk fE lJ iW pP;rw[hlen]at hs aF;refine⟨dd,_,_,β',rfl,aF,?_⟩;rw[uv,jq];have:=hs.drop p;have e2:((s.add dd (.bB y1 (P.ti e).w ((xs.drop o).take l++ys))).put dd (.vw [dd] 0 (l+ys.length))).set p none=((s.add dd (.bB y1 (P.ti e).w ((xs.drop o).take l++ys))).set p none).put dd (.vw [dd] 0 (l+ys.length)):=rfl
     rwa [e2]at this
    ·-- there is room
     obtain⟨rfl,rfl⟩|⟨k,aC,rfl,eY,lI⟩:=aR
     .have:ys=[]:=amE.1 (by omega);subst this;have aF:=NH (P:=P) (t:=t) hu hi ty (by rw[jF,cW]) fE a 0;refine⟨dd,_,_,aA β [dd] none,rfl,aF,?_⟩;rw[uv];have e3:((xs.drop o).take 0++([]:List D))=[]:=by simp
      rw[e3]
      have:=((h.sM iW y1 wf).put lJ (v:=.slice a 0 0) (x:=.vw [dd] 0 0) (.vw _ _ _ _ ⟨dd,[],rfl,alb⟩ rfl fun ty' w' xs' ae=>by
       have:w'=wf∧xs'=[]:=an3 (a:=ty'=y1) (by simpa[St.add,aA,eq_comm]using ae);obtain⟨rfl,rfl⟩:=this
       exact⟨by simp,a,0,rfl,.inl ⟨rfl,rfl⟩⟩)).drop p
      exact this
     .have dx:=(h.aJ p _ hp).2;obtain⟨h0,rL⟩|⟨k',c',e',qC,hc,xr,jO,Bo,hcs⟩:=dx
      .rw[h0]at aC;cases aC
      .rw[aC]at qC;cases qC;have hmul:(o+cap)*wd wf=o*wd wf+cap*wd wf:=amf _ _ _;have NF:(l+ys.length)*wd wf<=cap*wd wf:=alz _ (by omega);have XW:(l+ys.length)*wd wf=l*wd wf+ys.length*wd wf:=amf _ _ _;have jG:=fE.size;rw[<-jq]at jG;have kE:k.o+o*wd wf+l*wd wf+news.length<=c'.size:=by omega
       have aF:=NG (P:=P) (t:=t) hu hi ty (wf:=wf) (by rw[jF,jq,cW]) (by rw[jq];exact fE) hc (o:=k.o+o*wd wf) (n:=l) (cap:=cap) (by omega) kE;refine⟨dd,_,_,aA β [dd] (some ⟨k.b,k.o+o*wd wf,k.z⟩),rfl,aF,?_⟩
       have bh:=h.renew iW hp aC y1 wf ((xs.drop o).take l++ys) (k.o+o*wd wf) (w':=w.setRow k.b (splice c'.toList (k.o+o*wd wf+l*wd wf) news).toArray) rfl (by simp)
        (fun b hb=>setRow_other w k.b b _ hb) (fun hr=>?_)
       .refine bh.put lJ (.vw _ _ _ _ ⟨dd,[],rfl,alb⟩ rfl fun ty' w' xs' ae=>?_);have:w'=wf∧xs'=(xs.drop o).take l++ys:=an3 (a:=ty'=y1) (by simpa[St.add,aA,eq_comm]using ae);obtain⟨rfl,rfl⟩:=this;refine⟨by simp;omega,_,cap,rfl,.inr ⟨_,by simp[aA];rfl,by simp,by omega,?_⟩⟩;simp only[alC];omega
       .have iF:=um c'.toList (k.o+o*wd wf+l*wd wf) news (by simpa using kE);refine⟨_,e',setRow_heap w k.b c' _ _ (0,0) hc,by simp;rw[iF];simpa using xr,?_,fun x hx=>?_,fun i x j d hi hj=>?_⟩
        .rw[ak4,hlen];omega
        .rcases ak1.1 hx with hx|hx
         .exact Bo x (al5 (alL hx))
         .rw[jq];exact fE.ok x hx
        .have Bk:((splice c'.toList (k.o+o*wd wf+l*wd wf) news).toArray).getD (k.o+o*wd wf+i*wd wf+j) undef =
           if k.o+o*wd wf+l*wd wf<=k.o+o*wd wf+i*wd wf+j∧k.o+o*wd wf+i*wd wf+j<k.o+o*wd wf+l*wd wf+news.length then news.getD (k.o+o*wd wf+i*wd wf+j-(k.o+o*wd wf+l*wd wf)) undef else c'.getD (k.o+o*wd wf+i*wd wf+j) undef:=by
          have:=uo c'.toList (k.o+o*wd wf+l*wd wf) news (by simpa using kE) (k.o+o*wd wf+i*wd wf+j);simp only[alM]at this;simp only[akZ,amm,this,akX];split<;>rfl
         rw[Bk];rcases alP i l with hlt|cK
         .rw[alj (by rw[hlen];exact hlt),amb,if_pos hlt,alY]at hi;have jm:=Bo x (alp hi);have e6:j<wd wf:=by rw[<-iE jm];exact(akY.1 hj).1
          have:i*wd wf+wd wf<=l*wd wf:=by rw[<-al8];exact alz _ hlt
          rw[if_neg (by omega)];have:=hr _ _ (hcs _ x j d hi hj)
          rwa [show k.o+o*wd wf+i*wd wf+j=k.o+(o+i)*wd wf+j by rw[amf];omega]
         .rw[aln (by rw[hlen];exact cK),hlen]at hi;have jm:=fE.ok x (alp hi);rw[<-jq]at jm;have bF:=(akY.1 hi).1;have e6:j<wd wf:=by rw[<-iE jm];exact(akY.1 hj).1
          have g1:l*wd wf<=i*wd wf:=alz _ cK;have g2:(i-l)*wd wf+wd wf<=ys.length*wd wf:=by rw[<-al8];exact alz _ bF
          have g3:i*wd wf=(i-l)*wd wf+l*wd wf:=by rw[<-amf];congr 1;omega
          rw[if_pos (by omega),show k.o+o*wd wf+i*wd wf+j-(k.o+o*wd wf+l*wd wf)=(i-l)*wd wf+j by omega];have:=fE.rep _ x j d hi hj;rw[<-jq]at this;exact hr _ _ this
 .trivial
theorem XX(h:aj B β s tm w){xv yv:Value}{x y:AV}(hx:VR w.heap (s.own B.A β) s.used s.hp β xv x)(hy:VR w.heap (s.own B.A β) s.used s.hp β yv y){e:Nat}(hk:(P.ti t).k=.slice e)
  (hz:(P.ti e).oB=true) (hw:(P.ti e).gD (P.ti e).w=true) (ty:TypeId) (d:Option Nat) :
  RV (xg B.n (P.ti e) d s x y) fun s'=>∃dd v w' β',d=some dd∧(Builtin.append_ #[t,t] ty #[xv,yv]).run P w=.ok v w'∧aj B β' s' (tm.setIfInBounds dd v) w':=by
 rw[W6];exact NI h hx hy hk hz hw ty d none rfl
end
end Go.Ab
namespace Go.Ab
section
variable {P:Program}{B:Base}{β:Name->Option a8}{s:St}{a:Act}{w:World}
def Does(P:Program)(B:Base)(o:Oper)(a:Act)(w:World)(f:St->Prop):Prop :=
 ∃nx v w' s' β',(execOp a.eval o).run P w=.ok nx w'∧(nx=.value v∨nx=.skip∧v=undef)∧f s'∧aj B β' s' (a.put o.dst v).tmps w'
theorem XY(a:Act)(d:Option Tmp)(v:Value):(a.put d v).tmps=match d with
 |some d=>a.tmps.setIfInBounds d v
 |none=>a.tmps:=by cases d<;>rfl
def St.cU(s:St):Option Nat->AV->St
 |some t,x=>s.put t x
 |none,_=>s
theorem Bp{n:Nat}{d:Option Nat}{x:AV}{f:St->Prop}{z:Prop}(h:(dp n d s x).run f z):z∨(∀t,d=some t->t<n)∧f (s.cU d x):=by
 cases d with
 |some t =>
   simp only[dp]at h;split at h
   .rename_i ht;exact .inr ⟨fun t' e=>by cases e;exact ht,h⟩
   .exact .inl h
 |none=>exact .inr ⟨fun t' e=>(by cases e),h⟩
theorem aj.cU(h:aj B β s a.tmps w){d:Option Nat}(hd:∀t,d=some t->t<B.n){v:Value}{x:AV}(hv:VR w.heap (s.own B.A β) s.used s.hp β v x) :
  aj B β (s.cU d x) (a.put d v).tmps w:=by
 cases d with
 |none=>exact h
 |some t=>exact h.put (hd t rfl) hv
theorem XZ{r:R AV}{g:AV->R St}{f:St->Prop}{z:Prop}{φ:AV->Prop}(hφ:RV r φ)(h:(r.bind g).run f z):z∨∃x,φ x∧(g x).run f z:=by
 induction r with
 |ok x=>exact .inr ⟨x,hφ,h⟩
 |need p r ih=>exact ih (hφ h.1) h.2
 |no=>exact .inl h
theorem lK{o:Oper}{r:R AV}{f:St->Prop}{z:Prop}(h:aj B β s a.tmps w)
  (hφ:RV r fun x=>∃v,(execOp a.eval o).run P w=.ok (.value v) w∧VR w.heap (s.own B.A β) s.used s.hp β v x) (hr:(r.bind (dp B.n o.dst s)).run f z):z∨Does P B o a w f:=by
 rcases XZ hφ hr with hz|⟨x,⟨v,aF,hv⟩,hp⟩
 .exact .inl hz
 .rcases Bp hp with hz|⟨hd,hf⟩
  .exact .inl hz
  .exact .inr ⟨_,v,w,_,β,aF,.inl rfl,hf,h.cU hd hv⟩
theorem NK{o:Oper}{x:AV}{f:St->Prop}{z:Prop}(h:aj B β s a.tmps w){v:Value}(aF:(execOp a.eval o).run P w=.ok (.value v) w)(hv:VR w.heap (s.own B.A β) s.used s.hp β v x)
  (hr:(dp B.n o.dst s x).run f z):z∨Does P B o a w f:=by
 rcases Bp hr with hz|⟨hd,hf⟩
 .exact .inl hz
 .exact .inr ⟨_,v,w,_,β,aF,.inl rfl,hf,h.cU hd hv⟩
theorem Ey{o:Oper}{ob:Ob}{x:Name->AV}{f:St->Prop}{z:Prop}(hφ:∀d,o.dst=some d->d<B.n->d∉s.used->∃v w' β',(execOp a.eval o).run P w=.ok (.value v) w'∧aj B β' ((s.add d ob).put d (x [d])) (a.tmps.setIfInBounds d v) w')
  (hr:(gN B.n o.dst s ob x).run f z):z∨Does P B o a w f:=by
 unfold gN at hr;split at hr
 .rename_i d hd;split at hr
  .rename_i hc;obtain⟨v,w',β',aF,hs⟩:=hφ d hd hc.1 hc.2;exact .inr ⟨_,v,w',_,β',aF,.inl rfl,hr,by rw[XY,hd];exact hs⟩
  .exact .inl hr
 .exact .inl hr
theorem NL(h:aj B β s a.tmps w)(parts:Array (Nat×Operand)):(parts.map fun(i,x)=>(i,a.eval x)).size=(parts.toList.map fun q=>(q.1,ev s q.2)).length ∧
  ∀(i:Nat) q u,(parts.toList.map fun q=>(q.1,ev s q.2))[i]?=some q->(parts.map fun(i,x)=>(i,a.eval x)).toList[i]?=some u->u.1=q.1∧VR w.heap (s.own B.A β) s.used s.hp β u.2 q.2:=by
 refine⟨by simp,fun i q u h1 h2=>?_⟩;simp only[ala,ak8,Array.toList_map]at h1 h2;obtain⟨r,hr,rfl⟩:=h1;obtain⟨r',qG,rfl⟩:=h2;rw[hr]at qG;cases qG;exact⟨rfl,h.ev _⟩
theorem X0(h:aj B β s a.tmps w){t:Nat}{lv cv:Value}{l c:AV}(hl:VR w.heap (s.own B.A β) s.used s.hp β lv l)(hc:VR w.heap (s.own B.A β) s.used s.hp β cv c)(o:Oper)
  (ho:∀v w',(Instr.makeSlice t lv cv).run P w=.ok v w'->(execOp a.eval o).run P w=.ok (.value v) w') {f:St->Prop} {z:Prop} (hr:(A6 B.n (P.ti t) P.ti o.dst s l c).run f z):z∨Does P B o a w f:=by
 unfold A6 at hr;split at hr<;>try exact .inl hr
 rename_i e la lb hk;obtain rfl:=hl.int;obtain rfl:=hc.int;split at hr<;>try exact .inl hr
 rename_i Bq qH;split at hr<;>try exact .inl hr
 rename_i kg;have kg:((P.ti e).gD (P.ti e).w&&rF (P.ti e).w Bq)=true:=by simpa using kg
 simp only[ak7]at kg;obtain⟨hw,X1⟩:=kg;have aW:=Ic X1;obtain⟨hg,cW,_⟩:=oC hw;obtain⟨⟨h0,h1,h2,h3⟩,hr⟩:=hr
 obtain⟨zc,hz,ml⟩:∃zc,(P.ti e).z=some zc∧zc=Bq.cells:=by
  unfold TI.zero at qH
  cases hz:(P.ti e).z with
  |none=>simp[hz]at qH
  |some zc =>
    refine⟨zc,rfl,?_⟩;simp only[hz,Option.bind_some]at qH;split at qH
    .cases qH;rfl
    .rename_i Br;split at qH<;>try cases qH
     have:(P.ti e).w=none:=by unfold TI.w;rw[if_neg Br]
     rw[this]at aW;cases Bq<;>first|rfl|simp[okW,D.bR]at aW
 obtain⟨zv,qG,hm,it,hi,ny,jF,jo⟩:=rP hz;obtain⟨m1,m2,m3,m4⟩:=sL (H:=w.heap) (own:=s.own B.A β) hm
 have X2:zv.cells.size=wd (P.ti e).w:=by
  rw[ml,iE aW]at m1;simpa using m1.symm
 refine Ey (fun d hd Bs xu=>?_) hr;have aF:=run_make (P:=P) w t e it zv (k5 hk) hi ny .i64 .i64 la lb h0 h1 (by rw[jo,Int.mul_comm];omega) (by omega)
 obtain⟨β',hs⟩:=Bi h Bs xu (c:=madeCells zv.cells (lb.toNat*it.size)) (wf:=(P.ti e).w) (xs:=List.replicate la.toNat Bq) (cap:=lb.toNat) (by simp;omega)
  (by rw[size_madeCells,jF,cW];exact ali _) (fun x hx=>by rw[aml hx];exact aW) (fun i x j d' aq hj=>by
   have Bt:x=Bq:=aml (alp aq);subst Bt;have bF:i<la.toNat:=by have:=(akY.1 aq).1;simpa using this
   have e6:j<wd (P.ti e).w:=by rw[<-iE aW];exact(akY.1 hj).1
   rw[<-ml]at hj;obtain⟨u,hu,cd⟩:=m4 j d' hj;have aU:i*wd (P.ti e).w+wd (P.ti e).w<=lb.toNat*it.size:=by rw[<-al8,jF,cW];exact alz _ (by omega)
   have:(madeCells zv.cells (lb.toNat*it.size)).getD (i*wd (P.ti e).w+j) undef=u:=by
    simp only[alM]at hu;have X3:(i*wd (P.ti e).w+j) % zv.cells.size=j:=by rw[X2,anY,Nat.mul_add_mod];exact Nat.mod_eq_of_lt e6
    have dj:zv.cells[j]! = u:=by simp[getElem!_def,hu]
    simp[madeCells,akZ,show i*wd (P.ti e).w+j<lb.toNat*it.size by omega,X3,dj]
   rw[this];exact cd) e none rfl
 refine⟨_,_,β',ho _ _ aF,?_⟩;simpa using hs
theorem y2{o:Oper}(h:aj B β s a.tmps w){f:St->Prop}{z:Prop}(hr:(cV P.ti B.n o.op o.dst s).run f z):z∨Does P B o a w f:=by
 have bp:=h.ev;obtain⟨dst,op,ty,pos,after,guard⟩:=o;simp only at hr
 cases op with
 |move x=>exact NK h (o:=⟨dst,.move x,ty,pos,after,guard⟩) rfl (bp x) hr
 |assign x=>exact NK h (o:=⟨dst,.assign x,ty,pos,after,guard⟩) rfl (bp x) hr
 |pick c x y=>exact lK h (o:=⟨dst,.pick c x y,ty,pos,after,guard⟩) ((Xq (P:=P) (bp c) (bp x) (bp y)).mono fun _ ⟨v,hr,hv⟩=>⟨v,by simpa[execOp]using hr,hv⟩) hr
 |alloc e =>
   simp only[cV]at hr;split at hr<;>try exact .inl hr
   rename_i cs hz;exact Ey (o:=⟨dst,.alloc e,ty,pos,after,guard⟩) (fun d hd h1 h2=>let ⟨v,w',β',aF,hs⟩:=XC h hz h1 h2 _ (W7 _ _);⟨v,w',β',by simp[execOp,aF],hs⟩) hr
 |box e x =>
   simp only[cV]at hr;split at hr<;>try exact .inl hr
   rename_i cs hc;exact Ey (o:=⟨dst,.box e x,ty,pos,after,guard⟩) (fun d hd h1 h2=>let ⟨v,w',β',aF,hs⟩:=XD (P:=P) (t:=e) h (bp x) hc h1 h2;⟨v,w',β',by simp[execOp,aF],hs⟩) hr
 |build t parts =>
   obtain⟨p1,p2⟩:=NL h parts;exact lK h (o:=⟨dst,.build t parts,ty,pos,after,guard⟩) ((XG (P:=P) (t:=t) p1 p2).mono fun _ ⟨v,hr,hv⟩=>⟨v,by simp[execOp,hr],hv⟩) hr
 |buildSlice t l parts =>
   simp only[cV]at hr;split at hr<;>try exact .inl hr
   rename_i e xs hk hx;split at hr<;>try exact .inl hr
   rename_i hc;obtain⟨rfl,hz,hw,aW,hb⟩:=hc;obtain⟨z',hz⟩:=ant.1 hz
   have aC:(P.ti t).k=.slice e:=by
    unfold A7 at hk;split at hk<;>cases hk;assumption
   obtain⟨p1,p2⟩:=NL h parts;refine Ey (o:=⟨dst,.buildSlice t xs.length parts,ty,pos,after,guard⟩) (fun d hd h1 h2=>?_) hr;obtain⟨v,w',β',aF,hs⟩:=XK (P:=P) (t:=t) h p1 p2 aC hx hz hw (fun x aR=>Ic (alr.1 aW x aR)) hb h1 h2;exact⟨v,w',β',by simp[execOp,aF],hs⟩
 |load t x=>exact lK h (o:=⟨dst,.load t x,ty,pos,after,guard⟩) ((Nr (P:=P) (t:=t) h (bp x)).mono fun _ ⟨v,hr,hv⟩=>⟨v,by simp[execOp,hr],hv⟩) hr
 |store t x y =>
   have hs:=XL (P:=P) (t:=t) h (bp x) (bp y);have qG:((vl (P.ti t) s (ev s x) (ev s y)).bind fun s'=>dp B.n dst s' .un).run f z:=hr
   have key:∀r:R St,RV r (fun s'=>∃w',(Instr.storeAt t (a.eval x) (a.eval y)).run P w=.ok () w'∧aj B β s' a.tmps w')->(r.bind fun s'=>dp B.n dst s' .un).run f z->z∨Does P B ⟨dst,.store t x y,ty,pos,after,guard⟩ a w f:=by
    intro r
    induction r with
    |ok s' =>
      rintro⟨w',aF,bh⟩ hr;rcases Bp hr with hz|⟨hd,hf⟩
      .exact .inl hz
      .exact .inr ⟨.skip,undef,w',_,β,by simp[execOp,aF],.inr ⟨rfl,rfl⟩,hf,bh.cU hd (.un _)⟩
    |need p r ih=>exact fun hφ hr=>ih (hφ hr.1) hr.2
    |no=>exact fun _ hr=>.inl hr
   exact key _ hs qG
 |fieldAddr t x fi=>exact lK h (o:=⟨dst,.fieldAddr t x fi,ty,pos,after,guard⟩) ((Xe (P:=P) (t:=t) (bp x)).mono fun _ ⟨v,hr,hv⟩=>⟨v,by simp[execOp,hr],hv⟩) hr
 |field t x fi=>exact lK h (o:=⟨dst,.field t x fi,ty,pos,after,guard⟩) ((XA (P:=P) (t:=t) (bp x)).mono fun _ ⟨v,hr,hv⟩=>⟨v,by simp[execOp,hr],hv⟩) hr
 |indexAddr t x j=>exact lK h (o:=⟨dst,.indexAddr t x j,ty,pos,after,guard⟩) ((Xg (P:=P) (t:=t) (bp x) (bp j)).mono fun _ ⟨v,hr,hv⟩=>⟨v,by simp[execOp,hr],hv⟩) hr
 |index t x j=>exact lK h (o:=⟨dst,.index t x j,ty,pos,after,guard⟩) ((Xi (P:=P) (t:=t) (bp x) (bp j)).mono fun _ ⟨v,hr,hv⟩=>⟨v,by simp[execOp,hr],hv⟩) hr
 |slice t x lo hi mx =>
   cases mx with
   |some _=>exact .inl hr
   |none =>
     have opt:∀o:Option Operand,(∀x,o.map (ev s)=some x->∃v,o.map a.eval=some v∧VR w.heap (s.own B.A β) s.used s.hp β v x)∧(o.map (ev s)=none->o.map a.eval=none):=by
      intro o
      cases o with
      |none=>exact⟨fun x h=>(by cases h),fun _=>rfl⟩
      |some o=>exact⟨fun x h=>(by cases h;exact⟨_,rfl,bp o⟩),fun h=>(by cases h)⟩
     exact lK h (o:=⟨dst,.slice t x lo hi none,ty,pos,after,guard⟩) ((Xj (P:=P) (t:=t) h (bp x) (opt lo).1 (opt lo).2 (opt hi).1 (opt hi).2).mono fun _ ⟨v,hr,hv⟩=>⟨v,by simp[execOp,hr],hv⟩) hr
 |binOp op t x y yt =>
   exact lK h (o:=⟨dst,.binOp op t x y yt,ty,pos,after,guard⟩) ((Xo (P:=P) (t:=t) (bp x) (bp y) x y).mono fun _ ⟨v,hr,hv⟩=>⟨v,by simp only[execOp,Sem.run_bind]at hr ⊢;rw[hr];rfl,hv⟩) hr
 |unOp op t x=>exact lK h (o:=⟨dst,.unOp op t x,ty,pos,after,guard⟩) ((Xp (P:=P) (bp x)).mono fun _ ⟨v,hr,hv⟩=>⟨v,by simp[execOp,hr],hv⟩) hr
 |convert t t' x=>exact lK h (o:=⟨dst,.convert t t' x,ty,pos,after,guard⟩) ((Xv (P:=P) (t:=t) (t':=t') (bp x)).mono fun _ ⟨v,hr,hv⟩=>⟨v,by simp[execOp,hr],hv⟩) hr
 |extract x i=>exact lK h (o:=⟨dst,.extract x i,ty,pos,after,guard⟩) ((Xw (P:=P) (bp x) i).mono fun _ ⟨v,hr,hv⟩=>⟨v,by simp[execOp,hr],hv⟩) hr
 |nilCheck x=>exact lK h (o:=⟨dst,.nilCheck x,ty,pos,after,guard⟩) ((Xx (bp x)).mono fun _ ⟨⟨ad,hr⟩,hv⟩=>⟨a.eval x,by simp[execOp,hr],hv⟩) hr
 |makeFunc fn first aG =>
   refine lK h (o:=⟨dst,.makeFunc fn first aG,ty,pos,after,guard⟩) ((Xy (P:=P) (ρ:=a.eval) (cvs:=aG.map a.eval) (by simp) (fun i x hi=>?_)).mono fun _ ⟨v,hr,hv⟩=>⟨v,by simp[execOp,hr],hv⟩) hr;simp only[ala,ak8]at hi;obtain⟨o,ho,rfl⟩:=hi
   have:(aG.map a.eval).getD i undef=a.eval o:=by
    simp only[alM]at ho;simp[akZ,ho]
   rw[this];exact bp o
 |makeSlice t l c=>exact X0 h (bp l) (bp c) ⟨dst,.makeSlice t l c,ty,pos,after,guard⟩ (fun v w' hr=>by simp[execOp,hr]) hr
 |call c =>
   obtain⟨callee,args,jP⟩:=c
   cases callee with
   |value _=>exact .inl hr
   |invoke _ _=>exact .inl hr
   |builtin b =>
     obtain⟨args⟩:=args;obtain⟨jP⟩:=jP;simp only[cV,Eo]at hr;split at hr
     .rename_i x hx
      obtain⟨xo,rfl,rfl⟩:∃xo,args=[xo]∧ev s xo=x:=by
       match args,hx with
       |[xo],hx=>exact⟨xo,rfl,by simpa using hx⟩
      split at hr<;>try exact .inl hr
      rename_i t
      exact lK h (o:=⟨dst,.call { callee:=.builtin .len,args:=[xo].toArray,argTypes:=[t].toArray },ty,pos,after,guard⟩)
       ((Xr (P:=P) (t:=t) h (bp xo) rfl ty).mono fun _ ⟨v,hr,hv⟩=>⟨v,by simp[execOp,resolve,invoke,builtin,hr],hv⟩) hr
     .rename_i x y hx
      obtain⟨xo,yo,rfl,rfl,rfl⟩:∃xo yo,args=[xo,yo]∧ev s xo=x∧ev s yo=y:=by
       match args,hx with
       |[xo,yo],hx=>exact⟨xo,yo,rfl,by simpa using hx⟩
      exact lK h (o:=⟨dst,.call { callee:=.builtin .max,args:=[xo,yo].toArray,argTypes:=jP.toArray },ty,pos,after,guard⟩)
       ((Xt (P:=P) (bp xo) (bp yo) jP.toArray ty).mono fun _ ⟨v,hr,hv⟩=>⟨v,by simp[execOp,resolve,invoke,builtin,hr],hv⟩) hr
     .rename_i x y hx
      obtain⟨xo,yo,rfl,rfl,rfl⟩:∃xo yo,args=[xo,yo]∧ev s xo=x∧ev s yo=y:=by
       match args,hx with
       |[xo,yo],hx=>exact⟨xo,yo,rfl,by simpa using hx⟩
      exact lK h (o:=⟨dst,.call { callee:=.builtin .min,args:=[xo,yo].toArray,argTypes:=jP.toArray },ty,pos,after,guard⟩)
       ((Xu (P:=P) (bp xo) (bp yo) jP.toArray ty).mono fun _ ⟨v,hr,hv⟩=>⟨v,by simp[execOp,resolve,invoke,builtin,hr],hv⟩) hr
     .rename_i x y hx
      obtain⟨xo,yo,rfl,rfl,rfl⟩:∃xo yo,args=[xo,yo]∧ev s xo=x∧ev s yo=y:=by
       match args,hx with
       |[xo,yo],hx=>exact⟨xo,yo,rfl,by simpa using hx⟩
      split at hr<;>try exact .inl hr
      rename_i t t';split at hr<;>try exact .inl hr
      rename_i Bu;have Bu:t=t':=by simpa using Bu
      subst Bu;split at hr<;>try exact .inl hr
      rename_i e hk;split at hr<;>try exact .inl hr
      rename_i hc;have hs:=XX (P:=P) (t:=t) h (bp xo) (bp yo) hk hc.1 hc.2 ty dst;rcases RV.run hs hr with hz|⟨s',⟨dd,v,w',β',rfl,aF,bh⟩,hf⟩
      .exact .inl hz
      .exact .inr ⟨_,v,w',s',β',by simp[execOp,resolve,invoke,builtin,aF],.inl rfl,hf,bh⟩
     .exact .inl hr
 |_=>exact .inl hr
end
end Go.Ab

