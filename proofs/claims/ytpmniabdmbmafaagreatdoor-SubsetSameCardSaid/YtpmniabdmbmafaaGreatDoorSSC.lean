/-
  The generic layer, part 10: each step is sound: variables, structs, rows, stores. (with the parts that follow it) (with the parts that follow it)
-/
import Derived.Test.YtpmniabdmbmafaaGreatDoorSSB
set_option linter.all false
set_option maxHeartbeats 16000000
namespace Go.Ab
section
variable {P:Program}{B:Base}{β:Name->Option aU}{s:St}{tm:Array Value}{w:World}{t:Nat}
theorem qZ{z:List D}(hz:(P.ti t).z=some z):∃v,(∀w,(zeroValue t).run P w=.ok v w)∧v.cells.toList.mapM zd=some z∧∃i,P.info? t=some i∧i.zero=some v∧i.size=(P.ti t).sz∧i.bytes=(P.ti t).by':=by
 obtain⟨i,d,hi,hd,_,hs,hb,gO⟩:=oO (T6 hz);rw[hz]at gO
 cases hv:i.zero with
 |none=>rw[hv]at gO;cases gO
 |some v =>
   rw[hv]at gO;exact⟨v,fun w=>by simp[zeroValue,typeInfo,hi,hv],gO.symm,i,hi,hv,hs.symm,hb.symm⟩
theorem Ux(h:aj B β s tm w){z:List D}(hz:(P.ti t).z=some z){d:Nat}(hd:d<B.n)(hu:d∉s.used)(ty:Option Nat)(hty:ty.getD t=t) :
  ∃v w' β',(Instr.alloc t true (.tuple #[])).run P w=.ok v w'∧aj B β' ((s.add d (.bz ty (z.map .d))).put d (.bx [d] 0)) (tm.setIfInBounds d v) w':=by
 obtain⟨v,hr,hm,_⟩:=qZ hz;obtain⟨h1,h2,h3,h4⟩:=uc (H:=w.heap) (own:=s.own B.A β) hm
 obtain⟨β',hs⟩:=KR h hd hu (c:=v.cells) (cs:=z.map .d) (by simpa using h1.symm) (by simpa using h3) (fun i x hi=>by
  simp only[aii,ah4]at hi;obtain⟨d',dB,rfl⟩:=hi;obtain⟨u,ui,cD⟩:=h4 i d' dB
  have:v.cells.getD i undef=u:=by
   simp only[aiI]at ui;simp[ahY,ui]
  rw[this];exact .d _ _ cD) t ty hty
 exact⟨_,_,β',by simp[Instr.alloc,hr,newVar,newRow],hs⟩
theorem Uy(h:aj B β s tm w){xv:Value}{x:AV}(hx:VR w.heap (s.own B.A β) s.used s.hp β xv x){cs:List AV}(hc:iW x=some cs){d:Nat}(hd:d<B.n)(hu:d∉s.used) :
  ∃v w' β',(Instr.box t xv).run P w=.ok v w'∧aj B β' ((s.add d (.box cs)).put d (.bx [d] 0)) (tm.setIfInBounds d v) w':=by
 obtain⟨h1,h2,h3⟩:=FN hc hx;obtain⟨β',hs⟩:=KR h hd hu h1 h2 h3 t none rfl;exact⟨_,_,β',by simp[Instr.box,newVar,newRow],hs⟩
theorem uj{α:Type}(l:List α)(c:Nat)(xs:List α)(h:c+xs.length<=l.length):(splice l c xs).length=l.length:=by simp[splice];omega
theorem sv{α:Type}(l:List α)(c:Nat)(xs:List α)(h:c+xs.length<=l.length)(i:Nat):(splice l c xs)[i]?=if c<=i∧i<c+xs.length then xs[i-c]? else l[i]?:=by
 unfold splice;by_cases h1:i<c
 .rw[if_neg (by omega),aih (by simp;omega)];simp[h1]
 .have e:(l.take c).length=c:=by simp;omega
  rw[aim (by omega),e];by_cases h2:i<c+xs.length
  .rw[if_pos ⟨by omega,h2⟩,aih (by omega)]
  .rw[if_neg (by omega),aim (by omega),aiU];congr 1;omega
theorem KS(cells vs:Array Value)(off:Nat)(h:off+vs.size<=cells.size) :
  ((vs.zipIdx.foldl (fun cs (c,j)=>cs.setIfInBounds (off+j) c) cells:Array Value)).toList=splice cells.toList off vs.toList:=by
 have gen:∀(l:List Value) (k:Nat) (cells:Array Value),off+k+l.length<=cells.size ->
   ((l.zipIdx k).foldl (fun(cs:Array Value) (p:Value×Nat)=>cs.setIfInBounds (off+p.2) p.1) cells).toList=splice cells.toList (off+k) l:=by
  intro l
  induction l with
  |nil=>intro k cells h;simp[splice]
  |cons a r ih =>
    intro k cells h;simp only[List.zipIdx_cons,List.foldl_cons,List.length_cons]at h ⊢;rw[ih (k+1) _ (by simp;omega)];apply aiY;intro i;rw[sv _ _ _ (by simp;omega),sv _ _ _ (by simp;omega)];simp only[Array.toList_setIfInBounds,List.length_cons,ajm,Array.length_toList];by_cases h1:i=off+k
    .subst h1;simp[show¬(off+(k+1)<=off+k) by omega,show off+k<cells.size by omega]
    .by_cases h2:off+(k+1)<=i∧i<off+(k+1)+r.length
     .rw[if_pos h2,if_pos (by omega),show i-(off+k)=(i-(off+(k+1)))+1 by omega,List.getElem?_cons_succ]
     .rw[if_neg h2,if_neg (by omega),if_neg (by omega)]
 have:=gen vs.toList 0 cells (by simpa using h);rw[Nat.add_zero]at this;rw[<-this];rw[<-Array.foldl_toList,Array.toList_zipIdx]
section
variable {H:Array Obj}{own:Nat->Prop}{used:List Nat}{hp:Name->Option Ob}
def CR(H:Array Obj)(own:Nat->Prop)(used:List Nat)(hp:Name->Option Ob)(β:Name->Option aU)(vs:List Value)(cs:List AV):Prop :=
 vs.length=cs.length∧(∀v∈vs,v.oneCell'=true)∧∀(i:Nat) x,cs[i]?=some x->VR H own used hp β (vs.getD i undef) x
theorem CR.splice{vs us:List Value}{cs ds:List AV}(h:CR H own used hp β vs cs)(g:CR H own used hp β us ds){c:Nat}(hc:c+us.length<=vs.length):CR H own used hp β (splice vs c us) (splice cs c ds):=by
 have xK:c+ds.length<=cs.length:=by rw[<-h.1,<-g.1];exact hc
 refine⟨by rw[uj _ _ _ hc,uj _ _ _ xK,h.1],fun v hv=>?_,fun i x hi=>?_⟩
 .simp only[Ab.splice,ah1]at hv;obtain hv|hv|hv:=hv
  .exact h.2.1 v (aiJ hv)
  .exact g.2.1 v hv
  .exact h.2.1 v (aiX hv)
 .rw[sv _ _ _ xK]at hi;rw[ahX,sv _ _ _ hc,g.1];split at hi
  .rename_i jK;rw[if_pos jK];have:=g.2.2 _ x hi
   rwa [ahX]at this
  .rename_i jK;rw[if_neg jK];have:=h.2.2 _ x hi
   rwa [ahX]at this
theorem CR.KT{v:Value}{x:AV}{cs:List AV}(hc:iW x=some cs)(h:VR H own used hp β v x):CR H own used hp β v.cells.toList cs:=by
 obtain⟨h1,h2,h3⟩:=FN hc h;refine⟨by simpa using h1,by simpa using h2,fun i x hi=>?_⟩;have:=h3 i x hi;simpa[ahY,ahX]using this
theorem CR.mT{vs:List Value}{cs:List AV}(h:CR H own used hp β vs cs):VR H own used hp β (.agg vs.toArray) (mT cs) :=
 xF h.1 h.2.1 fun i v x hv hx=>by
  have:=h.2.2 i x hx
  rwa [ahX,hv]at this
theorem CR.zero{v:Value}{z:List D}(hm:v.cells.toList.mapM zd=some z):CR H own used hp β v.cells.toList (z.map .d):=by
 obtain⟨h1,h2,h3,h4⟩:=uc (H:=H) (own:=own) hm;refine⟨by simpa using h1.symm,h3,fun i x hi=>?_⟩;simp only[aii,ah4]at hi;obtain⟨d',dB,rfl⟩:=hi;obtain⟨u,ui,cD⟩:=h4 i d' dB;rw[ahX,ui];exact .d _ _ cD
theorem KU{fl:List Field}(place:Nat->Option (Nat×Nat))(nS:∀f o tt,(fl.map fun f=>(f.offset,f.type))[f]?=some (o,tt)->place f=some (o,(P.ti tt).sz)) :
  ∀(parts:List (Nat×AV)) (pv:List (Nat×Value)) (cells:Array Value) (cs cs':List AV),CR H own used hp β cells.toList cs ->
   pv.length=parts.length->(∀(i:Nat) q u,parts[i]?=some q->pv[i]?=some u->u.1=q.1∧VR H own used hp β u.2 q.2) ->
   xB P.ti (fl.map fun f=>(f.offset,f.type)) cs parts=some cs'->∃cells',Instr.fill place cells pv=some cells'∧CR H own used hp β cells'.toList cs'
 |[],[],cells,cs,cs',hc,_,_,h=>by simp[xB]at h;subst h;exact⟨cells,rfl,hc⟩
 |q::r,u::pr,cells,cs,cs',hc,hl,hq,h=>by
   obtain⟨e1,hv⟩:=hq 0 q u rfl rfl;simp only[xB]at h;split at h
   .rename_i o tt vs hf jV;split at h
    .rename_i jK;have uk:=CR.KT jV hv;have Uz:=nS _ _ _ hf;have hlen:u.2.cells.size=vs.length:=by simpa using uk.1
     have hcs:=hc.1;simp at hcs;have bH:¬(u.2.cells.size≠(P.ti tt).sz||o+u.2.cells.size > cells.size)=true:=by simp;omega
     have zI:=KS cells u.2.cells o (by omega);have kY:=hc.splice uk (c:=o) (by simp;omega);rw[<-zI]at kY;obtain⟨cells',q5,UA⟩:=KU place nS r pr _ _ cs' kY (by simpa using hl) (fun i q' u' h1 h2=>hq (i+1) q' u' (by simpa using h1) (by simpa using h2)) h;refine⟨cells',?_,UA⟩;obtain⟨i,v⟩:=u;simp only at e1 bH q5 ⊢;subst e1;simp only[Instr.fill,Uz,if_neg bH];exact q5
    .cases h
   .cases h
 |[],_::_,_,_,_,_,hl,_,_=>by simp at hl
 |_::_,[],_,_,_,_,hl,_,_=>by simp at hl
end
theorem KV:∀(fl:List Field),zu P.ti (fl.map fun f=>(f.offset,f.type))=true ->
  fl.mapM (fun f=>(P.info? f.type).map fun i=>(f.offset,i.size))=some (fl.map fun f=>(f.offset,(P.ti f.type).sz))
 |[],_=>rfl
 |f::r,h=>by
   simp only[aid,zu,aia,aiT]at h;obtain⟨i,d,hi,_,_,hs,_⟩:=oO h.1;simp[akA,hi,KV r h.2,hs]
theorem UB{parts:List (Nat×AV)}{pv:Array (Nat×Value)}(hl:pv.size=parts.length)
  (hq:∀(i:Nat) q u,parts[i]?=some q->pv.toList[i]?=some u->u.1=q.1∧VR w.heap (s.own B.A β) s.used s.hp β u.2 q.2) :
  RV (zw P.ti (P.ti t) parts) fun y=>∃v,(Instr.build t pv).run P w=.ok v w∧VR w.heap (s.own B.A β) s.used s.hp β v y:=by
 unfold zw;split
 rotate_left
 .rename_i l e zs hk hz;split<;>try trivial
  split<;>try trivial
  rename_i hg;have hg:(P.ti e).k.dA=false:=by simpa using hg
  have hu:=FU hk;obtain⟨v,hr,hm,it,hi,p8,_,_⟩:=qZ hz;have jW:pv=#[]:=ajx (by simpa using hl);subst jW;refine⟨.agg v.cells,?_,by simpa using(CR.zero (H:=w.heap) (own:=s.own B.A β) (used:=s.used) (hp:=s.hp) (β:=β) hm).mT⟩;simp[Instr.build,hr,run_underlying hu,run_sizeOf hg,Instr.fill]
 .trivial
 rename_i fs zs hk hz;split<;>try trivial
 rename_i fT;obtain⟨fl,hu,rfl⟩:=zC hk;obtain⟨v,hr,hm,it,hi,p8,_,_⟩:=qZ hz;refine RV.jU fun y hy=>?_;simp only[ah4]at hy;obtain⟨cs,hb,rfl⟩:=hy;have nS:=KV fl.toList fT
 obtain⟨cells',q5,uk⟩:=KU (P:=P) (fl:=fl.toList) ((fl.toList.map fun f=>(f.offset,(P.ti f.type).sz)).toArray[·]?) (fun f o tt hf=>by
  simp only[aii,ah4,ajM]at hf;obtain⟨fd,zD,rfl,rfl⟩:=hf
  simp[show fl[f]?=some fd by simpa using zD]) parts pv.toList v.cells (zs.map .d) cs (CR.zero (H:=w.heap) (own:=s.own B.A β) (used:=s.used) (hp:=s.hp) (β:=β) hm) (by simpa using hl) hq hb
 refine⟨_,run_build w t pv cells' ?_,by simpa using uk.mT⟩;simp only[Program.built,hi,hu,p8,nS];exact q5
def FX(H:Array Obj)(own:Nat->Prop)(c:Array Value)(o:Nat)(wf:W)(xs:List D):Prop :=
 (∀x∈xs,okW wf x)∧∀i x j d,xs[i]?=some x->x.cells[j]?=some d->au H own (c.getD (o+i*wd wf+j) undef) d
theorem UC{d:D}{cs:List AV}(h:cellsD d=some cs):cs=d.cells.map .d:=by
 cases d<;>simp only[cellsD,aiv]at h<;>subst h<;>rfl
theorem FY{H:Array Obj}{own:Nat->Prop}{v:Value}{d:D}(h:au H own v d):v.cells.size=d.cells.length∧(∀u∈v.cells,u.oneCell'=true)∧(∀x∈d.cells,x.ct=true) ∧
  ∀j x,d.cells[j]?=some x->au H own (v.cells.getD j undef) x:=by
 obtain⟨cs,hc⟩:∃cs,cellsD d=some cs:=by cases d<;>exact⟨_,rfl⟩
 have e:=UC hc;obtain⟨h1,h2,h3⟩:=KH (used:=[]) (hp:=fun _=>none) (β:=fun _=>none) hc h;subst e;refine⟨by simpa using h1,h2,?_,fun j x hj=>(h3 j (.d x) (by simp[hj])).cU⟩;intro x hx
 cases d with
 |agg cs=>cases h with|agg _ _ _ ez _=>exact ez x hx
 |_=>simp[D.cells]at hx;subst hx;rfl
theorem KW{H:Array Obj}{own:Nat->Prop}(size:Nat)(wf:W)(hw:wd wf=size):∀(parts:List (Nat×AV)) (pv:List (Nat×Value)) (k:Nat) (cells:Array Value) (pre xs:List D),pre.length=k->FX H own cells 0 wf pre ->
  pv.length=parts.length->(∀(i:Nat) q u,parts[i]?=some q->pv[i]?=some u->u.1=q.1∧∀d,q.2=.d d->au H own u.2 d)->sk k parts=some xs->(∀x∈xs,okW wf x)->(k+xs.length)*size<=cells.size ->
  ∃cells',Instr.fill (fun i=>some (i*size,size)) cells pv=some cells'∧cells'.size=cells.size∧FX H own cells' 0 wf (pre++xs)
 |[],[],k,cells,pre,xs,hk,vI,_,_,h,_,_=>by
   simp[sk]at h;subst h;exact⟨cells,rfl,rfl,by simpa using vI⟩
 |q::r,u::pr,k,cells,pre,xs,hk,vI,hl,hq,h,aF,hz=>by
   obtain⟨e1,hv⟩:=hq 0 q u rfl rfl;simp only[sk]at h;split at h<;>try cases h
   rename_i d zJ;split at h<;>try cases h
   rename_i xL;simp only[ah4]at h;obtain⟨xs',aV,rfl⟩:=h;have cD:=hv d zJ;have FZ:okW wf d:=aF d ah0;obtain⟨c1,c2,c3,c4⟩:=FY cD;rw[gN FZ,hw]at c1;simp only[List.length_cons]at hz
   have hle:k*size+size<=(k+(xs'.length+1))*size:=by
    rw[<-ai2];exact aiu _ (by omega)
   have bH:¬(u.2.cells.size≠size||k*size+u.2.cells.size > cells.size)=true:=by simp;omega
   have zI:=KS cells u.2.cells (k*size) (by omega);obtain⟨Cn,p9⟩:∃c,(u.2.cells.zipIdx.foldl (fun cs (c,j)=>cs.setIfInBounds (k*size+j) c) cells:Array Value)=c:=⟨_,rfl⟩
   rw[p9]at zI
   have KX:Cn.size=cells.size:=by
    have:=congrArg List.length zI;rw[uj _ _ _ (by simp;omega)]at this;simpa using this
   have eS:∀i,Cn.getD i undef=if k*size<=i∧i<k*size+size then u.2.cells.getD (i-k*size) undef else cells.getD i undef:=by
    intro i;have:=sv cells.toList (k*size) u.2.cells.toList (by simp;omega) i;rw[<-zI]at this;simp only[aiI,Array.length_toList,c1]at this;simp only[ahY,this];split<;>rfl
   have UD:FX H own Cn 0 wf (pre++[d]):=by
    refine⟨fun x hx=>?_,fun i x j d' hi hj=>?_⟩
    .rcases ah1.1 hx with hx|hx
     .exact vI.1 x hx
     .simp at hx;subst hx;exact FZ
    .rw[eS];rcases aiG i pre.length with hlt|cy
     .rw[aih hlt]at hi;have iH:=vI.1 x (aiz hi);have fU:j<wd wf:=by rw[<-gN iH];exact(ah3.1 hj).1
      have:i*wd wf+wd wf<=k*size:=by rw[<-ai2,hw];exact aiu _ (by omega)
      rw[if_neg (by omega)];exact vI.2 i x j d' hi hj
     .rw[aim cy]at hi
      have q6:i=pre.length:=by
       have:=(ah3.1 hi).1;simp at this;omega
      subst q6;simp at hi;subst hi;have fU:j<wd wf:=by rw[<-gN FZ];exact(ah3.1 hj).1
      rw[hk,hw,if_pos (by omega),show 0+k*size+j-k*size=j by omega];exact c4 j d' hj
   obtain⟨cells',q5,bc,hrow⟩:=KW size wf hw r pr (k+1) Cn (pre++[d]) xs' (by simp[hk]) UD (by simpa using hl) (fun i q' u' h1 h2=>hq (i+1) q' u' (by simpa using h1) (by simpa using h2)) aV
    (fun x hx=>aF x (ah8 _ hx)) (by rw[KX];rw[show k+1+xs'.length=k+(xs'.length+1) by omega];exact hz)
   refine⟨cells',?_,bc.trans KX,by simpa using hrow⟩;obtain⟨i,v⟩:=u;simp only at e1 bH q5 p9 ⊢;subst e1;rw[xL]at *
   simp only[Instr.fill,if_neg bH,p9];exact q5
 |[],_::_,_,_,_,_,_,_,hl,_,_,_,_=>by simp at hl
 |_::_,[],_,_,_,_,_,_,hl,_,_,_,_=>by simp at hl
theorem UE(h:aj B β s tm w){parts:List (Nat×AV)}{pv:Array (Nat×Value)}(hl:pv.size=parts.length)
  (hq:∀(i:Nat) q u,parts[i]?=some q->pv.toList[i]?=some u->u.1=q.1∧VR w.heap (s.own B.A β) s.used s.hp β u.2 q.2) {e:Nat} (hk:(P.ti t).k=.slice e) {xs:List D} (hx:sk 0 parts=some xs)
  {z:List D} (hz:(P.ti e).z=some z) (hw:(P.ti e).fM (P.ti e).w=true) (aF:∀x∈xs,okW (P.ti e).w x) (hb:xs.length*(P.ti e).sz<=16777216) {d:Nat} (hd:d<B.n) (hu:d∉s.used) :
  ∃v w' β',(Instr.buildSlice t xs.length pv).run P w=.ok v w'∧aj B β' ((s.add d (.arr (P.ti e).w xs)).put d (.vw [d] 0 xs.length)) (tm.setIfInBounds d v) w':=by
 obtain⟨hg,dk,_⟩:=mq hw;obtain⟨v,hr,hm,it,hi,p8,_,_⟩:=qZ hz;obtain⟨zc,oP⟩:∃zc:Array Value,(Array.range (xs.length*(P.ti e).sz)).map ((if xs.length*(P.ti e).sz=0 then #[]else v.cells)[· % (if xs.length*(P.ti e).sz=0 then #[]else v.cells).size]!)=zc:=⟨_,rfl⟩
 have q7:zc.size=xs.length*(P.ti e).sz:=by rw[<-oP];simp
 obtain⟨cells',q5,bc,hrow⟩:=KW (H:=w.heap) (own:=s.own B.A β) (P.ti e).sz (P.ti e).w dk parts pv.toList 0 zc [] xs rfl ⟨fun x hx=>by simp at hx,fun i x j d hi=>by simp at hi⟩ (by simpa using hl)
  (fun i q u h1 h2=>let ⟨a,b⟩:=hq i q u h1 h2;⟨a,fun d hd=>by rw[hd]at b;exact b.cU⟩) hx aF (by simp;omega)
 obtain⟨β',bm⟩:=zH h hd hu (c:=cells') (wf:=(P.ti e).w) (xs:=xs) (cap:=xs.length) (ain _) (by rw[dk,bc,q7];exact ain _) aF (fun i x j d hi hj=>by
  have:=hrow.2 i x j d (by simpa using hi) hj
  simpa using this) e none rfl
 refine⟨_,_,β',?_,bm⟩;have fg:¬(xs.length*(P.ti e).sz > 2 ^ 24):=by omega
 simp only[Instr.buildSlice,Sem.run_bind,run_underlying (kW hk),Result.andThen_ok,run_sizeOf hg,if_neg fg];by_cases h0:xs.length*(P.ti e).sz=0
 .simp only[h0,if_true]at oP ⊢;simp only[Sem.run_pure,Result.andThen_ok,oP,q5,newRow,Sem.run_bind,run_newObj];rfl
 .simp only[h0,if_false]at oP ⊢;simp only[Sem.run_bind,hr,Sem.run_pure,Result.andThen_ok,oP,q5,newRow,run_newObj];rfl
end
end Go.Ab
namespace Go.Ab
theorem F1{w:W}{d:D}(h:pZ w d=true):okW w d:=by
 cases w with
 |none=>exact h
 |some n=>cases d<;>simp[pZ]at h;exact⟨h.1,h.2⟩
section
variable {P:Program}{B:Base}{β:Name->Option aU}{s:St}{tm:Array Value}{w:World}{t:Nat}
theorem F3(hg:(P.ti t).k.dA=false){w:World}{b o:Nat}{c:Array Value}{e:TypeId}(hb:w.heap[b]?=some (.cells c e (0,0))){v:Value}(hs:v.cells.size=(P.ti t).sz)(hz:o+v.cells.size<=c.size)(h1:∀u∈v.cells,u.oneCell'=true) :
  (storeVar t ⟨b,o,none⟩ v).run P w=.ok () (w.setRow b (splice c.toList o v.cells.toList).toArray):=by
 have:=run_storeCells_at (P:=P) b o e v.cells.toList 0 c w hb (by simpa using hz) (by simpa using h1);simp only[Nat.add_zero,Array.length_toList]at this;simp only[storeVar,Sem.run_bind,run_sizeOf hg,Result.andThen_ok,ne_eq,hs,not_true_eq_false,if_false];simp only[hs]at this;simp only[this,splice,Array.length_toList,hs];simp[aiS]
theorem UF(h:aj B β s tm w){xv yv:Value}{x y:AV}(hx:VR w.heap (s.own B.A β) s.used s.hp β xv x)(hy:VR w.heap (s.own B.A β) s.used s.hp β yv y) :
  RV (tT (P.ti t) s x y) fun s'=>∃w',(Instr.storeAt t xv yv).run P w=.ok () w'∧aj B β s' tm w':=by
 unfold tT;split
 .rename_i p c;split<;>try trivial
  rename_i ty cs hp;split<;>try trivial
  rename_i vs eJ;split<;>try trivial
  rename_i jK;obtain⟨hg,hlen,hle⟩:=jK;have uk:=CR.KT eJ hy
  cases hx with
  |bx _ _ _ hn h1 hx =>
    obtain⟨k,hk,nP,rfl⟩:=hx ty cs hp;obtain⟨k',c',e,az,_,hc,hz,hl,cw,hcs⟩:=(h.aO p _ hp).2;rw[hk]at az;cases az;have bh:yv.cells.size=(P.ti t).sz:=by have:=uk.1;simp at this;omega
    have lT:c+yv.cells.size<=c'.size:=by omega
    have aK:=F3 (P:=P) (t:=t) hg hc (o:=c) bh lT (fun u hu=>uk.2.1 u (by simpa using hu));refine⟨_,by simpa[Instr.storeAt,Instr.sureAddr]using aK,?_⟩
    have UG:CR w.heap (s.own B.A β) s.used s.hp β c'.toList cs:=⟨by simpa using hl,by simpa using cw,fun i x hi=>by
     have:=hcs i x hi
     simpa[ahY,ahX]using this⟩
    have fR:=UG.splice uk (c:=c) (by simpa using lT);refine(h.modify (p:=p) hp (ob':=.bz ty (splice cs c vs)) rfl (w':=w.setRow k.b _) rfl (by simp) (fun b hb=>setRow_other w k.b b _ (hb k hk)) (fun hv _=>?_)).1;refine⟨k,_,e,hk,nP,setRow_heap w k.b c' _ (ty.getD e) (0,0) hc,?_,?_,?_,fun j x hj=>?_⟩
    .simp;rw[uj _ _ _ (by simpa using lT)];simpa using hz
    .simpa using fR.1
    .intro v q8;exact fR.2.1 v (by simpa using q8)
    .have:=hv _ _ (fR.2.2 j x hj);simpa[ahY,ahX]using this
 .rename_i p j c;split<;>try trivial
  rename_i wf xs y' hp;split<;>try trivial
  rename_i ys gq;have cD:au w.heap (s.own B.A β) yv y':=hy.cU
  cases hx with
  |el _ _ _ _ hn h1 hx =>
    obtain⟨hj,k,hk,rfl⟩:=hx none wf xs hp;rcases(h.aO p _ hp).2 with⟨h0,p7⟩|⟨k',c',e,az,hc,hz,hl,hw,hcs⟩
    .rw[p7]at hj;simp at hj
    .rw[hk]at az;cases az;have eS:xs[j]?=some (xs.getD j .aY):=by simp[ahX,hj]
     have aF:=hw _ (aiz eS)
     have ahC:j*wd wf+wd wf<=xs.length*wd wf:=by
      have:=aiu (wd wf) (akI hj);rwa [ai2]at this
     obtain⟨z,um,UH,UI,hg,lT,bh⟩:∃z,okW wf z∧ys=xs.set j z∧(∀i,z.cells[i]?=if c<=i∧i<c+yv.cells.size then y'.cells[i-c]? else(xs.getD j .aY).cells[i]?) ∧
       (P.ti t).k.dA=false∧c+yv.cells.size<=wd wf∧yv.cells.size=(P.ti t).sz:=by
      obtain⟨c1,c2,c3,c4⟩:=FY cD;unfold xA at gq;split at gq
      .cases gq
      rename_i hg;have hg:(P.ti t).k.dA=false:=by simpa using hg
      split at gq
      .rename_i jK;simp only[aia,beq_iff_eq]at jK;obtain⟨⟨jL,vJ⟩,rfl⟩:=jK;cases gq;obtain⟨_,dk,_⟩:=mq jL;have F4:=F1 vJ;rw[gN F4]at c1;refine⟨y',F4,rfl,fun i=>?_,hg,by omega,by omega⟩;by_cases hi:i<wd wf
       .rw[if_pos (by omega)];simp
       .rw[if_neg (by omega),aiE (by rw[gN F4];omega),aiE (by rw[gN aF];omega)]
      .split at gq
       .cases gq
       .split at gq<;>try cases gq
        rename_i cs KY;split at gq<;>try cases gq
        rename_i jK;obtain⟨ez,hlt,nT⟩:=jK;have e1:y'.cells=[y']:=by cases y'<;>first|rfl|simp[D.ct]at ez
        rw[e1]at c1;simp at c1;rw[KY]at aF;have hlen:cs.length=wd wf:=gN aF
        have UJ:okW wf (.agg (cs.set c y')):=by
         cases wf with
         |none=>simp[okW,D.ct]at aF
         |some n =>
           refine⟨by simpa using aF.1,fun d hd=>?_⟩;rcases ajy hd with hd|rfl
           .exact aF.2 d hd
           .exact ez
        refine⟨_,UJ,rfl,fun i=>?_,hg,by omega,by omega⟩;rw[KY,c1,e1];simp only[D.cells,ajm];by_cases hi:c=i
        .subst hi;simp[hlt]
        .rw[if_neg hi,if_neg (by omega)]
     obtain⟨c1,c2,c3,c4⟩:=FY cD;have F5:k.o+j*wd wf+c+yv.cells.size<=c'.size:=by omega
     have aK:=F3 (P:=P) (t:=t) hg hc (o:=k.o+j*wd wf+c) bh F5 c2;refine⟨_,by simpa[Instr.storeAt,Instr.sureAddr]using aK,?_⟩;subst UH;refine(h.modify (p:=p) hp (ob':=.arr wf (xs.set j z)) ⟨⟨rfl,rfl⟩,by simp⟩ (w':=w.setRow k.b _) rfl (by simp) (fun b hb=>setRow_other w k.b b _ (hb k hk)) (fun _ hr=>?_)).1;have gu:=uj c'.toList (k.o+j*wd wf+c) yv.cells.toList (by simpa using F5);refine .inr ⟨k,_,e,hk,setRow_heap w k.b c' _ e (0,0) hc,by simp;rw[gu];simpa using hz,by simpa using hl,fun x hx=>?_,fun i x m d hi hm=>?_⟩
     .rcases ajy hx with hx|rfl
      .exact hw x hx
      .exact um
     .have zK:((splice c'.toList (k.o+j*wd wf+c) yv.cells.toList).toArray).getD (k.o+i*wd wf+m) undef =
        if k.o+j*wd wf+c<=k.o+i*wd wf+m∧k.o+i*wd wf+m<k.o+j*wd wf+c+yv.cells.size then yv.cells.getD (k.o+i*wd wf+m-(k.o+j*wd wf+c)) undef else c'.getD (k.o+i*wd wf+m) undef:=by
       have:=sv c'.toList (k.o+j*wd wf+c) yv.cells.toList (by simpa using F5) (k.o+i*wd wf+m);simp only[aiI,Array.length_toList]at this;simp only[ahY,ajf,this];split<;>rfl
      rw[zK];rw[ajm]at hi;split at hi
      .rename_i uo;subst uo;simp at hi;obtain⟨_,rfl⟩:=hi;rw[UI m]at hm;by_cases nU:c<=m∧m<c+yv.cells.size
       .rw[if_pos nU]at hm;rw[if_pos (by omega),show k.o+j*wd wf+m-(k.o+j*wd wf+c)=m-c by omega];exact hr _ _ (c4 _ d hm)
       .rw[if_neg nU]at hm;rw[if_neg (by omega)];exact hr _ _ (hcs j _ m d eS hm)
      .rename_i uo;have iH:=hw x (aiz hi);have mW:m<wd wf:=by rw[<-gN iH];exact(ah3.1 hm).1
       have aJ:¬(k.o+j*wd wf+c<=k.o+i*wd wf+m∧k.o+i*wd wf+m<k.o+j*wd wf+c+yv.cells.size):=by
        rcases Nat.lt_or_gt_of_ne uo with hlt|UK
        .have:j*wd wf+wd wf<=i*wd wf:=by rw[<-ai2];exact aiu _ hlt
         omega
        .have:i*wd wf+wd wf<=j*wd wf:=by rw[<-ai2];exact aiu _ UK
         omega
       rw[if_neg aJ];exact hr _ _ (hcs i x m d hi hm)
 .trivial
end
end Go.Ab
namespace Go.Ab
section
variable {P:Program}{B:Base}{β:Name->Option aU}{s:St}{tm:Array Value}{w:World}{t:Nat}
structure mX(P:Program)(H:Array Obj)(own:Nat->Prop)(wf:W)(v:Value)(xs:List D)(news:List Value):Prop where
 len:∃a cap,v=.slice a xs.length cap
 size:news.length=xs.length*wd wf
 one:∀u∈news,u.oneCell'=true
 ok:∀x∈xs,okW wf x
 rep:∀i x j d,xs[i]?=some x->x.cells[j]?=some d->au H own (news.getD (i*wd wf+j) undef) d
 run:∀w':World,w'.heap=H->(Builtin.firstCells (wd wf) xs.length v).run P w'=.ok news.toArray w'
theorem zL{H own}{wf:W}{a:Option Addr}{cap:Nat}:mX P H own wf (.slice a 0 cap) [] []:=by
 refine⟨⟨a,cap,rfl⟩,by simp,by simp,by simp,by simp,fun w' _=>?_⟩
 cases a with
 |none=>simp[Builtin.firstCells]
 |some a=>simp[Builtin.firstCells,loadCells,loadCellsFrom]
theorem cells_one{H:Array Obj}{own:Nat->Prop}{c:Array Value}{o:Nat}{wf:W}{xs:List D}(aF:∀x∈xs,okW wf x)
  (h:∀i x j d,xs[i]?=some x->x.cells[j]?=some d->au H own (c.getD (o+i*wd wf+j) undef) d):∀m,m<xs.length*wd wf->(c.getD (o+m) undef).oneCell'=true:=by
 intro m hm
 have hw:0<wd wf:=by rcases Nat.eq_zero_or_pos (wd wf)with h0|h0
                     .rw[h0]at hm;simp at hm
                     .exact h0
 have hi:m / wd wf<xs.length:=by rw[Nat.div_lt_iff_lt_mul hw];exact hm
 have eS:xs[m / wd wf]?=some xs[m / wd wf]:=aib hi;have hx:=aF _ (ah2 hi);have hj:m % wd wf<(xs[m / wd wf]).cells.length:=by rw[gN hx];exact Nat.mod_lt _ hw
 have hr:=h _ _ _ _ eS (aib hj);have:=hr.vD (Cm hx _ (ah2 hj))
 rwa [ajn,Nat.mul_comm,Nat.div_add_mod]at this
theorem KZ{b o cap:Nat}{c:Array Value}{e:TypeId}{fz:Nat×Nat}{own:Nat->Prop}{wf:W}{xs:List D}(hb:w.heap[b]?=some (.cells c e fz))(hz:o+xs.length*wd wf<=c.size)(aF:∀x∈xs,okW wf x)
  (h:∀i x j d,xs[i]?=some x->x.cells[j]?=some d->au w.heap own (c.getD (o+i*wd wf+j) undef) d) :
  mX P w.heap own wf (.slice (some ⟨b,o,none⟩) xs.length cap) xs ((c.toList.drop o).take (xs.length*wd wf)):=by
 have hl:((c.toList.drop o).take (xs.length*wd wf)).length=xs.length*wd wf:=by simp;omega
 have hg:∀m,m<xs.length*wd wf->((c.toList.drop o).take (xs.length*wd wf)).getD m undef=c.getD (o+m) undef:=by
  intro m hm;simp[ahX,ahY,hm]
 refine⟨⟨_,cap,rfl⟩,hl,fun u hu=>?_,aF,fun i x j d hi hj=>?_,fun w' sw=>?_⟩
 .obtain⟨m,hm⟩:=ajq.1 hu;have hlt:m<xs.length*wd wf:=by rw[<-hl];exact(ah3.1 hm).1
  have:=cells_one aF h m hlt;rw[<-hg m hlt,ahX,hm]at this;exact this
 .have iH:=aF x (aiz hi);have fU:j<wd wf:=by rw[<-gN iH];exact(ah3.1 hj).1
  have bR:=(ah3.1 hi).1;have:i*wd wf+wd wf<=xs.length*wd wf:=by rw[<-ai2];exact aiu _ bR
  rw[hg _ (by omega),<-ajn];exact h i x j d hi hj
 .refine run_firstCells_some (P:=P) w' (wd wf) xs.length ⟨b,o,none⟩ xs.length cap _ hl (fun j v hv=>?_);rw[lQ,cell_of_row w' b (o+j) c e fz (by rw[sw];exact hb)];rw[ai4]at hv;split at hv
  .simpa using hv
  .cases hv
theorem Co(h:aj B β s tm w){yv:Value}{y:AV}(hy:VR w.heap (s.own B.A β) s.used s.hp β yv y){wf:W}{ys:List D}(hl:kr wf s.hp y=some ys):∃news,mX P w.heap (s.own B.A β) wf yv ys news:=by
 unfold kr at hl;split at hl
 .rename_i p o l;split at hl<;>try cases hl
  rename_i ty w' xs hp;split at hl<;>try cases hl
  rename_i hw;subst hw
  cases hy with
  |vw _ _ _ _ hn h1 hx =>
    obtain⟨hle,a,cap,rfl,aV⟩:=hx _ _ _ hp;have hlen:((xs.drop o).take l).length=l:=by simp;omega
    obtain⟨rfl,rfl⟩|⟨k,hk,rfl,fL,hz⟩:=aV
    .exact⟨[],by simpa using zL⟩
    .rcases(h.aO p _ hp).2 with⟨h0,p7⟩|⟨k',c',e,az,hc,Cp,gM,hw,hcs⟩
     .rw[h0]at hk;cases hk
     .rw[hk]at az;cases az;have K1:o*wd w'+l*wd w'<=xs.length*wd w':=by rw[<-ai8];exact aiu _ hle
      have:=KZ (P:=P) (w:=w) (own:=s.own B.A β) (cap:=cap) (wf:=w') (xs:=(xs.drop o).take l) (b:=k.b) (o:=k.o+o*wd w') hc (by rw[hlen];omega)
       (fun x hx=>hw x (aiX (aiJ hx))) (fun i x j d hi hj=>by
        rw[ai4]at hi;split at hi
        .rw[aiU]at hi;have:=hcs _ x j d hi hj
         rwa [show k.o+o*wd w'+i*wd w'+j=k.o+(o+i)*wd w'+j by rw[ai8];omega]
        .cases hi)
      rw[hlen]at this;exact⟨_,this⟩
 .rename_i w' xs;split at hl<;>try cases hl
  rename_i hw;subst hw
  cases hy.cU with
  |lL a cap _=>exact⟨[],zL⟩
  |sl b o cap c e fz _ _ hb hn fL hz aF hc=>exact⟨_,KZ hb hz aF hc⟩
 .cases hl;obtain rfl:=hy.ai;exact⟨[],zL⟩
 .cases hl
section
variable {e:Nat}{i:TypeInfo}{z:Value}
theorem K2(hk:P.underlying t=some (.slice e))(hi:P.info? e=some i)(hz:i.zero=some z)(ty:TypeId){own:Nat->Prop}{wf:W}{xv yv:Value}{xs ys:List D}{olds news:List Value}(hs:i.size=wd wf)
  (hx:mX P w.heap own wf xv xs olds) (hy:mX P w.heap own wf yv ys news) {a:Option Addr} {cap:Nat} (jX:xv=.slice a xs.length cap) (cX:cap<xs.length+ys.length) (hb:(xs.length+ys.length)*i.bytes<=140737488355328) (fg:xs.length+ys.length<=140737488355328) :
  ∃nc,xs.length+ys.length<=nc∧(Builtin.append_ #[t,t] ty #[xv,yv]).run P w =
   .ok (.slice (some ⟨w.heap.size,0,none⟩) (xs.length+ys.length) nc) (w.drew.alloc (.cells (olds.toArray++news.toArray++Builtin.zeroCells z.cells (nc-(xs.length+ys.length))) e)):=by
 obtain⟨ya,yc,rfl⟩:=hy.len;subst jX;refine⟨grownCap w (xs.length+ys.length) cap e,grownCap_ge _ _ _ _,?_⟩;have hn:¬(xs.length+ys.length<=cap):=by omega
 have F6:¬(9223372036854775807<((xs.length:Int)+(ys.length:Int))):=by omega
 have UL:¬(281474976710656<Builtin.nextslicecap (xs.length+ys.length) cap*i.bytes):=by have:=growslice_fits cX hb;omega
 have hf:=hy.run w.drew rfl;have UM:=hx.run w.drew rfl;simp[Builtin.append_,run_underlying hk,sizeOf,typeInfo,zeroValue,hi,hz,Builtin.lenOf,hn,F6,UL,Question.forced,hs,hf,UM,newRow,grownCap];congr 2;apply akj;simp[aiS]
theorem UN(hk:P.underlying t=some (.slice e))(hi:P.info? e=some i)(ty:TypeId){own:Nat->Prop}{wf:W}{yv:Value}{ys:List D}{news:List Value}(hs:i.size=wd wf)
  (hy:mX P w.heap own wf yv ys news) {b o n cap:Nat} {c:Array Value} {e':TypeId} (hb:w.heap[b]?=some (.cells c e' (0,0))) (hr:n+ys.length<=cap) (lT:o+n*wd wf+news.length<=c.size) :
  (Builtin.append_ #[t,t] ty #[.slice (some ⟨b,o,none⟩) n cap,yv]).run P w =
   .ok (.slice (some ⟨b,o,none⟩) (n+ys.length) cap) (w.setRow b (splice c.toList (o+n*wd wf) news).toArray):=by
 obtain⟨ya,yc,rfl⟩:=hy.len;have hf:=hy.run w rfl;have ah:=run_storeCells_at (P:=P) b (o+n*wd wf) e' news 0 c w hb (by simpa using lT) hy.one;simp only[Nat.add_zero]at ah;simp[Builtin.append_,run_underlying hk,sizeOf,typeInfo,hi,Builtin.lenOf,hr,hs,hf,lQ,ah,splice,aiS]
theorem K3(hk:P.underlying t=some (.slice e))(hi:P.info? e=some i)(ty:TypeId){own:Nat->Prop}{wf:W}{yv:Value}{news:List Value}(hs:i.size=wd wf)(hy:mX P w.heap own wf yv [] news)(a:Option Addr)(cap:Nat)  :
  (Builtin.append_ #[t,t] ty #[.slice a 0 cap,yv]).run P w=.ok (.slice a 0 cap) w:=by
 obtain⟨ya,yc,rfl⟩:=hy.len;have hf:=hy.run w rfl;have:news=[]:=by have:=hy.size;simpa using this
 subst this;simp only[List.length_nil]at hf;cases a<;>simp[Builtin.append_,run_underlying hk,sizeOf,typeInfo,hi,Builtin.lenOf,hs,hf,storeCells]
end
theorem UO{H:Array Obj}{own:Nat->Prop}{wf:W}{xs ys:List D}{olds news:List Value}{xv yv:Value}(hx:mX P H own wf xv xs olds)(hy:mX P H own wf yv ys news)(rest:Array Value) :
  (∀x∈xs++ys,okW wf x)∧∀i x j d,(xs++ys)[i]?=some x->x.cells[j]?=some d->au H own ((olds.toArray++news.toArray++rest).getD (i*wd wf+j) undef) d:=by
 refine⟨fun x h=>(ah1.1 h).elim (hx.ok x) (hy.ok x),fun i x j d hi hj=>?_⟩
 have eS:∀m,(olds.toArray++news.toArray++rest).getD m undef=if m<olds.length then olds.getD m undef else if m<olds.length+news.length then news.getD (m-olds.length) undef else rest.getD (m-(olds.length+news.length)) undef:=by
  intro m;simp only[ahY,ahX,aiN,ajK,akl,ajf];by_cases h1:m<olds.length
  .simp[h1,show m<olds.length+news.length by omega]
  .by_cases h2:m<olds.length+news.length
   .simp[h1,h2]
   .simp[h1,h2]
 rw[eS];rcases aiG i xs.length with hlt|cy
 .rw[aih hlt]at hi;have iH:=hx.ok x (aiz hi);have fU:j<wd wf:=by rw[<-gN iH];exact(ah3.1 hj).1
  have:i*wd wf+wd wf<=xs.length*wd wf:=by rw[<-ai2];exact aiu _ hlt
  rw[if_pos (by rw[hx.size];omega)];exact hx.rep i x j d hi hj
 .rw[aim cy]at hi;have iH:=hy.ok x (aiz hi);have bR:=(ah3.1 hi).1;have fU:j<wd wf:=by rw[<-gN iH];exact(ah3.1 hj).1
  have h1:xs.length*wd wf<=i*wd wf:=aiu _ cy;have h2:(i-xs.length)*wd wf+wd wf<=ys.length*wd wf:=by rw[<-ai2];exact aiu _ bR
  have h3:i*wd wf=(i-xs.length)*wd wf+xs.length*wd wf:=by rw[<-ai8];congr 1;omega
  rw[if_neg (by rw[hx.size];omega),if_pos (by rw[hx.size,hy.size];omega),hx.size,show i*wd wf+j-xs.length*wd wf=(i-xs.length)*wd wf+j by omega];exact hy.rep _ x j d hi hj
theorem UQ(h:aj B β s tm w){xv yv:Value}{x y:AV}(hx:VR w.heap (s.own B.A β) s.used s.hp β xv x)(hy:VR w.heap (s.own B.A β) s.used s.hp β yv y){e:Nat}(hk:(P.ti t).k=.slice e)
  (hz:(P.ti e).nN=true) (hw:(P.ti e).fM (P.ti e).w=true) (ty:TypeId) (d:Option Nat) (tg:Option Nat) (vK:tg.getD e=e) :
  RV (Ci tg B.n (P.ti e) d s x y) fun s'=>∃dd v w' β',d=some dd∧(Builtin.append_ #[t,t] ty #[xv,yv]).run P w=.ok v w'∧aj B β' s' (tm.setIfInBounds dd v) w':=by
 obtain⟨hg,dk,_⟩:=mq hw
 obtain⟨z,hz,qa⟩:∃z,(P.ti e).z=some z∧z.length=(P.ti e).sz:=by
  unfold TI.nN at hz;split at hz
  .rename_i z h1;exact⟨z,h1,by simpa using hz⟩
  .cases hz
 obtain⟨zv,hr,hm,it,hi,p8,kz,kA⟩:=qZ hz;have hu:=kW hk
 have Cq:∀m:Nat,m*(P.ti e).lN<=140737488355328->m*it.bytes<=140737488355328∧m<=140737488355328:=by
  intro m iI;unfold TI.lN at iI;rw[kA];split at iI
  .rename_i h0;rw[h0];simp at iI ⊢;exact iI
  .exact⟨iI,aix (akR m (by omega)) iI⟩
 have fresh:∀(s1:St) (β1:Name->Option aU) (xs ys:List D) (olds news:List Value) (zM K4:Value) (dd nc:Nat),aj B β1 s1 tm w->mX P w.heap (s1.own B.A β1) (P.ti e).w zM xs olds->mX P w.heap (s1.own B.A β1) (P.ti e).w K4 ys news->dd<B.n->dd∉s1.used ->
   xs.length+ys.length<=nc->∃β',aj B β' ((s1.add dd (.bu tg (P.ti e).w (xs++ys))).put dd (.vw [dd] 0 (xs.length+ys.length))) (tm.setIfInBounds dd (.slice (some ⟨w.heap.size,0,none⟩) (xs.length+ys.length) nc))
    (w.drew.alloc (.cells (olds.toArray++news.toArray++Builtin.zeroCells zv.cells (nc-(xs.length+ys.length))) e)):=by
  intro s1 β1 xs ys olds news zM K4 dd nc h1 fC gP mr kC sA;obtain⟨r1,r2⟩:=UO fC gP (Builtin.zeroCells zv.cells (nc-(xs.length+ys.length)))
  have q7:zv.cells.size=wd (P.ti e).w:=by
   have:=(uc (H:=w.heap) (own:=s.own B.A β) hm).1;simp at this;omega
  have bh:(olds.toArray++news.toArray++Builtin.zeroCells zv.cells (nc-(xs.length+ys.length))).size=nc*wd (P.ti e).w:=by
   simp only[akl,ajK,fC.size,gP.size,size_zeroCells,q7,<-ai8];congr 1;omega
  have:=zH (h1.xy (w':=w.drew) rfl rfl) mr kC (c:=olds.toArray++news.toArray++Builtin.zeroCells zv.cells (nc-(xs.length+ys.length))) (wf:=(P.ti e).w) (xs:=xs++ys) (cap:=nc) (by simpa using sA)
   (by rw[bh];exact ain _) r1 (fun i x j d hi hj=>r2 i x j d hi hj) e tg vK
  simpa using this
 unfold Ci;split
 ·-- UR nil
  rename_i ys gq;obtain rfl:=hx.ai;intro hb;obtain⟨sB,mY⟩:=Cq _ hb;unfold jI;split<;>try trivial
  rename_i dd;split<;>try trivial
  rename_i jK;obtain⟨mr,kC⟩:=jK;obtain⟨news,gP⟩:=Co (P:=P) h hy gq;by_cases h0:ys.length=0
  .have:ys=[]:=ajk.1 h0;subst this;have aK:=K3 (P:=P) (t:=t) hu hi ty (by rw[kz,dk]) gP none 0;refine⟨dd,_,_,_,rfl,aK,(h.qY kC tg _).put mr (.vw _ _ _ _ ⟨dd,[],rfl,ah0⟩ rfl fun ty' w' xs' ae=>?_)⟩;have:w'=(P.ti e).w∧xs'=[]:=akU (a:=ty'=tg) (by simpa[St.add,aP,eq_comm]using ae);obtain⟨rfl,rfl⟩:=this;exact⟨by simp,_,0,rfl,.inl ⟨rfl,rfl⟩⟩
  .obtain⟨nc,sA,aK⟩:=K2 (P:=P) (t:=t) hu hi p8 ty (by rw[kz,dk]) (zL (P:=P) (H:=w.heap) (own:=s.own B.A β) (wf:=(P.ti e).w) (a:=none) (cap:=0)) gP rfl (by simp;omega) (by simpa using sB) (by simpa using mY);obtain⟨β',hs⟩:=fresh s β [] ys [] news _ _ dd nc h (zL (a:=none) (cap:=0)) gP mr kC sA;exact⟨dd,_,_,β',rfl,aK,by simpa using hs⟩
 ·-- UR a view
  rename_i ys p o l gq;split<;>try trivial
  rename_i xM wf xs hp;split<;>try trivial
  rename_i jq;obtain⟨rfl,jq⟩:=jq;intro hb;obtain⟨sB,mY⟩:=Cq _ hb;unfold jI;split<;>try trivial
  rename_i dd;split<;>try trivial
  rename_i jK;obtain⟨mr,kC⟩:=jK;have kC:dd∉s.used:=kC;obtain⟨news,gP⟩:=Co (P:=P) h hy gq;have iX:kr (P.ti e).w s.hp (.vw p o l)=some ((xs.drop o).take l):=by simp[kr,hp,jq]
  obtain⟨olds,fC⟩:=Co (P:=P) h hx iX;have kx:=ku (h.aO p _ hp).1 kC
  have vL:∀ob,(s.set p none).add dd ob=(s.add dd ob).set p none:=by
   intro ob;unfold St.add St.set;simp only[St.mk.injEq,true_and,and_true];funext q;simp only[aP];by_cases h1:q=[dd]
   .subst h1;simp[Ne.symm kx]
   .simp[h1]
  cases hx with
  |vw _ _ _ _ hn h1 hx =>
    obtain⟨hle,a,cap,rfl,aV⟩:=hx _ _ _ hp;have hlen:((xs.drop o).take l).length=l:=by simp;omega
    by_cases cX:cap<l+ys.length
    ·-- it grows
     have F7:cap<((xs.drop o).take l).length+ys.length:=by rw[hlen];exact cX
     obtain⟨nc,sA,aK⟩:=K2 (P:=P) (t:=t) hu hi p8 ty (by rw[kz,dk]) fC gP (a:=a) (cap:=cap) (by rw[hlen]) F7 (by rw[hlen];exact sB) (by rw[hlen];exact mY);obtain⟨β',hs⟩:=fresh s β _ ys olds news _ _ dd nc h fC gP mr kC sA;rw[hlen]at hs aK;refine⟨dd,_,_,β',rfl,aK,?_⟩;rw[vL,jq];have:=hs.drop p;have e2:((s.add dd (.bu xM (P.ti e).w ((xs.drop o).take l++ys))).put dd (.vw [dd] 0 (l+ys.length))).set p none=((s.add dd (.bu xM (P.ti e).w ((xs.drop o).take l++ys))).set p none).put dd (.vw [dd] 0 (l+ys.length)):=rfl
     rwa [e2]at this
    ·-- there is room
     obtain⟨rfl,rfl⟩|⟨k,az,rfl,fL,gO⟩:=aV
     .have:ys=[]:=ajk.1 (by omega);subst this;have aK:=K3 (P:=P) (t:=t) hu hi ty (by rw[kz,dk]) gP a 0;refine⟨dd,_,_,aP β [dd] none,rfl,aK,?_⟩;rw[vL];have e3:((xs.drop o).take 0++([]:List D))=[]:=by simp
      rw[e3]
      have:=((h.qY kC xM wf).put mr (v:=.slice a 0 0) (x:=.vw [dd] 0 0) (.vw _ _ _ _ ⟨dd,[],rfl,ah0⟩ rfl fun ty' w' xs' ae=>by
       have:w'=wf∧xs'=[]:=akU (a:=ty'=xM) (by simpa[St.add,aP,eq_comm]using ae);obtain⟨rfl,rfl⟩:=this
       exact⟨by simp,a,0,rfl,.inl ⟨rfl,rfl⟩⟩)).drop p
      exact this
     .have db:=(h.aO p _ hp).2;obtain⟨h0,p7⟩|⟨k',c',e',ug,hc,Cp,gM,zN,hcs⟩:=db
      .rw[h0]at az;cases az
      .rw[az]at ug;cases ug;have hmul:(o+cap)*wd wf=o*wd wf+cap*wd wf:=ai8 _ _ _;have K1:(l+ys.length)*wd wf<=cap*wd wf:=aiu _ (by omega);have US:(l+ys.length)*wd wf=l*wd wf+ys.length*wd wf:=ai8 _ _ _;have iY:=gP.size;rw[<-jq]at iY;have lT:k.o+o*wd wf+l*wd wf+news.length<=c'.size:=by omega
       have aK:=UN (P:=P) (t:=t) hu hi ty (wf:=wf) (by rw[kz,jq,dk]) (by rw[jq];exact gP) hc (o:=k.o+o*wd wf) (n:=l) (cap:=cap) (by omega) lT;refine⟨dd,_,_,aP β [dd] (some ⟨k.b,k.o+o*wd wf,k.z⟩),rfl,aK,?_⟩
       have bm:=h.renew kC hp az xM wf ((xs.drop o).take l++ys) (k.o+o*wd wf) (w':=w.setRow k.b (splice c'.toList (k.o+o*wd wf+l*wd wf) news).toArray) rfl (by simp)
        (fun b hb=>setRow_other w k.b b _ hb) (fun hr=>?_)
       .refine bm.put mr (.vw _ _ _ _ ⟨dd,[],rfl,ah0⟩ rfl fun ty' w' xs' ae=>?_);have:w'=wf∧xs'=(xs.drop o).take l++ys:=akU (a:=ty'=xM) (by simpa[St.add,aP,eq_comm]using ae);obtain⟨rfl,rfl⟩:=this;refine⟨by simp;omega,_,cap,rfl,.inr ⟨_,by simp[aP];rfl,by simp,by omega,?_⟩⟩;simp only[aiD];omega
       .have gu:=uj c'.toList (k.o+o*wd wf+l*wd wf) news (by simpa using lT);refine⟨_,e',setRow_heap w k.b c' _ _ (0,0) hc,by simp;rw[gu];simpa using Cp,?_,fun x hx=>?_,fun i x j d hi hj=>?_⟩
        .rw[ah7,hlen];omega
        .rcases ah1.1 hx with hx|hx
         .exact zN x (aiX (aiJ hx))
         .rw[jq];exact gP.ok x hx
        .have zK:((splice c'.toList (k.o+o*wd wf+l*wd wf) news).toArray).getD (k.o+o*wd wf+i*wd wf+j) undef =
           if k.o+o*wd wf+l*wd wf<=k.o+o*wd wf+i*wd wf+j∧k.o+o*wd wf+i*wd wf+j<k.o+o*wd wf+l*wd wf+news.length then news.getD (k.o+o*wd wf+i*wd wf+j-(k.o+o*wd wf+l*wd wf)) undef else c'.getD (k.o+o*wd wf+i*wd wf+j) undef:=by
          have:=sv c'.toList (k.o+o*wd wf+l*wd wf) news (by simpa using lT) (k.o+o*wd wf+i*wd wf+j);simp only[aiI]at this;simp only[ahY,ajf,this,ahX];split<;>rfl
         rw[zK];rcases aiG i l with hlt|cy
         .rw[aih (by rw[hlen];exact hlt),ai4,if_pos hlt,aiU]at hi;have iH:=zN x (aiz hi);have fU:j<wd wf:=by rw[<-gN iH];exact(ah3.1 hj).1
          have:i*wd wf+wd wf<=l*wd wf:=by rw[<-ai2];exact aiu _ hlt
          rw[if_neg (by omega)];have:=hr _ _ (hcs _ x j d hi hj)
          rwa [show k.o+o*wd wf+i*wd wf+j=k.o+(o+i)*wd wf+j by rw[ai8];omega]
         .rw[aim (by rw[hlen];exact cy),hlen]at hi;have iH:=gP.ok x (aiz hi);rw[<-jq]at iH;have bR:=(ah3.1 hi).1;have fU:j<wd wf:=by rw[<-gN iH];exact(ah3.1 hj).1
          have g1:l*wd wf<=i*wd wf:=aiu _ cy;have g2:(i-l)*wd wf+wd wf<=ys.length*wd wf:=by rw[<-ai2];exact aiu _ bR
          have g3:i*wd wf=(i-l)*wd wf+l*wd wf:=by rw[<-ai8];congr 1;omega
          rw[if_pos (by omega),show k.o+o*wd wf+i*wd wf+j-(k.o+o*wd wf+l*wd wf)=(i-l)*wd wf+j by omega];have:=gP.rep _ x j d hi hj;rw[<-jq]at this;exact hr _ _ this
 .trivial
theorem UT(h:aj B β s tm w){xv yv:Value}{x y:AV}(hx:VR w.heap (s.own B.A β) s.used s.hp β xv x)(hy:VR w.heap (s.own B.A β) s.used s.hp β yv y){e:Nat}(hk:(P.ti t).k=.slice e)
  (hz:(P.ti e).nN=true) (hw:(P.ti e).fM (P.ti e).w=true) (ty:TypeId) (d:Option Nat) :
  RV (vF B.n (P.ti e) d s x y) fun s'=>∃dd v w' β',d=some dd∧(Builtin.append_ #[t,t] ty #[xv,yv]).run P w=.ok v w'∧aj B β' s' (tm.setIfInBounds dd v) w':=by
 rw[T1];exact UQ h hx hy hk hz hw ty d none rfl
end
end Go.Ab
namespace Go.Ab
section
variable {P:Program}{B:Base}{β:Name->Option aU}{s:St}{a:Act}{w:World}
def Does(P:Program)(B:Base)(o:Oper)(a:Act)(w:World)(f:St->Prop):Prop :=
 ∃nx v w' s' β',(execOp a.eval o).run P w=.ok nx w'∧(nx=.value v∨nx=.skip∧v=undef)∧f s'∧aj B β' s' (a.put o.dst v).tmps w'
theorem UU(a:Act)(d:Option Tmp)(v:Value):(a.put d v).tmps=match d with
 |some d=>a.tmps.setIfInBounds d v
 |none=>a.tmps:=by cases d<;>rfl
def St.cV(s:St):Option Nat->AV->St
 |some t,x=>s.put t x
 |none,_=>s
theorem zO{n:Nat}{d:Option Nat}{x:AV}{f:St->Prop}{z:Prop}(h:(c9 n d s x).run f z):z∨(∀t,d=some t->t<n)∧f (s.cV d x):=by
 cases d with
 |some t =>
   simp only[c9]at h;split at h
   .rename_i ht;exact .inr ⟨fun t' e=>by cases e;exact ht,h⟩
   .exact .inl h
 |none=>exact .inr ⟨fun t' e=>(by cases e),h⟩
theorem aj.cV(h:aj B β s a.tmps w){d:Option Nat}(hd:∀t,d=some t->t<B.n){v:Value}{x:AV}(hv:VR w.heap (s.own B.A β) s.used s.hp β v x) :
  aj B β (s.cV d x) (a.put d v).tmps w:=by
 cases d with
 |none=>exact h
 |some t=>exact h.put (hd t rfl) hv
theorem UW{r:R AV}{g:AV->R St}{f:St->Prop}{z:Prop}{φ:AV->Prop}(hφ:RV r φ)(h:(r.bind g).run f z):z∨∃x,φ x∧(g x).run f z:=by
 induction r with
 |ok x=>exact .inr ⟨x,hφ,h⟩
 |need p r ih=>exact ih (hφ h.1) h.2
 |no=>exact .inl h
theorem kZ{o:Oper}{r:R AV}{f:St->Prop}{z:Prop}(h:aj B β s a.tmps w)
  (hφ:RV r fun x=>∃v,(execOp a.eval o).run P w=.ok (.value v) w∧VR w.heap (s.own B.A β) s.used s.hp β v x) (hr:(r.bind (c9 B.n o.dst s)).run f z):z∨Does P B o a w f:=by
 rcases UW hφ hr with hz|⟨x,⟨v,aK,hv⟩,hp⟩
 .exact .inl hz
 .rcases zO hp with hz|⟨hd,hf⟩
  .exact .inl hz
  .exact .inr ⟨_,v,w,_,β,aK,.inl rfl,hf,h.cV hd hv⟩
theorem K5{o:Oper}{x:AV}{f:St->Prop}{z:Prop}(h:aj B β s a.tmps w){v:Value}(aK:(execOp a.eval o).run P w=.ok (.value v) w)(hv:VR w.heap (s.own B.A β) s.used s.hp β v x)
  (hr:(c9 B.n o.dst s x).run f z):z∨Does P B o a w f:=by
 rcases zO hr with hz|⟨hd,hf⟩
 .exact .inl hz
 .exact .inr ⟨_,v,w,_,β,aK,.inl rfl,hf,h.cV hd hv⟩
theorem Cr{o:Oper}{ob:Ob}{x:Name->AV}{f:St->Prop}{z:Prop}(hφ:∀d,o.dst=some d->d<B.n->d∉s.used->∃v w' β',(execOp a.eval o).run P w=.ok (.value v) w'∧aj B β' ((s.add d ob).put d (x [d])) (a.tmps.setIfInBounds d v) w')
  (hr:(jI B.n o.dst s ob x).run f z):z∨Does P B o a w f:=by
 unfold jI at hr;split at hr
 .rename_i d hd;split at hr
  .rename_i hc;obtain⟨v,w',β',aK,hs⟩:=hφ d hd hc.1 hc.2;exact .inr ⟨_,v,w',_,β',aK,.inl rfl,hr,by rw[UU,hd];exact hs⟩
  .exact .inl hr
 .exact .inl hr
theorem K6(h:aj B β s a.tmps w)(parts:Array (Nat×Operand)):(parts.map fun(i,x)=>(i,a.eval x)).size=(parts.toList.map fun q=>(q.1,ev s q.2)).length ∧
  ∀(i:Nat) q u,(parts.toList.map fun q=>(q.1,ev s q.2))[i]?=some q->(parts.map fun(i,x)=>(i,a.eval x)).toList[i]?=some u->u.1=q.1∧VR w.heap (s.own B.A β) s.used s.hp β u.2 q.2:=by
 refine⟨by simp,fun i q u h1 h2=>?_⟩;simp only[aii,ah4,Array.toList_map]at h1 h2;obtain⟨r,hr,rfl⟩:=h1;obtain⟨r',sC,rfl⟩:=h2;rw[hr]at sC;cases sC;exact⟨rfl,h.ev _⟩
theorem UX(h:aj B β s a.tmps w){t:Nat}{lv cv:Value}{l c:AV}(hl:VR w.heap (s.own B.A β) s.used s.hp β lv l)(hc:VR w.heap (s.own B.A β) s.used s.hp β cv c)(o:Oper)
  (ho:∀v w',(Instr.makeSlice t lv cv).run P w=.ok v w'->(execOp a.eval o).run P w=.ok (.value v) w') {f:St->Prop} {z:Prop} (hr:(zy B.n (P.ti t) P.ti o.dst s l c).run f z):z∨Does P B o a w f:=by
 unfold zy at hr;split at hr<;>try exact .inl hr
 rename_i e la lb hk;obtain rfl:=hl.int;obtain rfl:=hc.int;split at hr<;>try exact .inl hr
 rename_i zP q9;split at hr<;>try exact .inl hr
 rename_i jK;have jK:((P.ti e).fM (P.ti e).w&&pZ (P.ti e).w zP)=true:=by simpa using jK
 simp only[aia]at jK;obtain⟨hw,UY⟩:=jK;have aF:=F1 UY;obtain⟨hg,dk,_⟩:=mq hw;obtain⟨⟨h0,h1,h2,h3⟩,hr⟩:=hr
 obtain⟨zc,hz,oP⟩:∃zc,(P.ti e).z=some zc∧zc=zP.cells:=by
  unfold TI.zero at q9
  cases hz:(P.ti e).z with
  |none=>simp[hz]at q9
  |some zc =>
    refine⟨zc,rfl,?_⟩;simp only[hz,Option.bind_some]at q9;split at q9
    .cases q9;rfl
    .rename_i F8;split at q9<;>try cases q9
     have:(P.ti e).w=none:=by unfold TI.w;rw[if_neg F8]
     rw[this]at aF;cases zP<;>first|rfl|simp[okW,D.ct]at aF
 obtain⟨zv,sC,hm,it,hi,p8,kz,kA⟩:=qZ hz;obtain⟨m1,m2,m3,m4⟩:=uc (H:=w.heap) (own:=s.own B.A β) hm
 have UZ:zv.cells.size=wd (P.ti e).w:=by
  rw[oP,gN aF]at m1;simpa using m1.symm
 refine Cr (fun d hd vM vN=>?_) hr;have aK:=run_make (P:=P) w t e it zv (kW hk) hi p8 .i64 .i64 la lb h0 h1 (by rw[kA,Int.mul_comm];omega) (by omega)
 obtain⟨β',hs⟩:=zH h vM vN (c:=madeCells zv.cells (lb.toNat*it.size)) (wf:=(P.ti e).w) (xs:=List.replicate la.toNat zP) (cap:=lb.toNat) (by simp;omega)
  (by rw[size_madeCells,kz,dk];exact ain _) (fun x hx=>by rw[ajb hx];exact aF) (fun i x j d' ao hj=>by
   have zQ:x=zP:=ajb (aiz ao);subst zQ;have bR:i<la.toNat:=by have:=(ah3.1 ao).1;simpa using this
   have fU:j<wd (P.ti e).w:=by rw[<-gN aF];exact(ah3.1 hj).1
   rw[<-oP]at hj;obtain⟨u,hu,cD⟩:=m4 j d' hj;have de:i*wd (P.ti e).w+wd (P.ti e).w<=lb.toNat*it.size:=by rw[<-ai2,kz,dk];exact aiu _ (by omega)
   have:(madeCells zv.cells (lb.toNat*it.size)).getD (i*wd (P.ti e).w+j) undef=u:=by
    simp only[aiI]at hu;have U1:(i*wd (P.ti e).w+j) % zv.cells.size=j:=by rw[UZ,Nat.mul_comm,Nat.mul_add_mod];exact Nat.mod_eq_of_lt fU
    have eS:zv.cells[j]! = u:=by simp[getElem!_def,hu]
    simp[madeCells,ahY,show i*wd (P.ti e).w+j<lb.toNat*it.size by omega,U1,eS]
   rw[this];exact cD) e none rfl
 refine⟨_,_,β',ho _ _ aK,?_⟩;simpa using hs
theorem xN{o:Oper}(h:aj B β s a.tmps w){f:St->Prop}{z:Prop}(hr:(cR P.ti B.n o.op o.dst s).run f z):z∨Does P B o a w f:=by
 have bd:=h.ev;obtain⟨dst,op,ty,pos,after,guard⟩:=o;simp only at hr
 cases op with
 |move x=>exact K5 h (o:=⟨dst,.move x,ty,pos,after,guard⟩) rfl (bd x) hr
 |assign x=>exact K5 h (o:=⟨dst,.assign x,ty,pos,after,guard⟩) rfl (bd x) hr
 |pick c x y=>exact kZ h (o:=⟨dst,.pick c x y,ty,pos,after,guard⟩) ((Ul (P:=P) (bd c) (bd x) (bd y)).mono fun _ ⟨v,hr,hv⟩=>⟨v,by simpa[execOp]using hr,hv⟩) hr
 |alloc e =>
   simp only[cR]at hr;split at hr<;>try exact .inl hr
   rename_i cs hz;exact Cr (o:=⟨dst,.alloc e,ty,pos,after,guard⟩) (fun d hd h1 h2=>let ⟨v,w',β',aK,hs⟩:=Ux h hz h1 h2 _ (T2 _ _);⟨v,w',β',by simp[execOp,aK],hs⟩) hr
 |box e x =>
   simp only[cR]at hr;split at hr<;>try exact .inl hr
   rename_i cs hc;exact Cr (o:=⟨dst,.box e x,ty,pos,after,guard⟩) (fun d hd h1 h2=>let ⟨v,w',β',aK,hs⟩:=Uy (P:=P) (t:=e) h (bd x) hc h1 h2;⟨v,w',β',by simp[execOp,aK],hs⟩) hr
 |build t parts =>
   obtain⟨p1,p2⟩:=K6 h parts;exact kZ h (o:=⟨dst,.build t parts,ty,pos,after,guard⟩) ((UB (P:=P) (t:=t) p1 p2).mono fun _ ⟨v,hr,hv⟩=>⟨v,by simp[execOp,hr],hv⟩) hr
 |buildSlice t l parts =>
   simp only[cR]at hr;split at hr<;>try exact .inl hr
   rename_i e xs hk hx;split at hr<;>try exact .inl hr
   rename_i hc;obtain⟨rfl,hz,hw,aF,hb⟩:=hc;obtain⟨z',hz⟩:=ake.1 hz
   have az:(P.ti t).k=.slice e:=by
    unfold zz at hk;split at hk<;>cases hk;assumption
   obtain⟨p1,p2⟩:=K6 h parts;refine Cr (o:=⟨dst,.buildSlice t xs.length parts,ty,pos,after,guard⟩) (fun d hd h1 h2=>?_) hr;obtain⟨v,w',β',aK,hs⟩:=UE (P:=P) (t:=t) h p1 p2 az hx hz hw (fun x aV=>F1 (aio.1 aF x aV)) hb h1 h2;exact⟨v,w',β',by simp[execOp,aK],hs⟩
 |load t x=>exact kZ h (o:=⟨dst,.load t x,ty,pos,after,guard⟩) ((KL (P:=P) (t:=t) h (bd x)).mono fun _ ⟨v,hr,hv⟩=>⟨v,by simp[execOp,hr],hv⟩) hr
 |store t x y =>
   have hs:=UF (P:=P) (t:=t) h (bd x) (bd y);have sC:((tT (P.ti t) s (ev s x) (ev s y)).bind fun s'=>c9 B.n dst s' .un).run f z:=hr
   have key:∀r:R St,RV r (fun s'=>∃w',(Instr.storeAt t (a.eval x) (a.eval y)).run P w=.ok () w'∧aj B β s' a.tmps w')->(r.bind fun s'=>c9 B.n dst s' .un).run f z->z∨Does P B ⟨dst,.store t x y,ty,pos,after,guard⟩ a w f:=by
    intro r
    induction r with
    |ok s' =>
      rintro⟨w',aK,bm⟩ hr;rcases zO hr with hz|⟨hd,hf⟩
      .exact .inl hz
      .exact .inr ⟨.skip,undef,w',_,β,by simp[execOp,aK],.inr ⟨rfl,rfl⟩,hf,bm.cV hd (.un _)⟩
    |need p r ih=>exact fun hφ hr=>ih (hφ hr.1) hr.2
    |no=>exact fun _ hr=>.inl hr
   exact key _ hs sC
 |fieldAddr t x fi=>exact kZ h (o:=⟨dst,.fieldAddr t x fi,ty,pos,after,guard⟩) ((T9 (P:=P) (t:=t) (bd x)).mono fun _ ⟨v,hr,hv⟩=>⟨v,by simp[execOp,hr],hv⟩) hr
 |field t x fi=>exact kZ h (o:=⟨dst,.field t x fi,ty,pos,after,guard⟩) ((Uv (P:=P) (t:=t) (bd x)).mono fun _ ⟨v,hr,hv⟩=>⟨v,by simp[execOp,hr],hv⟩) hr
 |indexAddr t x j=>exact kZ h (o:=⟨dst,.indexAddr t x j,ty,pos,after,guard⟩) ((Ub (P:=P) (t:=t) (bd x) (bd j)).mono fun _ ⟨v,hr,hv⟩=>⟨v,by simp[execOp,hr],hv⟩) hr
 |index t x j=>exact kZ h (o:=⟨dst,.index t x j,ty,pos,after,guard⟩) ((Ud (P:=P) (t:=t) (bd x) (bd j)).mono fun _ ⟨v,hr,hv⟩=>⟨v,by simp[execOp,hr],hv⟩) hr
 |slice t x lo hi mx =>
   cases mx with
   |some _=>exact .inl hr
   |none =>
     have opt:∀o:Option Operand,(∀x,o.map (ev s)=some x->∃v,o.map a.eval=some v∧VR w.heap (s.own B.A β) s.used s.hp β v x)∧(o.map (ev s)=none->o.map a.eval=none):=by
      intro o
      cases o with
      |none=>exact⟨fun x h=>(by cases h),fun _=>rfl⟩
      |some o=>exact⟨fun x h=>(by cases h;exact⟨_,rfl,bd o⟩),fun h=>(by cases h)⟩
     exact kZ h (o:=⟨dst,.slice t x lo hi none,ty,pos,after,guard⟩) ((Ue (P:=P) (t:=t) h (bd x) (opt lo).1 (opt lo).2 (opt hi).1 (opt hi).2).mono fun _ ⟨v,hr,hv⟩=>⟨v,by simp[execOp,hr],hv⟩) hr
 |binOp op t x y yt =>
   exact kZ h (o:=⟨dst,.binOp op t x y yt,ty,pos,after,guard⟩) ((Uj (P:=P) (t:=t) (bd x) (bd y) x y).mono fun _ ⟨v,hr,hv⟩=>⟨v,by simp only[execOp,Sem.run_bind]at hr ⊢;rw[hr];rfl,hv⟩) hr
 |unOp op t x=>exact kZ h (o:=⟨dst,.unOp op t x,ty,pos,after,guard⟩) ((Uk (P:=P) (bd x)).mono fun _ ⟨v,hr,hv⟩=>⟨v,by simp[execOp,hr],hv⟩) hr
 |convert t t' x=>exact kZ h (o:=⟨dst,.convert t t' x,ty,pos,after,guard⟩) ((Uq (P:=P) (t:=t) (t':=t') (bd x)).mono fun _ ⟨v,hr,hv⟩=>⟨v,by simp[execOp,hr],hv⟩) hr
 |extract x i=>exact kZ h (o:=⟨dst,.extract x i,ty,pos,after,guard⟩) ((Ur (P:=P) (bd x) i).mono fun _ ⟨v,hr,hv⟩=>⟨v,by simp[execOp,hr],hv⟩) hr
 |nilCheck x=>exact kZ h (o:=⟨dst,.nilCheck x,ty,pos,after,guard⟩) ((Us (bd x)).mono fun _ ⟨⟨ad,hr⟩,hv⟩=>⟨a.eval x,by simp[execOp,hr],hv⟩) hr
 |makeFunc fn first aR =>
   refine kZ h (o:=⟨dst,.makeFunc fn first aR,ty,pos,after,guard⟩) ((Ut (P:=P) (ρ:=a.eval) (cvs:=aR.map a.eval) (by simp) (fun i x hi=>?_)).mono fun _ ⟨v,hr,hv⟩=>⟨v,by simp[execOp,hr],hv⟩) hr;simp only[aii,ah4]at hi;obtain⟨o,ho,rfl⟩:=hi
   have:(aR.map a.eval).getD i undef=a.eval o:=by
    simp only[aiI]at ho;simp[ahY,ho]
   rw[this];exact bd o
 |makeSlice t l c=>exact UX h (bd l) (bd c) ⟨dst,.makeSlice t l c,ty,pos,after,guard⟩ (fun v w' hr=>by simp[execOp,hr]) hr
 |call c =>
   obtain⟨callee,args,jr⟩:=c
   cases callee with
   |value _=>exact .inl hr
   |invoke _ _=>exact .inl hr
   |builtin b =>
     obtain⟨args⟩:=args;obtain⟨jr⟩:=jr;simp only[cR,Cj]at hr;split at hr
     .rename_i x hx
      obtain⟨xo,rfl,rfl⟩:∃xo,args=[xo]∧ev s xo=x:=by
       match args,hx with
       |[xo],hx=>exact⟨xo,rfl,by simpa using hx⟩
      split at hr<;>try exact .inl hr
      rename_i t
      exact kZ h (o:=⟨dst,.call { callee:=.builtin .len,args:=[xo].toArray,argTypes:=[t].toArray },ty,pos,after,guard⟩)
       ((Um (P:=P) (t:=t) h (bd xo) rfl ty).mono fun _ ⟨v,hr,hv⟩=>⟨v,by simp[execOp,resolve,invoke,builtin,hr],hv⟩) hr
     .rename_i x y hx
      obtain⟨xo,yo,rfl,rfl,rfl⟩:∃xo yo,args=[xo,yo]∧ev s xo=x∧ev s yo=y:=by
       match args,hx with
       |[xo,yo],hx=>exact⟨xo,yo,rfl,by simpa using hx⟩
      exact kZ h (o:=⟨dst,.call { callee:=.builtin .max,args:=[xo,yo].toArray,argTypes:=jr.toArray },ty,pos,after,guard⟩)
       ((Un (P:=P) (bd xo) (bd yo) jr.toArray ty).mono fun _ ⟨v,hr,hv⟩=>⟨v,by simp[execOp,resolve,invoke,builtin,hr],hv⟩) hr
     .rename_i x y hx
      obtain⟨xo,yo,rfl,rfl,rfl⟩:∃xo yo,args=[xo,yo]∧ev s xo=x∧ev s yo=y:=by
       match args,hx with
       |[xo,yo],hx=>exact⟨xo,yo,rfl,by simpa using hx⟩
      exact kZ h (o:=⟨dst,.call { callee:=.builtin .min,args:=[xo,yo].toArray,argTypes:=jr.toArray },ty,pos,after,guard⟩)
       ((Uo (P:=P) (bd xo) (bd yo) jr.toArray ty).mono fun _ ⟨v,hr,hv⟩=>⟨v,by simp[execOp,resolve,invoke,builtin,hr],hv⟩) hr
     .rename_i x y hx
      obtain⟨xo,yo,rfl,rfl,rfl⟩:∃xo yo,args=[xo,yo]∧ev s xo=x∧ev s yo=y:=by
       match args,hx with
       |[xo,yo],hx=>exact⟨xo,yo,rfl,by simpa using hx⟩
      split at hr<;>try exact .inl hr
      rename_i t t';split at hr<;>try exact .inl hr
      rename_i zR;have zR:t=t':=by simpa using zR
      subst zR;split at hr<;>try exact .inl hr
      rename_i e hk;split at hr<;>try exact .inl hr
      rename_i hc;have hs:=UT (P:=P) (t:=t) h (bd xo) (bd yo) hk hc.1 hc.2 ty dst;rcases RV.run hs hr with hz|⟨s',⟨dd,v,w',β',rfl,aK,bm⟩,hf⟩
      .exact .inl hz
      .exact .inr ⟨_,v,w',s',β',by simp[execOp,resolve,invoke,builtin,aK],.inl rfl,hf,bm⟩
     .exact .inl hr
 |_=>exact .inl hr
end
end Go.Ab

