/-
  The generic layer, part 10: each step is sound: variables, structs, rows, stores. (with the parts that follow it) (with the parts that follow it)
-/
import Derived.Test.YtejpnabbmgpmaaaGreatDoorVAA
import Derived.OrdersIn
import Derived.LoopNIn
set_option linter.all false
namespace Go.Ab
section
variable {P:Program} {B:Base} {β:Name→Option Blk} {s:St} {tm:Array Value} {w:World} {t:Nat}
theorem cK {z:List D} (hz:(P.ti t).z=some z):∃ v,(∀ w,(zeroValue t).run P w=.ok v w)∧v.cells.toList.mapM zd=some z∧∃ i,P.info? t=some i∧i.zero=some v∧i.size=(P.ti t).sz∧i.bytes=(P.ti t).by':=by
 obtain ⟨i,d,hi,hd,_,hs,hb,hz'⟩:=b7 (Ee hz)
 rw [hz] at hz'
 cases hv:i.zero with
 | none=>rw [hv] at hz';cases hz'
 | some v =>
   rw [hv] at hz'
   exact ⟨v,fun w=>by simp [zeroValue,typeInfo,hi,hv],hz'.symm,i,hi,hv,hs.symm,hb.symm⟩
theorem tU (h:Sim B β s tm w) {z:List D} (hz:(P.ti t).z=some z) {d:Nat} (hd:d<B.n) (hu:d ∉ s.used) (ty:Option Nat) (hty:ty.getD t=t) :
  ∃ v w' β',(Instr.alloc t true (.tuple #[])).run P w=.ok v w'∧Sim B β' ((s.add d (.boxT ty (z.map .d))).put d (.bx [d] 0)) (tm.setIfInBounds d v) w':=by
 obtain ⟨v,hr,hm,_⟩:=cK hz
 obtain ⟨h1,h2,h3,h4⟩:=ga (H:=w.heap) (own:=s.own B.A β) hm
 obtain ⟨β',hs⟩:=jH h hd hu (c:=v.cells) (cs:=z.map .d) (by simpa using h1.symm) (by simpa using h3) (fun i x hi=>by
  simp only [List.getElem?_map,Option.map_eq_some_iff] at hi
  obtain ⟨d',hd',rfl⟩:=hi
  obtain ⟨u,hu',hrep⟩:=h4 i d' hd'
  have:v.cells.getD i undef=u:=by
   simp only [Array.getElem?_toList] at hu'
   simp [Array.getD_eq_getD_getElem?,hu']
  rw [this];exact .d _ _ hrep) t ty hty
 exact ⟨_,_,β',by simp [Instr.alloc,hr,newVar,newRow],hs⟩
theorem xx (h:Sim B β s tm w) {xv:Value} {x:AV} (hx:VR w.heap (s.own B.A β) s.used s.hp β xv x) {cs:List AV} (hc:cg x=some cs) {d:Nat} (hd:d<B.n) (hu:d ∉ s.used) :
  ∃ v w' β',(Instr.box t xv).run P w=.ok v w'∧Sim B β' ((s.add d (.box cs)).put d (.bx [d] 0)) (tm.setIfInBounds d v) w':=by
 obtain ⟨h1,h2,h3⟩:=mP hc hx
 obtain ⟨β',hs⟩:=jH h hd hu h1 h2 h3 t none rfl
 exact ⟨_,_,β',by simp [Instr.box,newVar,newRow],hs⟩
theorem bC {α:Type} (l:List α) (c:Nat) (xs:List α) (h:c+xs.length≤l.length):(splice l c xs).length=l.length:=by simp [splice];omega
theorem bU {α:Type} (l:List α) (c:Nat) (xs:List α) (h:c+xs.length≤l.length) (i:Nat):(splice l c xs)[i]?=if c≤i∧i<c+xs.length then xs[i-c]? else l[i]?:=by
 unfold splice
 by_cases h1:i<c
 ·rw [if_neg (by omega),List.getElem?_append_left (by simp;omega)];simp [h1]
 ·have e:(l.take c).length=c:=by simp;omega
  rw [List.getElem?_append_right (by omega),e]
  by_cases h2:i<c+xs.length
  ·rw [if_pos ⟨by omega,h2⟩,List.getElem?_append_left (by omega)]
  ·rw [if_neg (by omega),List.getElem?_append_right (by omega),List.getElem?_drop];congr 1;omega
theorem oD (cells vs:Array Value) (off:Nat) (h:off+vs.size≤cells.size) :
  ((vs.zipIdx.foldl (fun cs (c,j)=>cs.setIfInBounds (off+j) c) cells:Array Value)).toList=splice cells.toList off vs.toList:=by
 have gen:∀ (l:List Value) (k:Nat) (cells:Array Value),off+k+l.length≤cells.size →
   ((l.zipIdx k).foldl (fun (cs:Array Value) (p:Value × Nat)=>cs.setIfInBounds (off+p.2) p.1) cells).toList=splice cells.toList (off+k) l:=by
  intro l
  induction l with
  | nil=>intro k cells h;simp [splice]
  | cons a r ih =>
    intro k cells h
    simp only [List.zipIdx_cons,List.foldl_cons,List.length_cons] at h ⊢
    rw [ih (k+1) _ (by simp;omega)]
    apply List.ext_getElem?
    intro i
    rw [bU _ _ _ (by simp;omega),bU _ _ _ (by simp;omega)]
    simp only [Array.toList_setIfInBounds,List.length_cons,List.getElem?_set,Array.length_toList]
    by_cases h1:i=off+k
    ·subst h1
     simp [show ¬ (off+(k+1)≤off+k) by omega,show off+k<cells.size by omega]
    ·by_cases h2:off+(k+1)≤i∧i<off+(k+1)+r.length
     ·rw [if_pos h2,if_pos (by omega),show i-(off+k)=(i-(off+(k+1)))+1 by omega,List.getElem?_cons_succ]
     ·rw [if_neg h2,if_neg (by omega),if_neg (by omega)]
 have:=gen vs.toList 0 cells (by simpa using h)
 rw [Nat.add_zero] at this
 rw [← this]
 rw [← Array.foldl_toList,Array.toList_zipIdx]
section
variable {H:Array Obj} {own:Nat→Prop} {used:List Nat} {hp:Name→Option Ob}
def CR (H:Array Obj) (own:Nat→Prop) (used:List Nat) (hp:Name→Option Ob) (β:Name→Option Blk) (vs:List Value) (cs:List AV):Prop :=
 vs.length=cs.length∧(∀ v∈vs,v.oneCell'=true)∧∀ (i:Nat) x,cs[i]?=some x→VR H own used hp β (vs.getD i undef) x
theorem CR.splice {vs us:List Value} {cs ds:List AV} (h:CR H own used hp β vs cs) (g:CR H own used hp β us ds) {c:Nat} (hc:c+us.length≤vs.length):CR H own used hp β (splice vs c us) (splice cs c ds):=by
 have hc':c+ds.length≤cs.length:=by rw [← h.1,← g.1];exact hc
 refine ⟨by rw [bC _ _ _ hc,bC _ _ _ hc',h.1],fun v hv=>?_,fun i x hi=>?_⟩
 ·simp only [Ab.splice,List.mem_append] at hv
  rcases hv with hv | hv | hv
  ·exact h.2.1 v (List.mem_of_mem_take hv)
  ·exact g.2.1 v hv
  ·exact h.2.1 v (List.mem_of_mem_drop hv)
 ·rw [bU _ _ _ hc'] at hi
  rw [List.getD_eq_getElem?_getD,bU _ _ _ hc,g.1]
  split at hi
  ·rename_i hcond
   rw [if_pos hcond]
   have:=g.2.2 _ x hi
   rwa [List.getD_eq_getElem?_getD] at this
  ·rename_i hcond
   rw [if_neg hcond]
   have:=h.2.2 _ x hi
   rwa [List.getD_eq_getElem?_getD] at this
theorem CR.tZ {v:Value} {x:AV} {cs:List AV} (hc:cg x=some cs) (h:VR H own used hp β v x):CR H own used hp β v.cells.toList cs:=by
 obtain ⟨h1,h2,h3⟩:=mP hc h
 refine ⟨by simpa using h1,by simpa using h2,fun i x hi=>?_⟩
 have:=h3 i x hi
 simpa [Array.getD_eq_getD_getElem?,List.getD_eq_getElem?_getD] using this
theorem CR.eS {vs:List Value} {cs:List AV} (h:CR H own used hp β vs cs):VR H own used hp β (.agg vs.toArray) (eS cs) :=
 ef h.1 h.2.1 fun i v x hv hx=>by
  have:=h.2.2 i x hx
  rwa [List.getD_eq_getElem?_getD,hv] at this
theorem CR.zero {v:Value} {z:List D} (hm:v.cells.toList.mapM zd=some z):CR H own used hp β v.cells.toList (z.map .d):=by
 obtain ⟨h1,h2,h3,h4⟩:=ga (H:=H) (own:=own) hm
 refine ⟨by simpa using h1.symm,h3,fun i x hi=>?_⟩
 simp only [List.getElem?_map,Option.map_eq_some_iff] at hi
 obtain ⟨d',hd',rfl⟩:=hi
 obtain ⟨u,hu',hrep⟩:=h4 i d' hd'
 rw [List.getD_eq_getElem?_getD,hu'];exact .d _ _ hrep
theorem kV {fl:List Field} (place:Nat→Option (Nat × Nat)) (hpl:∀ f o tt,(fl.map fun f=>(f.offset,f.type))[f]?=some (o,tt)→place f=some (o,(P.ti tt).sz)) :
  ∀ (parts:List (Nat × AV)) (pv:List (Nat × Value)) (cells:Array Value) (cs cs':List AV),CR H own used hp β cells.toList cs →
   pv.length=parts.length→(∀ (i:Nat) q u,parts[i]?=some q→pv[i]?=some u→u.1=q.1∧VR H own used hp β u.2 q.2) →
   kK P.ti (fl.map fun f=>(f.offset,f.type)) cs parts=some cs'→∃ cells',Instr.fill place cells pv=some cells'∧CR H own used hp β cells'.toList cs'
 | [],[],cells,cs,cs',hc,_,_,h=>by simp [kK] at h;subst h;exact ⟨cells,rfl,hc⟩
 | q::r,u::pr,cells,cs,cs',hc,hl,hq,h=>by
   obtain ⟨e1,hv⟩:=hq 0 q u rfl rfl
   simp only [kK] at h
   split at h
   ·rename_i o tt vs hf hcv
    split at h
    ·rename_i hcond
     have hcr:=CR.tZ hcv hv
     have hpl':=hpl _ _ _ hf
     have hlen:u.2.cells.size=vs.length:=by simpa using hcr.1
     have hcs:=hc.1
     simp at hcs
     have hno:¬ (u.2.cells.size≠(P.ti tt).sz || o+u.2.cells.size > cells.size)=true:=by simp;omega
     have hstep:=oD cells u.2.cells o (by omega)
     have hc2:=hc.splice hcr (c:=o) (by simp;omega)
     rw [← hstep] at hc2
     obtain ⟨cells',hfill,hcr'⟩:=kV place hpl r pr _ _ cs' hc2 (by simpa using hl) (fun i q' u' h1 h2=>hq (i+1) q' u' (by simpa using h1) (by simpa using h2)) h
     refine ⟨cells',?_,hcr'⟩
     obtain ⟨i,v⟩:=u
     simp only at e1 hno hfill ⊢
     subst e1
     simp only [Instr.fill,hpl',if_neg hno]
     exact hfill
    ·cases h
   ·cases h
 | [],_::_,_,_,_,_,hl,_,_=>by simp at hl
 | _::_,[],_,_,_,_,hl,_,_=>by simp at hl
end
theorem gP:∀ (fl:List Field),jL P.ti (fl.map fun f=>(f.offset,f.type))=true →
  fl.mapM (fun f=>(P.info? f.type).map fun i=>(f.offset,i.size))=some (fl.map fun f=>(f.offset,(P.ti f.type).sz))
 | [],_=>rfl
 | f::r,h=>by
   simp only [List.map_cons,jL,Bool.and_eq_true,Bool.not_eq_true'] at h
   obtain ⟨i,d,hi,_,_,hs,_⟩:=b7 h.1
   simp [List.mapM_cons,hi,gP r h.2,hs]
theorem sO {parts:List (Nat × AV)} {pv:Array (Nat × Value)} (hl:pv.size=parts.length)
  (hq:∀ (i:Nat) q u,parts[i]?=some q→pv.toList[i]?=some u→u.1=q.1∧VR w.heap (s.own B.A β) s.used s.hp β u.2 q.2) :
  RV (nV P.ti (P.ti t) parts) fun y=>∃ v,(Instr.build t pv).run P w=.ok v w∧VR w.heap (s.own B.A β) s.used s.hp β v y:=by
 unfold nV
 split
 rotate_left
 ·rename_i l e zs hk hz
  split<;>try trivial
  split<;>try trivial
  rename_i hg
  have hg:(P.ti e).k.aV=false:=by simpa using hg
  have hu:=n5 hk
  obtain ⟨v,hr,hm,it,hi,hiz,_,_⟩:=cK hz
  have hp0:pv=#[]:=Array.eq_empty_of_size_eq_zero (by simpa using hl)
  subst hp0
  refine ⟨.agg v.cells,?_,by simpa using (CR.zero (H:=w.heap) (own:=s.own B.A β) (used:=s.used) (hp:=s.hp) (β:=β) hm).eS⟩
  simp [Instr.build,hr,run_underlying hu,run_sizeOf hg,Instr.fill]
 ·trivial
 rename_i fs zs hk hz
 split<;>try trivial
 rename_i hag
 obtain ⟨fl,hu,rfl⟩:=e8 hk
 obtain ⟨v,hr,hm,it,hi,hiz,_,_⟩:=cK hz
 refine RV.ofO fun y hy=>?_
 simp only [Option.map_eq_some_iff] at hy
 obtain ⟨cs,hb,rfl⟩:=hy
 have hpl:=gP fl.toList hag
 obtain ⟨cells',hfill,hcr⟩:=kV (P:=P) (fl:=fl.toList) ((fl.toList.map fun f=>(f.offset,(P.ti f.type).sz)).toArray[·]?) (fun f o tt hf=>by
  simp only [List.getElem?_map,Option.map_eq_some_iff,Prod.mk.injEq] at hf
  obtain ⟨fd,hfd,rfl,rfl⟩:=hf
  simp [show fl[f]?=some fd by simpa using hfd]) parts pv.toList v.cells (zs.map .d) cs (CR.zero (H:=w.heap) (own:=s.own B.A β) (used:=s.used) (hp:=s.hp) (β:=β) hm) (by simpa using hl) hq hb
 refine ⟨_,run_build w t pv cells' ?_,by simpa using hcr.eS⟩
 simp only [Program.built,hi,hu,hiz,hpl]
 exact hfill
def zj (H:Array Obj) (own:Nat→Prop) (c:Array Value) (o:Nat) (wf:W) (xs:List D):Prop :=
 (∀ x∈xs,okW wf x)∧∀ i x j d,xs[i]?=some x→x.cells[j]?=some d→Rep H own (c.getD (o+i*wd wf+j) undef) d
theorem qw {d:D} {cs:List AV} (h:cellsD d=some cs):cs=d.cells.map .d:=by
 cases d<;>simp only [cellsD,Option.some.injEq] at h<;>subst h<;>rfl
theorem j1 {H:Array Obj} {own:Nat→Prop} {v:Value} {d:D} (h:Rep H own v d):v.cells.size=d.cells.length∧(∀ u∈v.cells,u.oneCell'=true)∧(∀ x∈d.cells,x.scal=true) ∧
  ∀ j x,d.cells[j]?=some x→Rep H own (v.cells.getD j undef) x:=by
 obtain ⟨cs,hc⟩:∃ cs,cellsD d=some cs:=by cases d<;>exact ⟨_,rfl⟩
 have e:=qw hc
 obtain ⟨h1,h2,h3⟩:=mF (used:=[]) (hp:=fun _=>none) (β:=fun _=>none) hc h
 subst e
 refine ⟨by simpa using h1,h2,?_,fun j x hj=>(h3 j (.d x) (by simp [hj])).toD⟩
 intro x hx
 cases d with
 | agg cs=>cases h with | agg _ _ _ hsc _=>exact hsc x hx
 | _=>simp [D.cells] at hx;subst hx;rfl
theorem pA {H:Array Obj} {own:Nat→Prop} (size:Nat) (wf:W) (hw:wd wf=size):∀ (parts:List (Nat × AV)) (pv:List (Nat × Value)) (k:Nat) (cells:Array Value) (pre xs:List D),pre.length=k→zj H own cells 0 wf pre →
  pv.length=parts.length→(∀ (i:Nat) q u,parts[i]?=some q→pv[i]?=some u→u.1=q.1∧∀ d,q.2=.d d→Rep H own u.2 d)→fO k parts=some xs→(∀ x∈xs,okW wf x)→(k+xs.length)*size≤cells.size →
  ∃ cells',Instr.fill (fun i=>some (i*size,size)) cells pv=some cells'∧cells'.size=cells.size∧zj H own cells' 0 wf (pre++xs)
 | [],[],k,cells,pre,xs,hk,hpre,_,_,h,_,_=>by
   simp [fO] at h;subst h
   exact ⟨cells,rfl,rfl,by simpa using hpre⟩
 | q::r,u::pr,k,cells,pre,xs,hk,hpre,hl,hq,h,hok,hz=>by
   obtain ⟨e1,hv⟩:=hq 0 q u rfl rfl
   simp only [fO] at h
   split at h<;>try cases h
   rename_i d hqd
   split at h<;>try cases h
   rename_i hqk
   simp only [Option.map_eq_some_iff] at h
   obtain ⟨xs',hx',rfl⟩:=h
   have hrep:=hv d hqd
   have hokd:okW wf d:=hok d List.mem_cons_self
   obtain ⟨c1,c2,c3,c4⟩:=j1 hrep
   rw [aT hokd,hw] at c1
   simp only [List.length_cons] at hz
   have hle:k*size+size≤(k+(xs'.length+1))*size:=by
    rw [← Nat.succ_mul];exact Nat.mul_le_mul_right _ (by omega)
   have hno:¬ (u.2.cells.size≠size || k*size+u.2.cells.size > cells.size)=true:=by simp;omega
   have hstep:=oD cells u.2.cells (k*size) (by omega)
   obtain ⟨cells1,hc1⟩:∃ c,(u.2.cells.zipIdx.foldl (fun cs (c,j)=>cs.setIfInBounds (k*size+j) c) cells:Array Value)=c:=⟨_,rfl⟩
   rw [hc1] at hstep
   have hsz1:cells1.size=cells.size:=by
    have:=congrArg List.length hstep
    rw [bC _ _ _ (by simp;omega)] at this;simpa using this
   have hget:∀ i,cells1.getD i undef=if k*size≤i∧i<k*size+size then u.2.cells.getD (i-k*size) undef else cells.getD i undef:=by
    intro i
    have:=bU cells.toList (k*size) u.2.cells.toList (by simp;omega) i
    rw [← hstep] at this
    simp only [Array.getElem?_toList,Array.length_toList,c1] at this
    simp only [Array.getD_eq_getD_getElem?,this]
    split<;>rfl
   have hpre1:zj H own cells1 0 wf (pre++[d]):=by
    refine ⟨fun x hx=>?_,fun i x j d' hi hj=>?_⟩
    ·rcases List.mem_append.1 hx with hx | hx
     ·exact hpre.1 x hx
     ·simp at hx;subst hx;exact hokd
    ·rw [hget]
     rcases Nat.lt_or_ge i pre.length with hlt | hge
     ·rw [List.getElem?_append_left hlt] at hi
      have hxo:=hpre.1 x (List.mem_of_getElem? hi)
      have hjl:j<wd wf:=by rw [← aT hxo];exact (List.getElem?_eq_some_iff.1 hj).1
      have:i*wd wf+wd wf≤k*size:=by rw [← Nat.succ_mul,hw];exact Nat.mul_le_mul_right _ (by omega)
      rw [if_neg (by omega)]
      exact hpre.2 i x j d' hi hj
     ·rw [List.getElem?_append_right hge] at hi
      have hi0:i=pre.length:=by
       have:=(List.getElem?_eq_some_iff.1 hi).1;simp at this;omega
      subst hi0
      simp at hi;subst hi
      have hjl:j<wd wf:=by rw [← aT hokd];exact (List.getElem?_eq_some_iff.1 hj).1
      rw [hk,hw,if_pos (by omega),show 0+k*size+j-k*size=j by omega]
      exact c4 j d' hj
   obtain ⟨cells',hfill,hs',hrow⟩:=pA size wf hw r pr (k+1) cells1 (pre++[d]) xs' (by simp [hk]) hpre1 (by simpa using hl) (fun i q' u' h1 h2=>hq (i+1) q' u' (by simpa using h1) (by simpa using h2)) hx'
    (fun x hx=>hok x (List.mem_cons_of_mem _ hx)) (by rw [hsz1];rw [show k+1+xs'.length=k+(xs'.length+1) by omega];exact hz)
   refine ⟨cells',?_,hs'.trans hsz1,by simpa using hrow⟩
   obtain ⟨i,v⟩:=u
   simp only at e1 hno hfill hc1 ⊢
   subst e1
   rw [hqk] at *
   simp only [Instr.fill,if_neg hno,hc1]
   exact hfill
 | [],_::_,_,_,_,_,_,_,hl,_,_,_,_=>by simp at hl
 | _::_,[],_,_,_,_,_,_,hl,_,_,_,_=>by simp at hl
theorem kC (h:Sim B β s tm w) {parts:List (Nat × AV)} {pv:Array (Nat × Value)} (hl:pv.size=parts.length)
  (hq:∀ (i:Nat) q u,parts[i]?=some q→pv.toList[i]?=some u→u.1=q.1∧VR w.heap (s.own B.A β) s.used s.hp β u.2 q.2) {e:Nat} (hk:(P.ti t).k=.slice e) {xs:List D} (hx:fO 0 parts=some xs)
  {z:List D} (hz:(P.ti e).z=some z) (hw:(P.ti e).isW (P.ti e).w=true) (hok:∀ x∈xs,okW (P.ti e).w x) (hb:xs.length*(P.ti e).sz≤16777216) {d:Nat} (hd:d<B.n) (hu:d ∉ s.used) :
  ∃ v w' β',(Instr.buildSlice t xs.length pv).run P w=.ok v w'∧Sim B β' ((s.add d (.arr (P.ti e).w xs)).put d (.vw [d] 0 xs.length)) (tm.setIfInBounds d v) w':=by
 obtain ⟨hg,hwd,_⟩:=bn hw
 obtain ⟨v,hr,hm,it,hi,hiz,_,_⟩:=cK hz
 obtain ⟨zc,hzc⟩:∃ zc:Array Value,(Array.range (xs.length*(P.ti e).sz)).map ((if xs.length*(P.ti e).sz=0 then #[] else v.cells)[· % (if xs.length*(P.ti e).sz=0 then #[] else v.cells).size]!)=zc:=⟨_,rfl⟩
 have hzs:zc.size=xs.length*(P.ti e).sz:=by rw [← hzc];simp
 obtain ⟨cells',hfill,hs',hrow⟩:=pA (H:=w.heap) (own:=s.own B.A β) (P.ti e).sz (P.ti e).w hwd parts pv.toList 0 zc [] xs rfl ⟨fun x hx=>by simp at hx,fun i x j d hi=>by simp at hi⟩ (by simpa using hl)
  (fun i q u h1 h2=>let ⟨a,b⟩:=hq i q u h1 h2;⟨a,fun d hd=>by rw [hd] at b;exact b.toD⟩) hx hok (by simp;omega)
 obtain ⟨β',hsim⟩:=cJ h hd hu (c:=cells') (wf:=(P.ti e).w) (xs:=xs) (cap:=xs.length) (Nat.le_refl _) (by rw [hwd,hs',hzs];exact Nat.le_refl _) hok (fun i x j d hi hj=>by
  have:=hrow.2 i x j d (by simpa using hi) hj
  simpa using this) e none rfl
 refine ⟨_,_,β',?_,hsim⟩
 have hb':¬ (xs.length*(P.ti e).sz > 2 ^ 24):=by omega
 simp only [Instr.buildSlice,Sem.run_bind,run_underlying (a8 hk),Result.andThen_ok,run_sizeOf hg,if_neg hb']
 by_cases h0:xs.length*(P.ti e).sz=0
 ·simp only [h0,if_true] at hzc ⊢
  simp only [Sem.run_pure,Result.andThen_ok,hzc,hfill,newRow,Sem.run_bind,run_newObj]
  rfl
 ·simp only [h0,if_false] at hzc ⊢
  simp only [Sem.run_bind,hr,Sem.run_pure,Result.andThen_ok,hzc,hfill,newRow,run_newObj]
  rfl
end
end Go.Ab
namespace Go.Ab
theorem pX {w:W} {d:D} (h:nT w d=true):okW w d:=by
 cases w with
 | none=>exact h
 | some n=>cases d<;>simp [nT] at h;exact ⟨h.1,h.2⟩
section
variable {P:Program} {B:Base} {β:Name→Option Blk} {s:St} {tm:Array Value} {w:World} {t:Nat}
theorem jJ (hg:(P.ti t).k.aV=false) {w:World} {b o:Nat} {c:Array Value} {e:TypeId} (hb:w.heap[b]?=some (.cells c e (0,0))) {v:Value} (hs:v.cells.size=(P.ti t).sz) (hz:o+v.cells.size≤c.size) (h1:∀ u∈v.cells,u.oneCell'=true) :
  (storeVar t ⟨b,o,none⟩ v).run P w=.ok () (w.setRow b (splice c.toList o v.cells.toList).toArray):=by
 have:=run_storeCells_at (P:=P) b o e v.cells.toList 0 c w hb (by simpa using hz) (by simpa using h1)
 simp only [Nat.add_zero,Array.length_toList] at this
 simp only [storeVar,Sem.run_bind,run_sizeOf hg,Result.andThen_ok,ne_eq,hs,not_true_eq_false,if_false]
 simp only [hs] at this
 simp only [this,splice,Array.length_toList,hs]
 simp [List.append_assoc]
theorem rA (h:Sim B β s tm w) {xv yv:Value} {x y:AV} (hx:VR w.heap (s.own B.A β) s.used s.hp β xv x) (hy:VR w.heap (s.own B.A β) s.used s.hp β yv y) :
  RV (gJ (P.ti t) s x y) fun s'=>∃ w',(Instr.storeAt t xv yv).run P w=.ok () w'∧Sim B β s' tm w':=by
 unfold gJ
 split
 ·rename_i p c
  split<;>try trivial
  rename_i ty cs hp
  split<;>try trivial
  rename_i vs hvs
  split<;>try trivial
  rename_i hcond
  obtain ⟨hg,hlen,hle⟩:=hcond
  have hcr:=CR.tZ hvs hy
  cases hx with
  | bx _ _ _ hn h1 hx =>
    obtain ⟨k,hk,hk0,rfl⟩:=hx ty cs hp
    obtain ⟨k',c',e,hk',_,hc,hz,hl,h1',hcs⟩:=(h.objs p _ hp).2
    rw [hk] at hk';cases hk'
    have hsz:yv.cells.size=(P.ti t).sz:=by have:=hcr.1;simp at this;omega
    have hfit:c+yv.cells.size≤c'.size:=by omega
    have hrun:=jJ (P:=P) (t:=t) hg hc (o:=c) hsz hfit (fun u hu=>hcr.2.1 u (by simpa using hu))
    refine ⟨_,by simpa [Instr.storeAt,Instr.sureAddr] using hrun,?_⟩
    have hbox:CR w.heap (s.own B.A β) s.used s.hp β c'.toList cs:=⟨by simpa using hl,by simpa using h1',fun i x hi=>by
     have:=hcs i x hi
     simpa [Array.getD_eq_getD_getElem?,List.getD_eq_getElem?_getD] using this⟩
    have hnew:=hbox.splice hcr (c:=c) (by simpa using hfit)
    refine (h.modify (p:=p) hp (ob':=.boxT ty (splice cs c vs)) rfl (w':=w.setRow k.b _) rfl (by simp) (fun b hb=>setRow_other w k.b b _ (hb k hk)) (fun hv _=>?_)).1
    refine ⟨k,_,e,hk,hk0,setRow_heap w k.b c' _ (ty.getD e) (0,0) hc,?_,?_,?_,fun j x hj=>?_⟩
    ·simp;rw [bC _ _ _ (by simpa using hfit)];simpa using hz
    ·simpa using hnew.1
    ·intro v hv';exact hnew.2.1 v (by simpa using hv')
    ·have:=hv _ _ (hnew.2.2 j x hj)
     simpa [Array.getD_eq_getD_getElem?,List.getD_eq_getElem?_getD] using this
 ·rename_i p j c
  split<;>try trivial
  rename_i wf xs y' hp
  split<;>try trivial
  rename_i ys hys
  have hrep:Rep w.heap (s.own B.A β) yv y':=hy.toD
  cases hx with
  | el _ _ _ _ hn h1 hx =>
    obtain ⟨hj,k,hk,rfl⟩:=hx none wf xs hp
    rcases (h.objs p _ hp).2 with ⟨h0,h0'⟩ | ⟨k',c',e,hk',hc,hz,hl,hw,hcs⟩
    ·rw [h0'] at hj;simp at hj
    ·rw [hk] at hk';cases hk'
     have hget:xs[j]?=some (xs.getD j .nilp):=by simp [List.getD_eq_getElem?_getD,hj]
     have hok:=hw _ (List.mem_of_getElem? hget)
     have hlej:j*wd wf+wd wf≤xs.length*wd wf:=by
      have:=Nat.mul_le_mul_right (wd wf) (Nat.succ_le_of_lt hj);rwa [Nat.succ_mul] at this
     obtain ⟨z,hz1,hys',hcells,hg,hfit,hsz⟩:∃ z,okW wf z∧ys=xs.set j z∧(∀ i,z.cells[i]?=if c≤i∧i<c+yv.cells.size then y'.cells[i-c]? else (xs.getD j .nilp).cells[i]?) ∧
       (P.ti t).k.aV=false∧c+yv.cells.size≤wd wf∧yv.cells.size=(P.ti t).sz:=by
      obtain ⟨c1,c2,c3,c4⟩:=j1 hrep
      unfold iC at hys
      split at hys
      ·cases hys
      rename_i hg
      have hg:(P.ti t).k.aV=false:=by simpa using hg
      split at hys
      ·rename_i hcond
       simp only [Bool.and_eq_true,beq_iff_eq] at hcond
       obtain ⟨⟨hw1,hw2⟩,rfl⟩:=hcond
       cases hys
       obtain ⟨_,hwd,_⟩:=bn hw1
       have hoky:=pX hw2
       rw [aT hoky] at c1
       refine ⟨y',hoky,rfl,fun i=>?_,hg,by omega,by omega⟩
       by_cases hi:i<wd wf
       ·rw [if_pos (by omega)];simp
       ·rw [if_neg (by omega),List.getElem?_eq_none (by rw [aT hoky];omega),List.getElem?_eq_none (by rw [aT hok];omega)]
      ·split at hys
       ·cases hys
       ·split at hys<;>try cases hys
        rename_i cs hcs'
        split at hys<;>try cases hys
        rename_i hcond
        obtain ⟨hsc,hlt,hs1⟩:=hcond
        have e1:y'.cells=[y']:=by cases y'<;>first | rfl | simp [D.scal] at hsc
        rw [e1] at c1
        simp at c1
        rw [hcs'] at hok
        have hlen:cs.length=wd wf:=aT hok
        have hok2:okW wf (.agg (cs.set c y')):=by
         cases wf with
         | none=>simp [okW,D.scal] at hok
         | some n =>
           refine ⟨by simpa using hok.1,fun d hd=>?_⟩
           rcases List.mem_or_eq_of_mem_set hd with hd | rfl
           ·exact hok.2 d hd
           ·exact hsc
        refine ⟨_,hok2,rfl,fun i=>?_,hg,by omega,by omega⟩
        rw [hcs',c1,e1]
        simp only [D.cells,List.getElem?_set]
        by_cases hi:c=i
        ·subst hi;simp [hlt]
        ·rw [if_neg hi,if_neg (by omega)]
     obtain ⟨c1,c2,c3,c4⟩:=j1 hrep
     have hfit':k.o+j*wd wf+c+yv.cells.size≤c'.size:=by omega
     have hrun:=jJ (P:=P) (t:=t) hg hc (o:=k.o+j*wd wf+c) hsz hfit' c2
     refine ⟨_,by simpa [Instr.storeAt,Instr.sureAddr] using hrun,?_⟩
     subst hys'
     refine (h.modify (p:=p) hp (ob':=.arr wf (xs.set j z)) ⟨⟨rfl,rfl⟩,by simp⟩ (w':=w.setRow k.b _) rfl (by simp) (fun b hb=>setRow_other w k.b b _ (hb k hk)) (fun _ hr=>?_)).1
     have hsp:=bC c'.toList (k.o+j*wd wf+c) yv.cells.toList (by simpa using hfit')
     refine .inr ⟨k,_,e,hk,setRow_heap w k.b c' _ e (0,0) hc,by simp;rw [hsp];simpa using hz,by simpa using hl,fun x hx=>?_,fun i x m d hi hm=>?_⟩
     ·rcases List.mem_or_eq_of_mem_set hx with hx | rfl
      ·exact hw x hx
      ·exact hz1
     ·have hgetc:((splice c'.toList (k.o+j*wd wf+c) yv.cells.toList).toArray).getD (k.o+i*wd wf+m) undef =
        if k.o+j*wd wf+c≤k.o+i*wd wf+m∧k.o+i*wd wf+m<k.o+j*wd wf+c+yv.cells.size then yv.cells.getD (k.o+i*wd wf+m-(k.o+j*wd wf+c)) undef else c'.getD (k.o+i*wd wf+m) undef:=by
       have:=bU c'.toList (k.o+j*wd wf+c) yv.cells.toList (by simpa using hfit') (k.o+i*wd wf+m)
       simp only [Array.getElem?_toList,Array.length_toList] at this
       simp only [Array.getD_eq_getD_getElem?,List.getElem?_toArray,this]
       split<;>rfl
      rw [hgetc]
      rw [List.getElem?_set] at hi
      split at hi
      ·rename_i hji
       subst hji
       simp at hi;obtain ⟨_,rfl⟩:=hi
       rw [hcells m] at hm
       by_cases hcm:c≤m∧m<c+yv.cells.size
       ·rw [if_pos hcm] at hm
        rw [if_pos (by omega),show k.o+j*wd wf+m-(k.o+j*wd wf+c)=m-c by omega]
        exact hr _ _ (c4 _ d hm)
       ·rw [if_neg hcm] at hm
        rw [if_neg (by omega)]
        exact hr _ _ (hcs j _ m d hget hm)
      ·rename_i hji
       have hxo:=hw x (List.mem_of_getElem? hi)
       have hml:m<wd wf:=by rw [← aT hxo];exact (List.getElem?_eq_some_iff.1 hm).1
       have hne:¬ (k.o+j*wd wf+c≤k.o+i*wd wf+m∧k.o+i*wd wf+m<k.o+j*wd wf+c+yv.cells.size):=by
        rcases Nat.lt_or_gt_of_ne hji with hlt | hgt
        ·have:j*wd wf+wd wf≤i*wd wf:=by rw [← Nat.succ_mul];exact Nat.mul_le_mul_right _ hlt
         omega
        ·have:i*wd wf+wd wf≤j*wd wf:=by rw [← Nat.succ_mul];exact Nat.mul_le_mul_right _ hgt
         omega
       rw [if_neg hne]
       exact hr _ _ (hcs i x m d hi hm)
 ·trivial
end
end Go.Ab
namespace Go.Ab
section
variable {P:Program} {B:Base} {β:Name→Option Blk} {s:St} {tm:Array Value} {w:World} {t:Nat}
structure Seg (P:Program) (H:Array Obj) (own:Nat→Prop) (wf:W) (v:Value) (xs:List D) (news:List Value):Prop where
 len:∃ a cap,v=.slice a xs.length cap
 size:news.length=xs.length*wd wf
 one:∀ u∈news,u.oneCell'=true
 ok:∀ x∈xs,okW wf x
 rep:∀ i x j d,xs[i]?=some x→x.cells[j]?=some d→Rep H own (news.getD (i*wd wf+j) undef) d
 run:∀ w':World,w'.heap=H→(Builtin.firstCells (wd wf) xs.length v).run P w'=.ok news.toArray w'
theorem jr {H own} {wf:W} {a:Option Addr} {cap:Nat}:Seg P H own wf (.slice a 0 cap) [] []:=by
 refine ⟨⟨a,cap,rfl⟩,by simp,by simp,by simp,by simp,fun w' _=>?_⟩
 cases a with
 | none=>simp [Builtin.firstCells]
 | some a=>simp [Builtin.firstCells,loadCells,loadCellsFrom]
theorem xN {H:Array Obj} {own:Nat→Prop} {c:Array Value} {o:Nat} {wf:W} {xs:List D} (hok:∀ x∈xs,okW wf x)
  (h:∀ i x j d,xs[i]?=some x→x.cells[j]?=some d→Rep H own (c.getD (o+i*wd wf+j) undef) d):∀ m,m<xs.length*wd wf→(c.getD (o+m) undef).oneCell'=true:=by
 intro m hm
 have hw:0<wd wf:=by rcases Nat.eq_zero_or_pos (wd wf) with h0 | h0
                     ·rw [h0] at hm;simp at hm
                     ·exact h0
 have hi:m / wd wf<xs.length:=by rw [Nat.div_lt_iff_lt_mul hw];exact hm
 have hget:xs[m / wd wf]?=some xs[m / wd wf]:=List.getElem?_eq_getElem hi
 have hx:=hok _ (List.getElem_mem hi)
 have hj:m % wd wf<(xs[m / wd wf]).cells.length:=by rw [aT hx];exact Nat.mod_lt _ hw
 have hr:=h _ _ _ _ hget (List.getElem?_eq_getElem hj)
 have:=hr.lH (mO hx _ (List.getElem_mem hj))
 rwa [Nat.add_assoc,Nat.mul_comm,Nat.div_add_mod] at this
theorem oV {b o cap:Nat} {c:Array Value} {e:TypeId} {fz:Nat × Nat} {own:Nat→Prop} {wf:W} {xs:List D} (hb:w.heap[b]?=some (.cells c e fz)) (hz:o+xs.length*wd wf≤c.size) (hok:∀ x∈xs,okW wf x)
  (h:∀ i x j d,xs[i]?=some x→x.cells[j]?=some d→Rep w.heap own (c.getD (o+i*wd wf+j) undef) d) :
  Seg P w.heap own wf (.slice (some ⟨b,o,none⟩) xs.length cap) xs ((c.toList.drop o).take (xs.length*wd wf)):=by
 have hl:((c.toList.drop o).take (xs.length*wd wf)).length=xs.length*wd wf:=by simp;omega
 have hg:∀ m,m<xs.length*wd wf→((c.toList.drop o).take (xs.length*wd wf)).getD m undef=c.getD (o+m) undef:=by
  intro m hm
  simp [List.getD_eq_getElem?_getD,Array.getD_eq_getD_getElem?,hm]
 refine ⟨⟨_,cap,rfl⟩,hl,fun u hu=>?_,hok,fun i x j d hi hj=>?_,fun w' hw'=>?_⟩
 ·obtain ⟨m,hm⟩:=List.mem_iff_getElem?.1 hu
  have hlt:m<xs.length*wd wf:=by rw [← hl];exact (List.getElem?_eq_some_iff.1 hm).1
  have:=xN hok h m hlt
  rw [← hg m hlt,List.getD_eq_getElem?_getD,hm] at this
  exact this
 ·have hxo:=hok x (List.mem_of_getElem? hi)
  have hjl:j<wd wf:=by rw [← aT hxo];exact (List.getElem?_eq_some_iff.1 hj).1
  have hil:=(List.getElem?_eq_some_iff.1 hi).1
  have:i*wd wf+wd wf≤xs.length*wd wf:=by rw [← Nat.succ_mul];exact Nat.mul_le_mul_right _ hil
  rw [hg _ (by omega),← Nat.add_assoc]
  exact h i x j d hi hj
 ·refine run_firstCells_some (P:=P) w' (wd wf) xs.length ⟨b,o,none⟩ xs.length cap _ hl (fun j v hv=>?_)
  rw [bj,cell_of_row w' b (o+j) c e fz (by rw [hw'];exact hb)]
  rw [List.getElem?_take] at hv
  split at hv
  ·simpa using hv
  ·cases hv
theorem dS (h:Sim B β s tm w) {yv:Value} {y:AV} (hy:VR w.heap (s.own B.A β) s.used s.hp β yv y) {wf:W} {ys:List D} (hl:bD wf s.hp y=some ys):∃ news,Seg P w.heap (s.own B.A β) wf yv ys news:=by
 unfold bD at hl
 split at hl
 ·rename_i p o l
  split at hl<;>try cases hl
  rename_i ty w' xs hp
  split at hl<;>try cases hl
  rename_i hw;subst hw
  cases hy with
  | vw _ _ _ _ hn h1 hx =>
    obtain ⟨hle,a,cap,rfl,hx'⟩:=hx _ _ _ hp
    have hlen:((xs.drop o).take l).length=l:=by simp;omega
    rcases hx' with ⟨rfl,rfl⟩ | ⟨k,hk,rfl,hcap,hz⟩
    ·exact ⟨[],by simpa using jr⟩
    ·rcases (h.objs p _ hp).2 with ⟨h0,h0'⟩ | ⟨k',c',e,hk',hc,hzz,hl',hw,hcs⟩
     ·rw [h0] at hk;cases hk
     ·rw [hk] at hk';cases hk'
      have hle2:o*wd w'+l*wd w'≤xs.length*wd w':=by rw [← Nat.add_mul];exact Nat.mul_le_mul_right _ hle
      have:=oV (P:=P) (w:=w) (own:=s.own B.A β) (cap:=cap) (wf:=w') (xs:=(xs.drop o).take l) (b:=k.b) (o:=k.o+o*wd w') hc (by rw [hlen];omega)
       (fun x hx=>hw x (List.mem_of_mem_drop (List.mem_of_mem_take hx))) (fun i x j d hi hj=>by
        rw [List.getElem?_take] at hi
        split at hi
        ·rw [List.getElem?_drop] at hi
         have:=hcs _ x j d hi hj
         rwa [show k.o+o*wd w'+i*wd w'+j=k.o+(o+i)*wd w'+j by rw [Nat.add_mul];omega]
        ·cases hi)
      rw [hlen] at this
      exact ⟨_,this⟩
 ·rename_i w' xs
  split at hl<;>try cases hl
  rename_i hw;subst hw
  cases hy.toD with
  | sl0 a cap _=>exact ⟨[],jr⟩
  | sl b o cap c e fz _ _ hb hn hcap hz hok hc=>exact ⟨_,oV hb hz hok hc⟩
 ·cases hl
  obtain rfl:=hy.nils
  exact ⟨[],jr⟩
 ·cases hl
section
variable {e:Nat} {i:TypeInfo} {z:Value}
theorem fp (hk:P.underlying t=some (.slice e)) (hi:P.info? e=some i) (hz:i.zero=some z) (ty:TypeId) {own:Nat→Prop} {wf:W} {xv yv:Value} {xs ys:List D} {olds news:List Value} (hs:i.size=wd wf)
  (hx:Seg P w.heap own wf xv xs olds) (hy:Seg P w.heap own wf yv ys news) {a:Option Addr} {cap:Nat} (hxv:xv=.slice a xs.length cap) (hgr:cap<xs.length+ys.length) (hb:(xs.length+ys.length)*i.bytes≤140737488355328) (hb':xs.length+ys.length≤140737488355328) :
  ∃ nc,xs.length+ys.length≤nc∧(Builtin.append_ #[t,t] ty #[xv,yv]).run P w =
   .ok (.slice (some ⟨w.heap.size,0,none⟩) (xs.length+ys.length) nc) (w.drew.alloc (.cells (olds.toArray++news.toArray++Builtin.zeroCells z.cells (nc-(xs.length+ys.length))) e)):=by
 obtain ⟨ya,yc,rfl⟩:=hy.len
 subst hxv
 refine ⟨grownCap w (xs.length+ys.length) cap e,grownCap_ge _ _ _ _,?_⟩
 have hn:¬ (xs.length+ys.length≤cap):=by omega
 have h63':¬ (9223372036854775807<((xs.length:Int)+(ys.length:Int))):=by omega
 have h48':¬ (281474976710656<Builtin.nextslicecap (xs.length+ys.length) cap*i.bytes):=by have:=growslice_fits hgr hb;omega
 have hf:=hy.run w.drew rfl
 have hfo:=hx.run w.drew rfl
 simp [Builtin.append_,run_underlying hk,sizeOf,typeInfo,zeroValue,hi,hz,Builtin.lenOf,hn,h63',h48',Question.forced,hs,hf,hfo,newRow,grownCap]
 congr 2
 apply Array.ext'
 simp [List.append_assoc]
theorem kB (hk:P.underlying t=some (.slice e)) (hi:P.info? e=some i) (ty:TypeId) {own:Nat→Prop} {wf:W} {yv:Value} {ys:List D} {news:List Value} (hs:i.size=wd wf)
  (hy:Seg P w.heap own wf yv ys news) {b o n cap:Nat} {c:Array Value} {e':TypeId} (hb:w.heap[b]?=some (.cells c e' (0,0))) (hr:n+ys.length≤cap) (hfit:o+n*wd wf+news.length≤c.size) :
  (Builtin.append_ #[t,t] ty #[.slice (some ⟨b,o,none⟩) n cap,yv]).run P w =
   .ok (.slice (some ⟨b,o,none⟩) (n+ys.length) cap) (w.setRow b (splice c.toList (o+n*wd wf) news).toArray):=by
 obtain ⟨ya,yc,rfl⟩:=hy.len
 have hf:=hy.run w rfl
 have hst:=run_storeCells_at (P:=P) b (o+n*wd wf) e' news 0 c w hb (by simpa using hfit) hy.one
 simp only [Nat.add_zero] at hst
 simp [Builtin.append_,run_underlying hk,sizeOf,typeInfo,hi,Builtin.lenOf,hr,hs,hf,bj,hst,splice,List.append_assoc]
theorem fC (hk:P.underlying t=some (.slice e)) (hi:P.info? e=some i) (ty:TypeId) {own:Nat→Prop} {wf:W} {yv:Value} {news:List Value} (hs:i.size=wd wf) (hy:Seg P w.heap own wf yv [] news) (a:Option Addr) (cap:Nat)  :
  (Builtin.append_ #[t,t] ty #[.slice a 0 cap,yv]).run P w=.ok (.slice a 0 cap) w:=by
 obtain ⟨ya,yc,rfl⟩:=hy.len
 have hf:=hy.run w rfl
 have:news=[]:=by have:=hy.size;simpa using this
 subst this
 simp only [List.length_nil] at hf
 cases a<;>simp [Builtin.append_,run_underlying hk,sizeOf,typeInfo,hi,Builtin.lenOf,hs,hf,storeCells]
end
theorem rh {H:Array Obj} {own:Nat→Prop} {wf:W} {xs ys:List D} {olds news:List Value} {xv yv:Value} (hx:Seg P H own wf xv xs olds) (hy:Seg P H own wf yv ys news) (rest:Array Value) :
  (∀ x∈xs++ys,okW wf x)∧∀ i x j d,(xs++ys)[i]?=some x→x.cells[j]?=some d→Rep H own ((olds.toArray++news.toArray++rest).getD (i*wd wf+j) undef) d:=by
 refine ⟨fun x h=>(List.mem_append.1 h).elim (hx.ok x) (hy.ok x),fun i x j d hi hj=>?_⟩
 have hget:∀ m,(olds.toArray++news.toArray++rest).getD m undef=if m<olds.length then olds.getD m undef else if m<olds.length+news.length then news.getD (m-olds.length) undef else rest.getD (m-(olds.length+news.length)) undef:=by
  intro m
  simp only [Array.getD_eq_getD_getElem?,List.getD_eq_getElem?_getD,Array.getElem?_append,List.size_toArray,Array.size_append,List.getElem?_toArray]
  by_cases h1:m<olds.length
  ·simp [h1,show m<olds.length+news.length by omega]
  ·by_cases h2:m<olds.length+news.length
   ·simp [h1,h2]
   ·simp [h1,h2]
 rw [hget]
 rcases Nat.lt_or_ge i xs.length with hlt | hge
 ·rw [List.getElem?_append_left hlt] at hi
  have hxo:=hx.ok x (List.mem_of_getElem? hi)
  have hjl:j<wd wf:=by rw [← aT hxo];exact (List.getElem?_eq_some_iff.1 hj).1
  have:i*wd wf+wd wf≤xs.length*wd wf:=by rw [← Nat.succ_mul];exact Nat.mul_le_mul_right _ hlt
  rw [if_pos (by rw [hx.size];omega)]
  exact hx.rep i x j d hi hj
 ·rw [List.getElem?_append_right hge] at hi
  have hxo:=hy.ok x (List.mem_of_getElem? hi)
  have hil:=(List.getElem?_eq_some_iff.1 hi).1
  have hjl:j<wd wf:=by rw [← aT hxo];exact (List.getElem?_eq_some_iff.1 hj).1
  have h1:xs.length*wd wf≤i*wd wf:=Nat.mul_le_mul_right _ hge
  have h2:(i-xs.length)*wd wf+wd wf≤ys.length*wd wf:=by rw [← Nat.succ_mul];exact Nat.mul_le_mul_right _ hil
  have h3:i*wd wf=(i-xs.length)*wd wf+xs.length*wd wf:=by rw [← Nat.add_mul];congr 1;omega
  rw [if_neg (by rw [hx.size];omega),if_pos (by rw [hx.size,hy.size];omega),hx.size,show i*wd wf+j-xs.length*wd wf=(i-xs.length)*wd wf+j by omega]
  exact hy.rep _ x j d hi hj
theorem iI (h:Sim B β s tm w) {xv yv:Value} {x y:AV} (hx:VR w.heap (s.own B.A β) s.used s.hp β xv x) (hy:VR w.heap (s.own B.A β) s.used s.hp β yv y) {e:Nat} (hk:(P.ti t).k=.slice e)
  (hz:(P.ti e).zOk=true) (hw:(P.ti e).isW (P.ti e).w=true) (ty:TypeId) (d:Option Nat) (tg:Option Nat) (htg:tg.getD e=e) :
  RV (ia tg B.n (P.ti e) d s x y) fun s'=>∃ dd v w' β',d=some dd∧(Builtin.append_ #[t,t] ty #[xv,yv]).run P w=.ok v w'∧Sim B β' s' (tm.setIfInBounds dd v) w':=by
 obtain ⟨hg,hwd,_⟩:=bn hw
 obtain ⟨z,hz,hzl⟩:∃ z,(P.ti e).z=some z∧z.length=(P.ti e).sz:=by
  unfold TI.zOk at hz
  split at hz
  ·rename_i z h1;exact ⟨z,h1,by simpa using hz⟩
  ·cases hz
 obtain ⟨zv,hr,hm,it,hi,hiz,his,hib⟩:=cK hz
 have hu:=a8 hk
 have hby:∀ m:Nat,m*(P.ti e).by1≤140737488355328→m*it.bytes≤140737488355328∧m≤140737488355328:=by
  intro m hm'
  unfold TI.by1 at hm'
  rw [hib]
  split at hm'
  ·rename_i h0;rw [h0];simp at hm' ⊢;exact hm'
  ·exact ⟨hm',Nat.le_trans (Nat.le_mul_of_pos_right m (by omega)) hm'⟩
 have fresh:∀ (s1:St) (β1:Name→Option Blk) (xs ys:List D) (olds news:List Value) (xv' yv':Value) (dd nc:Nat),Sim B β1 s1 tm w→Seg P w.heap (s1.own B.A β1) (P.ti e).w xv' xs olds→Seg P w.heap (s1.own B.A β1) (P.ti e).w yv' ys news→dd<B.n→dd ∉ s1.used →
   xs.length+ys.length≤nc→∃ β',Sim B β' ((s1.add dd (.arrT tg (P.ti e).w (xs++ys))).put dd (.vw [dd] 0 (xs.length+ys.length))) (tm.setIfInBounds dd (.slice (some ⟨w.heap.size,0,none⟩) (xs.length+ys.length) nc))
    (w.drew.alloc (.cells (olds.toArray++news.toArray++Builtin.zeroCells zv.cells (nc-(xs.length+ys.length))) e)):=by
  intro s1 β1 xs ys olds news xv' yv' dd nc h1 hsx hsy hdd hud hnc
  obtain ⟨r1,r2⟩:=rh hsx hsy (Builtin.zeroCells zv.cells (nc-(xs.length+ys.length)))
  have hzs:zv.cells.size=wd (P.ti e).w:=by
   have:=(ga (H:=w.heap) (own:=s.own B.A β) hm).1
   simp at this;omega
  have hsz:(olds.toArray++news.toArray++Builtin.zeroCells zv.cells (nc-(xs.length+ys.length))).size=nc*wd (P.ti e).w:=by
   simp only [Array.size_append,List.size_toArray,hsx.size,hsy.size,size_zeroCells,hzs,← Nat.add_mul];congr 1;omega
  have:=cJ (h1.jR (w':=w.drew) rfl rfl) hdd hud (c:=olds.toArray++news.toArray++Builtin.zeroCells zv.cells (nc-(xs.length+ys.length))) (wf:=(P.ti e).w) (xs:=xs++ys) (cap:=nc) (by simpa using hnc)
   (by rw [hsz];exact Nat.le_refl _) r1 (fun i x j d hi hj=>r2 i x j d hi hj) e tg htg
  simpa using this
 unfold ia
 split
 ·-- onto nil
  rename_i ys hys
  obtain rfl:=hx.nils
  intro hb
  obtain ⟨hb1,hb2⟩:=hby _ hb
  unfold fP
  split<;>try trivial
  rename_i dd
  split<;>try trivial
  rename_i hcond
  obtain ⟨hdd,hud⟩:=hcond
  obtain ⟨news,hsy⟩:=dS (P:=P) h hy hys
  by_cases h0:ys.length=0
  ·have:ys=[]:=List.length_eq_zero_iff.1 h0
   subst this
   have hrun:=fC (P:=P) (t:=t) hu hi ty (by rw [his,hwd]) hsy none 0
   refine ⟨dd,_,_,_,rfl,hrun,(h.dU hud tg _).put hdd (.vw _ _ _ _ ⟨dd,[],rfl,List.mem_cons_self⟩ rfl fun ty' w' xs' hp'=>?_)⟩
   have:w'=(P.ti e).w∧xs'=[]:=And.right (a:=ty'=tg) (by simpa [St.add,au,eq_comm] using hp')
   obtain ⟨rfl,rfl⟩:=this
   exact ⟨by simp,_,0,rfl,.inl ⟨rfl,rfl⟩⟩
  ·obtain ⟨nc,hnc,hrun⟩:=fp (P:=P) (t:=t) hu hi hiz ty (by rw [his,hwd]) (jr (P:=P) (H:=w.heap) (own:=s.own B.A β) (wf:=(P.ti e).w) (a:=none) (cap:=0)) hsy rfl (by simp;omega) (by simpa using hb1) (by simpa using hb2)
   obtain ⟨β',hs⟩:=fresh s β [] ys [] news _ _ dd nc h (jr (a:=none) (cap:=0)) hsy hdd hud hnc
   exact ⟨dd,_,_,β',rfl,hrun,by simpa using hs⟩
 ·-- onto a view
  rename_i ys p o l hys
  split<;>try trivial
  rename_i tg' wf xs hp
  split<;>try trivial
  rename_i hwf
  obtain ⟨rfl,hwf⟩:=hwf
  intro hb
  obtain ⟨hb1,hb2⟩:=hby _ hb
  unfold fP
  split<;>try trivial
  rename_i dd
  split<;>try trivial
  rename_i hcond
  obtain ⟨hdd,hud⟩:=hcond
  have hud:dd ∉ s.used:=hud
  obtain ⟨news,hsy⟩:=dS (P:=P) h hy hys
  have hlx:bD (P.ti e).w s.hp (.vw p o l)=some ((xs.drop o).take l):=by simp [bD,hp,hwf]
  obtain ⟨olds,hsx⟩:=dS (P:=P) h hx hlx
  have hpn:=fE (h.objs p _ hp).1 hud
  have hcomm:∀ ob,(s.set p none).add dd ob=(s.add dd ob).set p none:=by
   intro ob
   unfold St.add St.set
   simp only [St.mk.injEq,true_and,and_true]
   funext q
   simp only [au]
   by_cases h1:q=[dd]
   ·subst h1;simp [Ne.symm hpn]
   ·simp [h1]
  cases hx with
  | vw _ _ _ _ hn h1 hx =>
    obtain ⟨hle,a,cap,rfl,hx'⟩:=hx _ _ _ hp
    have hlen:((xs.drop o).take l).length=l:=by simp;omega
    by_cases hgr:cap<l+ys.length
    ·-- it grows
     have hgr':cap<((xs.drop o).take l).length+ys.length:=by rw [hlen];exact hgr
     obtain ⟨nc,hnc,hrun⟩:=fp (P:=P) (t:=t) hu hi hiz ty (by rw [his,hwd]) hsx hsy (a:=a) (cap:=cap) (by rw [hlen]) hgr' (by rw [hlen];exact hb1) (by rw [hlen];exact hb2)
     obtain ⟨β',hs⟩:=fresh s β _ ys olds news _ _ dd nc h hsx hsy hdd hud hnc
     rw [hlen] at hs hrun
     refine ⟨dd,_,_,β',rfl,hrun,?_⟩
     rw [hcomm,hwf]
     have:=hs.drop p
     have e2:((s.add dd (.arrT tg' (P.ti e).w ((xs.drop o).take l++ys))).put dd (.vw [dd] 0 (l+ys.length))).set p none=((s.add dd (.arrT tg' (P.ti e).w ((xs.drop o).take l++ys))).set p none).put dd (.vw [dd] 0 (l+ys.length)):=rfl
     rwa [e2] at this
    ·-- there is room
     rcases hx' with ⟨rfl,rfl⟩ | ⟨k,hk',rfl,hcap,hz'⟩
     ·have:ys=[]:=List.length_eq_zero_iff.1 (by omega)
      subst this
      have hrun:=fC (P:=P) (t:=t) hu hi ty (by rw [his,hwd]) hsy a 0
      refine ⟨dd,_,_,au β [dd] none,rfl,hrun,?_⟩
      rw [hcomm]
      have e3:((xs.drop o).take 0++([]:List D))=[]:=by simp
      rw [e3]
      have:=((h.dU hud tg' wf).put hdd (v:=.slice a 0 0) (x:=.vw [dd] 0 0) (.vw _ _ _ _ ⟨dd,[],rfl,List.mem_cons_self⟩ rfl fun ty' w' xs' hp'=>by
       have:w'=wf∧xs'=[]:=And.right (a:=ty'=tg') (by simpa [St.add,au,eq_comm] using hp')
       obtain ⟨rfl,rfl⟩:=this
       exact ⟨by simp,a,0,rfl,.inl ⟨rfl,rfl⟩⟩)).drop p
      exact this
     ·have hob:=(h.objs p _ hp).2
      rcases hob with ⟨h0,h0'⟩ | ⟨k',c',e',hk'',hc,hzz,hl',hwx,hcs⟩
      ·rw [h0] at hk';cases hk'
      ·rw [hk'] at hk'';cases hk''
       have hmul:(o+cap)*wd wf=o*wd wf+cap*wd wf:=Nat.add_mul _ _ _
       have hle2:(l+ys.length)*wd wf≤cap*wd wf:=Nat.mul_le_mul_right _ (by omega)
       have hmul2:(l+ys.length)*wd wf=l*wd wf+ys.length*wd wf:=Nat.add_mul _ _ _
       have hns:=hsy.size
       rw [← hwf] at hns
       have hfit:k.o+o*wd wf+l*wd wf+news.length≤c'.size:=by omega
       have hrun:=kB (P:=P) (t:=t) hu hi ty (wf:=wf) (by rw [his,hwf,hwd]) (by rw [hwf];exact hsy) hc (o:=k.o+o*wd wf) (n:=l) (cap:=cap) (by omega) hfit
       refine ⟨dd,_,_,au β [dd] (some ⟨k.b,k.o+o*wd wf,k.z⟩),rfl,hrun,?_⟩
       have hsim:=h.renew hud hp hk' tg' wf ((xs.drop o).take l++ys) (k.o+o*wd wf) (w':=w.setRow k.b (splice c'.toList (k.o+o*wd wf+l*wd wf) news).toArray) rfl (by simp)
        (fun b hb=>setRow_other w k.b b _ hb) (fun hr=>?_)
       ·refine hsim.put hdd (.vw _ _ _ _ ⟨dd,[],rfl,List.mem_cons_self⟩ rfl fun ty' w' xs' hp'=>?_)
        have:w'=wf∧xs'=(xs.drop o).take l++ys:=And.right (a:=ty'=tg') (by simpa [St.add,au,eq_comm] using hp')
        obtain ⟨rfl,rfl⟩:=this
        refine ⟨by simp;omega,_,cap,rfl,.inr ⟨_,by simp [au];rfl,by simp,by omega,?_⟩⟩
        simp only [Nat.zero_add];omega
       ·have hsp:=bC c'.toList (k.o+o*wd wf+l*wd wf) news (by simpa using hfit)
        refine ⟨_,e',setRow_heap w k.b c' _ _ (0,0) hc,by simp;rw [hsp];simpa using hzz,?_,fun x hx=>?_,fun i x j d hi hj=>?_⟩
        ·rw [List.length_append,hlen];omega
        ·rcases List.mem_append.1 hx with hx | hx
         ·exact hwx x (List.mem_of_mem_drop (List.mem_of_mem_take hx))
         ·rw [hwf];exact hsy.ok x hx
        ·have hgetc:((splice c'.toList (k.o+o*wd wf+l*wd wf) news).toArray).getD (k.o+o*wd wf+i*wd wf+j) undef =
           if k.o+o*wd wf+l*wd wf≤k.o+o*wd wf+i*wd wf+j∧k.o+o*wd wf+i*wd wf+j<k.o+o*wd wf+l*wd wf+news.length then news.getD (k.o+o*wd wf+i*wd wf+j-(k.o+o*wd wf+l*wd wf)) undef else c'.getD (k.o+o*wd wf+i*wd wf+j) undef:=by
          have:=bU c'.toList (k.o+o*wd wf+l*wd wf) news (by simpa using hfit) (k.o+o*wd wf+i*wd wf+j)
          simp only [Array.getElem?_toList] at this
          simp only [Array.getD_eq_getD_getElem?,List.getElem?_toArray,this,List.getD_eq_getElem?_getD]
          split<;>rfl
         rw [hgetc]
         rcases Nat.lt_or_ge i l with hlt | hge
         ·rw [List.getElem?_append_left (by rw [hlen];exact hlt),List.getElem?_take,if_pos hlt,List.getElem?_drop] at hi
          have hxo:=hwx x (List.mem_of_getElem? hi)
          have hjl:j<wd wf:=by rw [← aT hxo];exact (List.getElem?_eq_some_iff.1 hj).1
          have:i*wd wf+wd wf≤l*wd wf:=by rw [← Nat.succ_mul];exact Nat.mul_le_mul_right _ hlt
          rw [if_neg (by omega)]
          have:=hr _ _ (hcs _ x j d hi hj)
          rwa [show k.o+o*wd wf+i*wd wf+j=k.o+(o+i)*wd wf+j by rw [Nat.add_mul];omega]
         ·rw [List.getElem?_append_right (by rw [hlen];exact hge),hlen] at hi
          have hxo:=hsy.ok x (List.mem_of_getElem? hi)
          rw [← hwf] at hxo
          have hil:=(List.getElem?_eq_some_iff.1 hi).1
          have hjl:j<wd wf:=by rw [← aT hxo];exact (List.getElem?_eq_some_iff.1 hj).1
          have g1:l*wd wf≤i*wd wf:=Nat.mul_le_mul_right _ hge
          have g2:(i-l)*wd wf+wd wf≤ys.length*wd wf:=by rw [← Nat.succ_mul];exact Nat.mul_le_mul_right _ hil
          have g3:i*wd wf=(i-l)*wd wf+l*wd wf:=by rw [← Nat.add_mul];congr 1;omega
          rw [if_pos (by omega),show k.o+o*wd wf+i*wd wf+j-(k.o+o*wd wf+l*wd wf)=(i-l)*wd wf+j by omega]
          have:=hsy.rep _ x j d hi hj
          rw [← hwf] at this
          exact hr _ _ this
 ·trivial
theorem qi (h:Sim B β s tm w) {xv yv:Value} {x y:AV} (hx:VR w.heap (s.own B.A β) s.used s.hp β xv x) (hy:VR w.heap (s.own B.A β) s.used s.hp β yv y) {e:Nat} (hk:(P.ti t).k=.slice e)
  (hz:(P.ti e).zOk=true) (hw:(P.ti e).isW (P.ti e).w=true) (ty:TypeId) (d:Option Nat) :
  RV (fY B.n (P.ti e) d s x y) fun s'=>∃ dd v w' β',d=some dd∧(Builtin.append_ #[t,t] ty #[xv,yv]).run P w=.ok v w'∧Sim B β' s' (tm.setIfInBounds dd v) w':=by
 rw [yH]
 exact iI h hx hy hk hz hw ty d none rfl
end
end Go.Ab
namespace Go.Ab
section
variable {P:Program} {B:Base} {β:Name→Option Blk} {s:St} {a:Act} {w:World}
def Does (P:Program) (B:Base) (o:Oper) (a:Act) (w:World) (f:St→Prop):Prop :=
 ∃ nx v w' s' β',(execOp a.eval o).run P w=.ok nx w'∧(nx=.value v∨nx=.skip∧v=undef)∧f s'∧Sim B β' s' (a.put o.dst v).tmps w'
theorem z6 (a:Act) (d:Option Tmp) (v:Value):(a.put d v).tmps=match d with
 | some d=>a.tmps.setIfInBounds d v
 | none=>a.tmps:=by cases d<;>rfl
def St.putd (s:St):Option Nat→AV→St
 | some t,x=>s.put t x
 | none,_=>s
theorem jO {n:Nat} {d:Option Nat} {x:AV} {f:St→Prop} {z:Prop} (h:(bx n d s x).run f z):z∨(∀ t,d=some t→t<n)∧f (s.putd d x):=by
 cases d with
 | some t =>
   simp only [bx] at h
   split at h
   ·rename_i ht;exact .inr ⟨fun t' e=>by cases e;exact ht,h⟩
   ·exact .inl h
 | none=>exact .inr ⟨fun t' e=>(by cases e),h⟩
theorem Sim.putd (h:Sim B β s a.tmps w) {d:Option Nat} (hd:∀ t,d=some t→t<B.n) {v:Value} {x:AV} (hv:VR w.heap (s.own B.A β) s.used s.hp β v x) :
  Sim B β (s.putd d x) (a.put d v).tmps w:=by
 cases d with
 | none=>exact h
 | some t=>exact h.put (hd t rfl) hv
theorem Cm {r:R AV} {g:AV→R St} {f:St→Prop} {z:Prop} {φ:AV→Prop} (hφ:RV r φ) (h:(r.bind g).run f z):z∨∃ x,φ x∧(g x).run f z:=by
 induction r with
 | ok x=>exact .inr ⟨x,hφ,h⟩
 | need p r ih=>exact ih (hφ h.1) h.2
 | no=>exact .inl h
theorem bV {o:Oper} {r:R AV} {f:St→Prop} {z:Prop} (h:Sim B β s a.tmps w)
  (hφ:RV r fun x=>∃ v,(execOp a.eval o).run P w=.ok (.value v) w∧VR w.heap (s.own B.A β) s.used s.hp β v x) (hr:(r.bind (bx B.n o.dst s)).run f z):z∨Does P B o a w f:=by
 rcases Cm hφ hr with hz | ⟨x,⟨v,hrun,hv⟩,hp⟩
 ·exact .inl hz
 ·rcases jO hp with hz | ⟨hd,hf⟩
  ·exact .inl hz
  ·exact .inr ⟨_,v,w,_,β,hrun,.inl rfl,hf,h.putd hd hv⟩
theorem Au {o:Oper} {x:AV} {f:St→Prop} {z:Prop} (h:Sim B β s a.tmps w) {v:Value} (hrun:(execOp a.eval o).run P w=.ok (.value v) w) (hv:VR w.heap (s.own B.A β) s.used s.hp β v x)
  (hr:(bx B.n o.dst s x).run f z):z∨Does P B o a w f:=by
 rcases jO hr with hz | ⟨hd,hf⟩
 ·exact .inl hz
 ·exact .inr ⟨_,v,w,_,β,hrun,.inl rfl,hf,h.putd hd hv⟩
theorem qR {o:Oper} {ob:Ob} {x:Name→AV} {f:St→Prop} {z:Prop} (hφ:∀ d,o.dst=some d→d<B.n→d ∉ s.used→∃ v w' β',(execOp a.eval o).run P w=.ok (.value v) w'∧Sim B β' ((s.add d ob).put d (x [d])) (a.tmps.setIfInBounds d v) w')
  (hr:(fP B.n o.dst s ob x).run f z):z∨Does P B o a w f:=by
 unfold fP at hr
 split at hr
 ·rename_i d hd
  split at hr
  ·rename_i hc
   obtain ⟨v,w',β',hrun,hs⟩:=hφ d hd hc.1 hc.2
   exact .inr ⟨_,v,w',_,β',hrun,.inl rfl,hr,by rw [z6,hd];exact hs⟩
  ·exact .inl hr
 ·exact .inl hr
theorem sI (h:Sim B β s a.tmps w) (parts:Array (Nat × Operand)):(parts.map fun (i,x)=>(i,a.eval x)).size=(parts.toList.map fun q=>(q.1,ev s q.2)).length ∧
  ∀ (i:Nat) q u,(parts.toList.map fun q=>(q.1,ev s q.2))[i]?=some q→(parts.map fun (i,x)=>(i,a.eval x)).toList[i]?=some u→u.1=q.1∧VR w.heap (s.own B.A β) s.used s.hp β u.2 q.2:=by
 refine ⟨by simp,fun i q u h1 h2=>?_⟩
 simp only [List.getElem?_map,Option.map_eq_some_iff,Array.toList_map] at h1 h2
 obtain ⟨r,hr,rfl⟩:=h1
 obtain ⟨r',hr',rfl⟩:=h2
 rw [hr] at hr';cases hr'
 exact ⟨rfl,h.ev _⟩
theorem lp (h:Sim B β s a.tmps w) {t:Nat} {lv cv:Value} {l c:AV} (hl:VR w.heap (s.own B.A β) s.used s.hp β lv l) (hc:VR w.heap (s.own B.A β) s.used s.hp β cv c) (o:Oper)
  (ho:∀ v w',(Instr.makeSlice t lv cv).run P w=.ok v w'→(execOp a.eval o).run P w=.ok (.value v) w') {f:St→Prop} {z:Prop} (hr:(eh B.n (P.ti t) P.ti o.dst s l c).run f z):z∨Does P B o a w f:=by
 unfold eh at hr
 split at hr<;>try exact .inl hr
 rename_i e la lb hk
 obtain rfl:=hl.int;obtain rfl:=hc.int
 split at hr<;>try exact .inl hr
 rename_i zd' hzd
 split at hr<;>try exact .inl hr
 rename_i hcond
 have hcond:((P.ti e).isW (P.ti e).w && nT (P.ti e).w zd')=true:=by simpa using hcond
 simp only [Bool.and_eq_true] at hcond
 obtain ⟨hw,hokb⟩:=hcond
 have hok:=pX hokb
 obtain ⟨hg,hwd,_⟩:=bn hw
 obtain ⟨⟨h0,h1,h2,h3⟩,hr⟩:=hr
 obtain ⟨zc,hz,hzc⟩:∃ zc,(P.ti e).z=some zc∧zc=zd'.cells:=by
  unfold TI.zero at hzd
  cases hz:(P.ti e).z with
  | none=>simp [hz] at hzd
  | some zc =>
    refine ⟨zc,rfl,?_⟩
    simp only [hz,Option.bind_some] at hzd
    split at hzd
    ·cases hzd;rfl
    ·rename_i hna
     split at hzd<;>try cases hzd
     have:(P.ti e).w=none:=by unfold TI.w;rw [if_neg hna]
     rw [this] at hok
     cases zd'<;>first | rfl | simp [okW,D.scal] at hok
 obtain ⟨zv,hr',hm,it,hi,hiz,his,hib⟩:=cK hz
 obtain ⟨m1,m2,m3,m4⟩:=ga (H:=w.heap) (own:=s.own B.A β) hm
 have hzlen:zv.cells.size=wd (P.ti e).w:=by
  rw [hzc,aT hok] at m1;simpa using m1.symm
 refine qR (fun d hd hdn hdu=>?_) hr
 have hrun:=run_make (P:=P) w t e it zv (a8 hk) hi hiz .i64 .i64 la lb h0 h1 (by rw [hib,Int.mul_comm];omega) (by omega)
 obtain ⟨β',hs⟩:=cJ h hdn hdu (c:=madeCells zv.cells (lb.toNat*it.size)) (wf:=(P.ti e).w) (xs:=List.replicate la.toNat zd') (cap:=lb.toNat) (by simp;omega)
  (by rw [size_madeCells,his,hwd];exact Nat.le_refl _) (fun x hx=>by rw [List.eq_of_mem_replicate hx];exact hok) (fun i x j d' hi' hj=>by
   have hxe:x=zd':=List.eq_of_mem_replicate (List.mem_of_getElem? hi')
   subst hxe
   have hil:i<la.toNat:=by have:=(List.getElem?_eq_some_iff.1 hi').1;simpa using this
   have hjl:j<wd (P.ti e).w:=by rw [← aT hok];exact (List.getElem?_eq_some_iff.1 hj).1
   rw [← hzc] at hj
   obtain ⟨u,hu,hrep⟩:=m4 j d' hj
   have hin:i*wd (P.ti e).w+wd (P.ti e).w≤lb.toNat*it.size:=by rw [← Nat.succ_mul,his,hwd];exact Nat.mul_le_mul_right _ (by omega)
   have:(madeCells zv.cells (lb.toNat*it.size)).getD (i*wd (P.ti e).w+j) undef=u:=by
    simp only [Array.getElem?_toList] at hu
    have hmod:(i*wd (P.ti e).w+j) % zv.cells.size=j:=by rw [hzlen,Nat.mul_comm,Nat.mul_add_mod];exact Nat.mod_eq_of_lt hjl
    have hget:zv.cells[j]! = u:=by simp [getElem!_def,hu]
    simp [madeCells,Array.getD_eq_getD_getElem?,show i*wd (P.ti e).w+j<lb.toNat*it.size by omega,hmod,hget]
   rw [this];exact hrep) e none rfl
 refine ⟨_,_,β',ho _ _ hrun,?_⟩
 simpa using hs
set_option maxHeartbeats 1000000 in
theorem fo {o:Oper} (h:Sim B β s a.tmps w) {f:St→Prop} {z:Prop} (hr:(opR P.ti B.n o.op o.dst s).run f z):z∨Does P B o a w f:=by
 have hev:=h.ev
 obtain ⟨dst,op,ty,pos,after,guard⟩:=o
 simp only at hr
 cases op with
 | move x=>exact Au h (o:=⟨dst,.move x,ty,pos,after,guard⟩) rfl (hev x) hr
 | assign x=>exact Au h (o:=⟨dst,.assign x,ty,pos,after,guard⟩) rfl (hev x) hr
 | pick c x y=>exact bV h (o:=⟨dst,.pick c x y,ty,pos,after,guard⟩) ((uF (P:=P) (hev c) (hev x) (hev y)).mono fun _ ⟨v,hr,hv⟩=>⟨v,by simpa [execOp] using hr,hv⟩) hr
 | alloc e =>
   simp only [opR] at hr
   split at hr<;>try exact .inl hr
   rename_i cs hz
   exact qR (o:=⟨dst,.alloc e,ty,pos,after,guard⟩) (fun d hd h1 h2=>let ⟨v,w',β',hrun,hs⟩:=tU h hz h1 h2 _ (yI _ _);⟨v,w',β',by simp [execOp,hrun],hs⟩) hr
 | box e x =>
   simp only [opR] at hr
   split at hr<;>try exact .inl hr
   rename_i cs hc
   exact qR (o:=⟨dst,.box e x,ty,pos,after,guard⟩) (fun d hd h1 h2=>let ⟨v,w',β',hrun,hs⟩:=xx (P:=P) (t:=e) h (hev x) hc h1 h2;⟨v,w',β',by simp [execOp,hrun],hs⟩) hr
 | build t parts =>
   obtain ⟨p1,p2⟩:=sI h parts
   exact bV h (o:=⟨dst,.build t parts,ty,pos,after,guard⟩) ((sO (P:=P) (t:=t) p1 p2).mono fun _ ⟨v,hr,hv⟩=>⟨v,by simp [execOp,hr],hv⟩) hr
 | buildSlice t l parts =>
   simp only [opR] at hr
   split at hr<;>try exact .inl hr
   rename_i e xs hk hx
   split at hr<;>try exact .inl hr
   rename_i hc
   obtain ⟨rfl,hz,hw,hok,hb⟩:=hc
   obtain ⟨z',hz⟩:=Option.isSome_iff_exists.1 hz
   have hk':(P.ti t).k=.slice e:=by
    unfold mz at hk
    split at hk<;>cases hk
    assumption
   obtain ⟨p1,p2⟩:=sI h parts
   refine qR (o:=⟨dst,.buildSlice t xs.length parts,ty,pos,after,guard⟩) (fun d hd h1 h2=>?_) hr
   obtain ⟨v,w',β',hrun,hs⟩:=kC (P:=P) (t:=t) h p1 p2 hk' hx hz hw (fun x hx'=>pX (List.all_eq_true.1 hok x hx')) hb h1 h2
   exact ⟨v,w',β',by simp [execOp,hrun],hs⟩
 | load t x=>exact bV h (o:=⟨dst,.load t x,ty,pos,after,guard⟩) ((mB (P:=P) (t:=t) h (hev x)).mono fun _ ⟨v,hr,hv⟩=>⟨v,by simp [execOp,hr],hv⟩) hr
 | store t x y =>
   have hs:=rA (P:=P) (t:=t) h (hev x) (hev y)
   have hr':((gJ (P.ti t) s (ev s x) (ev s y)).bind fun s'=>bx B.n dst s' .un).run f z:=hr
   have key:∀ r:R St,RV r (fun s'=>∃ w',(Instr.storeAt t (a.eval x) (a.eval y)).run P w=.ok () w'∧Sim B β s' a.tmps w')→(r.bind fun s'=>bx B.n dst s' .un).run f z→z∨Does P B ⟨dst,.store t x y,ty,pos,after,guard⟩ a w f:=by
    intro r
    induction r with
    | ok s' =>
      rintro ⟨w',hrun,hsim⟩ hr
      rcases jO hr with hz | ⟨hd,hf⟩
      ·exact .inl hz
      ·exact .inr ⟨.skip,undef,w',_,β,by simp [execOp,hrun],.inr ⟨rfl,rfl⟩,hf,hsim.putd hd (.un _)⟩
    | need p r ih=>exact fun hφ hr=>ih (hφ hr.1) hr.2
    | no=>exact fun _ hr=>.inl hr
   exact key _ hs hr'
 | fieldAddr t x fi=>exact bV h (o:=⟨dst,.fieldAddr t x fi,ty,pos,after,guard⟩) ((lg (P:=P) (t:=t) (hev x)).mono fun _ ⟨v,hr,hv⟩=>⟨v,by simp [execOp,hr],hv⟩) hr
 | field t x fi=>exact bV h (o:=⟨dst,.field t x fi,ty,pos,after,guard⟩) ((tL (P:=P) (t:=t) (hev x)).mono fun _ ⟨v,hr,hv⟩=>⟨v,by simp [execOp,hr],hv⟩) hr
 | indexAddr t x j=>exact bV h (o:=⟨dst,.indexAddr t x j,ty,pos,after,guard⟩) ((lr (P:=P) (t:=t) (hev x) (hev j)).mono fun _ ⟨v,hr,hv⟩=>⟨v,by simp [execOp,hr],hv⟩) hr
 | index t x j=>exact bV h (o:=⟨dst,.index t x j,ty,pos,after,guard⟩) ((s7 (P:=P) (t:=t) (hev x) (hev j)).mono fun _ ⟨v,hr,hv⟩=>⟨v,by simp [execOp,hr],hv⟩) hr
 | slice t x lo hi mx =>
   cases mx with
   | some _=>exact .inl hr
   | none =>
     have opt:∀ o:Option Operand,(∀ x,o.map (ev s)=some x→∃ v,o.map a.eval=some v∧VR w.heap (s.own B.A β) s.used s.hp β v x)∧(o.map (ev s)=none→o.map a.eval=none):=by
      intro o
      cases o with
      | none=>exact ⟨fun x h=>(by cases h),fun _=>rfl⟩
      | some o=>exact ⟨fun x h=>(by cases h;exact ⟨_,rfl,hev o⟩),fun h=>(by cases h)⟩
     exact bV h (o:=⟨dst,.slice t x lo hi none,ty,pos,after,guard⟩) ((rG (P:=P) (t:=t) h (hev x) (opt lo).1 (opt lo).2 (opt hi).1 (opt hi).2).mono fun _ ⟨v,hr,hv⟩=>⟨v,by simp [execOp,hr],hv⟩) hr
 | binOp op t x y yt =>
   exact bV h (o:=⟨dst,.binOp op t x y yt,ty,pos,after,guard⟩) ((xq (P:=P) (t:=t) (hev x) (hev y) x y).mono fun _ ⟨v,hr,hv⟩=>⟨v,by simp only [execOp,Sem.run_bind] at hr ⊢;rw [hr];rfl,hv⟩) hr
 | unOp op t x=>exact bV h (o:=⟨dst,.unOp op t x,ty,pos,after,guard⟩) ((Br (P:=P) (hev x)).mono fun _ ⟨v,hr,hv⟩=>⟨v,by simp [execOp,hr],hv⟩) hr
 | convert t t' x=>exact bV h (o:=⟨dst,.convert t t' x,ty,pos,after,guard⟩) ((uv (P:=P) (t:=t) (t':=t') (hev x)).mono fun _ ⟨v,hr,hv⟩=>⟨v,by simp [execOp,hr],hv⟩) hr
 | extract x i=>exact bV h (o:=⟨dst,.extract x i,ty,pos,after,guard⟩) ((oA (P:=P) (hev x) i).mono fun _ ⟨v,hr,hv⟩=>⟨v,by simp [execOp,hr],hv⟩) hr
 | nilCheck x=>exact bV h (o:=⟨dst,.nilCheck x,ty,pos,after,guard⟩) ((x9 (hev x)).mono fun _ ⟨⟨ad,hr⟩,hv⟩=>⟨a.eval x,by simp [execOp,hr],hv⟩) hr
 | makeFunc fn first caps =>
   refine bV h (o:=⟨dst,.makeFunc fn first caps,ty,pos,after,guard⟩) ((l6 (P:=P) (ρ:=a.eval) (cvs:=caps.map a.eval) (by simp) (fun i x hi=>?_)).mono fun _ ⟨v,hr,hv⟩=>⟨v,by simp [execOp,hr],hv⟩) hr
   simp only [List.getElem?_map,Option.map_eq_some_iff] at hi
   obtain ⟨o,ho,rfl⟩:=hi
   have:(caps.map a.eval).getD i undef=a.eval o:=by
    simp only [Array.getElem?_toList] at ho
    simp [Array.getD_eq_getD_getElem?,ho]
   rw [this];exact hev o
 | makeSlice t l c=>exact lp h (hev l) (hev c) ⟨dst,.makeSlice t l c,ty,pos,after,guard⟩ (fun v w' hr=>by simp [execOp,hr]) hr
 | call c =>
   obtain ⟨callee,args,ats⟩:=c
   cases callee with
   | value _=>exact .inl hr
   | invoke _ _=>exact .inl hr
   | builtin b =>
     obtain ⟨args⟩:=args
     obtain ⟨ats⟩:=ats
     simp only [opR,jl] at hr
     split at hr
     ·rename_i x hx
      obtain ⟨xo,rfl,rfl⟩:∃ xo,args=[xo]∧ev s xo=x:=by
       match args,hx with
       | [xo],hx=>exact ⟨xo,rfl,by simpa using hx⟩
      split at hr<;>try exact .inl hr
      rename_i t
      exact bV h (o:=⟨dst,.call { callee:=.builtin .len,args:=[xo].toArray,argTypes:=[t].toArray },ty,pos,after,guard⟩)
       ((xS (P:=P) (t:=t) h (hev xo) rfl ty).mono fun _ ⟨v,hr,hv⟩=>⟨v,by simp [execOp,resolve,invoke,builtin,hr],hv⟩) hr
     ·rename_i x y hx
      obtain ⟨xo,yo,rfl,rfl,rfl⟩:∃ xo yo,args=[xo,yo]∧ev s xo=x∧ev s yo=y:=by
       match args,hx with
       | [xo,yo],hx=>exact ⟨xo,yo,rfl,by simpa using hx⟩
      exact bV h (o:=⟨dst,.call { callee:=.builtin .max,args:=[xo,yo].toArray,argTypes:=ats.toArray },ty,pos,after,guard⟩)
       ((yr (P:=P) (hev xo) (hev yo) ats.toArray ty).mono fun _ ⟨v,hr,hv⟩=>⟨v,by simp [execOp,resolve,invoke,builtin,hr],hv⟩) hr
     ·rename_i x y hx
      obtain ⟨xo,yo,rfl,rfl,rfl⟩:∃ xo yo,args=[xo,yo]∧ev s xo=x∧ev s yo=y:=by
       match args,hx with
       | [xo,yo],hx=>exact ⟨xo,yo,rfl,by simpa using hx⟩
      exact bV h (o:=⟨dst,.call { callee:=.builtin .min,args:=[xo,yo].toArray,argTypes:=ats.toArray },ty,pos,after,guard⟩)
       ((xP (P:=P) (hev xo) (hev yo) ats.toArray ty).mono fun _ ⟨v,hr,hv⟩=>⟨v,by simp [execOp,resolve,invoke,builtin,hr],hv⟩) hr
     ·rename_i x y hx
      obtain ⟨xo,yo,rfl,rfl,rfl⟩:∃ xo yo,args=[xo,yo]∧ev s xo=x∧ev s yo=y:=by
       match args,hx with
       | [xo,yo],hx=>exact ⟨xo,yo,rfl,by simpa using hx⟩
      split at hr<;>try exact .inl hr
      rename_i t t'
      split at hr<;>try exact .inl hr
      rename_i htt
      have htt:t=t':=by simpa using htt
      subst htt
      split at hr<;>try exact .inl hr
      rename_i e hk
      split at hr<;>try exact .inl hr
      rename_i hc
      have hs:=qi (P:=P) (t:=t) h (hev xo) (hev yo) hk hc.1 hc.2 ty dst
      rcases RV.run hs hr with hz | ⟨s',⟨dd,v,w',β',rfl,hrun,hsim⟩,hf⟩
      ·exact .inl hz
      ·exact .inr ⟨_,v,w',s',β',by simp [execOp,resolve,invoke,builtin,hrun],.inl rfl,hf,hsim⟩
     ·exact .inl hr
 | _=>exact .inl hr
end
end Go.Ab

namespace Go.Ab
section
variable {P:Program} {cf:Cf} {ro:Option Nat}
theorem fx:(Fw ro).depth=none:=rfl
theorem Sim.setv {B:Base} {β:Name→Option Blk} {s:St} {tm:Array Value} {w:World} (h:Sim B β s tm w) {t:Nat} {x:AV} (hv:VR w.heap (s.own B.A β) s.used s.hp β (tm.getD t undef) x):Sim B β (s.put t x) tm w:=by
 refine { h with slots:=fun i=>?_ }
 show VR w.heap (s.own B.A β) s.used s.hp β _ (de s.fr t x i)
 unfold de
 split
 ·rename_i e;rw [e];exact hv
 ·exact h.slots i
theorem aA {o:Oper} {a:Act} {w w':World} {nx:Next} {v:Value} (hnd:∀ c,o.op≠.defer c) (hrun:(execOp a.eval o).run P w=.ok nx w') (hnx:nx=.value v∨nx=.skip∧v=undef)
  {next:Act→World→Prop} {Q:Exit→Act→World→Prop} (h:next (a.put o.dst v) w'):o.wpIn (Fw cf.ro) 0 P a w next Q:=by
 refine ⟨fun _ _=>trivial,?_⟩
 rw [Oper.semAt_eq _ _ _ hnd,hrun]
 rcases hnx with rfl | ⟨rfl,rfl⟩<;>exact h
theorem eB (Q:Exit→Act→World→Prop):∀ (k:List It) (a:Act) (w:World),Q .ret a w→hold P cf Q k .ret a w
 | [],_,_,h=>h
 | .code _::k,a,w,h=>eB Q k a w h
 | .ops _ _::k,a,w,h=>eB Q k a w h
 | .blk _::k,a,w,h=>eB Q k a w h
theorem bG (Q:Exit→Act→World→Prop) (i:Nat):∀ (k:List It) (a:Act) (w:World),eJ i k=none→Q (.exit i) a w→hold P cf Q k (.exit i) a w
 | [],_,_,_,h=>h
 | .code _::k,a,w,hk,h=>bG Q i k a w hk h
 | .ops _ _::k,a,w,hk,h=>bG Q i k a w hk h
 | .blk j::k,a,w,hk,h=>by
   simp only [eJ] at hk
   split at hk
   ·cases hk
   ·rename_i hj
    simp only [hold,if_neg (fun e:i=j=>hj e.symm)]
    exact bG Q i k a w hk h
theorem bF (Q:Exit→Act→World→Prop) (i:Nat):∀ (k k':List It) (a:Act) (w:World),eJ i k=some k'→hold P cf Q k' .normal a w→hold P cf Q k (.exit i) a w
 | [],_,_,_,hk,_=>by cases hk
 | .code _::k,k',a,w,hk,h=>bF Q i k k' a w hk h
 | .ops _ _::k,k',a,w,hk,h=>bF Q i k k' a w hk h
 | .blk j::k,k',a,w,hk,h=>by
   simp only [eJ] at hk
   split at hk
   ·rename_i hj;cases hk;subst hj
    simp only [hold,if_true];exact h
   ·rename_i hj
    simp only [hold,if_neg (fun e:i=j=>hj e.symm)]
    exact bF Q i k k' a w hk h
theorem pc (Q:Exit→Act→World→Prop) (c:Code) (k:List It):∀ e a w,hold P cf Q (.code c::k) e a w→Exit.then (c.wpIn (Fw cf.ro) 0 P (hold P cf Q k)) (hold P cf Q k) e a w:=by
 intro e a w h;cases e<;>exact h
theorem mZ (Q:Exit→Act→World→Prop) (i:Nat) (k:List It):∀ e a w,hold P cf Q (.blk i::k) e a w→Exit.inBlock i (hold P cf Q k) e a w:=by
 intro e a w h;cases e<;>exact h
theorem ud {B:Base} {ds:List Deferred} {β:Name→Option Blk} {a:Act} {w:World} {s:St} {o:Oper} {all:Array Oper} {r:List Oper} {k:List It} {Q:Exit→St→Prop} (hB:cf.fits B) (hds:a.defers=ds) (h:Sim B β s a.tmps w)
  (ih:∀ s',run P cf (.ops all r::k) Q s'→ARun P cf (.ops all r::k) Q s') {i:Nat} {l:List Nat} (hl:l.map (all[·]?)=r.map some) (hi:all[i]?=some o)
  (hw:Region.wanted o (yielded all a.tmps)=true) {o':Oper} (ho':o'={ o with guard:=none })
  (hr:(opR P.ti cf.n o.op o.dst s).run (fun s'=>run P cf (.ops all r::k) Q s') (AOk P cf o s (.ops all r::k) Q)∨(opR P.ti cf.n o.op o.dst s).run (fun s'=>run P cf (.ops all r::k) Q s') (AOk P cf o' s (.ops all r::k) Q)) :
  wpOpsIn (Fw cf.ro) 0 P all (hold P cf (lift B ds Q) k) (i::l) a w:=by
 simp only [wpOpsIn,hi,hw,if_true]
 have done:∀ a' w',(a'.defers=ds∧∃ s' β',ARun P cf (.ops all r::k) Q s'∧Sim B β' s' a'.tmps w')→wpOpsIn (Fw cf.ro) 0 P all (hold P cf (lift B ds Q) k) l a' w':=by
  rintro a' w' ⟨hd',s',β',hA,hs⟩
  exact hA B hB ds β' a' w' hd' hs l hl
 have does:Does P B o a w (fun s'=>run P cf (.ops all r::k) Q s')→o.wpIn (Fw cf.ro) 0 P a w (wpOpsIn (Fw cf.ro) 0 P all (hold P cf (lift B ds Q) k) l) (hold P cf (lift B ds Q) k):=by
  rintro ⟨nx,v,w',s',β',hrun,hnx,hf,hs⟩
  have hnd:∀ c,o.op≠.defer c:=by
   intro c hc
   have:∃ d w2,(execOp a.eval o).run P w=.ok (.defer d) w2∨∃ h w2,(execOp a.eval o).run P w=.halt h w2:=by
    simp only [execOp,hc,Sem.run_bind]
    cases (resolve a.eval c o.type).run P w with
    | ok d w2=>exact ⟨d,w2,.inl rfl⟩
    | halt hh w2=>exact ⟨default,w2,.inr ⟨hh,w2,rfl⟩⟩
   obtain ⟨d,w2,h1 | ⟨hh,w3,h1⟩⟩:=this
   ·rw [hrun] at h1;cases h1;rcases hnx with h2 | ⟨h2,_⟩<;>cases h2
   ·rw [hrun] at h1;cases h1
  refine aA hnd hrun hnx (done _ _ ⟨?_,s',β',ih s' hf,hs⟩)
  cases o.dst<;>exact hds
 rcases hr with hr | hr
 ·rw [← hB.1] at hr
  rcases fo h hr with hz | hd
  ·exact Oper.wpIn_mono done (hz B hB ds β a w hds h _)
  ·exact does hd
 ·rw [← hB.1] at hr
  rcases fo h hr with hz | hd
  ·subst ho'
   exact Oper.wpIn_mono done (hz B hB ds β a w hds h (hold P cf (lift B ds Q) k))
  ·exact does hd
theorem xV:∀ (N:Nat) (k:List It) (Q:Exit→St→Prop) (s:St),kmsz k≤N→run P cf k Q s→ARun P cf k Q s:=by
 intro N
 induction N with
 | zero =>
   intro k Q s hN hr
   cases k with
   | nil =>
     rw [run] at hr
     exact fun B hB ds β a w hds h=>⟨hds,s,β,hr,h⟩
   | cons i k=>simp only [kmsz] at hN;have:=i.jw;omega
 | succ N ih =>
   intro k Q s hN hr
   cases k with
   | nil =>
     rw [run] at hr
     exact fun B hB ds β a w hds h=>⟨hds,s,β,hr,h⟩
   | cons i k =>
     have go:∀ k' s',kmsz k'≤N→run P cf k' Q s'→ARun P cf k' Q s':=fun k' s' hk'=>ih k' Q s' hk'
     simp only [kmsz] at hN
     cases i with
     | blk i =>
       simp only [It.msz] at hN
       rw [run] at hr
       exact fun B hB ds β a w hds h=>go k s (by omega) hr B hB ds β a w hds h
     | ops all r =>
       simp only [It.msz] at hN
       cases r with
       | nil =>
         rw [run] at hr
         intro B hB ds β a w hds h l hl
         have:l=[]:=by simpa using hl
         subst this
         exact go k s (by simp at hN;omega) hr B hB ds β a w hds h
       | cons o r =>
         simp only [List.length_cons] at hN
         have hgo:∀ s',run P cf (.ops all r::k) Q s'→ARun P cf (.ops all r::k) Q s':=fun s'=>go _ s' (by simp only [kmsz,It.msz];omega)
         intro B hB ds β a w hds h l hl
         cases l with
         | nil=>simp at hl
         | cons i l =>
           simp only [List.map_cons,List.cons.injEq] at hl
           obtain ⟨hi,hl⟩:=hl
           rw [run] at hr
           cases hg:o.guard with
           | none =>
             rw [hg] at hr
             exact ud hB hds h hgo hl hi (by simp [Region.wanted,hg]) rfl (.inl hr)
           | some q =>
             obtain ⟨j,want⟩:=q
             rw [hg] at hr
             simp only at hr
             split at hr
             ·rename_i t b hgv
              obtain ⟨oj,hj,hjd,hjt⟩:∃ oj,all[j]?=some oj∧oj.dst=some t∧s.fr t=.d (.bool b):=by
               unfold dK at hgv
               split at hgv
               ·rename_i oj hj
                simp only [Option.map_eq_some_iff,Prod.mk.injEq] at hgv
                obtain ⟨t',ht',rfl,hv⟩:=hgv
                exact ⟨oj,hj,ht',hv⟩
               ·cases hgv
              have hv:=h.slots t
              rw [hjt] at hv
              have hb:=hv.bool
              have hlt:t<a.tmps.size:=by
               rcases Nat.lt_or_ge t a.tmps.size with hlt | hge
               ·exact hlt
               ·simp [Array.getD_eq_getD_getElem?,Array.getElem?_eq_none hge] at hb;cases hb
              have hy:yielded all a.tmps j=some b:=by
               simp [yielded,hj,hjd,Array.getElem?_eq_getElem hlt]
               simp [Array.getD_eq_getD_getElem?,hlt] at hb
               rw [hb]
              by_cases hbw:b=want
              ·have hs':Sim B β (s.put t (.d (.bool want))) a.tmps w:=h.setv (by rw [← hbw];exact hv)
               exact ud hB hds hs' hgo hl hi (by simp [Region.wanted,hg,hy,hbw]) rfl (.inr (hr.1 hbw))
              ·have hbn:b=!want:=by cases b<;>cases want<;>simp_all
               have hs':Sim B β (s.put t (.d (.bool (!want)))) a.tmps w:=h.setv (by rw [← hbn];exact hv)
               have hnw:Region.wanted o (yielded all a.tmps)=false:=by simp [Region.wanted,hg,hy,hbw]
               simp only [wpOpsIn,hi,hnw,Bool.false_eq_true,if_false]
               refine ⟨fun _ _=>trivial,?_⟩
               rcases jO (hr.2 hbn) with hz | ⟨hd,hf⟩
               ·exact hz.elim
               ·refine hgo _ hf B hB ds β (a.put o.dst undef) w ?_ (hs'.putd (by rw [hB.1];exact hd) (.tup #[] [] rfl (by simp))) l hl
                cases o.dst<;>exact hds
             ·rename_i t hgv
              obtain ⟨oj,hj,hjd,hjt⟩:∃ oj,all[j]?=some oj∧oj.dst=some t∧s.fr t=.tup []:=by
               unfold dK at hgv
               split at hgv
               ·rename_i oj hj
                simp only [Option.map_eq_some_iff,Prod.mk.injEq] at hgv
                obtain ⟨t',ht',rfl,hv⟩:=hgv
                exact ⟨oj,hj,ht',hv⟩
               ·cases hgv
              have hv:=h.slots t
              rw [hjt] at hv
              have hy:yielded all a.tmps j=none:=by
               rcases Nat.lt_or_ge t a.tmps.size with hlt | hge
               ·have hb:a.tmps.getD t undef=.tuple #[]:=by
                 generalize a.tmps.getD t undef=v at hv
                 cases hv with
                 | tup vs _ hs _ =>
                   have:vs=#[]:=Array.eq_empty_of_size_eq_zero hs
                   rw [this]
                simp [Array.getD_eq_getD_getElem?,hlt] at hb
                simp [yielded,hj,hjd,Array.getElem?_eq_getElem hlt,hb]
               ·simp [yielded,hj,hjd,Array.getElem?_eq_none hge]
              have hnw:Region.wanted o (yielded all a.tmps)=false:=by simp [Region.wanted,hg,hy]
              simp only [wpOpsIn,hi,hnw,Bool.false_eq_true,if_false]
              refine ⟨fun _ _=>trivial,?_⟩
              rcases jO hr with hz | ⟨hd,hf⟩
              ·exact hz.elim
              ·refine hgo _ hf B hB ds β (a.put o.dst undef) w ?_ (h.putd (by rw [hB.1];exact hd) (.tup #[] [] rfl (by simp))) l hl
               cases o.dst<;>exact hds
             ·exact hr.elim
     | code c =>
       simp only [It.msz] at hN
       have hpos:=jw c
       cases c with
       | skip =>
         rw [run] at hr
         exact fun B hB ds β a w hds h=>wpIn_skip (go k s (by omega) hr B hB ds β a w hds h)
       | region id ops draw =>
         cases draw with
         | false =>
           rw [run] at hr
           intro B hB ds β a w hds h
           refine wpIn_region ?_
           refine go (.ops ops ops.toList::k) s (by simp only [kmsz,It.msz,msz] at hN ⊢;omega) hr B hB ds β a w hds h _ ?_
           apply List.ext_getElem?
           intro j
           simp only [List.getElem?_map,Array.getElem?_toList]
           by_cases hj:j<ops.size
           ·simp [hj]
           ·simp [hj]
         | true=>rw [run] at hr;exact hr
       | seq x y =>
         rw [run] at hr
         intro B hB ds β a w hds h
         have:=go (.code x::.code y::k) s (by simp only [kmsz,It.msz,msz] at hN ⊢;omega) hr B hB ds β a w hds h
         exact wpIn_seq (wpIn_mono this (pc _ y k))
       | cond c x y =>
         rw [run] at hr
         intro B hB ds β a w hds h
         split at hr
         ·rename_i t ht
          have hc:=h.ev c
          rw [ht] at hc
          refine wpIn_cond hc.bool ?_
          cases t with
          | true=>exact go (.code x::k) s (by simp only [kmsz,It.msz,msz] at hN ⊢;omega) (hr.1 rfl) B hB ds β a w hds h
          | false=>exact go (.code y::k) s (by simp only [kmsz,It.msz,msz] at hN ⊢;omega) (hr.2 rfl) B hB ds β a w hds h
         ·exact hr.elim
       | block i x =>
         rw [run] at hr
         intro B hB ds β a w hds h
         have:=go (.code x::.blk i::k) s (by simp only [kmsz,It.msz,msz] at hN ⊢;omega) hr B hB ds β a w hds h
         exact wpIn_block (wpIn_mono this (mZ _ i k))
       | exit i =>
         rw [run] at hr
         intro B hB ds β a w hds h
         refine wpIn_exit ?_
         split at hr
         ·rename_i k' hk'
          have hle:=gI _ _ _ hk'
          exact bF _ i k k' a w hk' (go k' s (by omega) hr B hB ds β a w hds h)
         ·rename_i hk'
          exact bG _ i k a w hk' ⟨hds,s,β,hr,h⟩
       | ret =>
         rw [run] at hr
         exact fun B hB ds β a w hds h=>wpIn_ret (eB _ k a w ⟨hds,s,β,hr,h⟩)
       | loop c=>rw [run] at hr;exact hr;all_goals simp
       | rangeFunc f p a0s b=>rw [run] at hr;exact hr;all_goals simp
       | scope c=>rw [run] at hr;exact hr;all_goals simp
       | label l=>rw [run] at hr;exact hr;all_goals simp
       | goto l=>rw [run] at hr;exact hr;all_goals simp
       | refuse y=>rw [run] at hr;exact hr;all_goals simp
theorem aP {k:List It} {Q:Exit→St→Prop} {s:St} (h:run P cf k Q s):ARun P cf k Q s:=xV (kmsz k) k Q s (Nat.le_refl _) h
end
end Go.Ab
namespace Go.Ab
mutual
def AV.ren (τ:Name→Name):AV→AV
 | .un=>.un
 | .d x=>.d x
 | .vw p o l=>.vw (τ p) o l
 | .bx p c=>.bx (τ p) c
 | .el p i c=>.el (τ p) i c
 | .mp p=>.mp (τ p)
 | .it p=>.it (τ p)
 | .agg cs=>.agg (dM τ cs)
 | .tup cs=>.tup (dM τ cs)
 | .clo f cs=>.clo f (dM τ cs)
def dM (τ:Name→Name):List AV→List AV
 | []=>[]
 | x::r=>x.ren τ::dM τ r
end
def Ob.ren (τ:Name→Name):Ob→Ob
 | .arrT ty w xs=>.arrT ty w xs
 | .boxT ty cs=>.boxT ty (dM τ cs)
 | .map es=>.map es
 | .siter s i=>.siter s i
 | .miter m c es=>.miter m c es
def nmb (used:List Nat):Name→Bool
 | []=>false
 | h::_=>used.contains h
mutual
def AV.inU (u:List Nat):AV→Bool
 | .un=>true
 | .d _=>true
 | .vw p _ _=>nmb u p
 | .bx p _=>nmb u p
 | .el p _ _=>nmb u p
 | .mp p=>nmb u p
 | .it p=>nmb u p
 | .agg cs=>dC u cs
 | .tup cs=>dC u cs
 | .clo _ cs=>dC u cs
def dC (u:List Nat):List AV→Bool
 | []=>true
 | x::r=>x.inU u && dC u r
end
def Ob.inU (u:List Nat):Ob→Bool
 | .boxT _ cs=>dC u cs
 | _=>true
theorem gh {u:List Nat} {p:Name} (h:nmb u p=true):nm u p:=by
 cases p with
 | nil=>cases h
 | cons a t=>exact ⟨a,t,rfl,by simpa [nmb] using h⟩
theorem bh (τ:Name→Name):∀ l:List AV,(dM τ l).length=l.length
 | []=>rfl
 | _::r=>by simp [dM,bh τ r]
theorem bT (τ:Name→Name):∀ (l:List AV) (i:Nat),(dM τ l)[i]?=(l[i]?).map (AV.ren τ)
 | [],i=>by simp [dM]
 | x::r,0=>by simp [dM]
 | x::r,i+1=>by simp [dM,bT τ r i]
theorem eG {u:List Nat}:∀ {l:List AV},dC u l=true→∀ (i:Nat) (x:AV),l[i]?=some x→x.inU u=true
 | [],_,i,x,h=>by simp at h
 | y::r,h,0,x,hx=>by simp [dC] at h hx;subst hx;exact h.1
 | y::r,h,i+1,x,hx=>by simp only [dC,Bool.and_eq_true] at h;exact eG h.2 i x (by simpa using hx)
section
variable {H:Array Obj} {own own':Nat→Prop} {used used':List Nat} {hp hp':Name→Option Ob} {β β':Name→Option Blk}
theorem VR.ren {τ:Name→Name} (hr:∀ v d,Rep H own v d→Rep H own' v d) (hob:∀ p o,hp' p=some o→hp (τ p)=some (o.ren τ)∧β' p=β (τ p)) :
  ∀ {v:Value} {y:AV},VR H own used hp β v y→∀ x:AV,y=x.ren τ→x.inU used'=true→VR H own' used' hp' β' v x:=by
 intro v y h
 induction h with
 | un v=>intro x e hu;cases x<;>simp [AV.ren] at e;exact .un v
 | d v z h=>intro x e hu;cases x<;>simp [AV.ren] at e;subst e;exact .d v _ (hr v _ h)
 | vw v p off len hn h1 h =>
   intro x e hu;cases x<;>simp [AV.ren] at e
   obtain ⟨rfl,rfl,rfl⟩:=e
   refine .vw v _ _ _ (gh hu) h1 fun ty w xs hx=>?_
   obtain ⟨ho,hb⟩:=hob _ _ hx
   rw [hb];exact h _ w xs ho
 | bx v p c hn h1 h =>
   intro x e hu;cases x<;>simp [AV.ren] at e
   obtain ⟨rfl,rfl⟩:=e
   refine .bx v _ _ (gh hu) h1 fun ty cs hx=>?_
   obtain ⟨ho,hb⟩:=hob _ _ hx
   rw [hb];exact h _ _ ho
 | el v p i c hn h1 h =>
   intro x e hu;cases x<;>simp [AV.ren] at e
   obtain ⟨rfl,rfl,rfl⟩:=e
   refine .el v _ _ _ (gh hu) h1 fun ty w xs hx=>?_
   obtain ⟨ho,hb⟩:=hob _ _ hx
   rw [hb];exact h _ w xs ho
 | mp v p hn h1 h =>
   intro x e hu;cases x<;>simp [AV.ren] at e
   subst e
   refine .mp v _ (gh hu) h1 fun es hx=>?_
   obtain ⟨ho,hb⟩:=hob _ _ hx
   rw [hb];exact h _ ho
 | its v p hn h1 h h' =>
   intro x e hu;cases x<;>simp [AV.ren] at e
   subst e
   refine .its v _ (gh hu) h1 (fun s i hx=>?_) (fun m c i hx=>?_)
   ·obtain ⟨ho,hb⟩:=hob _ _ hx
    rw [hb];exact h _ _ ho
   ·obtain ⟨ho,hb⟩:=hob _ _ hx
    rw [hb];exact h' _ _ _ ho
 | agg vs cs hs hc h0 ih =>
   intro x e hu;cases x<;>simp [AV.ren] at e
   subst e
   rename_i ds
   refine .agg vs ds (by rw [hs,bh]) hc fun i x hi=>ih i _ (by rw [bT,hi];rfl) x rfl (eG hu i x hi)
 | tup vs cs hs h0 ih =>
   intro x e hu;cases x<;>simp [AV.ren] at e
   subst e
   rename_i ds
   refine .tup vs ds (by rw [hs,bh]) fun i x hi=>ih i _ (by rw [bT,hi];rfl) x rfl (eG hu i x hi)
 | clo f vs cs hs h0 ih =>
   intro x e hu;cases x<;>simp [AV.ren] at e
   obtain ⟨rfl,rfl⟩:=e
   rename_i ds
   refine .clo _ vs ds (by rw [hs,bh]) fun i x hi=>ih i _ (by rw [bT,hi];rfl) x rfl (eG hu i x hi)
theorem OR.ren {τ:Name→Name} (hr:∀ v d,Rep H own v d→Rep H own' v d) (hob:∀ p o,hp' p=some o→hp (τ p)=some (o.ren τ)∧β' p=β (τ p)) {p:Name} {o:Ob} (hb:β' p=β (τ p)) (hu:o.inU used'=true)
  (h:OR H own used hp β (τ p) (o.ren τ)):OR H own' used' hp' β' p o:=by
 cases o with
 | arrT ty w xs =>
   rcases h with ⟨h1,h2⟩ | ⟨k,c,e,hk,hc,hz,hl,hw,h⟩
   ·exact .inl ⟨hb.trans h1,h2⟩
   ·exact .inr ⟨k,c,e,hb.trans hk,hc,hz,hl,hw,fun i x j d hi hj=>hr _ _ (h i x j d hi hj)⟩
 | boxT ty cs =>
   obtain ⟨k,c,e,hk,ho,hc,hz,hl,h1,h⟩:=h
   refine ⟨k,c,e,hb.trans hk,ho,hc,hz,by rw [hl,bh],h1,fun j x hj=>?_⟩
   exact (h j (x.ren τ) (by rw [bT,hj];rfl)).ren hr hob x rfl (eG hu j x hj)
 | map es =>
   obtain ⟨k,ents,clock,hk,hc,hz,h⟩:=h
   refine ⟨k,ents,clock,hb.trans hk,hc,hz,fun i x hi=>?_⟩
   obtain ⟨en,h1,h2,h3⟩:=h i x hi
   exact ⟨en,h1,hr _ _ h2,hr _ _ h3⟩
 | siter s pos =>
   obtain ⟨k,hk,hc⟩:=h
   exact ⟨k,hb.trans hk,hc⟩
 | miter _ _ _ =>
   obtain ⟨k,b,since,seen,last,hk,hc,hm,hi⟩:=h
   exact ⟨k,b,since,seen,last,hb.trans hk,hc,hr _ _ hm,hi⟩
end
structure Le (U:List Nat) (τ:Name→Name) (s s2:St):Prop where
 fr:∀ t,s2.fr t=.un∨s.fr t=(s2.fr t).ren τ∧(s2.fr t).inU s2.used=true
 hp:∀ p o,s2.hp p=some o→s.hp (τ p)=some (o.ren τ)∧o.inU s2.used=true∧nm s2.used p
 inj:∀ p q,s2.hp p≠none→s2.hp q≠none→τ p=τ q→p=q
 us:∀ x∈U,x∈s2.used
 stay:∀ p,nm U p→s2.hp p≠none→τ p=p
theorem Sim.le {B:Base} {β:Name→Option Blk} {s s2:St} {tm:Array Value} {w:World} {τ:Name→Name} (h:Sim B β s tm w) (hle:Le B.U0 τ s s2):∃ β2,Sim B β2 s2 tm w∧∀ p,s2.hp p≠none→β2 p=β (τ p):=by
 have key:∃ β2:Name→Option Blk,(∀ p,s2.hp p≠none→β2 p=β (τ p))∧∀ p,s2.hp p=none→β2 p=β p:=by
  refine ⟨fun p=>if (s2.hp p).isSome then β (τ p) else β p,fun p hp=>?_,fun p hp=>?_⟩
  ·cases h:s2.hp p with
   | none=>exact absurd h hp
   | some o=>simp [h]
  ·simp [hp]
 obtain ⟨β2,hb,hb'⟩:=key
 have hob:∀ p o,s2.hp p=some o→s.hp (τ p)=some (o.ren τ)∧β2 p=β (τ p):=fun p o hp=>⟨(hle.hp p o hp).1,hb p (by rw [hp];simp)⟩
 have hown:∀ b,s2.own B.A β2 b→s.own B.A β b:=by
  rintro b (hA | ⟨p,k,hp,hk,rfl⟩)
  ·exact .inl hA
  ·cases ho:s2.hp p with
   | none=>exact absurd ho hp
   | some o =>
     obtain ⟨h1,h2⟩:=hob p o ho
     exact .inr ⟨τ p,k,by rw [h1];simp,by rw [← h2];exact hk,rfl⟩
 have hr:∀ v d,Rep w.heap (s.own B.A β) v d→Rep w.heap (s2.own B.A β2) v d:=fun v d hd=>hd.mono (fun _ _ _=>rfl) (fun b _=>hown b)
 refine ⟨β2,{ tms:=h.tms,io:=h.io,size:=h.size,frame:=h.frame,slots:=fun i=>?_,objs:=fun p o hp=>?_,blocks:=fun p k hp hk=>?_,inj:=fun p q k l hp hq hk hl e=>?_,us:=hle.us,stay:=fun p hp=>?_ },hb⟩
 ·rcases hle.fr i with e | ⟨e,hu⟩
  ·rw [e];exact .un _
  ·exact (h.slots i).ren hr hob _ e hu
 ·obtain ⟨h1,h2,h3⟩:=hle.hp p o hp
  exact ⟨h3,OR.ren hr hob (hb p (by rw [hp];simp)) h2 (h.objs _ _ h1).2⟩
 ·rw [hb p hp] at hk
  cases ho:s2.hp p with
  | none=>exact absurd ho hp
  | some o=>exact h.blocks (τ p) k (by rw [(hle.hp p o ho).1];simp) hk
 ·rw [hb p hp] at hk;rw [hb q hq] at hl
  have live:∀ p,s2.hp p≠none→s.hp (τ p)≠none:=fun p hp=>by
   cases ho:s2.hp p with
   | none=>exact absurd ho hp
   | some o=>rw [(hle.hp p o ho).1];simp
  exact hle.inj p q hp hq (h.inj _ _ k l (live p hp) (live q hq) hk hl e)
 ·cases ho:s2.hp p with
  | none=>rw [hb' p ho];exact h.stay p hp
  | some o =>
    have hpn:s2.hp p≠none:=by rw [ho];simp
    rw [hb p hpn,hle.stay p hp hpn];exact h.stay p hp
def tau (l:List (Name × Name)) (p:Name):Name:=lkA p l p
def frL (τ:Name→Name) (u:List Nat) (s:St):List (Nat × AV)→Prop
 | []=>True
 | q::r=>(s.fr q.1=q.2.ren τ∧q.2.inU u=true)∧frL τ u s r
def hpL (τ:Name→Name) (u:List Nat) (s:St):List (Name × Ob)→Prop
 | []=>True
 | q::r=>(s.hp (τ q.1)=some (q.2.ren τ)∧q.2.inU u=true∧nmb u q.1=true)∧hpL τ u s r
def kI (τ:Name→Name):List (Name × Ob)→Prop
 | []=>True
 | q::r=>(∀ x∈r,τ q.1≠τ x.1)∧kI τ r
def xj (U:List Nat) (τ:Name→Name):List (Name × Ob)→Prop
 | []=>True
 | q::r=>(nmb U q.1=true→τ q.1=q.1)∧xj U τ r
def LeL (U:List Nat) (τ:Name→Name) (s:St) (fr:List (Nat × AV)) (hp:List (Name × Ob)) (u:List Nat):Prop :=
 frL τ u s fr∧hpL τ u s hp∧kI τ hp∧(U.all fun x=>u.contains x)=true∧xj U τ hp
theorem lx {α β:Type} [DecidableEq α] {z:β}:∀ {l:List (α × β)} {i:α},lkA z l i=z∨(i,lkA z l i)∈l
 | [],i=>.inl rfl
 | q::r,i=>by
   simp only [lkA]
   split
   ·rename_i e;subst e;exact .inr List.mem_cons_self
   ·rcases lx (z:=z) (l:=r) (i:=i) with h | h
    ·exact .inl h
    ·exact .inr (List.mem_cons_of_mem _ h)
theorem wD {τ:Name→Name} {u:List Nat} {s:St}:∀ {l:List (Nat × AV)},frL τ u s l→∀ q∈l,s.fr q.1=q.2.ren τ∧q.2.inU u=true
 | [],_,q,h=>by simp at h
 | _::r,h,q,hq=>by
   rcases List.mem_cons.1 hq with rfl | hq
   ·exact h.1
   ·exact wD h.2 q hq
theorem wq {τ:Name→Name} {u:List Nat} {s:St}:∀ {l:List (Name × Ob)},hpL τ u s l→∀ q∈l,s.hp (τ q.1)=some (q.2.ren τ)∧q.2.inU u=true∧nmb u q.1=true
 | [],_,q,h=>by simp at h
 | _::r,h,q,hq=>by
   rcases List.mem_cons.1 hq with rfl | hq
   ·exact h.1
   ·exact wq h.2 q hq
theorem gW {τ:Name→Name}:∀ {l:List (Name × Ob)},kI τ l→∀ q∈l,∀ r∈l,τ q.1=τ r.1→q.1=r.1
 | [],_,q,h,_,_,_=>by simp at h
 | a::l,h,q,hq,r,hr,e=>by
   rcases List.mem_cons.1 hq with h1 | h1<;>rcases List.mem_cons.1 hr with h2 | h2
   ·rw [h1,h2]
   ·rw [h1] at e;exact absurd e (h.1 r h2)
   ·rw [h2] at e;exact absurd e.symm (h.1 q h1)
   ·exact gW h.2 q h1 r h2 e
theorem o5 {U:List Nat} {τ:Name→Name}:∀ {l:List (Name × Ob)},xj U τ l→∀ q∈l,nmb U q.1=true→τ q.1=q.1
 | [],_,q,h,_=>by simp at h
 | _::r,h,q,hq,hn=>by
   rcases List.mem_cons.1 hq with rfl | hq
   ·exact h.1 hn
   ·exact o5 h.2 q hq hn
theorem fj {fr:List (Nat × AV)} {hp:List (Name × Ob)} {u:List Nat} {p:Name} {o:Ob} (h:(mk fr hp u).hp p=some o):(p,o)∈hp:=by
 have:=lx (z:=(none:Option Ob)) (l:=hp.map fun q=>(q.1,some q.2)) (i:=p)
 have e:lkA none (hp.map fun q=>(q.1,some q.2)) p=some o:=h
 rw [e] at this
 rcases this with h | h
 ·cases h
 ·obtain ⟨q,hq,e⟩:=List.mem_map.1 h
  cases e;exact hq
theorem LeL.le {U:List Nat} {τ:Name→Name} {s:St} {fr:List (Nat × AV)} {hp:List (Name × Ob)} {u:List Nat} (h:LeL U τ s fr hp u):Le U τ s (mk fr hp u):=by
 obtain ⟨h1,h2,h3,h4,h5⟩:=h
 have live:∀ p,(mk fr hp u).hp p≠none→∃ o,(p,o)∈hp:=fun p hp'=>by
  cases ho:(mk fr hp u).hp p with
  | none=>exact absurd ho hp'
  | some o=>exact ⟨o,fj ho⟩
 refine ⟨fun t=>?_,fun p o hp'=>?_,fun p q hp' hq' e=>?_,fun x hx=>?_,fun p hp' hl=>?_⟩
 ·rcases lx (z:=AV.un) (l:=fr) (i:=t) with e | hm
  ·exact .inl e
  ·exact .inr (wD h1 _ hm)
 ·obtain ⟨a,b,c⟩:=wq h2 _ (fj hp')
  exact ⟨a,b,gh c⟩
 ·obtain ⟨o,ho⟩:=live p hp'
  obtain ⟨o',ho'⟩:=live q hq'
  exact gW h3 _ ho _ ho' e
 ·have:=List.all_eq_true.1 h4 x hx
  show x∈u
  simpa using this
 ·obtain ⟨o,ho⟩:=live p hl
  refine o5 h5 _ ho ?_
  obtain ⟨a,t,rfl,ha⟩:=hp'
  simpa [nmb] using ha
section
variable {P:Program} {cf:Cf}
def lq (P:Program) (cf:Cf) (next:St→Prop) (k:List It) (Q:Exit→St→Prop) (e:Exit) (s:St):Prop :=
 match e with
 | .normal=>next s
 | .exit i=>goK P cf (eJ i k) i Q s
 | .ret=>Q .ret s
 | _=>False
theorem yf (next:St→Prop) (k:List It) (Q:Exit→St→Prop) (s:St):lq P cf next k Q .normal s=next s:=rfl
theorem GU (next:St→Prop) (k:List It) (Q:Exit→St→Prop) (s:St):lq P cf next k Q .ret s=Q .ret s:=rfl
theorem AOk.le {o:Oper} {s s2:St} {k:List It} {Q:Exit→St→Prop} {τ:Name→Name} (hle:Le cf.U τ s s2) (h:AOk P cf o s2 k Q):AOk P cf o s k Q :=
 fun B hB ds β a w hds hs Q'=>let ⟨β2,hs2,_⟩:=hs.le (τ:=τ) (by rw [hB.2.1];exact hle);h B hB ds β2 a w hds hs2 Q'
theorem ACk.le {c:Code} {s s2:St} {k:List It} {Q:Exit→St→Prop} {τ:Name→Name} (hle:Le cf.U τ s s2) (h:ACk P cf c s2 k Q):ACk P cf c s k Q :=
 fun B hB ds β a w hds hs=>let ⟨β2,hs2,_⟩:=hs.le (τ:=τ) (by rw [hB.2.1];exact hle);h B hB ds β2 a w hds hs2
end
end Go.Ab
namespace Go.Ab
def aB:Nat→List AV→List (Nat × AV)
 | _,[]=>[]
 | i,x::r=>(i,x)::aB (i+1) r
def HCall (P:Program) (G:List (Nat × Obj)) (f:FuncId) (args:List AV) (hp:List (Name × Ob)) (u:List Nat) (Q:AV→List (Name × Ob)→Prop):Prop :=
 (∀ vs w,(callFunc f vs).run P w=.ok (.enter f vs) w) ∧
 ∀ (B:Base) (β:Name→Option Blk) (vs:Array Value) (w:World),B.n=args.length→B.H0=w.heap→B.U0=u→B.G=G→Sim B β (mk (aB 0 args) hp u) vs w →
  CallsIn Fence.wide 0 P f vs w fun e w'=>∃ v r hp' u' β',e=.returned v∧Q r hp'∧Sim { B with n:=1 } β' (mk [(0,r)] hp' u') #[v] w'
theorem HCall.mono {P:Program} {G:List (Nat × Obj)} {f:FuncId} {args:List AV} {hp:List (Name × Ob)} {u:List Nat} {Q Q':AV→List (Name × Ob)→Prop} (h:HCall P G f args hp u Q) (hq:∀ r hp',Q r hp'→Q' r hp'):HCall P G f args hp u Q' :=
 ⟨h.1,fun B β vs w h1 h2 h3 h4 h5=>(h.2 B β vs w h1 h2 h3 h4 h5).mono fun _ _ ⟨v,r,hp',u',β',he,hQ,hs⟩=>⟨v,r,hp',u',β',he,hq _ _ hQ,hs⟩⟩
theorem aN:∀ (l:List AV) (i t:Nat),lkA AV.un (aB i l) t=if i≤t then (l[t-i]?).getD .un else .un
 | [],i,t=>by simp [aB,lkA]
 | x::r,i,t=>by
   simp only [aB,lkA,aN r (i+1) t]
   by_cases h1:t=i
   ·subst h1;simp
   ·rw [if_neg h1]
    by_cases h2:i+1≤t
    ·rw [if_pos h2,if_pos (by omega),show t-i=(t-(i+1))+1 by omega,List.getElem?_cons_succ]
    ·rw [if_neg h2,if_neg (by omega)]
def fg (P:Program) (s:St):List ResultVar→R (List AV)
 | []=>.ok []
 | .tmp t::r=>(fg P s r).bind fun l=>.ok (s.fr t::l)
 | .cell p ty::r=>(iM (P.ti ty) s.hp (s.fr p)).bind fun x=>(fg P s r).bind fun l=>.ok (x::l)
def bZ:List AV→AV
 | [x]=>x
 | l=>.tup l
def RX {α:Type}:R α→(α→Prop)→Prop
 | .ok a,φ=>φ a
 | .need p r,φ=>p∧RX r φ
 | .no,_=>False
def mD (s:St) (x:AV):St:={ s with fr:=fun t=>if t=0 then x else .un }
def fq (P:Program) (rs:List ResultVar) (u:List Nat) (Q:AV→List (Name × Ob)→Prop) (e:Exit) (s:St):Prop :=
 match e with
 | .ret=>RX (fg P s rs) fun l=>∃ r hp' u' τ,Q r hp'∧LeL u τ (mD s (bZ l)) [(0,r)] hp' u'
 | .normal=>RX (fg P s rs) fun l=>∃ r hp' u' τ,Q r hp'∧LeL u τ (mD s (bZ l)) [(0,r)] hp' u'
 | _=>False
section
variable {P:Program}
def kF (tm:Array Value):ResultVar→Sem Value
 | .tmp t=>pure (tm.getD t undef)
 | .cell a t=>do loadVar t (← asAddr (tm.getD a undef))
theorem RX.RV {α:Type} {φ ψ:α→Prop}:∀ {r:R α},RX r φ→RV r ψ→∃ a,φ a∧ψ a
 | .ok a,h,g=>⟨a,h,g⟩
 | .need _ _,h,g=>RX.RV h.2 (g h.1)
 | .no,h,_=>h.elim
theorem iY {B:Base} {β:Name→Option Blk} {s:St} {tm:Array Value} {w:World} (h:Sim B β s tm w):∀ (rs:List ResultVar),
  RV (fg P s rs) fun l=>∃ vs:List Value,(rs.mapM (kF tm)).run P w=.ok vs w∧vs.length=l.length ∧
   ∀ (i:Nat) x,l[i]?=some x→VR w.heap (s.own B.A β) s.used s.hp β (vs.getD i undef) x
 | []=>⟨[],by simp,rfl,by simp⟩
 | .tmp t::r=>RV.bind (fun l ⟨vs,h1,h2,h3⟩=>⟨tm.getD t undef::vs,by simp [List.mapM_cons,kF,h1],by simp [h2],fun i x hi=>by
  cases i with
  | zero=>simp at hi;subst hi;exact h.slots t
  | succ i=>simpa using h3 i x (by simpa using hi)⟩) (iY h r)
 | .cell p ty::r=>RV.bind (fun y ⟨v,hv,hy⟩=>RV.bind (fun l ⟨vs,h1,h2,h3⟩=>⟨v::vs,by
  have:(kF tm (.cell p ty)).run P w=.ok v w:=by
   show (do loadVar ty (← asAddr (tm.getD p undef)):Sem Value).run P w=.ok v w
   cases hp:tm.getD p undef with
   | pointer a =>
     cases a with
     | none=>rw [hp] at hv;simp [Instr.loadAt,Instr.sureAddr] at hv
     | some a=>rw [hp] at hv;simpa only [Instr.loadAt,Instr.sureAddr,asAddr,Sem.run_bind,Sem.run_pure,Result.andThen_ok] using hv
   | _=>rw [hp] at hv;simp [Instr.loadAt,Instr.sureAddr] at hv
  simp [List.mapM_cons,this,h1],by simp [h2],fun i x hi=>by
  cases i with
  | zero=>simp at hi;subst hi;exact hy
  | succ i=>simpa using h3 i x (by simpa using hi)⟩) (iY h r)) (mB (P:=P) (t:=ty) h (h.slots p))
theorem cz {B:Base} {β:Name→Option Blk} {s:St} {tm:Array Value} {w:World} (h:Sim B β s tm w) (fn:Func) {φ:List AV→Prop} (hr:RX (fg P s fn.results.toList) φ) :
  ∃ l v,φ l∧(results fn tm).run P w=.ok v w∧VR w.heap (s.own B.A β) s.used s.hp β v (bZ l):=by
 obtain ⟨l,hφ,vs,h1,h2,h3⟩:=RX.RV hr (iY (P:=P) h fn.results.toList)
 refine ⟨l,(if vs.length=1 then vs.getD 0 undef else .tuple vs.toArray),hφ,?_,?_⟩
 ·have hm:(fn.results.mapM (kF tm)).run P w=.ok vs.toArray w:=by
   rw [Array.mapM_eq_mapM_toList]
   simp only [Sem.run_map,h1,Result.andThen_ok]
  have e:results fn tm=(do let vs ← fn.results.mapM (kF tm);pure (if h:vs.size=1 then vs[0] else .tuple vs)):=by
   unfold results
   have:(fun x:ResultVar=>match x with | .tmp t=>(pure (tm.getD t undef):Sem Value) | .cell a t=>do loadVar t (← asAddr (tm.getD a undef)))=kF tm:=by
    funext x;cases x<;>rfl
   rw [← this];rfl
  rw [e,Sem.run_bind,hm]
  simp only [Result.andThen_ok,Sem.run_pure,List.size_toArray]
  by_cases hl:vs.length=1
  ·match vs,hl with
   | [v],_=>simp
  ·rw [if_neg hl];simp [hl]
 ·match l,h2,h3 with
  | [x],h2,h3 =>
    simp only [List.length_cons,List.length_nil] at h2
    rw [if_pos h2]
    exact h3 0 x rfl
  | [],h2,h3 =>
    rw [if_neg (by rw [h2];simp)]
    exact .tup _ _ (by simpa using h2) (fun i x hi=>by simp at hi)
  | x::y::r,h2,h3 =>
    rw [if_neg (by rw [h2];simp)]
    refine .tup _ _ (by simpa using h2) (fun i z hi=>?_)
    have:=h3 i z hi
    simpa [Array.getD_eq_getD_getElem?,List.getD_eq_getElem?_getD] using this
theorem Bx {G:List (Nat × Obj)} {f:FuncId} {fn:Func} {c:Code} {args:List AV} {hp:List (Name × Ob)} {u:List Nat} {Q:AV→List (Name × Ob)→Prop} (hf:P.funcs[f]?=some fn) (hb:fn.body=some c)
  (he:∀ vs w,(callFunc f vs).run P w=.ok (.enter f vs) w) (hn:args.length≤fn.ntmps)
  {Q0:Exit→St→Prop} (hQ0:∀ e s,Q0 e s→fq P fn.results.toList u Q e s)
  (h:run P ⟨fn.ntmps,none,G,u⟩ [.code c] Q0 (mk (aB 0 args) hp u)):HCall P G f args hp u Q:=by
 refine ⟨he,fun B β vs w h1 h2 h3 h4 hs=>?_⟩
 have hsz:vs.size=args.length:=hs.tms.trans h1
 have hs':Sim { B with n:=fn.ntmps } β (mk (aB 0 args) hp u) (vs++Array.replicate (fn.ntmps-vs.size) undef) w:=by
  refine { hs with tms:=by simp;omega,slots:=fun t=>?_ }
  have:=hs.slots t
  by_cases ht:t<vs.size
  ·have e:(vs++Array.replicate (fn.ntmps-vs.size) undef).getD t undef=vs.getD t undef:=by
    simp [Array.getD_eq_getD_getElem?,Array.getElem?_append,ht]
   rw [e];exact this
  ·have e:(mk (aB 0 args) hp u).fr t=.un:=by
    rw [cS,aN,if_pos (Nat.zero_le _),List.getElem?_eq_none (by omega)];rfl
   rw [e];exact .un _
 have hrun:=aP h { B with n:=fn.ntmps } ⟨rfl,h3,h4⟩ [] β { tmps:=vs++Array.replicate (fn.ntmps-vs.size) undef,defers:=[] } w rfl hs'
 refine callsIn_of_wp hf hb trivial (wpIn_mono (F:=Fence.wide) hrun fun e a' w' hq=>?_)
 obtain ⟨hd,s',β',hq,hsim⟩:=hq
 have hq:=hQ0 _ _ hq
 have fin:RX (fg P s' fn.results.toList) (fun l=>∃ r hp' u' τ,Q r hp'∧LeL u τ (mD s' (bZ l)) [(0,r)] hp' u') →
   a'.defers=[]∧∃ v,(results fn a'.tmps).run P w'=.ok v w'∧∃ v' r hp' u' β',Ending.returned v=.returned v'∧Q r hp'∧Sim { B with n:=1 } β' (mk [(0,r)] hp' u') #[v'] w':=by
  intro hx
  obtain ⟨l,v,⟨r,hp',u',τ,hQ,hle⟩,hr,hv⟩:=cz hsim fn hx
  have hret:Sim { B with n:=1 } β' (mD s' (bZ l)) #[v] w':=by
   refine { tms:=rfl,io:=hsim.io,size:=hsim.size,frame:=hsim.frame,slots:=fun t=>?_,objs:=hsim.objs,blocks:=hsim.blocks,inj:=hsim.inj,us:=hsim.us,stay:=hsim.stay }
   show VR w'.heap (s'.own B.A β') s'.used s'.hp β' _ (if t=0 then bZ l else .un)
   by_cases ht:t=0
   ·subst ht;rw [if_pos rfl];exact hv
   ·rw [if_neg ht];exact .un _
  obtain ⟨β2,hs2,_⟩:=hret.le (τ:=τ) (by show Le B.U0 τ _ _;rw [h3];exact hle.le)
  exact ⟨hd,v,hr,v,r,hp',u',β2,rfl,hQ,hs2⟩
 cases e with
 | normal=>exact fin hq
 | ret=>exact fin hq
 | exit i=>exact hq.elim
 | goto l=>exact hq.elim
 | panic c=>exact hq.elim
 | outgrown=>exact hq.elim
def dV (σ:Name→Name) (d:Nat) (chp:List (Name × Ob)) (p:Name):Name:=if chp.any (fun q=>q.1 == p) then σ p else d::p
def aft (s:St) (σ:Name→Name) (d:Nat) (chp hp':List (Name × Ob)) (r:AV):St :=
 { fr:=de s.fr d (r.ren (dV σ d chp)),used:=d::s.used, hp:=fun q=>lkA (lkA (s.hp q) (chp.map fun x=>(σ x.1,none)) q) (hp'.map fun x=>(dV σ d chp x.1,some (x.2.ren (dV σ d chp)))) q }
theorem VR.ren' {H:Array Obj} {own own':Nat→Prop} {used used':List Nat} {hp hp':Name→Option Ob} {β β':Name→Option Blk} {σ:Name→Name} (hr:∀ v d,Rep H own v d→Rep H own' v d)
  (hu:∀ p,nm used p→nm used' (σ p)) (hob:∀ p,nm used p→∀ o',hp' (σ p)=some o'→∃ o,hp p=some o∧o'=o.ren σ∧β' (σ p)=β p) :
  ∀ {v:Value} {x:AV},VR H own used hp β v x→VR H own' used' hp' β' v (x.ren σ):=by
 intro v x h
 induction h with
 | un v=>exact .un v
 | d v z h=>exact .d v _ (hr v _ h)
 | vw v p off len hn h1 h =>
   refine .vw v _ _ _ (hu p hn) h1 fun ty w xs hx=>?_
   obtain ⟨o,ho,e,hb⟩:=hob p hn _ hx
   cases o<;>simp [Ob.ren] at e
   obtain ⟨rfl,rfl,rfl⟩:=e
   rw [hb];exact h _ _ _ ho
 | bx v p c hn h1 h =>
   refine .bx v _ _ (hu p hn) h1 fun ty cs hx=>?_
   obtain ⟨o,ho,e,hb⟩:=hob p hn _ hx
   cases o<;>simp [Ob.ren] at e
   rw [hb];exact h _ _ ho
 | el v p i c hn h1 h =>
   refine .el v _ _ _ (hu p hn) h1 fun ty w xs hx=>?_
   obtain ⟨o,ho,e,hb⟩:=hob p hn _ hx
   cases o<;>simp [Ob.ren] at e
   obtain ⟨rfl,rfl,rfl⟩:=e
   rw [hb];exact h _ _ _ ho
 | mp v p hn h1 h =>
   refine .mp v _ (hu p hn) h1 fun es hx=>?_
   obtain ⟨o,ho,e,hb⟩:=hob p hn _ hx
   cases o<;>simp [Ob.ren] at e
   rw [hb];exact h _ ho
 | its v p hn h1 h h' =>
   refine .its v _ (hu p hn) h1 (fun s i hx=>?_) (fun m c i hx=>?_)
   ·obtain ⟨o,ho,e,hb⟩:=hob p hn _ hx
    cases o<;>simp [Ob.ren] at e
    rw [hb];exact h _ _ ho
   ·obtain ⟨o,ho,e,hb⟩:=hob p hn _ hx
    cases o<;>simp [Ob.ren] at e
    rw [hb];exact h' _ _ _ ho
 | agg vs cs hs hc h0 ih => 
   refine .agg vs _ (by rw [hs,bh]) hc fun i x hi=>?_
   rw [bT,Option.map_eq_some_iff] at hi
   obtain ⟨y,hy,rfl⟩:=hi
   exact ih i y hy
 | tup vs cs hs h0 ih => 
   refine .tup vs _ (by rw [hs,bh]) fun i x hi=>?_
   rw [bT,Option.map_eq_some_iff] at hi
   obtain ⟨y,hy,rfl⟩:=hi
   exact ih i y hy
 | clo f vs cs hs h0 ih => 
   refine .clo f vs _ (by rw [hs,bh]) fun i x hi=>?_
   rw [bT,Option.map_eq_some_iff] at hi
   obtain ⟨y,hy,rfl⟩:=hi
   exact ih i y hy
theorem OR.ren' {H:Array Obj} {own own':Nat→Prop} {used used':List Nat} {hp hp':Name→Option Ob} {β β':Name→Option Blk} {σ:Name→Name} (hr:∀ v d,Rep H own v d→Rep H own' v d)
  (hu:∀ p,nm used p→nm used' (σ p)) (hob:∀ p,nm used p→∀ o',hp' (σ p)=some o'→∃ o,hp p=some o∧o'=o.ren σ∧β' (σ p)=β p) {p:Name} {o:Ob} (hb:β' (σ p)=β p) (h:OR H own used hp β p o) :
  OR H own' used' hp' β' (σ p) (o.ren σ):=by
 cases o with
 | arrT ty w xs =>
   rcases h with ⟨h1,h2⟩ | ⟨k,c,e,hk,hc,hz,hl,hw,h⟩
   ·exact .inl ⟨hb.trans h1,h2⟩
   ·exact .inr ⟨k,c,e,hb.trans hk,hc,hz,hl,hw,fun i x j d hi hj=>hr _ _ (h i x j d hi hj)⟩
 | boxT ty cs =>
   obtain ⟨k,c,e,hk,ho,hc,hz,hl,h1,h⟩:=h
   refine ⟨k,c,e,hb.trans hk,ho,hc,hz,by rw [hl,bh],h1,fun j x hj=>?_⟩
   rw [bT,Option.map_eq_some_iff] at hj
   obtain ⟨y,hy,rfl⟩:=hj
   exact (h j y hy).ren' hr hu hob
 | map es =>
   obtain ⟨k,ents,clock,hk,hc,hz,h⟩:=h
   refine ⟨k,ents,clock,hb.trans hk,hc,hz,fun i x hi=>?_⟩
   obtain ⟨en,h1,h2,h3⟩:=h i x hi
   exact ⟨en,h1,hr _ _ h2,hr _ _ h3⟩
 | siter s pos =>
   obtain ⟨k,hk,hc⟩:=h
   exact ⟨k,hb.trans hk,hc⟩
 | miter _ _ _ =>
   obtain ⟨k,b,since,seen,last,hk,hc,hm,hi⟩:=h
   exact ⟨k,b,since,seen,last,hb.trans hk,hc,hr _ _ hm,hi⟩
end
end Go.Ab
namespace Go.Ab
def dN (σ:Name→Name) (u:List Nat) (s:St):List (Name × Ob)→Prop
 | []=>True
 | q::r=>(s.hp (σ q.1)=some (q.2.ren σ)∧q.2.inU u=true∧nmb u q.1=true)∧dN σ u s r
theorem dc {σ:Name→Name} {u:List Nat} {s:St}:∀ {l:List (Name × Ob)},dN σ u s l→∀ q∈l,s.hp (σ q.1)=some (q.2.ren σ)∧q.2.inU u=true∧nmb u q.1=true
 | [],_,q,h=>by simp at h
 | _::r,h,q,hq=>by
   rcases List.mem_cons.1 hq with rfl | hq
   ·exact h.1
   ·exact dc h.2 q hq
def gp (chp:List (Name × Ob)):List (Name × Ob)→Prop
 | []=>True
 | q::r=>(match lkA none (chp.map fun x=>(x.1,some x.2)) q.1 with
  | some o=>o.like q.2
  | none=>True)∧gp chp r
theorem pn {chp:List (Name × Ob)}:∀ {l:List (Name × Ob)},gp chp l→∀ q∈l,∀ o,lkA none (chp.map fun x=>(x.1,some x.2)) q.1=some o→o.like q.2
 | [],_,q,h,_,_=>by simp at h
 | a::r,h,q,hq,o,ho=>by
   rcases List.mem_cons.1 hq with rfl | hq
   ·have:=h.1;rw [ho] at this;exact this
   ·exact pn h.2 q hq o ho
theorem lkS {l:List (Name × Ob)} {p:Name} {o:Ob} (h:lkA none (l.map fun x=>(x.1,some x.2)) p=some o):(p,o)∈l:=fj (fr:=[]) (u:=[]) h
theorem lL {l:List (Name × Ob)} {p:Name} (h:l.any (fun q=>q.1 == p)=true):∃ o,lkA none (l.map fun x=>(x.1,some x.2)) p=some o:=by
 induction l with
 | nil=>simp at h
 | cons q r ih =>
   simp only [List.map_cons,lkA]
   by_cases e:p=q.1
   ·exact ⟨q.2,by rw [if_pos e]⟩
   ·rw [if_neg e]
    refine ih ?_
    simp only [List.any_cons,Bool.or_eq_true,beq_iff_eq] at h
    exact h.resolve_left fun h=>e h.symm
theorem xp (f:Name→Name) (g:Ob→Ob) (z:Option Ob) (p:Name):∀ (l:List (Name × Ob)),(∀ q∈l,f q.1=f p→q.1=p) →
  lkA z (l.map fun x=>(f x.1,some (g x.2))) (f p)=match lkA none (l.map fun x=>(x.1,some x.2)) p with
   | some o=>some (g o)
   | none=>z
 | [],_=>rfl
 | q::r,h=>by
   simp only [List.map_cons,lkA]
   by_cases e:p=q.1
   ·rw [if_pos (by rw [e]),if_pos e]
   ·rw [if_neg (fun e'=>e (h q List.mem_cons_self e'.symm).symm),if_neg e]
    exact xp f g z p r fun x hx=>h x (List.mem_cons_of_mem _ hx)
theorem lJ (f:Name→Name) (z:Option Ob) (q:Name):∀ (l:List (Name × Ob)),lkA z (l.map fun x=>(f x.1,(none:Option Ob))) q=if (l.any fun x=>f x.1 == q)=true then none else z
 | []=>rfl
 | x::r=>by
   rw [List.map_cons,dv,List.any_cons,lJ f z q r]
   by_cases e:q=f x.1
   ·rw [if_pos e,if_pos];subst e;simp
   ·have h2:(f x.1 == q)=false:=by
     rw [beq_eq_false_iff_ne];exact fun h=>e h.symm
    rw [if_neg e,h2,Bool.false_or]
theorem pT (f:Name→Name) (g:Ob→Ob) (z:Option Ob) (q:Name):∀ (l:List (Name × Ob)),(∀ x∈l,f x.1≠q)→lkA z (l.map fun x=>(f x.1,some (g x.2))) q=z
 | [],_=>rfl
 | x::r,h=>by
   simp only [List.map_cons,lkA]
   rw [if_neg (fun e=>h x List.mem_cons_self e.symm)]
   exact pT f g z q r fun y hy=>h y (List.mem_cons_of_mem _ hy)
section
variable {P:Program} {cf:Cf}
set_option maxHeartbeats 1000000 in
theorem wh {B:Base} {β:Name→Option Blk} {s:St} {tm:Array Value} {w w':World} (h:Sim B β s tm w) {σ:Name→Name} {d:Nat} (hd:d ∉ s.used) {chp hp':List (Name × Ob)} {cu u':List Nat}
  (hpass:dN σ cu s chp) (hinj:kI σ chp) {A' O0':Nat→Prop} {G':List (Nat × Obj)} {βc:Name→Option Blk} (hβc:∀ p,chp.any (fun q=>q.1 == p)=true→βc p=β (σ p))
  (hO:∀ b,O0' b↔∃ p k,chp.any (fun q=>q.1 == p)=true∧β (σ p)=some k∧k.b=b) (hA:∀ b,A' b↔s.own B.A β b∧¬ O0' b) (hA':∀ b,A' b→b<w.heap.size) (hG':∀ q∈G',w.heap[q.1]?=some q.2∧¬ O0' q.1)
  {r:AV} {β':Name→Option Blk} {v:Value} (hlike:gp chp hp')
  (hs:Sim { n:=1,io:=B.io,G:=G',H0:=w.heap,O0:=O0',A:=A',U0:=cu,β0:=βc,hA:=hA',hG:=hG' } β' (mk [(0,r)] hp' u') #[v] w') :
  ∃ β2,(Sim B β2 { aft s σ d chp hp' r with fr:=s.fr } tm w'∧VR w'.heap ((aft s σ d chp hp' r).own B.A β2) (d::s.used) (aft s σ d chp hp' r).hp β2 v (r.ren (dV σ d chp))):=by
 obtain ⟨τ,hτ⟩:∃ τ,dV σ d chp=τ:=⟨_,rfl⟩
 obtain ⟨s2,hs2⟩:∃ s2,aft s σ d chp hp' r=s2:=⟨_,rfl⟩
 have hτp:∀ p,chp.any (fun q=>q.1 == p)=true→τ p=σ p:=fun p hp=>by rw [← hτ];simp only [dV];rw [if_pos hp]
 have hτn:∀ p,¬ chp.any (fun q=>q.1 == p)=true→τ p=d::p:=fun p hp=>by rw [← hτ];simp only [dV];rw [if_neg hp]
 have hlive:∀ p,chp.any (fun q=>q.1 == p)=true→∃ o,(p,o)∈chp∧s.hp (σ p)=some (o.ren σ)∧nm s.used (σ p)∧nmb cu p=true:=by
  intro p hp
  obtain ⟨o,ho⟩:=lL hp
  obtain ⟨h1,h2,h3⟩:=dc hpass _ (lkS ho)
  exact ⟨o,lkS ho,h1,(h.objs _ _ h1).1,h3⟩
 have hσd:∀ p l,chp.any (fun q=>q.1 == p)=true→σ p≠d::l:=by
  intro p l hp e
  obtain ⟨_,_,_,⟨a,t,e2,ha⟩,_⟩:=hlive p hp
  rw [e] at e2;cases e2;exact hd ha
 have hτinj:∀ p q,τ p=τ q→p=q:=by
  intro p q e
  by_cases hp:chp.any (fun q=>q.1 == p)=true<;>by_cases hq:chp.any (fun x=>x.1 == q)=true
  ·rw [hτp p hp,hτp q hq] at e
   obtain ⟨o,ho,_⟩:=hlive p hp
   obtain ⟨o',ho',_⟩:=hlive q hq
   exact gW hinj _ ho _ ho' e
  ·rw [hτp p hp,hτn q hq] at e;exact absurd e (hσd p q hp)
  ·rw [hτn p hp,hτp q hq] at e;exact absurd e.symm (hσd q p hq)
  ·rw [hτn p hp,hτn q hq] at e;exact (List.cons.inj e).2
 have hhp:∀ p,s2.hp (τ p)=(lkA none (hp'.map fun x=>(x.1,some x.2)) p).map (Ob.ren τ):=by
  intro p
  rw [← hs2]
  show lkA (lkA (s.hp (τ p)) (chp.map fun x=>(σ x.1,none)) (τ p)) (hp'.map fun x=>(dV σ d chp x.1,some (x.2.ren (dV σ d chp)))) (τ p)=_
  rw [hτ,xp τ (Ob.ren τ) _ p hp' (fun q _ e=>hτinj _ _ e),lJ]
  cases lkA none (hp'.map fun x=>(x.1,some x.2)) p with
  | some o=>rfl
  | none =>
    simp only [Option.map_none]
    split
    ·rfl
    ·rename_i hno
     by_cases hp:chp.any (fun q=>q.1 == p)=true
     ·exfalso
      apply hno
      obtain ⟨o,ho,_⟩:=hlive p hp
      exact List.any_eq_true.2 ⟨_,ho,by simp [hτp p hp]⟩
     ·rw [hτn p hp]
      cases hsd:s.hp (d::p) with
      | none=>rfl
      | some o =>
        obtain ⟨a,t,e,ha⟩:=(h.objs _ _ hsd).1
        cases e;exact absurd ha hd
 have hho:∀ q,nm s.used q→(∀ p,chp.any (fun x=>x.1 == p)=true→σ p≠q)→s2.hp q=s.hp q:=by
  intro q hq hne
  rw [← hs2]
  show lkA (lkA (s.hp q) (chp.map fun x=>(σ x.1,none)) q) (hp'.map fun x=>(dV σ d chp x.1,some (x.2.ren (dV σ d chp)))) q=_
  rw [hτ,pT τ (Ob.ren τ) _ q hp',lJ,if_neg]
  ·intro ha
   obtain ⟨x,hx,e⟩:=List.any_eq_true.1 ha
   exact hne x.1 (List.any_eq_true.2 ⟨x,hx,by simp⟩) (by simpa using e)
  ·intro x _ e
   by_cases hp:chp.any (fun q=>q.1 == x.1)=true
   ·rw [hτp _ hp] at e;exact hne _ hp e
   ·rw [hτn _ hp] at e
    obtain ⟨a,t,e2,ha⟩:=hq
    rw [← e] at e2;cases e2;exact hd ha
 have hlive2:∀ q o,s2.hp q=some o→(∃ p o',q=τ p∧lkA none (hp'.map fun x=>(x.1,some x.2)) p=some o'∧o=o'.ren τ)∨(nm s.used q∧(∀ p,chp.any (fun x=>x.1 == p)=true→σ p≠q)∧s.hp q=some o):=by
  intro q o ho
  by_cases hq:∃ p,τ p=q
  ·obtain ⟨p,rfl⟩:=hq
   rw [hhp] at ho
   obtain ⟨o',ho',rfl⟩:=Option.map_eq_some_iff.1 ho
   exact .inl ⟨p,o',rfl,ho',rfl⟩
  ·have hne:∀ p,chp.any (fun x=>x.1 == p)=true→σ p≠q:=fun p hp e=>hq ⟨p,by rw [hτp p hp];exact e⟩
   have hsq:s.hp q=some o:=by
    rw [← hs2] at ho
    have ho:lkA (lkA (s.hp q) (chp.map fun x=>(σ x.1,none)) q) (hp'.map fun x=>(dV σ d chp x.1,some (x.2.ren (dV σ d chp)))) q=some o:=ho
    rw [hτ,pT τ (Ob.ren τ) _ q hp' (fun x _ e=>hq ⟨_,e⟩),lJ] at ho
    split at ho
    ·cases ho
    ·exact ho
   exact .inr ⟨(h.objs _ _ hsq).1,hne,hsq⟩
 obtain ⟨β2,hβn,hβo⟩:∃ β2:Name→Option Blk,(∀ p,lkA none (hp'.map fun x=>(x.1,some x.2)) p≠none→β2 (τ p)=β' p)∧∀ q,nm s.used q→β2 q=β q:=by
  refine ⟨fun q=>match q with | a::t=>if a=d then β' t else β (a::t) | []=>β [],fun p hp=>?_,fun q hq=>?_⟩
  ·by_cases hc:chp.any (fun q=>q.1 == p)=true
   ·rw [hτp p hc]
    obtain ⟨o,ho,h1,⟨a,t,e,ha⟩,h3⟩:=hlive p hc
    have hst:=hs.stay p (gh h3)
    rw [e]
    have had:a≠d:=fun e2=>hd (e2 ▸ ha)
    simp only [if_neg had]
    rw [← e,hst]
    exact (hβc p hc).symm
   ·rw [hτn p hc];simp
  ·obtain ⟨a,t,rfl,ha⟩:=hq
   have had:a≠d:=fun e2=>hd (e2 ▸ ha)
   simp [had]
 have hO0:∀ b,O0' b→b<w.heap.size∧¬ B.A b∧(B.H0.size≤b∨B.O0 b)∧s.own B.A β b:=by
  intro b hb
  obtain ⟨p,k,hp,hk,rfl⟩:=(hO b).1 hb
  obtain ⟨o,_,h1,_⟩:=hlive p hp
  obtain ⟨g1,g2,g3⟩:=h.blocks (σ p) k (by rw [h1];simp) hk
  exact ⟨g1,g2,g3,.inr ⟨σ p,k,by rw [h1];simp,hk,rfl⟩⟩
 have hmk:∀ p o,lkA none (hp'.map fun x=>(x.1,some x.2)) p=some o→(mk [(0,r)] hp' u').hp p=some o:=fun p o h=>h
 have hnewb:∀ p o k,lkA none (hp'.map fun x=>(x.1,some x.2)) p=some o→β' p=some k→k.b<w'.heap.size∧¬ A' k.b∧(w.heap.size≤k.b∨O0' k.b):=fun p o k hp hk =>
  hs.blocks p k (by rw [hmk p o hp];simp) hk
 have hotherb:∀ q o k,s.hp q=some o→(∀ p,chp.any (fun x=>x.1 == p)=true→σ p≠q)→β q=some k→k.b<w.heap.size∧¬ O0' k.b∧A' k.b:=by
  intro q o k hq hne hk
  obtain ⟨g1,g2,g3⟩:=h.blocks q k (by rw [hq];simp) hk
  have hno:¬ O0' k.b:=by
   intro hb
   obtain ⟨p,l,hp,hl,e⟩:=(hO _).1 hb
   obtain ⟨o',_,h1,_⟩:=hlive p hp
   exact hne p hp (h.inj (σ p) q l k (by rw [h1];simp) (by rw [hq];simp) hl hk e)
  exact ⟨g1,hno,(hA _).2 ⟨.inr ⟨q,k,by rw [hq];simp,hk,rfl⟩,hno⟩⟩
 have hframe:∀ b,b<w.heap.size→¬ O0' b→w'.heap[b]?=w.heap[b]?:=fun b hb hn=>hs.frame b hb hn
 have hsize:w.heap.size≤w'.heap.size:=hs.size
 have hown2:∀ b,b<w.heap.size→s2.own B.A β2 b→s.own B.A β b:=by
  rintro b hb (hB | ⟨q,k,hq,hk,rfl⟩)
  ·exact .inl hB
  ·cases ho:s2.hp q with
   | none=>exact absurd ho hq
   | some o =>
     rcases hlive2 q o ho with ⟨p,o',rfl,hp,rfl⟩ | ⟨hn,hne,hsq⟩
     ·rw [hβn p (by rw [hp];simp)] at hk
      obtain ⟨_,_,g⟩:=hnewb p o' k hp hk
      rcases g with g | g
      ·omega
      ·exact (hO0 _ g).2.2.2
     ·rw [hβo q hn] at hk
      exact .inr ⟨q,k,by rw [hsq];simp,hk,rfl⟩
 have hownc:∀ b,s2.own B.A β2 b→(mk [(0,r)] hp' u').own A' β' b:=by
  rintro b hb
  rcases hb with hB | ⟨q,k,hq,hk,rfl⟩
  ·exact .inl ((hA b).2 ⟨.inl hB,fun hb'=>(hO0 b hb').2.1 hB⟩)
  ·cases ho:s2.hp q with
   | none=>exact absurd ho hq
   | some o =>
     rcases hlive2 q o ho with ⟨p,o',rfl,hp,rfl⟩ | ⟨hn,hne,hsq⟩
     ·rw [hβn p (by rw [hp];simp)] at hk
      exact .inr ⟨p,k,by rw [hmk p o' hp];simp,hk,rfl⟩
     ·rw [hβo q hn] at hk
      exact .inl (hotherb q o k hsq hne hk).2.2
 have hr1:∀ v d,Rep w.heap (s.own B.A β) v d→Rep w'.heap (s2.own B.A β2) v d:=fun v d hd=>hd.mono (fun b hb hlt=>hframe b hlt fun hO=>hb (hO0 b hO).2.2.2) hown2
 have hr2:∀ v d,Rep w'.heap ((mk [(0,r)] hp' u').own A' β') v d→Rep w'.heap (s2.own B.A β2) v d:=fun v d hd=>hd.mono (fun _ _ _=>rfl) (fun b _=>hownc b)
 have hus2:s2.used=d::s.used:=by rw [← hs2];rfl
 have hu1:∀ x∈s.used,x∈s2.used:=fun x hx=>by rw [hus2];exact List.mem_cons_of_mem _ hx
 have hst:∀ q,nm s.used q→Stays s.hp s2.hp β β2 q:=by
  intro q hq o ho
  rcases hlive2 q o ho with ⟨p,o',rfl,hp,rfl⟩ | ⟨hn,hne,hsq⟩
  ·by_cases hc:chp.any (fun x=>x.1 == p)=true
   ·obtain ⟨o1,ho1⟩:=lL hc
    have hl:=pn hlike _ (lkS hp) o1 ho1
    obtain ⟨g1,_,_⟩:=dc hpass _ (lkS ho1)
    refine ⟨o1.ren σ,by rw [hτp p hc];exact g1,?_,hβo _ hq⟩
    cases o1<;>cases o'<;>first | exact hl | exact hl.elim
   ·rw [hτn p hc] at hq
    obtain ⟨a,t,e,ha⟩:=hq
    cases e;exact absurd ha hd
  ·exact ⟨o,hsq,Ob.bE _,hβo q hn⟩
 have hum:∀ p,nm u' p→nm s2.used (τ p):=by
  intro p _
  rw [hus2]
  by_cases hc:chp.any (fun x=>x.1 == p)=true
  ·rw [hτp p hc]
   obtain ⟨_,_,_,⟨a,t,e,ha⟩,_⟩:=hlive p hc
   exact ⟨a,t,e,List.mem_cons_of_mem _ ha⟩
  ·rw [hτn p hc];exact ⟨d,p,rfl,List.mem_cons_self⟩
 have hob:∀ p,nm u' p→∀ o',s2.hp (τ p)=some o'→∃ o,(mk [(0,r)] hp' u').hp p=some o∧o'=o.ren τ∧β2 (τ p)=β' p:=by
  intro p _ o' ho
  rw [hhp] at ho
  obtain ⟨o,ho',rfl⟩:=Option.map_eq_some_iff.1 ho
  exact ⟨o,hmk p o ho',rfl,hβn p (by rw [ho'];simp)⟩
 refine ⟨β2,?_⟩
 rw [hτ,hs2]
 refine ⟨{ tms:=h.tms,io:=hs.io,size:=Nat.le_trans h.size hsize,frame:=fun b hb hn=>?_,slots:=fun i=>(h.slots i).mono hr1 hu1 hst,objs:=fun q o ho=>?_,blocks:=fun q k hq hk=>?_,inj:=fun q q' k l hq hq' hk hl e=>?_,us:=fun x hx=>hu1 x (h.us x hx),stay:=fun p hp=>?_ },?_⟩
 ·rw [hframe b (Nat.lt_of_lt_of_le hb h.size) fun hO=>?_]
  ·exact h.frame b hb hn
  ·rcases (hO0 b hO).2.2.1 with g | g
   ·omega
   ·exact hn g
 ·have ho:s2.hp q=some o:=ho
  rcases hlive2 q o ho with ⟨p,o',rfl,hp,rfl⟩ | ⟨hn,hne,hsq⟩
  ·obtain ⟨g1,g2⟩:=hs.objs p o' (hmk p o' hp)
   exact ⟨hum p g1,g2.ren' hr2 hum hob (hβn p (by rw [hp];simp))⟩
  ·obtain ⟨g1,g2⟩:=h.objs q o hsq
   exact ⟨g1.mono hu1,g2.mono hr1 hu1 hst (hβo q hn) fun k hk=>hframe k.b (hotherb q o k hsq hne hk).1 (hotherb q o k hsq hne hk).2.1⟩
 ·have hq:s2.hp q≠none:=hq
  cases ho:s2.hp q with
  | none=>exact absurd ho hq
  | some o =>
    rcases hlive2 q o ho with ⟨p,o',rfl,hp,rfl⟩ | ⟨hn,hne,hsq⟩
    ·rw [hβn p (by rw [hp];simp)] at hk
     obtain ⟨g1,g2,g3⟩:=hnewb p o' k hp hk
     rcases g3 with g3 | g3
     ·exact ⟨g1,fun hB=>by have:=Nat.lt_of_lt_of_le (B.hA _ hB) h.size;omega,.inl (Nat.le_trans h.size g3)⟩
     ·obtain ⟨_,k2,k3,_⟩:=hO0 _ g3
      exact ⟨g1,k2,k3⟩
    ·rw [hβo q hn] at hk
     obtain ⟨g1,g2,g3⟩:=h.blocks q k (by rw [hsq];simp) hk
     exact ⟨Nat.lt_of_lt_of_le g1 hsize,g2,g3⟩
 ·have hq:s2.hp q≠none:=hq
  have hq':s2.hp q'≠none:=hq'
  cases ho:s2.hp q with
  | none=>exact absurd ho hq
  | some o =>
    cases ho':s2.hp q' with
    | none=>exact absurd ho' hq'
    | some o2 =>
      rcases hlive2 q o ho with ⟨p,o',rfl,hp,rfl⟩ | ⟨hn,hne,hsq⟩<;>rcases hlive2 q' o2 ho' with ⟨p2,o3,rfl,hp2,rfl⟩ | ⟨hn2,hne2,hsq2⟩
      ·rw [hβn p (by rw [hp];simp)] at hk;rw [hβn p2 (by rw [hp2];simp)] at hl
       rw [hs.inj p p2 k l (by rw [hmk p o' hp];simp) (by rw [hmk p2 o3 hp2];simp) hk hl e]
      ·rw [hβn p (by rw [hp];simp)] at hk;rw [hβo _ hn2] at hl
       exact absurd (e ▸ (hotherb _ _ l hsq2 hne2 hl).2.2) (hnewb p o' k hp hk).2.1
      ·rw [hβo _ hn] at hk;rw [hβn p2 (by rw [hp2];simp)] at hl
       exact absurd (e ▸ (hotherb _ _ k hsq hne hk).2.2) (hnewb p2 o3 l hp2 hl).2.1
      ·rw [hβo _ hn] at hk;rw [hβo _ hn2] at hl
       exact h.inj q q' k l (by rw [hsq];simp) (by rw [hsq2];simp) hk hl e
 ·rw [hβo p (hp.mono h.us)];exact h.stay p hp
 ·have:=hs.slots 0
  have:=this.ren' hr2 hum hob
  rw [hus2] at this
  exact this
end
end Go.Ab

