/-
  The generic layer, part 18: the rule for calls, closed. (with the parts that follow it) (with the parts that follow it)
-/
import Derived.Test.YtejpnabbmgpmaaaGreatDoorVAB
import Derived.Test.YtejpnabbmgpmaaaGreatDoorVAA
import Derived.Lib.AppendIntMem
import Derived.Attr
import Derived.Below
import Derived.Laws.BytesString
import Derived.Laws.RangeString
import Derived.Laws.IdiomMaps
import Derived.ChangeArms
import Derived.WideKeyArgs
import Derived.Test.YtejpnabbmgpmaaaGreatDoorProg
import Derived.KernelRfl
import Derived.Shelf.LaysM
import Derived.Shelf.Strconv.Itoa4
import Derived.Ground.NamesProg
set_option linter.all false
namespace Go.Ab
section
variable {P:Program} {cf:Cf}
def C4 (s:St) (σ:Name→Name) (d:Nat) (dst:Option Nat) (chp hp':List (Name × Ob)) (r:AV):St :=
 match dst with
 | some _=>aft s σ d chp hp' r
 | none=>{ aft s σ d chp hp' r with fr:=s.fr }
theorem tB {fr:List (Nat × AV)} {chp:List (Name × Ob)} {u:List Nat} {A:Nat→Prop} {β:Name→Option Blk} {b:Nat} (h:(mk fr chp u).own A β b):A b∨∃ p k o,lkA none (chp.map fun x=>(x.1,some x.2)) p=some o∧β p=some k∧k.b=b:=by
 rcases h with h | ⟨p,k,hp,hk,e⟩
 ·exact .inl h
 ·cases ho:(mk fr chp u).hp p with
  | none=>exact absurd ho hp
  | some o=>exact .inr ⟨p,k,o,ho,hk,e⟩
theorem tR {B:Base} {β:Name→Option Blk} {s:St} {tm:Array Value} {w:World} (h:Sim B β s tm w) {f:FuncId} {cargs:List AV} {chp:List (Name × Ob)} {cu:List Nat} {Q0:AV→List (Name × Ob)→Prop} {σ:Name→Name} {d:Nat} (hd:d ∉ s.used)
  (hpass:dN σ cu s chp) (hinj:kI σ chp) (hcu:dC cu cargs=true) {vs:Array Value} (hvs:vs.size=cargs.length) (hv:∀ (i:Nat) x,cargs[i]?=some x→VR w.heap (s.own B.A β) s.used s.hp β (vs.getD i undef) (x.ren σ)) (hc:HCall P B.G f cargs chp cu Q0) :
  CallsIn Fence.wide 0 P f vs w fun e w'=>∃ v,e=.returned v∧∃ r hp',Q0 r hp'∧(gp chp hp'→∃ β2,Sim B β2 { aft s σ d chp hp' r with fr:=s.fr } tm w' ∧
   VR w'.heap ((aft s σ d chp hp' r).own B.A β2) (d::s.used) (aft s σ d chp hp' r).hp β2 v (r.ren (dV σ d chp))):=by
 obtain ⟨O0',hO⟩:∃ O0':Nat→Prop,∀ b,O0' b↔∃ p k,chp.any (fun q=>q.1 == p)=true∧β (σ p)=some k∧k.b=b:=⟨_,fun _=>Iff.rfl⟩
 obtain ⟨A',hA⟩:∃ A':Nat→Prop,∀ b,A' b↔s.own B.A β b∧¬ O0' b:=⟨_,fun _=>Iff.rfl⟩
 have hA':∀ b,A' b→b<w.heap.size:=fun b hb=>h.qb ((hA b).1 hb).1
 have hG':∀ q∈B.G,w.heap[q.1]?=some q.2∧¬ O0' q.1:=fun q hq=>by
  obtain ⟨g1,g2⟩:=B.hG q hq
  have hlt:=al g1
  refine ⟨(h.frame _ hlt g2).trans g1,fun hb=>?_⟩
  obtain ⟨p,k,hp,hk,e⟩:=(hO _).1 hb
  obtain ⟨o,ho⟩:=lL hp
  obtain ⟨h1,_,_⟩:=dc hpass _ (lkS ho)
  obtain ⟨_,_,g3⟩:=h.blocks (σ p) k (by rw [h1];simp) hk
  rcases g3 with g3 | g3
  ·omega
  ·exact g2 (e ▸ g3)
 have hβc:∀ p,chp.any (fun q=>q.1 == p)=true→(fun p=>β (σ p)) p=β (σ p):=fun _ _=>rfl
 have live:∀ p o,lkA none (chp.map fun x=>(x.1,some x.2)) p=some o→s.hp (σ p)=some (o.ren σ)∧o.inU cu=true∧nm cu p:=fun p o ho=>by
  obtain ⟨h1,h2,h3⟩:=dc hpass _ (lkS ho)
  exact ⟨h1,h2,gh h3⟩
 have hown:∀ b,(mk (aB 0 cargs) chp cu).own A' (fun p=>β (σ p)) b→s.own B.A β b:=by
  intro b hb
  rcases tB hb with hb | ⟨p,k,o,ho,hk,rfl⟩
  ·exact ((hA b).1 hb).1
  ·exact .inr ⟨σ p,k,by rw [(live p o ho).1];simp,hk,rfl⟩
 have hr:∀ v d,Rep w.heap (s.own B.A β) v d→Rep w.heap ((mk (aB 0 cargs) chp cu).own A' (fun p=>β (σ p))) v d:=fun v d hd=>hd.mono (fun _ _ _=>rfl) (fun b _=>hown b)
 have hob:∀ p o,(mk (aB 0 cargs) chp cu).hp p=some o→s.hp (σ p)=some (o.ren σ)∧(fun p=>β (σ p)) p=β (σ p):=fun p o ho=>⟨(live p o ho).1,rfl⟩
 have hsim:Sim { n:=cargs.length,io:=B.io,G:=B.G,H0:=w.heap,O0:=O0',A:=A',U0:=cu,β0:=fun p=>β (σ p),hA:=hA',hG:=hG' } (fun p=>β (σ p)) (mk (aB 0 cargs) chp cu) vs w:=by
  refine { tms:=hvs,io:=h.io,size:=Nat.le_refl _,frame:=fun _ _ _=>rfl,slots:=fun t=>?_,objs:=fun p o ho=>⟨(live p o ho).2.2,OR.ren hr hob rfl (live p o ho).2.1 (h.objs _ _ (live p o ho).1).2⟩,blocks:=fun p k hp hk=>?_,inj:=fun p q k l hp hq hk hl e=>?_,us:=fun _ hx=>hx,stay:=fun _ _=>rfl }
  ·rw [cS,aN,if_pos (Nat.zero_le _),Nat.sub_zero]
   cases ht:cargs[t]? with
   | none=>exact .un _
   | some x=>exact (hv t x ht).ren hr hob x rfl (eG hcu t x ht)
  ·cases ho:(mk (aB 0 cargs) chp cu).hp p with
   | none=>exact absurd ho hp
   | some o =>
     have hin:O0' k.b:=(hO _).2 ⟨p,k,List.any_eq_true.2 ⟨_,lkS ho,by simp⟩,hk,rfl⟩
     obtain ⟨g1,_,_⟩:=h.blocks (σ p) k (by rw [(live p o ho).1];simp) hk
     exact ⟨g1,fun ha=>((hA _).1 ha).2 hin,.inr hin⟩
  ·cases ho:(mk (aB 0 cargs) chp cu).hp p with
   | none=>exact absurd ho hp
   | some o =>
     cases ho':(mk (aB 0 cargs) chp cu).hp q with
     | none=>exact absurd ho' hq
     | some o' =>
       have e2:=h.inj (σ p) (σ q) k l (by rw [(live p o ho).1];simp) (by rw [(live q o' ho').1];simp) hk hl e
       exact gW hinj _ (lkS ho) _ (lkS ho') e2
 have hgo:=fun h1 h2 h3 h4=>hc.2 _ _ vs w h1 h2 h3 h4 hsim
 refine (hgo rfl rfl rfl rfl).mono ?_
 rintro e w' ⟨v,r,hp',u',β',rfl,hQ,hs⟩
 exact ⟨v,rfl,r,hp',hQ,fun hl=>wh h hd hpass hinj hβc hO hA hA' hG' hl hs⟩
theorem eM {s:St} {B:Base} {β:Name→Option Blk} {a:Act} {w:World} (h:Sim B β s a.tmps w) (a0s:List Operand) (i:Nat) (x:AV) (hx:(a0s.map (ev s))[i]?=some x):VR w.heap (s.own B.A β) s.used s.hp β ((a0s.map a.eval).toArray.getD i undef) x:=by
 rw [List.getElem?_map,Option.map_eq_some_iff] at hx
 obtain ⟨y,hy,rfl⟩:=hx
 have e:(a0s.map a.eval).toArray.getD i undef=a.eval y:=by simp [Array.getD_eq_getD_getElem?,hy]
 rw [e];exact h.ev y
theorem qd {s:St} {k:List It} {Q:Exit→St→Prop} {dst:Option Nat} {fv:Operand} {args:Array Operand} {at':Array TypeId} {ty:TypeId} {pos:String} {af:Array Edge} {g:Option (Nat × Bool)}
  (d:Nat) (σ:Name→Name) (cargs:List AV) (chp:List (Name × Ob)) (cu:List Nat) (Q0:AV→List (Name × Ob)→Prop) {f:FuncId} {caps:List AV}
  (hev:ev s fv=.clo f caps) (hargs:args.toList.map (ev s)++caps=dM σ cargs) (hcu:dC cu cargs=true) (hd:d ∉ s.used) (hdst:∀ t∈dst,t<cf.n∧t=d)
  (hpass:dN σ cu s chp) (hinj:kI σ chp) (hc:HCall P cf.G f cargs chp cu Q0) (hk:∀ r hp',Q0 r hp'→gp chp hp'∧run P cf k Q (C4 s σ d dst chp hp' r)) :
  AOk P cf { dst:=dst,op:=.call { callee:=.value fv,args:=args,argTypes:=at' },type:=ty,pos:=pos,after:=af,guard:=g } s k Q:=by
 intro B hB ds β a w hds h Q'
 refine ⟨fun _ _=>trivial,?_⟩
 have hf:=h.ev fv
 rw [hev] at hf
 generalize hfv:a.eval fv=fval at hf
 cases hf with
 | clo _ cvs _ hcs hcv =>
 have hrun:∀ vs,vs=(args.toList.map a.eval).toArray++cvs→(execOp a.eval { dst:=dst,op:=.call { callee:=.value fv,args:=args,argTypes:=at' },type:=ty,pos:=pos,after:=af,guard:=g }).run P w=.ok (.enter f vs) w:=by
  intro vs hvs
  have e:(execOp a.eval { dst:=dst,op:=.call { callee:=.value fv,args:=args,argTypes:=at' },type:=ty,pos:=pos,after:=af,guard:=g }:Sem Next)=callFunc f (#[]++args.map a.eval++cvs):=by
   show (do let d ← (Deferred.ofValue (a.eval fv) (args.map a.eval));invoke d.target d.args:Sem Next)=_
   rw [hfv];rfl
  rw [e,← hc.1 vs w,hvs]
  congr 2
  apply Array.ext'
  simp
 rw [Oper.semAt_eq _ _ _ (by simp),hrun _ rfl,Oper.uponIn_enter]
 refine ⟨fun hdep=>by simp [fx] at hdep,?_⟩
 have hlen:cargs.length=args.size+caps.length:=by
  have:=congrArg List.length hargs
  rw [bh] at this
  simpa using this.symm
 have hvs:((args.toList.map a.eval).toArray++cvs).size=cargs.length:=by simp [hcs,hlen]
 have hv:∀ (i:Nat) x,cargs[i]?=some x→VR w.heap (s.own B.A β) s.used s.hp β (((args.toList.map a.eval).toArray++cvs).getD i undef) (x.ren σ):=by
  intro i x hi
  have hx:(dM σ cargs)[i]?=some (x.ren σ):=by rw [bT,hi];rfl
  rw [← hargs] at hx
  by_cases hlt:i<args.size
  ·have hx':(args.toList.map (ev s))[i]?=some (x.ren σ):=by rw [← hx,List.getElem?_append_left (by simpa using hlt)]
   have:=eM h args.toList i _ hx'
   rw [show ((args.toList.map a.eval).toArray++cvs).getD i undef=(args.toList.map a.eval).toArray.getD i undef by simp [Array.getD_eq_getD_getElem?,Array.getElem?_append,hlt]]
   exact this
  ·have hx':caps[i-args.size]?=some (x.ren σ):=by rw [← hx,List.getElem?_append_right (by simpa using Nat.le_of_not_lt hlt)];simp
   have:=hcv _ _ hx'
   rw [show ((args.toList.map a.eval).toArray++cvs).getD i undef=cvs.getD (i-args.size) undef by simp [Array.getD_eq_getD_getElem?,Array.getElem?_append,hlt]]
   exact this
 have hcall:=tR (P:=P) h (σ:=σ) hd hpass hinj hcu hvs hv (by rw [hB.2.2];exact hc)
 have hcall':CallsIn (Fw cf.ro) (0-1) P f ((args.toList.map a.eval).toArray++cvs) w _:=hcall
 refine hcall'.mono ?_
 rintro e w' ⟨v,rfl,r,hp',hQ,hl⟩
 obtain ⟨hlk,hrun'⟩:=hk r hp' hQ
 obtain ⟨β2,hs2,hv2⟩:=hl hlk
 refine ⟨by cases dst<;>exact hds,C4 s σ d dst chp hp' r,β2,aP hrun',?_⟩
 cases dst with
 | none=>exact hs2
 | some t =>
   obtain ⟨ht,rfl⟩:=hdst t rfl
   exact hs2.put (by rw [hB.1];exact ht) hv2
end
end Go.Ab
namespace Go.Ab
theorem gT {u:List Nat}:∀ {l:List AV},(∀ (i:Nat) (x:AV),l[i]?=some x→x.inU u=true)→dC u l=true
 | [],_=>rfl
 | y::r,h=>by
   simp only [dC,Bool.and_eq_true]
   exact ⟨h 0 y rfl,gT fun i x hi=>h (i+1) x (by simpa using hi)⟩
theorem lY {u:List Nat} {p:Name} (h:nm u p):nmb u p=true:=by
 obtain ⟨a,t,rfl,ha⟩:=h
 simpa [nmb] using ha
theorem VR.inU {H:Array Obj} {own:Nat→Prop} {used:List Nat} {hp:Name→Option Ob} {β:Name→Option Blk} {v:Value} {x:AV} (h:VR H own used hp β v x):x.inU used=true:=by
 induction h with
 | un v=>rfl
 | d v z h=>rfl
 | vw v p off len hn h1 h=>exact lY hn
 | bx v p c hn h1 h=>exact lY hn
 | el v p i c hn h1 h=>exact lY hn
 | mp v p hn h1 h=>exact lY hn
 | its v p hn h1 h h'=>exact lY hn
 | agg vs cs hs hc h0 ih=>exact gT ih
 | tup vs cs hs h0 ih=>exact gT ih
 | clo f vs cs hs h0 ih=>exact gT ih
mutual
theorem AV.dI (τ:Name→Name) (h:∀ p,τ p=p):∀ x:AV,x.ren τ=x
 | .un=>rfl
 | .d _=>rfl
 | .vw p _ _=>by simp only [AV.ren,h]
 | .bx p _=>by simp only [AV.ren,h]
 | .el p _ _=>by simp only [AV.ren,h]
 | .mp p=>by simp only [AV.ren,h]
 | .it p=>by simp only [AV.ren,h]
 | .agg cs=>by simp only [AV.ren,jo τ h cs]
 | .tup cs=>by simp only [AV.ren,jo τ h cs]
 | .clo _ cs=>by simp only [AV.ren,jo τ h cs]
theorem jo (τ:Name→Name) (h:∀ p,τ p=p):∀ l:List AV,dM τ l=l
 | []=>rfl
 | x::r=>by simp only [dM,AV.dI τ h x,jo τ h r]
end
theorem Ob.dI (τ:Name→Name) (h:∀ p,τ p=p) (o:Ob):o.ren τ=o:=by
 cases o<;>simp only [Ob.ren,jo τ h,h]
theorem OR.inU {H:Array Obj} {own:Nat→Prop} {used:List Nat} {hp:Name→Option Ob} {β:Name→Option Blk} {p:Name} {o:Ob} (h:OR H own used hp β p o):o.inU used=true:=by
 cases o with
 | boxT ty cs =>
   obtain ⟨k,c,e,hk,ho,hc,hz,hl,h1,h⟩:=h
   exact gT fun i x hi=>(h i x hi).inU
 | _=>rfl
theorem Sim.unuse {B:Base} {β β':Name→Option Blk} {s s':St} {tm tm':Array Value} {w w':World} (h0:Sim B β s tm w) (h:Sim B β' s' tm' w') (hhp:s'.hp=s.hp) {t0:Nat} {x0:AV} (hfr:∀ t,t=t0∨s'.fr t=s.fr t) (hx:s'.fr t0=x0) (hx0:x0.inU s.used=true) :
  ∃ β2,Sim B β2 { s' with used:=s.used } tm' w':=by
 have hi:∀ t,(s'.fr t).inU s.used=true:=fun t=>by
  rcases hfr t with rfl | e
  ·rw [hx];exact hx0
  ·rw [e];exact (h0.slots t).inU
 obtain ⟨β2,h2,_⟩:=h.le (s2:={ s' with used:=s.used }) (τ:=fun p=>p)
  { fr:=fun t=>.inr ⟨(AV.dI _ (fun _=>rfl) _).symm,hi t⟩
    hp:=fun p o ho=>by
     have ho:s'.hp p=some o:=ho
     rw [hhp] at ho
     obtain ⟨g1,g2⟩:=h0.objs p o ho
     exact ⟨by rw [Ob.dI _ (fun _=>rfl),hhp];exact ho,g2.inU,g1⟩
    inj:=fun p q _ _ e=>e
    us:=fun x hx=>h0.us x hx
    stay:=fun _ _ _=>rfl }
 exact ⟨β2,h2⟩
section
variable {P:Program} {cf:Cf}
def HP (P:Program) (G:List (Nat × Obj)) (f:FuncId) (args:List D) (Q:AV→Prop):Prop:=HCall P G f (args.map .d) [] [] fun r hp'=>Q r∧r.inU []=true∧hp'=[]
theorem uY (u:List Nat):∀ l:List D,dC u (l.map .d)=true
 | []=>rfl
 | _::r=>by simp only [List.map_cons,dC,AV.inU,uY u r,Bool.and_self]
mutual
theorem AV.ml (u:List Nat):∀ x:AV,x.inU []=true→x.inU u=true
 | .un,_=>rfl
 | .d _,_=>rfl
 | .vw p _ _,h=>by cases p<;>simp [AV.inU,nmb] at h
 | .bx p _,h=>by cases p<;>simp [AV.inU,nmb] at h
 | .el p _ _,h=>by cases p<;>simp [AV.inU,nmb] at h
 | .mp p,h=>by cases p<;>simp [AV.inU,nmb] at h
 | .it p,h=>by cases p<;>simp [AV.inU,nmb] at h
 | .agg cs,h=>ij u cs h
 | .tup cs,h=>ij u cs h
 | .clo _ cs,h=>ij u cs h
theorem ij (u:List Nat):∀ l:List AV,dC [] l=true→dC u l=true
 | [],_=>rfl
 | x::r,h=>by
   simp only [dC,Bool.and_eq_true] at h ⊢
   exact ⟨AV.ml u x h.1,ij u r h.2⟩
end
mutual
theorem AV.n7 (τ:Name→Name):∀ x:AV,x.inU []=true→x.ren τ=x
 | .un,_=>rfl
 | .d _,_=>rfl
 | .vw p _ _,h=>by cases p<;>simp [AV.inU,nmb] at h
 | .bx p _,h=>by cases p<;>simp [AV.inU,nmb] at h
 | .el p _ _,h=>by cases p<;>simp [AV.inU,nmb] at h
 | .mp p,h=>by cases p<;>simp [AV.inU,nmb] at h
 | .it p,h=>by cases p<;>simp [AV.inU,nmb] at h
 | .agg cs,h=>by simp only [AV.ren,iz τ cs h]
 | .tup cs,h=>by simp only [AV.ren,iz τ cs h]
 | .clo _ cs,h=>by simp only [AV.ren,iz τ cs h]
theorem iz (τ:Name→Name):∀ l:List AV,dC [] l=true→dM τ l=l
 | [],_=>rfl
 | x::r,h=>by
   simp only [dC,Bool.and_eq_true] at h
   simp only [dM,AV.n7 τ x h.1,iz τ r h.2]
end
theorem oL (l:List Nat):∃ d,d ∉ l:=by
 have:∀ (l:List Nat),∃ m,∀ x∈l,x<m:=by
  intro l
  induction l with
  | nil=>exact ⟨0,by simp⟩
  | cons a r ih =>
    obtain ⟨m,hm⟩:=ih
    refine ⟨a+m+1,fun x hx=>?_⟩
    rcases List.mem_cons.1 hx with rfl | hx
    ·omega
    ·have:=hm x hx;omega
 obtain ⟨m,hm⟩:=this l
 exact ⟨m,fun h=>by have:=hm m h;omega⟩
def St.ja (s:St) (d:Option Nat) (x:AV):St :=
 match d with
 | some t=>s.put t x
 | none=>s
theorem js {s:St} {k:List It} {Q:Exit→St→Prop} {dst:Option Nat} {fv:Operand} {args:Array Operand} {at':Array TypeId} {ty:TypeId} {pos:String} {af:Array Edge} {g:Option (Nat × Bool)}
  {f:FuncId} {caps:List AV} {ds:List D} {Q0:AV→Prop} (hc:HP P cf.G f ds Q0)
  (hev:ev s fv=.clo f caps) (hargs:args.toList.map (ev s)++caps=ds.map .d) (hdst:∀ t∈dst,t<cf.n) (hk:∀ r,Q0 r→run P cf k Q (s.ja dst r)) :
  AOk P cf { dst:=dst,op:=.call { callee:=.value fv,args:=args,argTypes:=at' },type:=ty,pos:=pos,after:=af,guard:=g } s k Q:=by
 intro B hB ds' β a w hds h Q'
 refine ⟨fun _ _=>trivial,?_⟩
 obtain ⟨d,hd⟩:=oL s.used
 have hf:=h.ev fv
 rw [hev] at hf
 generalize hfv:a.eval fv=fval at hf
 cases hf with
 | clo _ cvs _ hcs hcv =>
 have hrun:∀ vs,vs=(args.toList.map a.eval).toArray++cvs→(execOp a.eval { dst:=dst,op:=.call { callee:=.value fv,args:=args,argTypes:=at' },type:=ty,pos:=pos,after:=af,guard:=g }).run P w=.ok (.enter f vs) w:=by
  intro vs hvs
  have e:(execOp a.eval { dst:=dst,op:=.call { callee:=.value fv,args:=args,argTypes:=at' },type:=ty,pos:=pos,after:=af,guard:=g }:Sem Next)=callFunc f (#[]++args.map a.eval++cvs):=by
   show (do let d ← (Deferred.ofValue (a.eval fv) (args.map a.eval));invoke d.target d.args:Sem Next)=_
   rw [hfv];rfl
  rw [e,← hc.1 vs w,hvs]
  congr 2
  apply Array.ext'
  simp
 rw [Oper.semAt_eq _ _ _ (by simp),hrun _ rfl,Oper.uponIn_enter]
 refine ⟨fun hdep=>by simp [fx] at hdep,?_⟩
 have hlen:(ds.map AV.d).length=args.size+caps.length:=by
  have:=congrArg List.length hargs
  simpa using this.symm
 have hvs:((args.toList.map a.eval).toArray++cvs).size=(ds.map AV.d).length:=by simp [hcs] at hlen ⊢;omega
 have hv:∀ (i:Nat) x,(ds.map AV.d)[i]?=some x→VR w.heap (s.own B.A β) s.used s.hp β (((args.toList.map a.eval).toArray++cvs).getD i undef) (x.ren id):=by
  intro i x hi
  rw [AV.dI id (fun _=>rfl)]
  have hx:=hi
  rw [← hargs] at hx
  by_cases hlt:i<args.size
  ·have hx':(args.toList.map (ev s))[i]?=some x:=by rw [← hx,List.getElem?_append_left (by simpa using hlt)]
   have:=eM h args.toList i _ hx'
   rw [show ((args.toList.map a.eval).toArray++cvs).getD i undef=(args.toList.map a.eval).toArray.getD i undef by simp [Array.getD_eq_getD_getElem?,Array.getElem?_append,hlt]]
   exact this
  ·have hx':caps[i-args.size]?=some x:=by rw [← hx,List.getElem?_append_right (by simpa using Nat.le_of_not_lt hlt)];simp
   have:=hcv _ _ hx'
   rw [show ((args.toList.map a.eval).toArray++cvs).getD i undef=cvs.getD (i-args.size) undef by simp [Array.getD_eq_getD_getElem?,Array.getElem?_append,hlt]]
   exact this
 have hcall:=tR (P:=P) h (σ:=id) (d:=d) hd (chp:=[]) (cu:=[]) trivial trivial (uY _ _) hvs hv (by rw [hB.2.2];exact hc)
 have hcall':CallsIn (Fw cf.ro) (0-1) P f ((args.toList.map a.eval).toArray++cvs) w _:=hcall
 refine hcall'.mono ?_
 rintro e w' ⟨v,rfl,r,hp',⟨hQ,hru,rfl⟩,hl⟩
 obtain ⟨β2,hs2,hv2⟩:=hl trivial
 rw [AV.n7 _ r hru] at hv2
 have hru':=AV.ml s.used r hru
 refine ⟨by cases dst<;>exact hds,s.ja dst r,?_⟩
 cases dst with
 | none =>
   obtain ⟨β3,h3⟩:=h.unuse hs2 rfl (t0:=0) (x0:=s.fr 0) (fun _=>.inr rfl) rfl (h.slots 0).inU
   exact ⟨β3,aP (hk r hQ),h3⟩
 | some t =>
   have h2:=hs2.put (t:=t) (by rw [hB.1];exact hdst t rfl) hv2
   obtain ⟨β3,h3⟩:=h.unuse h2 rfl (t0:=t) (x0:=r) (fun u=>by
    by_cases e:u=t
    ·exact .inl e
    ·exact .inr (by show de _ _ _ _=_;simp [de,e])) (by show de _ _ _ _=_;simp [de]) hru'
   exact ⟨β3,aP (hk r hQ),h3⟩
theorem cC {f:FuncId} {fn:Func} {c:Code} (hf:P.funcs[f]?=some fn) (hb:fn.body=some c) (hn:(fn.name == "runtime.NumGoroutine")=false) (vs:Array Value) (w:World):(callFunc f vs).run P w=.ok (.enter f vs) w:=by
 unfold callFunc
 simp only [Sem.run_bind,run_program,Result.andThen_ok,hf,hn,Bool.false_eq_true,if_false,hb,Option.isNone_some,Sem.run_pure]
theorem RX.intro {α:Type} {φ:α→Prop} {r:R α} {a:α} (h:r=.ok a) (hφ:φ a):RX r φ:=by rw [h];exact hφ
def okV (Q:AV→Prop):R (List AV)→Prop
 | .ok l=>(bZ l).inU []=true∧Q (bZ l)
 | .need p r=>p∧okV Q r
 | .no=>False
def pq (P:Program) (rs:List ResultVar) (Q:AV→Prop) (e:Exit) (s:St):Prop :=
 match e with
 | .ret=>okV Q (fg P s rs)
 | .normal=>okV Q (fg P s rs)
 | _=>False
theorem GZ (rs:List ResultVar) (Q:AV→Prop) (s:St):pq P rs Q .ret s=okV Q (fg P s rs):=rfl
theorem xO (rs:List ResultVar) (Q:AV→Prop) (s:St):pq P rs Q .normal s=okV Q (fg P s rs):=rfl
theorem FK (Q:AV→Prop) (l:List AV):okV Q (.ok l)=((bZ l).inU []=true∧Q (bZ l)):=rfl
theorem Bz (Q:AV→Prop) (p:Prop) (r:R (List AV)):okV Q (.need p r)=(p∧okV Q r):=rfl
theorem Ba (x:AV):bZ [x]=x:=rfl
theorem Ae (x y:AV) (r:List AV):bZ (x::y::r)=.tup (x::y::r):=rfl
theorem Bj:bZ []=.tup []:=rfl
theorem vb {Q:AV→Prop}:∀ {r:R (List AV)},okV Q r→RX r fun l=>∃ x hp' u' τ,(Q x∧x.inU []=true∧hp'=[])∧∀ s:St,LeL [] τ (mD s (bZ l)) [(0,x)] hp' u'
 | .ok l,h=>⟨bZ l,[],[],id,⟨h.2,h.1,rfl⟩,fun s=>⟨⟨⟨by show bZ l=_;rw [AV.dI id (fun _=>rfl)],h.1⟩,trivial⟩,trivial,trivial,rfl,trivial⟩⟩
 | .need _ r,h=>⟨h.1,vb h.2⟩
 | .no,h=>h.elim
theorem RX.mono {α:Type} {φ ψ:α→Prop} (h:∀ x,φ x→ψ x):∀ {r:R α},RX r φ→RX r ψ
 | .ok _,g=>h _ g
 | .need _ _,g=>⟨g.1,RX.mono h g.2⟩
 | .no,g=>g
theorem aj {G:List (Nat × Obj)} {f:FuncId} {fn:Func} {c:Code} {args:List D} {Q:AV→Prop} (hf:P.funcs[f]?=some fn) (hb:fn.body=some c) (hnm:(fn.name == "runtime.NumGoroutine")=false) (hn:args.length≤fn.ntmps)
  (h:run P ⟨fn.ntmps,none,G,[]⟩ [.code c] (pq P fn.results.toList Q) (mk (aB 0 (args.map .d)) [] [])):HP P G f args Q:=by
 refine Bx hf hb (cC hf hb hnm) (by simpa using hn) (fun e s hq=>?_) h
 cases e with
 | ret=>exact (vb hq).mono fun l ⟨x,hp',u',τ,h1,h2⟩=>⟨x,hp',u',τ,h1,h2 s⟩
 | normal=>exact (vb hq).mono fun l ⟨x,hp',u',τ,h1,h2⟩=>⟨x,hp',u',τ,h1,h2 s⟩
 | exit i=>exact hq.elim
 | goto l=>exact hq.elim
 | panic c=>exact hq.elim
 | outgrown=>exact hq.elim
end
end Go.Ab
namespace Go.Ab
structure Ext (w w':World):Prop where
 io:wio w'=wio w
 size:w.heap.size≤w'.heap.size
 old:∀ b,b<w.heap.size→w'.heap[b]?=w.heap[b]?
theorem Ext.refl (w:World):Ext w w:=⟨rfl,Nat.le_refl _,fun _ _=>rfl⟩
theorem Ext.grow (w:World) (k:Nat) (os:Array Obj):Ext w (Sort.grow (w.drewN k) os):=by
 have h:=Lib.below_grow w.heap.size w (Nat.le_refl _) k os
 exact ⟨by show (_,_)=(_,_);rw [h.os,h.output],h.size,h.block⟩
def D.val:D→Option Value
 | .int k n=>some (.int k n)
 | .bool b=>some (.bool b)
 | .str s=>some (.string ⟨s.toArray⟩)
 | .nilp=>some (.pointer none)
 | .nils=>some (.slice none 0 0)
 | .nilm=>some (.map none)
 | .nilf=>some .nilFunc
 | .nili=>some .nilIface
 | _=>none
theorem Rep.val {H:Array Obj} {own:Nat→Prop} {v u:Value} {d:D} (h:Rep H own v d) (hd:d.val=some u):v=u:=by
 cases h<;>simp [D.val] at hd<;>first | exact hd | exact hd.symm
theorem D.wz {H:Array Obj} {own:Nat→Prop} {v:Value} {d:D} (h:d.val=some v):Rep H own v d:=by
 cases d<;>simp [D.val] at h<;>subst h<;>constructor
def vals:List D→Option (List Value)
 | []=>some []
 | d::r=>match d.val,vals r with
   | some v,some vs=>some (v::vs)
   | _,_=>none
theorem nX:∀ {l:List D} {vs:List Value},vals l=some vs→vs.length=l.length∧∀ (i:Nat) d,l[i]?=some d→d.val=vs[i]?
 | [],vs,h=>by simp only [vals,Option.some.injEq] at h;subst h;exact ⟨rfl,by simp⟩
 | d::r,vs,h=>by
   simp only [vals] at h
   split at h
   ·rename_i v vs' h1 h2
    simp only [Option.some.injEq] at h
    subst h
    obtain ⟨g1,g2⟩:=nX h2
    refine ⟨by simp [g1],fun i e hi=>?_⟩
    cases i with
    | zero=>simp at hi;subst hi;simpa using h1
    | succ i=>simpa using g2 i e (by simpa using hi)
   ·cases h
section
variable {P:Program}
theorem sc {G:List (Nat × Obj)} {f:FuncId} {args:List D} {vs:List Value} {Q:AV→Prop} (he:∀ vs w,(callFunc f vs).run P w=.ok (.enter f vs) w) (hv:vals args=some vs)
  (h:∀ w:World,(∀ q∈G,w.heap[q.1]?=some q.2)→Calls P f vs.toArray w fun e w'=>∃ v d,e=.returned v∧Q (.d d)∧d.val=some v∧Ext w w'):HP P G f args Q:=by
 refine ⟨he,fun B β tm w h1 h2 h3 h4 hs=>?_⟩
 obtain ⟨g1,g2⟩:=nX hv
 have htm:tm=vs.toArray:=by
  have hsz:tm.size=args.length:=by rw [hs.tms,h1];simp
  apply Array.ext
  ·rw [hsz];simp [g1]
  ·intro i hi hi'
   have hlt:i<args.length:=by omega
   have:=hs.slots i
   rw [cS,aN,if_pos (Nat.zero_le _),Nat.sub_zero,List.getElem?_map,List.getElem?_eq_getElem hlt] at this
   have hr:=this.toD.val (g2 i _ (List.getElem?_eq_getElem hlt) ▸ List.getElem?_eq_getElem (by omega:i<vs.length))
   simpa [Array.getD_eq_getD_getElem?,hi] using hr
 subst htm
 have hcl:=(callsIn_wide (n:=0)).2 (h w fun q hq=>by
  obtain ⟨k1,k2⟩:=B.hG q (h4 ▸ hq)
  rw [← h2];exact k1)
 refine hcl.mono ?_
 rintro e w' ⟨v,d,rfl,hQ,hrep,hext⟩
 refine ⟨v,.d d,[],[],β,rfl,⟨hQ,rfl,rfl⟩,?_⟩
 have hno:∀ p,¬ nm B.U0 p:=fun p hp=>by
  obtain ⟨a,t,_,ha⟩:=hp
  rw [show B.U0=[] from h3] at ha;cases ha
 have hnone:∀ p,(mk [(0,AV.d d)] [] []).hp p=none:=fun _=>rfl
 refine { tms:=rfl,io:=hext.io.trans hs.io,size:=Nat.le_trans hs.size hext.size,frame:=fun b hb hn=>?_,slots:=fun t=>?_,objs:=fun p o ho=>(by cases ho),blocks:=fun p k hp=>(by exact absurd rfl hp),inj:=fun p q k l hp=>(by exact absurd rfl hp),us:=fun x hx=>(by rw [show B.U0=[] from h3] at hx;cases hx),stay:=fun p hp=>(hno p hp).elim }
 ·rw [hext.old b (Nat.lt_of_lt_of_le hb hs.size)];exact hs.frame b hb hn
 ·rw [cS,dv,wH]
  by_cases ht:t=0
  ·subst ht
   rw [if_pos rfl]
   exact .d _ _ (D.wz hrep)
  ·rw [if_neg ht];exact .un _
end
end Go.Ab

namespace Go.Ab
abbrev i64 (n:Int):D:=.int .i64 n
def inR (n:Int):Prop:=-9223372036854775808≤n∧n≤9223372036854775807
def w64 (n:Int):Int:=IntKind.i64.wrap n
def u64 (n:Int):Int:=IntKind.u64.wrap n
theorem wrap_i64 (n:Int):IntKind.i64.wrap n=w64 n:=rfl
theorem wrap_u64 (n:Int):IntKind.u64.wrap n=u64 n:=rfl
theorem p5 (n:Int):w64 n=if n % 18446744073709551616 ≥ 9223372036854775808 then n % 18446744073709551616-18446744073709551616 else n % 18446744073709551616:=by
 simp [w64,IntKind.wrap,IntKind.bits,IntKind.signed]
theorem ai {n:Int} (h:inR n):w64 n=n:=by
 obtain ⟨h1,h2⟩:=h
 rw [p5];split<;>omega
def Iq (a b:Int):Int:=if b=0 then 0 else w64 (a.tdiv b)
def IY (b:Int):Int:=if b=0 then 9 else 0
end Go.Ab
namespace Go.Ab
def j9 {α β:Type} [DecidableEq α]:List (α × β)→α→β→List (α × β)
 | [],i,x=>[(i,x)]
 | q::r,i,x=>if i=q.1 then (i,x)::r else q::j9 r i x
def iE {α β:Type} [DecidableEq α]:List (α × β)→α→List (α × β)
 | [],_=>[]
 | q::r,i=>if i=q.1 then iE r i else q::iE r i
theorem ib {α β:Type} [DecidableEq α] (z:β) (i:α) (x:β) (j:α):∀ l:List (α × β),lkA z (j9 l i x) j=if j=i then x else lkA z l j
 | []=>by simp [j9,lkA]
 | q::r=>by
   simp only [j9]
   split
   ·rename_i e;subst e;simp only [lkA];split<;>rfl
   ·rename_i e
    simp only [lkA,ib z i x j r]
    by_cases h1:j=q.1
    ·rw [if_pos h1,if_pos h1,if_neg (fun e2=>e (e2.symm.trans h1))]
    ·rw [if_neg h1,if_neg h1]
theorem lu (i:Name) (x:Ob):∀ l:List (Name × Ob),(j9 l i x).map (fun q=>(q.1,some q.2))=j9 (l.map fun q=>(q.1,some q.2)) i (some x)
 | []=>rfl
 | q::r=>by
   simp only [j9,List.map_cons]
   split
   ·rfl
   ·rw [List.map_cons,lu i x r]
theorem gb {α β:Type} [DecidableEq α] (z:β) (i:α) (j:α):∀ l:List (α × β),lkA z (iE l i) j=if j=i then z else lkA z l j
 | []=>by simp [iE,lkA]
 | q::r=>by
   simp only [iE]
   split
   ·rename_i e
    rw [gb z i j r,lkA]
    by_cases h1:j=i
    ·rw [if_pos h1,if_pos h1]
    ·rw [if_neg h1,if_neg h1,if_neg (fun e2=>h1 (e2.trans e.symm))]
   ·rename_i e
    simp only [lkA,gb z i j r]
    by_cases h1:j=q.1
    ·rw [if_pos h1,if_pos h1,if_neg (fun e2=>e (e2.symm.trans h1))]
    ·rw [if_neg h1,if_neg h1]
theorem fN (i:Name):∀ l:List (Name × Ob),(iE l i).map (fun q=>(q.1,some q.2))=iE (l.map fun q=>(q.1,some q.2)) i
 | []=>rfl
 | q::r=>by
   simp only [iE,List.map_cons]
   split
   ·exact fN i r
   ·rw [List.map_cons,fN i r]
theorem fV (fr hp u) (t:Nat) (x:AV):(mk fr hp u).put t x=mk (j9 fr t x) hp u:=by
 unfold St.put mk
 congr 1
 funext j
 rw [ib];rfl
theorem Bt (fr hp u) (t:Nat) (o:Ob):(mk fr hp u).add t o=mk fr (j9 hp [t] o) (t::u):=by
 unfold St.add mk
 congr 1
 funext j
 rw [lu,ib];rfl
theorem G7 (fr hp u) (p:Name) (o:Ob):(mk fr hp u).set p (some o)=mk fr (j9 hp p o) u:=by
 unfold St.set mk
 congr 1
 funext j
 rw [lu,ib];rfl
theorem GK (fr hp u) (p:Name):(mk fr hp u).set p none=mk fr (iE hp p) u:=by
 unfold St.set mk
 congr 1
 funext j
 rw [fN,gb];rfl
section
variable {P:Program} {cf:Cf} {Q:Exit→St→Prop} {s:St} {k:List It} {o:Oper} {a b:Code} {t:Nat} {all:Array Oper} {r:List Oper}
theorem ru:cnd P cf (.d (.bool true)) a b k Q s=run P cf (.code a::k) Q s:=by simp [cnd]
theorem pd:cnd P cf (.d (.bool false)) a b k Q s=run P cf (.code b::k) Q s:=by simp [cnd]
def skp (P:Program) (cf:Cf) (d:Option Nat) (all:Array Oper) (r:List Oper) (k:List It) (Q:Exit→St→Prop) (s:St):Prop :=
 match d with
 | some t=>if t<cf.n then run P cf (.ops all r::k) Q (s.put t (.tup [])) else False
 | none=>run P cf (.ops all r::k) Q s
theorem gS (d:Option Nat):(bx cf.n d s (.tup [])).run (fun s'=>run P cf (.ops all r::k) Q s') False=skp P cf d all r k Q s:=by
 cases d with
 | none=>rfl
 | some t=>simp only [bx,skp];split<;>simp [R.run]
theorem A5:gd P cf (some (t,.d (.bool true))) true all o r s k Q=stp P cf (opR P.ti cf.n o.op o.dst (s.put t (.d (.bool true)))) { o with guard:=none } (s.put t (.d (.bool true))) (.ops all r::k) Q:=by simp [gd]
theorem Cq:gd P cf (some (t,.d (.bool false))) false all o r s k Q=stp P cf (opR P.ti cf.n o.op o.dst (s.put t (.d (.bool false)))) { o with guard:=none } (s.put t (.d (.bool false))) (.ops all r::k) Q:=by simp [gd]
theorem BQ:gd P cf (some (t,.d (.bool true))) false all o r s k Q=skp P cf o.dst all r k Q (s.put t (.d (.bool true))):=by simp [gd,gS]
theorem By:gd P cf (some (t,.d (.bool false))) true all o r s k Q=skp P cf o.dst all r k Q (s.put t (.d (.bool false))):=by simp [gd,gS]
theorem H8 {want:Bool}:gd P cf (some (t,.tup [])) want all o r s k Q=skp P cf o.dst all r k Q s:=by simp [gd,gS]
theorem yJ {p:Prop} [Decidable p] (h1:p→run P cf (.code a::k) Q s) (h2:¬ p→run P cf (.code b::k) Q s):cnd P cf (.d (.bool (decide p))) a b k Q s :=
 ⟨fun h=>h1 (of_decide_eq_true h),fun h=>h2 (of_decide_eq_false h)⟩
theorem uN {c:Bool} (h1:c=true→run P cf (.code a::k) Q s) (h2:c=false→run P cf (.code b::k) Q s):cnd P cf (.d (.bool c)) a b k Q s:=⟨h1,h2⟩
theorem ua {p:Prop} [Decidable p] {want:Bool}
  (h1:p→gd P cf (some (t,.d (.bool true))) want all o r (s.put t (.d (.bool true))) k Q) (h2:¬ p→gd P cf (some (t,.d (.bool false))) want all o r (s.put t (.d (.bool false))) k Q):gd P cf (some (t,.d (.bool (decide p)))) want all o r s k Q:=by
 have pp:∀ x y:AV,(s.put t x).put t y=s.put t y:=fun x y=>by
  unfold St.put;congr 1;funext i;simp only [de];split<;>rfl
 by_cases h:p
 ·have:=h1 h
  simp only [h,decide_true]
  cases want
  ·rw [BQ] at this ⊢;rw [pp] at this;exact this
  ·rw [A5] at this ⊢;rw [pp] at this;exact this
 ·have:=h2 h
  simp only [h,decide_false]
  cases want
  ·rw [Cq] at this ⊢;rw [pp] at this;exact this
  ·rw [By] at this ⊢;rw [pp] at this;exact this
theorem xC {c:Bool} {want:Bool}
  (h1:c=true→gd P cf (some (t,.d (.bool true))) want all o r (s.put t (.d (.bool true))) k Q) (h2:c=false→gd P cf (some (t,.d (.bool false))) want all o r (s.put t (.d (.bool false))) k Q):gd P cf (some (t,.d (.bool c))) want all o r s k Q:=by
 have:=ua (p:=c=true) (Q:=Q) (s:=s) (k:=k) (o:=o) (t:=t) (all:=all) (r:=r) (P:=P) (cf:=cf) (want:=want) h1 (fun h=>h2 (by simpa using h))
 simpa using this
end
def kU {α:Type}:Nat→List α→List α
 | 0,_=>[]
 | _+1,[]=>[]
 | n+1,a::l=>a::kU n l
def kR {α:Type}:Nat→List α→List α
 | 0,l=>l
 | _+1,[]=>[]
 | n+1,_::l=>kR n l
def BN {α:Type}:List α→Nat→α→List α
 | [],_,_=>[]
 | _::l,0,x=>x::l
 | a::l,n+1,x=>a::BN l n x
def xD {α:Type}:List α→List α→List α
 | [],m=>m
 | a::l,m=>a::xD l m
def sW {α:Type}:List α→Nat
 | []=>0
 | _::l=>sW l+1
theorem jq {α:Type}:∀ (n:Nat) (l:List α),kU n l=l.take n
 | 0,l=>by simp [kU]
 | _+1,[]=>rfl
 | n+1,a::l=>by simp [kU,jq n l]
theorem jE {α:Type}:∀ (n:Nat) (l:List α),kR n l=l.drop n
 | 0,l=>by simp [kR]
 | _+1,[]=>rfl
 | n+1,a::l=>by simp [kR,jE n l]
theorem wQ {α:Type}:∀ (l:List α) (n:Nat) (x:α),BN l n x=l.set n x
 | [],_,_=>rfl
 | _::l,0,x=>rfl
 | a::l,n+1,x=>by simp [BN,wQ l n x]
theorem vJ {α:Type}:∀ (l m:List α),xD l m=l++m
 | [],m=>rfl
 | a::l,m=>by simp [xD,vJ l m]
theorem jC {α:Type}:∀ (l:List α),sW l=l.length
 | []=>rfl
 | a::l=>by simp [sW,jC l]
theorem AZ (i:TI) (d:D) (c:Nat):gD i d c=if i.k.aV then none else match d with
  | .agg cs=>if i.k.agg then (if c+i.sz≤sW cs then some (.agg (kU i.sz (kR c cs))) else none) else cs[c]?
  | d=>if i.k.agg then none else if c=0 then some d else none:=by
 unfold gD
 split
 ·rfl
 ·cases d<;>simp only [jq,jE,jC]
theorem B7 (i:TI) (cs:List AV) (c:Nat):mW i cs c=if i.k.aV then .no else if i.k.agg then (if c+i.sz≤sW cs then .ok (eS (kU i.sz (kR c cs))) else .no) else R.ofO cs[c]?:=by
 unfold mW
 simp only [jq,jE,jC]
theorem xy {α:Type} (l:List α) (c:Nat) (xs:List α):splice l c xs=xD (kU c l) (xD xs (kR (c+sW xs) l)):=by
 unfold splice
 simp only [jq,jE,jC,vJ]
theorem vj (i:TI) (w:W) (xs:List D) (j c:Nat) (y:D):iC i w xs j c y=if i.k.aV then none
  else if i.isW w && nT w y && c == 0 then some (xs.set j y)
  else if i.k.agg then none
  else match xs.getD j .nilp with
   | .agg cs=>if y.scal∧c<sW cs∧i.sz=1 then some (xs.set j (.agg (BN cs c y))) else none
   | _=>none:=by
 unfold iC
 simp only [wQ,jC]
 generalize xs.getD j .nilp=z
 cases z<;>rfl
theorem HO {α:Type} [BEq α] (l m:List α):List.beq l m=(l == m):=rfl
section
variable {P:Program} {cf:Cf} {Q:Exit→St→Prop} {s s':St} {k:List It} {o:Oper} {a b:Code} {all:Array Oper} {r:List Oper}
def xk (P:Program) (cf:Cf) (i:Nat) (k:List It) (Q:Exit→St→Prop) (s:St):Prop:=goK P cf (eJ i k) i Q s
theorem l7 (i:Nat):run P cf (.code (.exit i)::k) Q s=xk P cf i k Q s:=BG Q s k i
theorem vh (i:Nat):xk P cf i [] Q s=Q (.exit i) s:=rfl
theorem qL (i:Nat) (c:Code):xk P cf i (.code c::k) Q s=xk P cf i k Q s:=rfl
theorem A7 (i:Nat):xk P cf i (.ops all r::k) Q s=xk P cf i k Q s:=rfl
theorem AT (i:Nat):xk P cf i (.blk i::k) Q s=run P cf k Q s:=by simp [xk,eJ,goK]
theorem q9 (t:Nat) (h:t<cf.n):skp P cf (some t) all r k Q s=run P cf (.ops all r::k) Q (s.put t (.tup [])):=by simp [skp,h]
theorem Cx:skp P cf none all r k Q s=run P cf (.ops all r::k) Q s:=rfl
end
attribute [go_sem] cF wV kX wU oZ sL lR run_seq sk oP l7 vh qL A7 AT wv sY vm mU uw ru pd A5 Cq BQ By yk gV q9 Cx
attribute [go_sem] wrap_i64 wrap_u64 GZ xO FK Bz Ba Ae Bj AV.inU dC
attribute [go_sem] Ob.box Ob.arr GY isB yd
attribute [go_sem] opR bx fP iM gJ vj nT bW nF jl fw eh fY bD fO bQ ng gU loI tF gZ AH En TK.isBool dR unR jB sx Am Cn AZ B7 xy cg cellsD iF eS nV kK jL kU kR xD sW BN ev cv TK.agg TK.aV TI.isW TI.zOk TI.by1 TI.zero D.scal R.bind R.ofO R.run mz TI.w St.ja
attribute [go_sem] fV Bt G7 GK j9 iE cS H6 aa wH dv aB fg
attribute [go_sem] List.map_cons List.map_nil List.getElem?_cons_zero List.getElem?_cons_succ Option.map_some Option.map_none Option.isSome_some Option.getD_some reduceCtorEq List.cons.injEq and_true true_and and_self if_true if_false ite_true ite_false and_false false_and
attribute [go_sem] List.getD_cons_zero Int.cast_ofNat_Int Int.toNat_natCast List.drop_succ_cons List.drop_zero Nat.add_one_sub_one List.take_length List.length_map Option.getD_none Option.isSome_none List.flatMap_cons List.flatMap_nil
attribute [go_sem] List.not_mem_nil not_false_eq_true not_true_eq_false List.mem_cons or_false or_self false_or forall_const Bool.true_eq_false Bool.false_eq_true Bool.not_true Bool.not_false false_imp_iff true_imp_iff imp_self List.length_cons List.length_nil decide_true decide_false decide_eq_true_eq decide_eq_false_iff_not Nat.zero_add Nat.add_zero Bool.and_true Bool.true_and Bool.and_false Bool.false_and beq_self_eq_true List.all_cons List.all_nil List.toList_toArray ne_eq List.getElem?_toArray
end Go.Ab
namespace Go.Ab
section
variable {P:Program}
theorem k7 {G:List (Nat × Obj)} {f:FuncId} {ds:List D} {Q:AV→Prop} (h:HP P G f ds Q) {W:World} (hG:∀ q∈G,W.heap[q.1]?=some q.2) {vs:Array Value} (hs:vs.size=ds.length)
  (hr:∀ (i:Nat) d,ds[i]?=some d→Rep W.heap (fun _=>False) (vs.getD i undef) d) :
  Calls P f vs W fun e W'=>∃ v r,e=.returned v∧Q r∧Ext W W'∧∃ u hp β own,VR W'.heap own u hp β v r:=by
 have hno:∀ (fr:List (Nat × AV)) (u:List Nat) (β:Name→Option Blk) (b:Nat),¬ (mk fr [] u).own (fun _=>False) β b:=by
  rintro fr u β b (hb | ⟨p,k,hp,_⟩)
  ·exact hb
  ·exact hp rfl
 have hsim:Sim { n:=ds.length,io:=wio W,G:=G,H0:=W.heap,O0:=fun _=>False,A:=fun _=>False,U0:=[],β0:=fun _=>none,hA:=fun _ hb=>hb.elim,hG:=fun q hq=>⟨hG q hq,fun hb=>hb⟩ }
   (fun _=>none) (mk (aB 0 (ds.map .d)) [] []) vs W:=by
  refine { tms:=hs,io:=rfl,size:=Nat.le_refl _,frame:=fun _ _ _=>rfl,slots:=fun t=>?_,objs:=fun p o ho=>(by cases ho),blocks:=fun p k hp=>(by exact absurd rfl hp),inj:=fun p q k l hp=>(by exact absurd rfl hp),us:=fun x hx=>(by cases hx),stay:=fun p hp=>rfl }
  rw [cS,aN,if_pos (Nat.zero_le _),Nat.sub_zero,List.getElem?_map]
  cases hd:ds[t]? with
  | none=>exact .un _
  | some d=>exact .d _ _ ((hr t d hd).mono (fun _ _ _=>rfl) (fun b _ hb=>(hno _ _ _ b hb).elim))
 have hgo:=fun h1 h2 h3 h4=>h.2 _ _ vs W h1 h2 h3 h4 hsim
 refine (callsIn_wide.1 (hgo (by simp) rfl rfl rfl)).mono ?_
 rintro e W' ⟨v,r,hp',u',β',rfl,⟨hQ,_,rfl⟩,hs2⟩
 refine ⟨v,r,rfl,hQ,⟨hs2.io,hs2.size,fun b hb=>hs2.frame b hb (fun h=>h)⟩,_,_,_,_,hs2.slots 0⟩
theorem Ext.frame {W W':World} (h:Ext W W') (may:MemPlace→Prop):W.keptBut W' may:=by
 have hio:=h.io
 simp only [wio,Prod.mk.injEq] at hio
 refine ⟨hio.1,hio.2,fun i hi=>?_⟩
 rw [h.old i hi]
 split<;>simp_all
end
end Go.Ab
namespace Go.Ab
abbrev ToK (_:List It):Type:=St
abbrev ToX (_:Nat) (_:List It):Type:=St
abbrev ToS (_:Oper) (_:St) (_:List It):Type 1:=R St
abbrev ToG (_:Bool) (_:Array Oper) (_:Oper) (_:List Oper) (_:St) (_:List It):Type:=Option (Nat × AV)
abbrev ToC (_ _:Code) (_:List It) (_:St):Type:=AV
abbrev ToP (_:Option Nat) (_:Array Oper) (_:List Oper) (_:List It):Type:=St
structure Eng (P:Program) (cf:Cf) (Q:Exit→St→Prop) where
 run:(k:List It)→ToK k→Prop
 stp:(o:Oper)→(s:St)→(k:List It)→ToS o s k→Prop
 gd:(w:Bool)→(all:Array Oper)→(o:Oper)→(r:List Oper)→(s:St)→(k:List It)→ToG w all o r s k→Prop
 cnd:(a b:Code)→(k:List It)→(s:St)→ToC a b k s→Prop
 xk:(i:Nat)→(k:List It)→ToX i k→Prop
 skp:(d:Option Nat)→(all:Array Oper)→(r:List Oper)→(k:List It)→ToP d all r k→Prop
 run_eq:∀ (k:List It) (s:St),run k s=Ab.run P cf k Q s
 stp_eq:∀ (x:R St) o s k,stp o s k x=Ab.stp P cf x o s k Q
 gd_eq:∀ (v:Option (Nat × AV)) w all o r s k,gd w all o r s k v=Ab.gd P cf v w all o r s k Q
 cnd_eq:∀ (v:AV) a b k s,cnd a b k s v=Ab.cnd P cf v a b k Q s
 xk_eq':∀ i k (s:St),xk i k s=Ab.xk P cf i k Q s
 gS:∀ d all r k (s:St),skp d all r k s=Ab.skp P cf d all r k Q s
theorem G4 (P:Program) (cf:Cf) (Q:Exit→St→Prop):Nonempty (Eng P cf Q) :=
 ⟨⟨fun k s=>run P cf k Q s,fun o s k x=>stp P cf x o s k Q,fun w all o r s k v=>gd P cf v w all o r s k Q,fun a b k s v=>cnd P cf v a b k Q s,fun i k s=>xk P cf i k Q s,fun d all r k s=>skp P cf d all r k Q s,
   fun _ _=>rfl,fun _ _ _ _=>rfl,fun _ _ _ _ _ _ _=>rfl,fun _ _ _ _ _=>rfl,fun _ _ _=>rfl,fun _ _ _ _ _=>rfl⟩⟩
section
variable {P:Program} {cf:Cf} {Q:Exit→St→Prop} (E:Eng P cf Q) (s:St) (k:List It) (o:Oper) (a b:Code) (t:Nat) (all:Array Oper) (r:List Oper)
theorem Ib:E.run [] s=Q .normal s:=by rw [E.run_eq,cF]
theorem H4 (i:Nat):E.run (.blk i::k) s=E.run k s:=by rw [E.run_eq,E.run_eq,wV]
theorem xG:E.run (.ops all []::k) s=E.run k s:=by rw [E.run_eq,E.run_eq,kX]
theorem H7 (d:Option Nat) (op:Op) (ty:Nat) (p:String) (e:Array Edge) :
 E.run (.ops all ({ dst:=d,op:=op,type:=ty,pos:=p,after:=e,guard:=none }::r)::k) s =
  E.stp { dst:=d,op:=op,type:=ty,pos:=p,after:=e,guard:=none } s (.ops all r::k) (opR P.ti cf.n op d s):=by rw [E.run_eq,E.stp_eq,wU]
theorem C9 (d:Option Nat) (op:Op) (ty:Nat) (p:String) (e:Array Edge) (j:Nat) (want:Bool) :
 E.run (.ops all ({ dst:=d,op:=op,type:=ty,pos:=p,after:=e,guard:=some (j,want) }::r)::k) s =
  E.gd want all { dst:=d,op:=op,type:=ty,pos:=p,after:=e,guard:=some (j,want) } r s k (dK all j s):=by rw [E.run_eq,E.gd_eq,oZ]
theorem Ge:E.run (.code .skip::k) s=E.run k s:=by rw [E.run_eq,E.run_eq,sL]
theorem Cu (i:Nat) (ops:List Oper):E.run (.code (.region i ops.toArray false)::k) s=E.run (.ops ops.toArray ops::k) s:=by rw [E.run_eq,E.run_eq,lR]
theorem Ia:E.run (.code (.seq a b)::k) s=E.run (.code a::.code b::k) s:=by rw [E.run_eq,E.run_eq,run_seq]
theorem Fv (x:Operand):E.run (.code (.cond x a b)::k) s=E.cnd a b k s (ev s x):=by rw [E.run_eq,E.cnd_eq,sk]
theorem EK (i:Nat):E.run (.code (.block i a)::k) s=E.run (.code a::.blk i::k) s:=by rw [E.run_eq,E.run_eq,oP]
theorem GR (i:Nat):E.run (.code (.exit i)::k) s=E.xk i k s:=by rw [E.run_eq,E.xk_eq',l7]
theorem HD:E.run (.code .ret::k) s=Q .ret s:=by rw [E.run_eq,wv]
theorem mr (s':St):E.stp o s k (.ok s')=E.run k s':=by rw [E.run_eq,E.stp_eq,vm]
theorem nt (p:Prop) (x:R St):E.stp o s k (.need p x)=(p∧E.stp o s k x):=by rw [E.stp_eq,E.stp_eq,mU]
theorem ui:E.cnd a b k s (.d (.bool true))=E.run (.code a::k) s:=by rw [E.cnd_eq,E.run_eq,ru]
theorem re:E.cnd a b k s (.d (.bool false))=E.run (.code b::k) s:=by rw [E.cnd_eq,E.run_eq,pd]
theorem wI:E.gd true all o r s k (some (t,.d (.bool true)))=E.stp { o with guard:=none } (s.put t (.d (.bool true))) (.ops all r::k) (opR P.ti cf.n o.op o.dst (s.put t (.d (.bool true)))):=by rw [E.gd_eq,E.stp_eq,A5]
theorem vG:E.gd false all o r s k (some (t,.d (.bool false)))=E.stp { o with guard:=none } (s.put t (.d (.bool false))) (.ops all r::k) (opR P.ti cf.n o.op o.dst (s.put t (.d (.bool false)))):=by rw [E.gd_eq,E.stp_eq,Cq]
theorem vL:E.gd false all o r s k (some (t,.d (.bool true)))=E.skp o.dst all r k (s.put t (.d (.bool true))):=by rw [E.gd_eq,E.gS,BQ]
theorem xn:E.gd true all o r s k (some (t,.d (.bool false)))=E.skp o.dst all r k (s.put t (.d (.bool false))):=by rw [E.gd_eq,E.gS,By]
theorem wT (want:Bool):E.gd want all o r s k (some (t,.tup []))=E.skp o.dst all r k s:=by rw [E.gd_eq,E.gS,H8]
theorem fX (t:Nat) (h:t<cf.n):E.skp (some t) all r k s=E.run (.ops all r::k) (s.put t (.tup [])):=by rw [E.gS,E.run_eq,q9 t h]
theorem CC (i:Nat):E.xk i [] s=Q (.exit i) s:=by rw [E.xk_eq',vh]
theorem xu (i:Nat) (c:Code):E.xk i (.code c::k) s=E.xk i k s:=by rw [E.xk_eq',E.xk_eq',qL]
theorem DZ (i:Nat):E.xk i (.blk i::k) s=E.run k s:=by rw [E.xk_eq',E.run_eq,AT]
variable {s k o a b all r}
end
attribute [go_sem] Ib H4 xG H7 C9 Ge Cu Ia Fv EK GR HD mr nt ui re wI vG vL xn wT fX CC xu DZ
section
variable {P:Program} {cf:Cf} {Q:Exit→St→Prop} (E:Eng P cf Q) {s:St} {k:List It} {o:Oper} {a b:Code} {t:Nat} {all:Array Oper} {r:List Oper}
def er (_E:Eng P cf Q) (c:Code) (s:St) (k:List It):Prop:=ACk P cf c s k Q
theorem FL:E.run (.code (.loop a)::k) s=er E (.loop a) s k:=by rw [E.run_eq,sY];rfl
theorem F3 (i:Nat) (ops:List Oper):E.run (.code (.region i ops.toArray true)::k) s=er E (.region i ops.toArray true) s k:=by rw [E.run_eq,zX];rfl
theorem aE:E.stp o s k .no=AOk P cf o s k Q:=by rw [E.stp_eq,uw]
theorem aG {c:Bool} (h1:c=true→E.run (.code a::k) s) (h2:c=false→E.run (.code b::k) s):E.cnd a b k s (.d (.bool c)):=by
 rw [E.cnd_eq]
 exact uN (fun h=>by rw [← E.run_eq];exact h1 h) (fun h=>by rw [← E.run_eq];exact h2 h)
theorem ah {p:Prop} [Decidable p] (h1:p→E.run (.code a::k) s) (h2:¬ p→E.run (.code b::k) s):E.cnd a b k s (.d (.bool (decide p))):=by
 rw [E.cnd_eq]
 exact yJ (fun h=>by rw [← E.run_eq];exact h1 h) (fun h=>by rw [← E.run_eq];exact h2 h)
theorem bz {c:Bool} {want:Bool}
  (h1:c=true→E.gd want all o r (s.put t (.d (.bool true))) k (some (t,.d (.bool true)))) (h2:c=false→E.gd want all o r (s.put t (.d (.bool false))) k (some (t,.d (.bool false)))):E.gd want all o r s k (some (t,.d (.bool c))):=by
 rw [E.gd_eq]
 exact xC (fun h=>by rw [← E.gd_eq];exact h1 h) (fun h=>by rw [← E.gd_eq];exact h2 h)
theorem ar {p:Prop} [Decidable p] {want:Bool}
  (h1:p→E.gd want all o r (s.put t (.d (.bool true))) k (some (t,.d (.bool true)))) (h2:¬ p→E.gd want all o r (s.put t (.d (.bool false))) k (some (t,.d (.bool false)))):E.gd want all o r s k (some (t,.d (.bool (decide p)))):=by
 rw [E.gd_eq]
 exact ua (fun h=>by rw [← E.gd_eq];exact h1 h) (fun h=>by rw [← E.gd_eq];exact h2 h)
end
theorem v8 (a b:Int):(a == b)=decide (a=b):=rfl
theorem EL (a b:Int):(a != b)=decide (¬ a=b):=by simp only [bne,v8,decide_not]
theorem FB:(true == false)=false:=rfl
theorem GB:(false == true)=false:=rfl
attribute [go_sem] FB GB FL F3 v8 EL eq_self not_true_eq_false
theorem veil {P:Program} {cf:Cf} {Q:Exit→St→Prop} {k:List It} {s:St} (h:∀ E:Eng P cf Q,E.run k s):run P cf k Q s:=by
 obtain ⟨E⟩:=G4 P cf Q
 rw [← E.run_eq];exact h E
theorem ab {P:Program} {cf:Cf} {Q:Exit→St→Prop} (E:Eng P cf Q) {s:St} {k:List It} {dst:Option Nat} {fv:Operand} {args:Array Operand} {at':Array TypeId} {ty:TypeId} {pos:String} {af:Array Edge}
  {f:FuncId} {caps:List AV} {ds:List D} {Q0:AV→Prop} (hc:HP P cf.G f ds Q0)
  (hev:ev s fv=.clo f caps) (hargs:args.toList.map (ev s)++caps=ds.map .d) (hdst:∀ t∈dst,t<cf.n) (hk:∀ r,Q0 r→E.run k (s.ja dst r)) :
  E.stp { dst:=dst,op:=.call { callee:=.value fv,args:=args,argTypes:=at' },type:=ty,pos:=pos,after:=af,guard:=none } s k .no:=by
 rw [E.stp_eq,uw]
 exact js hc hev hargs hdst fun r hr=>by rw [← E.run_eq];exact hk r hr
theorem bq:(∀ a b:Bool,((a && b)=true)=(a=true∧b=true))∧(∀ a:Bool,((!a)=true)=(a=false))∧(∀ a:Bool,((!a)=false)=(a=true)) :=
 ⟨fun a b=>by cases a<;>cases b<;>simp,fun a=>by cases a<;>simp,fun a=>by cases a<;>simp⟩
end Go.Ab

namespace Go.Ab
def frE (s:St):List (Nat × AV)→Prop
 | []=>True
 | q::r=>s.fr q.1=q.2∧q.2.inU []=true∧frE s r
theorem xa {s:St}:∀ {l:List (Nat × AV)},frE s l→∀ q∈l,s.fr q.1=q.2∧q.2.inU []=true
 | [],_,q,h=>by simp at h
 | _::r,h,q,hq=>by
   rcases List.mem_cons.1 hq with rfl | hq
   ·exact ⟨h.1,h.2.1⟩
   ·exact xa h.2.2 q hq
theorem wW {s:St} {fr:List (Nat × AV)} (h:frE s fr):Le [] id s (mk fr [] []) where
 fr:=fun t=>by
  rcases lx (z:=AV.un) (l:=fr) (i:=t) with e | hm
  ·exact .inl e
  ·obtain ⟨h1,h2⟩:=xa h _ hm
   exact .inr ⟨by rw [AV.dI id (fun _=>rfl)];exact h1,h2⟩
 hp:=fun p o ho=>by cases ho
 inj:=fun p q hp=>by exact absurd rfl hp
 us:=fun x hx=>by cases hx
 stay:=fun p hp=>by obtain ⟨a,t,_,ha⟩:=hp;cases ha
section
variable {P:Program} {cf:Cf}
theorem xE (next:St→Prop) (k:List It) (Q:Exit→St→Prop) (s:St) (i:Nat):lq P cf next k Q (.exit i) s=xk P cf i k Q s:=rfl
theorem nS {X:Type} (I:X→St) (μ:X→Nat) (next:X→St→Prop) {c:Code} {s:St} {k:List It} {Q:Exit→St→Prop}
  (h0:∃ x τ,Le cf.U τ s (I x))
  (hn:∀ x s',next x s'→∃ y,μ y<μ x∧∃ τ,Le cf.U τ s' (I y)) (hr:∀ x,run P cf [.code c] (lq P cf (next x) k Q) (I x)):ACk P cf (.loop c) s k Q:=by
 have key:∀ N x,μ x<N→∀ (B:Base),cf.fits B→∀ ds β a w,a.defers=ds→Sim B β (I x) a.tmps w→Code.roundsIn (Fw cf.ro) 0 P c (hold P cf (lift B ds Q) k) N a w:=by
  intro N
  induction N with
  | zero=>intro x hx;omega
  | succ N ih =>
    intro x hx B hB ds β a w hds h
    rw [roundsIn_succ]
    refine wpIn_mono (aP (hr x) B hB ds β a w hds h) fun e a' w' hq=>?_
    obtain ⟨hd',s',β',hq,hs⟩:=hq
    cases e with
    | normal =>
      obtain ⟨y,hy,τ,hle⟩:=hn x s' hq
      obtain ⟨β2,hs2,_⟩:=hs.le (τ:=τ) (by rw [hB.2.1];exact hle)
      exact ih y (by omega) B hB ds β2 a' w' hd' hs2
    | exit i =>
      unfold lq goK at hq
      show hold P cf (lift B ds Q) k (.exit i) a' w'
      simp only at hq
      split at hq
      ·rename_i k' hk'
       exact bF _ i k k' a' w' hk' (aP hq B hB ds β' a' w' hd' hs)
      ·rename_i hk'
       exact bG _ i k a' w' hk' ⟨hd',s',β',hq,hs⟩
    | ret=>exact eB _ k a' w' ⟨hd',s',β',hq,hs⟩
    | goto l=>exact hq.elim
    | panic c=>exact hq.elim
    | outgrown=>exact hq.elim
 obtain ⟨x,τ,hle⟩:=h0
 intro B hB ds β a w hds h
 obtain ⟨β2,hs2,_⟩:=h.le (τ:=τ) (by rw [hB.2.1];exact hle)
 exact wpIn_loop_rounds (μ x+1) (key _ x (Nat.lt_succ_self _) B hB ds β2 a w hds hs2)
theorem CE {X:Type} (I:X→List (Nat × AV)) (μ:X→Nat) {c:Code} {s:St} {k:List It} {Q:Exit→St→Prop} (hU:cf.U=[]) (x0:X) (h0:frE s (I x0))
  (hr:∀ x,run P cf [.code c] (lq P cf (fun s'=>∃ y,μ y<μ x∧frE s' (I y)) k Q) (mk (I x) [] [])):ACk P cf (.loop c) s k Q :=
 nS (fun x=>mk (I x) [] []) μ _ ⟨x0,id,by rw [hU];exact wW h0⟩ (fun x s' ⟨y,hy,h⟩=>⟨y,hy,id,by rw [hU];exact wW h⟩) hr
end
attribute [go_sem] frE yf xE GU vh qL A7 AT
end Go.Ab
namespace Go.Ab
section
variable {P:Program} {cf:Cf}
end
end Go.Ab
namespace Go.Ab
section
variable {P:Program} {cf:Cf}
theorem A8 {X:Type} (I:X→List (Nat × AV)) (O:X→List (Name × Ob)) (u:List Nat) (μ:X→Nat) {c:Code} {s:St} {k:List It} {Q:Exit→St→Prop} (x0:X) (h0:LeL cf.U id s (I x0) (O x0) u)
  (hr:∀ x,run P cf [.code c] (lq P cf (fun s'=>∃ y,μ y<μ x∧LeL cf.U id s' (I y) (O y) u) k Q) (mk (I x) (O x) u)):ACk P cf (.loop c) s k Q :=
 nS (fun x=>mk (I x) (O x) u) μ _ ⟨x0,id,h0.le⟩ (fun _ _ ⟨y,hy,h⟩=>⟨y,hy,id,h.le⟩) hr
theorem ym {s:St} {k:List It} {Q:Exit→St→Prop} {xt:Nat} {x:Operand} {t:Nat} {ty:TypeId} {pos:String} {af:Array Edge} {l:List UInt8} (hs:(P.ti xt).k=.str) (hx:ev s x=.d (.str l)) (ht:t<cf.n) (hu:t ∉ s.used)
  (hk:run P cf k Q ((s.add t (.siter l 0)).put t (.it [t]))) :
  AOk P cf { dst:=some t,op:=.range xt x,type:=ty,pos:=pos,after:=af,guard:=none } s k Q:=by
 intro B hB ds β a w hds h Q'
 have hv:=h.ev x
 rw [hx] at hv
 have hv:=hv.toD.val rfl
 have hrun:(execOp a.eval { dst:=some t,op:=.range xt x,type:=ty,pos:=pos,after:=af,guard:=none }).run P w=.ok (.value (.pointer (some ⟨w.heap.size,0,none⟩))) (w.alloc (.stringIter ⟨l.toArray⟩ 0)):=by
  show (do pure (Next.value (← Instr.range xt (a.eval x))):Sem Next).run P w=_
  rw [hv,Sem.run_bind]
  simp [Instr.range,run_underlying (eK hs)]
 obtain ⟨hsim,_⟩:=h.alloc hu (.stringIter ⟨l.toArray⟩ 0) (.siter l 0) 0 (fun β' hβ _=>⟨_,hβ,World.iter_heap w ⟨l.toArray⟩ 0⟩)
 refine aA (by simp) hrun (.inl rfl) ⟨hds,_,_,aP hk,hsim.put (by rw [hB.1];exact ht) ?_⟩
 refine .its _ _ ⟨t,[],rfl,List.mem_cons_self⟩ rfl (fun l' i hi=>⟨⟨w.heap.size,0,0⟩,by simp [au],rfl⟩) (fun l' c i hi=>⟨⟨w.heap.size,0,0⟩,by simp [au],rfl⟩)
theorem Ad {s:St} {k:List It} {Q:Exit→St→Prop} {x:Operand} {t:Nat} {ty:TypeId} {ps:String} {af:Array Edge} {p:Name} {l:List UInt8} {pos:Nat} (hx:ev s x=.it p) (hp:s.hp p=some (.siter l pos)) (ht:t<cf.n)
  (h1:pos<l.length→run P cf k Q ((s.set p (some (.siter l (pos+(Utf8.decode ⟨l.toArray⟩ pos).2)))).put t (.tup [.d (.bool true),.d (.int .i64 pos),.d (.int .i32 (Utf8.decode ⟨l.toArray⟩ pos).1)])))
  (h2:¬ pos<l.length→run P cf k Q (s.put t (.tup [.d (.bool false)]))) :
  AOk P cf { dst:=some t,op:=.next x true,type:=ty,pos:=ps,after:=af,guard:=none } s k Q:=by
 intro B hB ds β a w hds h Q'
 have hv:=h.ev x
 rw [hx] at hv
 have hsz:(⟨l.toArray⟩:ByteArray).size=l.length:=by simp [ByteArray.size]
 generalize hval:a.eval x=v at hv
 cases hv with
 | its _ _ hn ho g g' =>
 obtain ⟨kk,hk,rfl⟩:=g l pos hp
 obtain ⟨k2,hk2,hh⟩:=(h.objs p _ hp).2
 obtain rfl:=Option.some.inj (hk.symm.trans hk2)
 have hlt:=al hh
 by_cases hpos:pos<l.length
 ·have hrun:(execOp a.eval { dst:=some t,op:=.next x true,type:=ty,pos:=ps,after:=af,guard:=none }).run P w =
    .ok (.value (.tuple #[.bool true,goInt pos,.int .i32 (Utf8.decode ⟨l.toArray⟩ pos).1])) { w with heap:=w.heap.setIfInBounds kk.b (.stringIter ⟨l.toArray⟩ (pos+(Utf8.decode ⟨l.toArray⟩ pos).2)) }:=by
   show (do pure (Next.value (← Instr.next (a.eval x) true ty)):Sem Next).run P w=_
   rw [hval,Sem.run_bind]
   simp [Instr.next,getObj,setObj,hh,hsz,hpos,Sem.run]
  obtain ⟨hsim,hvr⟩:=h.modify (p:=p) (ob':=.siter l (pos+(Utf8.decode ⟨l.toArray⟩ pos).2)) hp trivial (w':={ w with heap:=w.heap.setIfInBounds kk.b (.stringIter ⟨l.toArray⟩ (pos+(Utf8.decode ⟨l.toArray⟩ pos).2)) }) rfl (by simp)
   (fun b hb=>by
    have:=hb kk hk
    simp [Ne.symm this]) (fun _ _=>⟨kk,hk,by simp [hlt]⟩)
  refine aA (by simp) hrun (.inl rfl) ⟨hds,_,_,aP (h1 hpos),hsim.put (by rw [hB.1];exact ht) ?_⟩
  refine .tup _ _ rfl fun i y hi=>?_
  match i,hi with
  | 0,hi=>obtain rfl:=Option.some.inj hi;exact .d _ _ (.bool _)
  | 1,hi=>obtain rfl:=Option.some.inj hi;exact .d _ _ (.int _ _)
  | 2,hi=>obtain rfl:=Option.some.inj hi;exact .d _ _ (.int _ _)
 ·have hrun:(execOp a.eval { dst:=some t,op:=.next x true,type:=ty,pos:=ps,after:=af,guard:=none }).run P w=.ok (.value (.tuple #[.bool false])) w:=by
   show (do pure (Next.value (← Instr.next (a.eval x) true ty)):Sem Next).run P w=_
   rw [hval,Sem.run_bind]
   simp [Instr.next,getObj,hh,hsz,hpos,Sem.run]
  refine aA (by simp) hrun (.inl rfl) ⟨hds,_,_,aP (h2 hpos),h.put (by rw [hB.1];exact ht) ?_⟩
  refine .tup _ _ rfl fun i y hi=>?_
  match i,hi with
  | 0,hi=>obtain rfl:=Option.some.inj hi;exact .d _ _ (.bool _)
end
end Go.Ab

namespace Go.Ab
def opV (tf:Nat→TI) (o:Op) (s:St):R AV :=
 match o with
 | .move x=>.ok (ev s x)
 | .assign x=>.ok (ev s x)
 | .pick c a b=>jB (ev s c) (ev s a) (ev s b)
 | .build t parts=>nV tf (tf t) (parts.toList.map fun q=>(q.1,ev s q.2))
 | .load t x=>iM (tf t) s.hp (ev s x)
 | .fieldAddr t x f=>bW (tf t) tf s.hp (ev s x) f
 | .field t x f=>nF (tf t) tf (ev s x) f
 | .indexAddr t x j=>bQ (tf t) tf s.hp (ev s x) (ev s j)
 | .index t x j=>ng (tf t) (ev s x) (ev s j)
 | .slice t x lo hi mx=>match mx with
   | none=>gU (tf t) tf s.hp (ev s x) (lo.map (ev s)) (hi.map (ev s))
   | some _=>.no
 | .binOp op t x y _=>AH (tf t).k op (ev s x) (ev s y)
 | .unOp op _ x=>unR op (ev s x)
 | .convert a b x=>tF (tf a) (tf b) (ev s x)
 | .extract x i=>gZ (ev s x) i
 | .makeFunc fn first caps=>fw fn first.toList (caps.toList.map (ev s))
 | .call c=>match c.callee with
   | .builtin b=>match b,c.args.toList,c.argTypes.toList with
     | .len,[x],[t]=>sx (tf t) s.hp (ev s x)
     | .max,[x,y],_=>Am (ev s x) (ev s y)
     | .min,[x,y],_=>Cn (ev s x) (ev s y)
     | _,_,_=>.no
   | _=>.no
 | _=>.no
theorem EG (tf:Nat→TI) (n:Nat) (o:Op) (d:Option Nat) (s:St):opV tf o s=.no∨opR tf n o d s=(opV tf o s).bind (bx n d s):=by
 cases o with
 | slice t x lo hi mx=>cases mx<;>simp [opV,opR]
 | call c =>
   obtain ⟨callee,args,ats⟩:=c
   cases callee with
   | value _=>exact .inl rfl
   | invoke _ _=>exact .inl rfl
   | builtin b =>
     obtain ⟨args⟩:=args
     obtain ⟨ats⟩:=ats
     simp only [opV,opR]
     split
     ·exact .inr rfl
     ·exact .inr rfl
     ·exact .inr rfl
     ·exact .inl rfl
 | _=>first | exact .inr rfl | exact .inl rfl
theorem Hw {s s':St} {x:Operand} (h:∀ t,x=.tmp t→s'.fr t=s.fr t):ev s' x=ev s x:=by
 cases x<;>first | rfl | exact h _ rfl
theorem uy {s s':St} {l:List Operand} (h:∀ x∈l,ev s' x=ev s x):l.map (ev s')=l.map (ev s):=List.map_congr_left h
theorem Ha (tf:Nat→TI) (o:Op) (s s':St) (hh:s'.hp=s.hp) (h:∀ x∈o.operands,ev s' x=ev s x):opV tf o s'=opV tf o s:=by
 cases o with
 | slice t x lo hi mx =>
   cases mx with
   | some _=>rfl
   | none =>
     simp only [opV,hh]
     rw [h x (by simp [Op.operands])]
     have h1:lo.map (ev s')=lo.map (ev s):=by
      cases lo with
      | none=>rfl
      | some y=>simp [h y (by simp [Op.operands])]
     have h2:hi.map (ev s')=hi.map (ev s):=by
      cases hi with
      | none=>rfl
      | some y=>simp [h y (by simp [Op.operands])]
     rw [h1,h2]
 | build t parts =>
   simp only [opV]
   have:(parts.toList.map fun q=>(q.1,ev s' q.2))=parts.toList.map fun q=>(q.1,ev s q.2) :=
    List.map_congr_left fun q hq=>by rw [h q.2 (by simp only [Op.operands,List.mem_toArray,List.mem_map];exact ⟨q,hq,rfl⟩)]
   rw [this]
 | makeFunc fn first caps =>
   simp only [opV]
   rw [uy fun x hx=>h x (by simp only [Op.operands,Array.mem_append];exact .inr (by simpa using hx))]
 | call c =>
   obtain ⟨callee,args,ats⟩:=c
   cases callee with
   | value _=>rfl
   | invoke _ _=>rfl
   | builtin b =>
     obtain ⟨args⟩:=args
     obtain ⟨ats⟩:=ats
     have hm:∀ x∈args,ev s' x=ev s x:=fun x hx=>h x (by simp [Op.operands,Call.operands,hx])
     simp only [opV]
     split
     ·rename_i x _;rw [hh,hm x (by simp)]
     ·rename_i x y;rw [hm x (by simp),hm y (by simp)]
     ·rename_i x y;rw [hm x (by simp),hm y (by simp)]
     ·rfl
 | _=>first
   | rfl
   | (simp only [opV,hh];simp only [Op.operands,List.mem_toArray,List.mem_cons,List.not_mem_nil,or_false,forall_eq_or_imp,forall_eq] at h;simp only [h])
def yl:R AV→AV→Prop
 | .ok y,x=>y=x
 | .need p r,x=>p∧yl r x
 | .no,_=>False
def qv:R AV→(AV→Prop)→Prop→Prop
 | .ok x,f,_=>f x
 | .need p r,f,z=>p∧qv r f z
 | .no,_,z=>z
def dOk (n:Nat):Option Nat→Prop
 | some t=>t<n
 | none=>True
section
variable (P:Program) (cf:Cf) (ops:Array Oper)
def QY (o:Oper) (s:St) (x:AV):Prop:=∀ s',s'.hp=s.hp→s'.used=s.used→(∀ y∈o.op.operands,ev s' y=ev s y) →
 ∀ B,cf.fits B→∀ ds β a w,a.defers=ds→Sim B β s' a.tmps w→∀ Q',o.wpIn (Fw cf.ro) 0 P a w (fun a' w'=>a'.defers=ds∧∃ β',Sim B β' (s'.putd o.dst x) a'.tmps w') Q'
def qrun (K:St→Prop):List Oper→St→Prop
 | [],s=>K s
 | o::r,s =>
   match o.guard with
   | none=>qv (opV P.ti o.op s) (fun x=>dOk cf.n o.dst∧qrun K r (s.putd o.dst x)) (∃ x,QY P cf o s x∧dOk cf.n o.dst∧qrun K r (s.putd o.dst x))
   | some (j,want) =>
     match dK ops j s with
     | some (t,.d (.bool b)) =>
       (b=want→qv (opV P.ti o.op (s.put t (.d (.bool want)))) (fun x=>dOk cf.n o.dst∧qrun K r ((s.put t (.d (.bool want))).putd o.dst x)) (∃ x,QY P cf o (s.put t (.d (.bool want))) x∧dOk cf.n o.dst∧qrun K r ((s.put t (.d (.bool want))).putd o.dst x))) ∧
       (b=!want→dOk cf.n o.dst∧qrun K r ((s.put t (.d (.bool (!want)))).putd o.dst (.tup [])))
     | some (_,.tup [])=>dOk cf.n o.dst∧qrun K r (s.putd o.dst (.tup []))
     | _=>False
variable {P cf ops}
theorem nG {s:St} {t:Nat} {x:AV} (h:s.fr t=x):s.put t x=s:=by
 unfold St.put
 congr 1
 funext i
 unfold de
 split
 ·rename_i e;rw [e,h]
 ·rfl
theorem kQ {j:Nat} {s:St} {t:Nat} {v:AV} (h:dK ops j s=some (t,v)):∃ oj,ops[j]?=some oj∧oj.dst=some t∧s.fr t=v:=by
 unfold dK at h
 split at h
 ·rename_i oj hj
  simp only [Option.map_eq_some_iff,Prod.mk.injEq] at h
  obtain ⟨t',ht',rfl,hv⟩:=h
  exact ⟨oj,hj,ht',hv⟩
 ·cases h
theorem kY {o oj:Oper} {j t:Nat} {want:Bool} (hg:o.guard=some (j,want)) (hj:ops[j]?=some oj) (hd:oj.dst=some t):t∈o.looksAt ops:=by
 refine List.mem_append_right _ ?_
 simp [hg,hj,hd]
theorem je {B:Base} {β:Name→Option Blk} {s:St} {tm:Array Value} {w:World} (h:Sim B β s tm w) {j t:Nat} {oj:Oper} {b:Bool} (hj:ops[j]?=some oj) (hjd:oj.dst=some t) (hjt:s.fr t=.d (.bool b)):yielded ops tm j=some b:=by
 have hv:=h.slots t
 rw [hjt] at hv
 have hb:=hv.bool
 have hlt:t<tm.size:=by
  rcases Nat.lt_or_ge t tm.size with hlt | hge
  ·exact hlt
  ·simp [Array.getD_eq_getD_getElem?,Array.getElem?_eq_none hge] at hb;cases hb
 simp [yielded,hj,hjd,Array.getElem?_eq_getElem hlt]
 simp [Array.getD_eq_getD_getElem?,hlt] at hb
 rw [hb]
theorem p4 {B:Base} {β:Name→Option Blk} {s:St} {tm:Array Value} {w:World} (h:Sim B β s tm w) {j t:Nat} {oj:Oper} (hj:ops[j]?=some oj) (hjd:oj.dst=some t) (hjt:s.fr t=.tup []):yielded ops tm j=none:=by
 have hv:=h.slots t
 rw [hjt] at hv
 rcases Nat.lt_or_ge t tm.size with hlt | hge
 ·have hb:tm.getD t undef=.tuple #[]:=by
   generalize tm.getD t undef=v at hv
   cases hv with
   | tup vs _ hs _ =>
     have:vs=#[]:=Array.eq_empty_of_size_eq_zero hs
     rw [this]
  simp [Array.getD_eq_getD_getElem?,hlt] at hb
  simp [yielded,hj,hjd,Array.getElem?_eq_getElem hlt,hb]
 ·simp [yielded,hj,hjd,Array.getElem?_eq_none hge]
end
end Go.Ab
namespace Go.Ab
section
variable {P:Program} {cf:Cf} {ops:Array Oper}
def b8 (ops:Array Oper) (i:Nat):Option Nat:=(ops[i]?).bind (·.dst)
theorem DH (s:St) (d:Option Nat) (x:AV):(s.putd d x).hp=s.hp:=by cases d<;>rfl
theorem xJ (s:St) (d:Option Nat) (x:AV):(s.putd d x).used=s.used:=by cases d<;>rfl
def pP (ops:Array Oper) (i:Nat):List Nat:=match ops[i]? with
 | some o=>o.looksAt ops
 | none=>[]
theorem ft {i t:Nat} (h:b8 ops i=some t):i<ops.size:=by
 unfold b8 at h
 rcases Nat.lt_or_ge i ops.size with hlt | hge
 ·exact hlt
 ·rw [Array.getElem?_eq_none hge] at h;cases h
structure Up (ops:Array Oper) (listed:Array Bool) (L:List Nat):Prop where
 size:listed.size=ops.size
 mem:∀ j,j<ops.size→(listed[j]?=some true↔j∈L)
 lt:∀ j∈L,j<ops.size
 closed:∀ j∈L,∀ o,ops[j]?=some o→∀ e∈o.after,Region.binds .any e=true→e.on∈L
theorem im:∀ (n:Nat) (L:List Nat),L.Nodup→(∀ x∈L,x<n)→L.length≤n
 | 0,L,_,h=>by
   cases L with
   | nil=>simp
   | cons a r=>exact absurd (h a List.mem_cons_self) (Nat.not_lt_zero _)
 | n+1,L,hn,h=>by
   have h1:=im n (L.erase n) (hn.erase n) fun x hx=>by
    have:=(hn.mem_erase_iff).1 hx
    have h2:=h x this.2
    omega
   by_cases hm:n∈L
   ·rw [List.length_erase_of_mem hm] at h1;omega
   ·rw [List.erase_of_not_mem hm] at h1;omega
theorem BT {s s':St} (h1:s.hp=s'.hp) (h2:s.used=s'.used) (h3:∀ t,s.fr t=s'.fr t):s=s':=by
 obtain ⟨f,h,u⟩:=s
 obtain ⟨f',h',u'⟩:=s'
 simp only at h1 h2 h3
 subst h1;subst h2
 rw [show f=f' from funext h3]
end
end Go.Ab
namespace Go.Ab
section
variable (P:Program) (cf:Cf) (ops:Array Oper) (K:St→Prop)
def qst (x:R AV) (o:Oper) (r:List Oper) (s:St):Prop:=qv x (fun y=>dOk cf.n o.dst∧qrun P cf ops K r (s.putd o.dst y)) (∃ y,QY P cf o s y∧dOk cf.n o.dst∧qrun P cf ops K r (s.putd o.dst y))
def qgd (v:Option (Nat × AV)) (want:Bool) (o:Oper) (r:List Oper) (s:St):Prop :=
 match v with
 | some (t,.d (.bool b)) =>
   (b=want→qst P cf ops K (opV P.ti o.op (s.put t (.d (.bool want)))) o r (s.put t (.d (.bool want)))) ∧
   (b=!want→dOk cf.n o.dst∧qrun P cf ops K r ((s.put t (.d (.bool (!want)))).putd o.dst (.tup [])))
 | some (_,.tup [])=>dOk cf.n o.dst∧qrun P cf ops K r (s.putd o.dst (.tup []))
 | _=>False
abbrev ToQ (_:List Oper):Type:=St
abbrev I7 (_:Oper) (_:List Oper) (_:St):Type 1:=R AV
abbrev IE (_:Bool) (_:Oper) (_:List Oper) (_:St):Type:=Option (Nat × AV)
abbrev IB (_:Option Nat) (_:AV) (_:List Oper):Type:=St
structure QEng where
 run:(r:List Oper)→ToQ r→Prop
 stp:(o:Oper)→(r:List Oper)→(s:St)→I7 o r s→Prop
 gd:(w:Bool)→(o:Oper)→(r:List Oper)→(s:St)→IE w o r s→Prop
 pt:(d:Option Nat)→(x:AV)→(r:List Oper)→IB d x r→Prop
 run_eq:∀ r (s:St),run r s=qrun P cf ops K r s
 stp_eq:∀ (x:R AV) o r s,stp o r s x=qst P cf ops K x o r s
 gd_eq:∀ (v:Option (Nat × AV)) w o r s,gd w o r s v=qgd P cf ops K v w o r s
 pt_eq:∀ d x r (s:St),pt d x r s=(dOk cf.n d∧qrun P cf ops K r (s.putd d x))
end
section
variable {P:Program} {cf:Cf} {ops:Array Oper} {K:St→Prop} (E:QEng P cf ops K) (s:St) (o:Oper) (r:List Oper)
variable {s o r}
attribute [go_sem] opV
theorem lK (s:St) (t:Nat) (x y:AV):(s.put t x).put t y=s.put t y:=by
 unfold St.put;congr 1;funext i;simp only [de];split<;>rfl
end
end Go.Ab

namespace Go.Ab
section
variable {P:Program} {cf:Cf} {Q:Exit→St→Prop} {s:St} {k:List It} {c:Code}
def lqE (E:Eng P cf Q) (next:St→Prop) (k:List It) (e:Exit) (s:St):Prop :=
 match e with
 | .normal=>next s
 | .exit i=>E.xk i k s
 | .ret=>Q .ret s
 | _=>False
theorem vu (E:Eng P cf Q) (next:St→Prop) (k:List It):lqE E next k=lq P cf next k Q:=by
 funext e s
 cases e with
 | exit i=>show E.xk i k s=xk P cf i k Q s;rw [E.xk_eq']
 | _=>rfl
theorem uT (E:Eng P cf Q) (next:St→Prop):lqE E next k .normal s=next s:=rfl
theorem BD (E:Eng P cf Q) (next:St→Prop) (i:Nat):lqE E next k (.exit i) s=E.xk i k s:=rfl
theorem Ek (E:Eng P cf Q) (next:St→Prop):lqE E next k .ret s=Q .ret s:=rfl
attribute [go_sem] uT BD Ek
theorem dp (E:Eng P cf Q) {X:Type} (I:X→List (Nat × AV)) (μ:X→Nat) (hU:cf.U=[]) (x0:X) (h0:frE s (I x0))
  (hr:∀ x,∀ E':Eng P cf (lqE E (fun s'=>∃ y,μ y<μ x∧frE s' (I y)) k),E'.run [.code c] (mk (I x) [] [])):er E (.loop c) s k :=
 CE I μ hU x0 h0 fun x=>by rw [← vu E];exact veil (hr x)
theorem cI (E:Eng P cf Q) {X:Type} (I:X→List (Nat × AV)) (O:X→List (Name × Ob)) (u:List Nat) (μ:X→Nat) (x0:X) (h0:LeL cf.U id s (I x0) (O x0) u)
  (hr:∀ x,∀ E':Eng P cf (lqE E (fun s'=>∃ y,μ y<μ x∧LeL cf.U id s' (I y) (O y) u) k),E'.run [.code c] (mk (I x) (O x) u)):er E (.loop c) s k :=
 A8 I O u μ x0 h0 fun x=>by rw [← vu E];exact veil (hr x)
end
end Go.Ab
namespace Go.Ab
section
variable {P:Program} {cf:Cf} {Q:Exit→St→Prop} (E:Eng P cf Q) {s:St} {k:List It}
theorem tn {xt:Nat} {x:Operand} {t:Nat} {ty:TypeId} {pos:String} {af:Array Edge} (l:List UInt8) (hs:(P.ti xt).k=.str) (hx:ev s x=.d (.str l)) (ht:t<cf.n) (hu:t ∉ s.used)
  (hk:E.run k ((s.add t (.siter l 0)).put t (.it [t]))) :
  E.stp { dst:=some t,op:=.range xt x,type:=ty,pos:=pos,after:=af,guard:=none } s k .no:=by
 rw [aE]
 exact ym hs hx ht hu (by rw [← E.run_eq];exact hk)
theorem wC {x:Operand} {t:Nat} {ty:TypeId} {ps:String} {af:Array Edge} (p:Name) (l:List UInt8) (pos:Nat) (hx:ev s x=.it p) (hp:s.hp p=some (.siter l pos)) (ht:t<cf.n)
  (h1:pos<l.length→E.run k ((s.set p (some (.siter l (pos+(Utf8.decode ⟨l.toArray⟩ pos).2)))).put t (.tup [.d (.bool true),.d (.int .i64 pos),.d (.int .i32 (Utf8.decode ⟨l.toArray⟩ pos).1)])))
  (h2:¬ pos<l.length→E.run k (s.put t (.tup [.d (.bool false)]))) :
  E.stp { dst:=some t,op:=.next x true,type:=ty,pos:=ps,after:=af,guard:=none } s k .no:=by
 rw [aE]
 exact Ad hx hp ht (fun h=>by rw [← E.run_eq];exact h1 h) (fun h=>by rw [← E.run_eq];exact h2 h)
end
theorem BV (u:List Nat) (h:Nat) (t:Name):nmb u (h::t)=u.contains h:=rfl
attribute [go_sem] LeL frL hpL kI xj AV.ren Ob.ren dM Ob.inU BV id_eq List.contains_cons List.contains_nil Bool.or_true Bool.true_or Bool.or_false Bool.false_or
end Go.Ab
namespace Go.Ab
mutual
def AV.frz (p:Name) (w:W) (xs:List D):AV→AV
 | .un=>.un
 | .d x=>.d x
 | .vw q o l=>if q=p then .d (.sl w ((xs.drop o).take l)) else .vw q o l
 | .bx q c=>.bx q c
 | .el q i c=>.el q i c
 | .mp q=>.mp q
 | .it q=>.it q
 | .agg cs=>eS (bM p w xs cs)
 | .tup cs=>.tup (bM p w xs cs)
 | .clo f cs=>.clo f (bM p w xs cs)
def bM (p:Name) (w:W) (xs:List D):List AV→List AV
 | []=>[]
 | x::r=>x.frz p w xs::bM p w xs r
end
theorem dx (p:Name) (w:W) (xs:List D):∀ l:List AV,(bM p w xs l).length=l.length
 | []=>rfl
 | _::r=>by simp [bM,dx p w xs r]
theorem gR (p:Name) (w:W) (xs:List D):∀ (l:List AV) (i:Nat),(bM p w xs l)[i]?=(l[i]?).map (AV.frz p w xs)
 | [],i=>by simp [bM]
 | x::r,0=>by simp [bM]
 | x::r,i+1=>by simp [bM,gR p w xs r i]
section
variable {H:Array Obj} {own own':Nat→Prop} {used:List Nat} {hp hp':Name→Option Ob} {β:Name→Option Blk}
theorem VR.frz {p:Name} {w:W} {xs:List D} (hr:∀ v d,Rep H own v d→Rep H own' v d) (hst:∀ q,nm used q→Stays hp hp' β β q) (hp0:hp p=some (.arr w xs)) (ho:OR H own used hp β p (.arr w xs))
  (hno:∀ k,β p=some k→¬ own' k.b) {v:Value} {x:AV} (h:VR H own used hp β v x):VR H own' used hp' β v (x.frz p w xs):=by
 induction h with
 | un v=>exact .un v
 | d v x h=>exact .d v x (hr v x h)
 | vw v q off len hn h1 h =>
   unfold AV.frz
   split
   ·rename_i e
    subst e
    obtain ⟨hle,a,cap,rfl,h2⟩:=h _ w xs hp0
    refine .d _ _ ?_
    have hlen:((xs.drop off).take len).length=len:=by simp;omega
    by_cases h0:len=0
    ·subst h0
     rw [List.take_zero]
     exact .sl0 a cap w
    ·rcases h2 with ⟨h3,_⟩ | ⟨k,hk,rfl,hcap,hz⟩
     ·exact absurd h3 h0
     ·rcases ho with ⟨h4,rfl⟩ | ⟨k',c,e,hk',hc,hcz,hl,hw,hrep⟩
      ·rw [hk] at h4;cases h4
      ·rw [hk] at hk'
       cases hk'
       have:Rep H own' (.slice (some ⟨k.b,k.o+off*wd w,none⟩) ((xs.drop off).take len).length cap) (.sl w ((xs.drop off).take len)):=by
        refine .sl k.b (k.o+off*wd w) cap c e (0,0) w _ hc (hno k hk) (by omega) ?_ (fun x hx=>hw x (List.mem_of_mem_drop (List.mem_of_mem_take hx))) (fun i x j d hi hj=>?_)
        ·rw [hlen,hcz]
         have e1:(off+cap)*wd w=off*wd w+cap*wd w:=Nat.add_mul _ _ _
         have e2:len*wd w≤cap*wd w:=Nat.mul_le_mul_right _ hcap
         omega
        ·have hi':xs[off+i]?=some x:=by
          rw [List.getElem?_take] at hi
          split at hi
          ·rw [List.getElem?_drop] at hi;exact hi
          ·cases hi
         have:=hrep (off+i) x j d hi' hj
         rw [show k.o+off*wd w+i*wd w+j=k.o+(off+i)*wd w+j by rw [Nat.add_mul];omega]
         exact hr _ _ this
       rw [hlen] at this
       exact this
   ·exact VR.mono hr (fun _ h=>h) hst (.vw v q off len hn h1 h)
 | bx v q c hn h1 h=>exact VR.mono hr (fun _ h=>h) hst (.bx v q c hn h1 h)
 | el v q i c hn h1 h=>exact VR.mono hr (fun _ h=>h) hst (.el v q i c hn h1 h)
 | mp v q hn h1 h=>exact VR.mono hr (fun _ h=>h) hst (.mp v q hn h1 h)
 | its v q hn h1 h h'=>exact VR.mono hr (fun _ h=>h) hst (.its v q hn h1 h h')
 | agg vs cs hs hc _ ih =>
   have:=ef (H:=H) (own:=own') (used:=used) (hp:=hp') (β:=β) (vs:=vs.toList) (cs:=bM p w xs cs) (by rw [dx];simpa using hs) (by simpa using hc) (fun i v x hv hx=>by
    rw [gR,Option.map_eq_some_iff] at hx
    obtain ⟨y,hy,rfl⟩:=hx
    have:=ih i y hy
    have e:vs.getD i undef=v:=by
     simp only [Array.getElem?_toList] at hv
     simp [Array.getD_eq_getD_getElem?,hv]
    rw [e] at this
    exact this)
   simpa [AV.frz] using this
 | tup vs cs hs _ ih =>
   refine .tup vs _ (by rw [dx];exact hs) (fun i x hi=>?_)
   rw [gR,Option.map_eq_some_iff] at hi
   obtain ⟨y,hy,rfl⟩:=hi
   exact ih i y hy
 | clo f vs cs hs _ ih =>
   refine .clo f vs _ (by rw [dx];exact hs) (fun i x hi=>?_)
   rw [gR,Option.map_eq_some_iff] at hi
   obtain ⟨y,hy,rfl⟩:=hi
   exact ih i y hy
end
def St.frz (s:St) (p:Name) (w:W) (xs:List D):St:={ fr:=fun t=>(s.fr t).frz p w xs,hp:=au s.hp p none,used:=s.used }
theorem Sim.frz {B:Base} {β:Name→Option Blk} {s:St} {tm:Array Value} {w:World} (h:Sim B β s tm w) {p:Name} {wf:W} {xs:List D} (hp:s.hp p=some (.arr wf xs)):Sim B β (s.frz p wf xs) tm w:=by
 have h0:=h.drop p
 have hsub:∀ q o,(s.set p none).hp q=some o→s.hp q=some o:=by
  intro q o ho
  by_cases e:q=p
  ·subst e;simp [St.set,au] at ho
  ·simpa [St.set,au,e] using ho
 have hne:∀ q,(s.set p none).hp q≠none→s.hp q≠none∧q≠p:=by
  intro q hq
  cases ho:(s.set p none).hp q with
  | none=>exact absurd ho hq
  | some o =>
    refine ⟨by rw [hsub q o ho];simp,fun e=>?_⟩
    subst e;simp [St.set,au] at ho
 have hr:∀ v d,Rep w.heap (s.own B.A β) v d→Rep w.heap ((s.set p none).own B.A β) v d:=fun v d hd=>hd.mono (fun _ _ _=>rfl) (by
  rintro b _ (hA | ⟨q,k,hq,hk,e⟩)
  ·exact .inl hA
  ·exact .inr ⟨q,k,(hne q hq).1,hk,e⟩)
 have hst:∀ q,nm s.used q→Stays s.hp (s.set p none).hp β β q:=fun q _ o' ho'=>⟨o',hsub q o' ho',Ob.bE _,rfl⟩
 refine { tms:=h.tms,io:=h.io,size:=h.size,frame:=h.frame,slots:=fun i=>?_,objs:=h0.objs,blocks:=h0.blocks,inj:=h0.inj,us:=h.us,stay:=h.stay }
 refine (h.slots i).frz hr hst hp (h.objs p _ hp).2 fun k hk hown=>?_
 rcases hown with hA | ⟨q,k',hq,hk',e⟩
 ·exact (h.blocks p k (by rw [hp];simp) hk).2.1 hA
 ·exact (hne q hq).2 (h.inj q p k' k (hne q hq).1 (by rw [hp];simp) hk' hk e)
section
variable {P:Program} {cf:Cf} {Q:Exit→St→Prop} {s:St} {k:List It}
theorem cZ {o:Oper} {o':Oper} (ho':o'={ o with guard:=none }) (h:stp P cf (opR P.ti cf.n o.op o.dst s) o' s k Q):AOk P cf o' s k Q:=by
 intro B hB ds β a w hds hs Q'
 unfold stp at h
 have h':(opR P.ti B.n o'.op o'.dst s).run (fun s'=>run P cf k Q s') (AOk P cf o' s k Q):=by subst ho';rw [hB.1];exact h
 rcases fo hs h' with hz | ⟨nx,v,w',s',β',hrun,hnx,hf,hsim⟩
 ·exact hz B hB ds β a w hds hs Q'
 ·have hnd:∀ c,o'.op≠.defer c:=by
   intro c hc
   have:∃ d w2,(execOp a.eval o').run P w=.ok (.defer d) w2∨∃ h w2,(execOp a.eval o').run P w=.halt h w2:=by
    simp only [execOp,hc,Sem.run_bind]
    cases (resolve a.eval c o'.type).run P w with
    | ok d w2=>exact ⟨d,w2,.inl rfl⟩
    | halt hh w2=>exact ⟨default,w2,.inr ⟨hh,w2,rfl⟩⟩
   obtain ⟨d,w2,h1 | ⟨hh,w3,h1⟩⟩:=this
   ·rw [hrun] at h1;cases h1;rcases hnx with h2 | ⟨h2,_⟩<;>cases h2
   ·rw [hrun] at h1;cases h1
  exact aA hnd hrun hnx ⟨by cases o'.dst<;>exact hds,s',β',aP hf,hsim⟩
theorem BJ (E:Eng P cf Q) {d:Option Nat} {op:Op} {ty:TypeId} {ps:String} {af:Array Edge} (p:Name) (w:W) (xs:List D) (hp:s.hp p=some (.arr w xs)) (h:E.stp { dst:=d,op:=op,type:=ty,pos:=ps,after:=af,guard:=none } (s.frz p w xs) k (opR P.ti cf.n op d (s.frz p w xs))) :
  E.stp { dst:=d,op:=op,type:=ty,pos:=ps,after:=af,guard:=none } s k .no:=by
 rw [aE]
 rw [E.stp_eq] at h
 have h1:=cZ (o:={ dst:=d,op:=op,type:=ty,pos:=ps,after:=af,guard:=none }) rfl h
 intro B hB ds β a w' hds hs Q'
 exact h1 B hB ds β a w' hds (hs.frz hp) Q'
theorem pD (p:Name) (w:W) (xs:List D) (t:Nat):∀ l:List (Nat × AV),(lkA .un l t).frz p w xs=lkA .un (l.map fun q=>(q.1,q.2.frz p w xs)) t
 | []=>rfl
 | q::r=>by
   simp only [lkA,List.map_cons]
   split
   ·rfl
   ·exact pD p w xs t r
theorem pJ (fr:List (Nat × AV)) (hp:List (Name × Ob)) (u:List Nat) (p:Name) (w:W) (xs:List D):(mk fr hp u).frz p w xs=mk (fr.map fun q=>(q.1,q.2.frz p w xs)) (iE hp p) u:=by
 unfold St.frz mk
 congr 1
 ·funext t
  exact pD p w xs t fr
 ·funext q
  rw [fN,gb]
  rfl
attribute [go_sem] pJ AV.frz bM
def frzs (L:List (Name × W × List D)) (x:AV):AV:=L.foldl (fun x q=>x.frz q.1 q.2.1 q.2.2) x
def Lok (s:St):List (Name × W × List D)→Prop
 | []=>True
 | q::r=>s.hp q.1=some (.arr q.2.1 q.2.2)∧Lok (s.frz q.1 q.2.1 q.2.2) r
def pz (P:Program) (rs:List ResultVar) (Q:AV→Prop) (e:Exit) (s:St):Prop :=
 match e with
 | .ret=>RX (fg P s rs) fun l=>∃ L,Lok s L∧(frzs L (bZ l)).inU []=true∧Q (frzs L (bZ l))
 | .normal=>RX (fg P s rs) fun l=>∃ L,Lok s L∧(frzs L (bZ l)).inU []=true∧Q (frzs L (bZ l))
 | _=>False
theorem Gf (rs:List ResultVar) (Q:AV→Prop) (s:St):pz P rs Q .ret s=RX (fg P s rs) fun l=>∃ L,Lok s L∧(frzs L (bZ l)).inU []=true∧Q (frzs L (bZ l)):=rfl
theorem yg (rs:List ResultVar) (Q:AV→Prop) (s:St):pz P rs Q .normal s=RX (fg P s rs) fun l=>∃ L,Lok s L∧(frzs L (bZ l)).inU []=true∧Q (frzs L (bZ l)):=rfl
theorem Ig {α:Type} (a:α) (φ:α→Prop):RX (.ok a) φ=φ a:=rfl
theorem Eo {α:Type} (p:Prop) (r:R α) (φ:α→Prop):RX (.need p r) φ=(p∧RX r φ):=rfl
attribute [go_sem] Gf yg Ig Eo
theorem yY (q:Name × W × List D) (L:List (Name × W × List D)) (x:AV):frzs (q::L) x=frzs L (x.frz q.1 q.2.1 q.2.2):=rfl
theorem CF (x:AV):frzs [] x=x:=rfl
attribute [go_sem] yY CF Lok
theorem mj {B:Base} {β:Name→Option Blk} {tm:Array Value} {w:World}:∀ (L:List (Name × W × List D)) (s:St),Sim B β s tm w→Lok s L→∃ s',Sim B β s' tm w∧∀ t,s'.fr t=frzs L (s.fr t)
 | [],s,h,_=>⟨s,h,fun _=>rfl⟩
 | q::L,s,h,hl=>by
   obtain ⟨s',h1,h2⟩:=mj L (s.frz q.1 q.2.1 q.2.2) (h.frz hl.1) hl.2
   exact ⟨s',h1,fun t=>by rw [h2 t];rfl⟩
theorem p6 (x:AV):∀ (L:List (Name × W × List D)) (s s2:St),s.hp=s2.hp→Lok s L→Lok s2 L
 | [],_,_,_,_=>trivial
 | q::L,s,s2,e,h=>⟨by rw [← e];exact h.1,p6 x L _ _ (by show au s.hp _ _=au s2.hp _ _;rw [e]) h.2⟩
theorem aL {G:List (Nat × Obj)} {f:FuncId} {fn:Func} {c:Code} {args:List D} {Q:AV→Prop} (hf:P.funcs[f]?=some fn) (hb:fn.body=some c) (hnm:(fn.name == "runtime.NumGoroutine")=false) (hn:args.length≤fn.ntmps)
  (h:run P ⟨fn.ntmps,none,G,[]⟩ [.code c] (pz P fn.results.toList Q) (mk (aB 0 (args.map .d)) [] [])):HP P G f args Q:=by
 refine ⟨cC hf hb hnm,fun B β vs w h1 h2 h3 h4 hs=>?_⟩
 have hsz:vs.size=args.length:=by rw [hs.tms,h1];simp
 have hs':Sim { B with n:=fn.ntmps } β (mk (aB 0 (args.map .d)) [] []) (vs++Array.replicate (fn.ntmps-vs.size) undef) w:=by
  refine { hs with tms:=by simp;omega,slots:=fun t=>?_ }
  have:=hs.slots t
  by_cases ht:t<vs.size
  ·have e:(vs++Array.replicate (fn.ntmps-vs.size) undef).getD t undef=vs.getD t undef:=by
    simp [Array.getD_eq_getD_getElem?,Array.getElem?_append,ht]
   rw [e];exact this
  ·have e:(mk (aB 0 (args.map .d)) [] []).fr t=.un:=by
    rw [cS,aN,if_pos (Nat.zero_le _),List.getElem?_eq_none (by simp;omega)];rfl
   rw [e];exact .un _
 have hrun:=aP h { B with n:=fn.ntmps } ⟨rfl,h3,h4⟩ [] β { tmps:=vs++Array.replicate (fn.ntmps-vs.size) undef,defers:=[] } w rfl hs'
 refine callsIn_of_wp hf hb trivial (wpIn_mono (F:=Fence.wide) hrun fun e a' w' hq=>?_)
 obtain ⟨hd,s',β',hq,hsim⟩:=hq
 have fin:RX (fg P s' fn.results.toList) (fun l=>∃ L,Lok s' L∧(frzs L (bZ l)).inU []=true∧Q (frzs L (bZ l))) →
   a'.defers=[]∧∃ v,(results fn a'.tmps).run P w'=.ok v w'∧∃ v' r hp' u' β',Ending.returned v=.returned v'∧(Q r∧r.inU []=true∧hp'=[])∧Sim { B with n:=1 } β' (mk [(0,r)] hp' u') #[v'] w':=by
  intro hx
  obtain ⟨l,v,⟨L,hL,hin,hQ⟩,hr,hv⟩:=cz hsim fn hx
  have hret:Sim { B with n:=1 } β' (mD s' (bZ l)) #[v] w':=by
   refine { tms:=rfl,io:=hsim.io,size:=hsim.size,frame:=hsim.frame,slots:=fun t=>?_,objs:=hsim.objs,blocks:=hsim.blocks,inj:=hsim.inj,us:=hsim.us,stay:=hsim.stay }
   show VR w'.heap (s'.own B.A β') s'.used s'.hp β' _ (if t=0 then bZ l else .un)
   by_cases ht:t=0
   ·subst ht;rw [if_pos rfl];exact hv
   ·rw [if_neg ht];exact .un _
  obtain ⟨s2,hs2,hfr⟩:=mj L _ hret (p6 (bZ l) L s' _ rfl hL)
  have hle:LeL ([]:List Nat) id s2 [(0,frzs L (bZ l))] [] []:=by
   refine ⟨⟨⟨?_,hin⟩,trivial⟩,trivial,trivial,rfl,trivial⟩
   rw [AV.dI id (fun _=>rfl),hfr 0]
   rfl
  obtain ⟨β2,hs3,_⟩:=hs2.le (τ:=id) (by show Le B.U0 id _ _;rw [h3];exact hle.le)
  exact ⟨hd,v,hr,v,_,_,_,β2,rfl,⟨hQ,hin,rfl⟩,hs3⟩
 cases e with
 | normal=>exact fin hq
 | ret=>exact fin hq
 | exit i=>exact hq.elim
 | goto l=>exact hq.elim
 | panic c=>exact hq.elim
 | outgrown=>exact hq.elim
end
end Go.Ab

namespace Go.Ab
def menc {κ:Type} (ke:κ→D) (ms:List (κ × D)):List (D × D):=ms.map fun q=>(ke q.1,q.2)
theorem AA {κ:Type} (ke:κ→D):menc ke []=[]:=rfl
section
variable {κ:Type} [DecidableEq κ]
def mlook:List (κ × D)→κ→Option D
 | [],_=>none
 | q::r,a=>if q.1=a then some q.2 else mlook r a
def mset:List (κ × D)→κ→D→List (κ × D)
 | [],a,d=>[(a,d)]
 | q::r,a,d=>if q.1=a then (a,d)::r else q::mset r a d
def midx:List κ→κ→Option Nat
 | [],_=>none
 | x::r,a=>if x=a then some 0 else (midx r a).map (·+1)
theorem kg {a:κ} {d:D}:∀ {ms:List (κ × D)},midx (ms.map (·.1)) a=none→mlook ms a=none∧mset ms a d=ms++[(a,d)]
 | [],_=>⟨rfl,rfl⟩
 | q::r,h=>by
   simp only [List.map_cons,midx] at h
   split at h
   ·cases h
   ·rename_i hq
    obtain ⟨h1,h2⟩:=kg (d:=d) (Option.map_eq_none_iff.1 h)
    exact ⟨by simp [mlook,hq,h1],by simp [mset,hq,h2]⟩
theorem kc {a:κ} {d:D}:∀ {ms:List (κ × D)} {i:Nat},midx (ms.map (·.1)) a=some i→∃ e,ms[i]?=some (a,e)∧mlook ms a=some e∧mset ms a d=ms.set i (a,d)
 | [],_,h=>by cases h
 | q::r,i,h=>by
   simp only [List.map_cons,midx] at h
   split at h
   ·rename_i hq
    cases h
    exact ⟨q.2,by simp [← hq],by simp [mlook,hq],by simp [mset,hq]⟩
   ·rename_i hq
    obtain ⟨j,hj,rfl⟩:=Option.map_eq_some_iff.1 h
    obtain ⟨e,h1,h2,h3⟩:=kc (d:=d) hj
    exact ⟨e,by simpa using h1,by simp [mlook,hq,h2],by simp [mset,hq,h3]⟩
structure zN (P:Program) (kt:TypeId) (ke:κ→D) (kv:κ→Value):Prop where
 val:∀ {H:Array Obj} {own:Nat→Prop} {v:Value} {a:κ},Rep H own v (ke a)→v=kv a
 rep:∀ (H:Array Obj) (own:Nat→Prop) (a:κ),Rep H own (kv a) (ke a)
 chk:∀ (b:Bool) (a:κ) (w:World),(Instr.checkKey b 10000 kt (kv a)).run P w=.ok () w
 same:∀ a:κ,Instr.sameBits 10000 (kv a) (kv a)=true
 find:∀ (a:κ) (es:List MapEntry) (ks:List κ) (w:World),es.map (·.key)=ks.map kv→(Instr.findKey kt (kv a) es).run P w=.ok ((midx ks a).bind fun i=>(es[i]?).map fun e=>(i,e.val)) w
end
section
variable {P:Program}
theorem nD {κ:Type} [DecidableEq κ] {kv:κ→Value} {kind:TypeDesc} {a:κ} (hs:∀ x,Instr.sameNow kind (kv a) (kv x)=some (decide (x=a))):∀ (es:List MapEntry) (ks:List κ) (i:Nat),es.map (·.key)=ks.map kv →
  Instr.findNow kind (kv a) es i=some ((midx ks a).bind fun j=>(es[j]?).map fun e=>(i+j,e.val))
 | [],ks,i,h=>by
   cases ks with
   | nil=>rfl
   | cons k r=>simp at h
 | e::es,ks,i,h=>by
   cases ks with
   | nil=>simp at h
   | cons k r =>
     simp only [List.map_cons,List.cons.injEq] at h
     simp only [Instr.findNow,h.1,hs,midx]
     by_cases hk:k=a
     ·simp [hk]
     ·simp only [hk,decide_false,if_false,nD hs es r (i+1) h.2]
      cases midx r a with
      | none=>rfl
      | some j=>simp [Nat.add_assoc,Nat.add_comm 1 j]
theorem Dx {κ:Type} [DecidableEq κ] {kt:TypeId} {kv:κ→Value} {kind:TypeDesc} (hk:P.underlying kt=some kind) (a:κ) (hs:∀ x,Instr.sameNow kind (kv a) (kv x)=some (decide (x=a))) (es:List MapEntry) (ks:List κ) (w:World) (h:es.map (·.key)=ks.map kv) :
  (Instr.findKey kt (kv a) es).run P w=.ok ((midx ks a).bind fun i=>(es[i]?).map fun e=>(i,e.val)) w:=by
 have:=nD hs es ks 0 h
 simp only [Nat.zero_add] at this
 simp only [Instr.findKey,Sem.run_bind,run_underlying hk,Result.andThen_ok,this]
 rfl
theorem zV {d:TypeDesc} {a b:Value} {p:Prop} [Decidable p] (ha:MapKept.IsKey d a) (hb:MapKept.IsKey d b) (h:p↔a=b):Instr.sameNow d a b=some (decide p):=by
 obtain ⟨r,hr,hi⟩:=MapKept.sameNow_of_keys ha hb
 rw [hr]
 congr 1
 rw [Bool.eq_iff_iff,hi,decide_eq_true_eq,h]
theorem Ar {kt:TypeId} (h:(P.ti kt).k=.str):zN P kt (fun l:List UInt8=>D.str l) (fun l=>.string ⟨l.toArray⟩) where
 val:=fun h=>by cases h;rfl
 rep:=fun _ _ l=>.str l
 chk:=fun b a w=>MapKept.run_checkKey (eK h) (by trivial) b 9999
 same:=fun a=>by
  have:Instr.sameBits (9999+1) (.string ⟨a.toArray⟩) (.string ⟨a.toArray⟩)=true:=by simp [Instr.sameBits,MapKept.bytes_beq]
  exact this
 find:=fun a es ks w hk=>Dx (eK h) a (fun x=>zV (by trivial) (by trivial) ⟨fun e=>by rw [e],fun e=>by
  have e1:=congrArg (fun v=>match v with | Value.string b=>b.data.toList | _=>[]) e
  simpa using e1.symm⟩) es ks w hk
end
section
variable {P:Program} {cf:Cf} {Q:Exit→St→Prop} {s:St} {k:List It}
variable {κ:Type} [DecidableEq κ] {ke:κ→D} {kv:κ→Value}
theorem uR {ents:Array MapEntry} {clock:Nat} (h:Borns ents clock) (k v:Value):Borns (ents.push { key:=k,val:=v,born:=clock }) (clock+1):=by
 obtain ⟨h1,h2⟩:=h
 refine ⟨?_,fun e he=>?_⟩
 ·rw [Array.toList_push,List.map_append,List.nodup_append]
  refine ⟨h1,by simp,fun a ha b hb=>?_⟩
  obtain ⟨e,he,rfl⟩:=List.mem_map.1 ha
  have:=h2 e he
  have hb:b=clock:=by simpa using hb
  omega
 ·rw [Array.toList_push] at he
  rcases List.mem_append.1 he with he | he
  ·have:=h2 e he;omega
  ·rw [List.mem_singleton.1 he];exact Nat.lt_succ_self _
theorem qC {ents:Array MapEntry} {clock:Nat} (h:Borns ents clock) (i:Nat) (f:MapEntry→MapEntry) (hf:∀ e,(f e).born=e.born):Borns (ents.modify i f) clock:=by
 have e:(ents.modify i f).toList.map (·.born)=ents.toList.map (·.born):=by
  refine List.ext_getElem? fun j=>?_
  rw [List.getElem?_map,List.getElem?_map,Array.getElem?_toList,Array.getElem?_toList,Array.getElem?_modify]
  split
  ·cases ents[j]? with
   | none=>rfl
   | some x=>simp [hf]
  ·rfl
 obtain ⟨h1,h2⟩:=h
 refine ⟨by rw [e];exact h1,fun x hx=>?_⟩
 have:x.born∈(ents.modify i f).toList.map (·.born):=List.mem_map_of_mem hx
 rw [e] at this
 obtain ⟨y,hy,hxy⟩:=List.mem_map.1 this
 rw [← hxy];exact h2 y hy
theorem xX (E:Eng P cf Q) {t0:Nat} {t:Nat} {ty:TypeId} {pos:String} {af:Array Edge} (ht:t<cf.n) (hu:t ∉ s.used) (hk:E.run k ((s.add t (.map [])).put t (.mp [t]))) :
  E.stp { dst:=some t,op:=.makeMap t0 none,type:=ty,pos:=pos,after:=af,guard:=none } s k .no:=by
 rw [aE]
 rw [E.run_eq] at hk
 intro B hB ds β a w hds h Q'
 have hrun:(execOp a.eval { dst:=some t,op:=.makeMap t0 none,type:=ty,pos:=pos,after:=af,guard:=none }).run P w=.ok (.value (.map (some w.heap.size))) (w.alloc (.map #[] 0)):=by
  simp only [execOp,Instr.makeMap]
  rfl
 obtain ⟨hsim,_⟩:=h.alloc hu (.map #[] 0) (.map []) 0 (fun β' hβ _=>⟨_,#[],0,hβ,by show (w.heap.push _)[w.heap.size]?=_;rw [Array.getElem?_push_size],⟨rfl,by simp [Borns]⟩,fun i x hi=>by simp at hi⟩)
 refine aA (by simp) hrun (.inl rfl) ⟨hds,_,_,aP hk,hsim.put (by rw [hB.1];exact ht) ?_⟩
 refine .mp _ _ ⟨t,[],rfl,List.mem_cons_self⟩ rfl (fun es _=>⟨⟨w.heap.size,0,0⟩,by simp [au],rfl⟩)
theorem r9 {kt:TypeId} (K:zN P kt ke kv) {H:Array Obj} {own:Nat→Prop} {ms:List (κ × D)} {ents:Array MapEntry} (hsz:ents.size=(menc ke ms).length)
  (h:∀ (i:Nat) (x:D × D),(menc ke ms)[i]?=some x→∃ en:MapEntry,ents[i]?=some en∧Rep H own en.key x.1∧Rep H own en.val x.2):ents.toList.map (·.key)=(ms.map (·.1)).map kv:=by
 have hl:ents.size=ms.length:=by simpa [menc] using hsz
 apply List.ext_getElem (by simp [hl])
 intro i h1 h2
 have hi:i<ms.length:=by simpa using h2
 obtain ⟨en,he,hk,_⟩:=h i (ke ms[i].1,ms[i].2) (by simp [menc,hi])
 have hie:i<ents.size:=by omega
 simp [hie] at he
 simp [he,K.val hk]
def zdA:Value→Option D
 | .agg cs=>(cs.toList.mapM zd).map .agg
 | v=>zd v
def w7 (P:Program) (t:TypeId):Option D:=(P.info? t).bind fun i=>i.zero.bind zdA
theorem yT {t:TypeId} {z:D} (h:w7 P t=some z):∃ v,(∀ w,(zeroValue t).run P w=.ok v w)∧∀ (H:Array Obj) (own:Nat→Prop),Rep H own v z:=by
 obtain ⟨i,hi,h⟩:=Option.bind_eq_some_iff.1 h
 obtain ⟨v,hv,h⟩:=Option.bind_eq_some_iff.1 h
 refine ⟨v,fun w=>?_,fun H own=>?_⟩
 ·simp [zeroValue,typeInfo,hi,hv]
 ·cases v with
  | agg cs =>
    simp only [zdA,Option.map_eq_some_iff] at h
    obtain ⟨ds,hd,rfl⟩:=h
    obtain ⟨h1,h2,_,h4⟩:=ga (H:=H) (own:=own) hd
    refine .agg cs ds (by simpa using h1.symm) h2 (fun i d hi=>?_)
    obtain ⟨u,hu,hr⟩:=h4 i d hi
    have hu':cs[i]?=some u:=by simpa using hu
    have:cs.getD i undef=u:=by simp [Array.getD_eq_getD_getElem?,hu']
    rw [this];exact hr
  | _=>simp only [zdA] at h;exact (zf (H:=H) (own:=own) h).1
def xe (z:D) (co:Bool) (r:Option D):AV:=if co then .tup [.d (r.getD z),.d (.bool r.isSome)] else .d (r.getD z)
theorem xZ {xt kt et:Nat} {x y:Operand} {co:Bool} {dst:Option Nat} {ty:TypeId} {pos:String} {af:Array Edge} {gg:Option (Nat × Bool)} (p:Name) (ms:List (κ × D)) (key:κ) (z:D) (hm:(P.ti xt).k=.map kt et) (K:zN P kt ke kv) (hz:w7 P et=some z)
  (hx:ev s x=.mp p) (hp:s.hp p=some (.map (menc ke ms))) (hy:ev s y=.d (ke key)) (hdst:∀ t∈dst,t<cf.n) (hk:run P cf k Q (s.ja dst (xe z co (mlook ms key)))) :
  AOk P cf { dst:=dst,op:=.lookup xt x y co,type:=ty,pos:=pos,after:=af,guard:=gg } s k Q:=by
 intro B hB ds β a w hds h Q'
 have hv:=h.ev x
 rw [hx] at hv
 have hkey:=h.ev y
 rw [hy] at hkey
 have hkey:=K.val hkey.toD
 generalize hval:a.eval x=v at hv
 cases hv with
 | mp _ _ hn ho g =>
 obtain ⟨b,hb,rfl⟩:=g _ hp
 obtain ⟨b2,ents,clock,hb2,hh,⟨hsz,hbo⟩,hent⟩:=(h.objs p _ hp).2
 obtain rfl:=Option.some.inj (hb.symm.trans hb2)
 obtain ⟨zv,hzr,hzrep⟩:=yT hz
 have hzrep:=hzrep w.heap (s.own B.A β)
 have hks:=r9 K hsz hent
 have hf:=K.find key ents.toList _ w hks
 have key1:∃ r,VR w.heap (s.own B.A β) s.used s.hp β r (xe z co (mlook ms key))∧(execOp a.eval { dst:=dst,op:=.lookup xt x y co,type:=ty,pos:=pos,after:=af,guard:=gg }).run P w=.ok (.value r) w:=by
  cases hi:midx (ms.map (·.1)) key with
  | none =>
    obtain ⟨h1,_⟩:=kg (d:=z) hi
    rw [hi] at hf
    refine ⟨if co then .tuple #[zv,.bool false] else zv,?_,?_⟩
    ·rw [h1]
     cases co
     ·exact .d _ _ hzrep
     ·refine .tup _ _ rfl fun i y hi=>?_
      match i,hi with
      | 0,hi=>obtain rfl:=Option.some.inj hi;exact .d _ _ hzrep
      | 1,hi=>obtain rfl:=Option.some.inj hi;exact .d _ _ (.bool _)
    ·simp only [execOp,hval,hkey,Instr.lookup,Sem.run_bind,run_underlying (lZ hm),Result.andThen_ok,MapKept.run_getObj_map hh,K.chk,Sem.run_pure]
     rw [hf]
     simp [hzr]
  | some i =>
    obtain ⟨e,h0,h1,_⟩:=kc (d:=z) hi
    rw [hi] at hf
    obtain ⟨en,he,_,hrep⟩:=hent i (ke key,e) (by simp [menc,h0])
    have he':ents.toList[i]?=some en:=by simpa using he
    refine ⟨if co then .tuple #[en.val,.bool true] else en.val,?_,?_⟩
    ·rw [h1]
     cases co
     ·exact .d _ _ hrep
     ·refine .tup _ _ rfl fun i y hi=>?_
      match i,hi with
      | 0,hi=>obtain rfl:=Option.some.inj hi;exact .d _ _ hrep
      | 1,hi=>obtain rfl:=Option.some.inj hi;exact .d _ _ (.bool _)
    ·simp only [execOp,hval,hkey,Instr.lookup,Sem.run_bind,run_underlying (lZ hm),Result.andThen_ok,MapKept.run_getObj_map hh,K.chk,Sem.run_pure]
     rw [hf]
     simp [he]
 obtain ⟨r,hr1,hr2⟩:=key1
 refine aA (by simp) hr2 (.inl rfl) ⟨by cases dst<;>exact hds,_,β,aP hk,?_⟩
 cases dst with
 | none=>exact h
 | some t=>exact h.put (by rw [hB.1];exact hdst t rfl) hr1
theorem zP (E:Eng P cf Q) {xt kt et:Nat} {x y:Operand} {co:Bool} {dst:Option Nat} {ty:TypeId} {pos:String} {af:Array Edge} (p:Name) (ms:List (κ × D)) (key:κ) (z:D) (hm:(P.ti xt).k=.map kt et) (K:zN P kt ke kv) (hz:w7 P et=some z)
  (hx:ev s x=.mp p) (hp:s.hp p=some (.map (menc ke ms))) (hy:ev s y=.d (ke key)) (hdst:∀ t∈dst,t<cf.n) (hk:E.run k (s.ja dst (xe z co (mlook ms key)))) :
  E.stp { dst:=dst,op:=.lookup xt x y co,type:=ty,pos:=pos,after:=af,guard:=none } s k .no:=by
 rw [aE]
 rw [E.run_eq] at hk
 exact xZ p ms key z hm K hz hx hp hy hdst hk
theorem sX (E:Eng P cf Q) {xt kt et:Nat} {x y z:Operand} {dst:Option Nat} {ty:TypeId} {pos:String} {af:Array Edge} (p:Name) (ms:List (κ × D)) (key:κ) (d:D) (hm:(P.ti xt).k=.map kt et) (K:zN P kt ke kv)
  (hx:ev s x=.mp p) (hp:s.hp p=some (.map (menc ke ms))) (hy:ev s y=.d (ke key)) (hd:ev s z=.d d) (hdst:dst=none) (hk:E.run k (s.set p (some (.map (menc ke (mset ms key d)))))) :
  E.stp { dst:=dst,op:=.mapUpdate xt x y z,type:=ty,pos:=pos,after:=af,guard:=none } s k .no:=by
 subst hdst
 rw [aE]
 rw [E.run_eq] at hk
 intro B hB ds β a w hds h Q'
 have hv:=h.ev x
 rw [hx] at hv
 have hkey:=h.ev y
 rw [hy] at hkey
 have hkey:=K.val hkey.toD
 have hzv:=h.ev z
 rw [hd] at hzv
 have hzv:=hzv.toD
 generalize hval:a.eval x=v at hv
 cases hv with
 | mp _ _ hn ho g =>
 obtain ⟨b,hb,rfl⟩:=g _ hp
 obtain ⟨b2,ents,clock,hb2,hh,⟨hsz,hbo⟩,hent⟩:=(h.objs p _ hp).2
 obtain rfl:=Option.some.inj (hb.symm.trans hb2)
 have hlt:=al hh
 have hks:=r9 K hsz hent
 have hf:=K.find key ents.toList _ w hks
 have hl:ents.size=ms.length:=by simpa [menc] using hsz
 have key1:∃ ents' clock',(execOp a.eval { dst:=none,op:=.mapUpdate xt x y z,type:=ty,pos:=pos,after:=af,guard:=none }).run P w=.ok .skip { w with heap:=w.heap.setIfInBounds b.b (.map ents' clock') } ∧
   (ents'.size=(menc ke (mset ms key d)).length∧Borns ents' clock')∧∀ (H:Array Obj) (own:Nat→Prop),(∀ v d,Rep w.heap (s.own B.A β) v d→Rep H own v d)→∀ (i:Nat) (x:D × D),(menc ke (mset ms key d))[i]?=some x→∃ en:MapEntry,ents'[i]?=some en∧Rep H own en.key x.1∧Rep H own en.val x.2:=by
  cases hi:midx (ms.map (·.1)) key with
  | none =>
    obtain ⟨_,h2⟩:=kg (d:=d) hi
    rw [hi] at hf
    refine ⟨ents.push { key:=kv key,val:=a.eval z,born:=clock },clock+1,?_,?_,?_⟩
    ·simp only [execOp,hval,hkey,Instr.mapUpdate,Sem.run_bind,run_underlying (lZ hm),Result.andThen_ok,MapKept.run_getObj_map hh,K.chk,Sem.run_pure]
     rw [hf]
     simp [setObj,Sem.run,hh]
    ·rw [h2];exact ⟨by simp [menc,hl],uR hbo _ _⟩
    ·intro H own hr i x hi'
     rw [h2] at hi'
     by_cases hlt':i<ms.length
     ·have:(menc ke ms)[i]?=some x:=by
       rw [← hi'];simp [menc,List.getElem?_append_left,hlt']
      obtain ⟨en,h3,h4,h5⟩:=hent i x this
      exact ⟨en,by rw [Array.getElem?_push,if_neg (by omega)];exact h3,hr _ _ h4,hr _ _ h5⟩
     ·have hie:i=ms.length:=by
       have:=(List.getElem?_eq_some_iff.1 hi').1
       simp [menc] at this
       omega
      subst hie
      have:x=(ke key,d):=by
       simp [menc] at hi'
       exact hi'.symm
      subst this
      exact ⟨_,by rw [Array.getElem?_push,if_pos hl.symm],K.rep _ _ _,hr _ _ hzv⟩
  | some i =>
    obtain ⟨e,h0,_,h2⟩:=kc (d:=d) hi
    rw [hi] at hf
    obtain ⟨en,he,hkr,hrep⟩:=hent i (ke key,e) (by simp [menc,h0])
    have hke:=K.val hkr
    have he':ents.toList[i]?=some en:=by simpa using he
    refine ⟨ents.modify i fun e=>{ e with key:=kv key,val:=a.eval z },clock,?_,?_,?_⟩
    ·simp only [execOp,hval,hkey,Instr.mapUpdate,Sem.run_bind,run_underlying (lZ hm),Result.andThen_ok,MapKept.run_getObj_map hh,K.chk,Sem.run_pure]
     rw [hf]
     simp [setObj,Sem.run,Instr.keyThatStays,he,hke,K.same,hh]
    ·rw [h2];exact ⟨by simp [menc,hl],qC hbo _ _ fun _=>rfl⟩
    ·intro H own hr j x hj
     rw [h2] at hj
     have hjl:j<ms.length:=by
      have:=(List.getElem?_eq_some_iff.1 hj).1
      simpa [menc] using this
     by_cases hij:i=j
     ·subst hij
      have:x=(ke key,d):=by
       simp [menc,hjl] at hj
       exact hj.symm
      subst this
      exact ⟨_,by rw [Array.getElem?_modify,if_pos rfl,he];rfl,K.rep _ _ _,hr _ _ hzv⟩
     ·have:(menc ke ms)[j]?=some x:=by
       rw [← hj];simp [menc,List.getElem?_set_ne hij]
      obtain ⟨en',h3,h4,h5⟩:=hent j x this
      exact ⟨en',by rw [Array.getElem?_modify,if_neg hij];exact h3,hr _ _ h4,hr _ _ h5⟩
 obtain ⟨ents',clock',hrun,hsz',hent'⟩:=key1
 obtain ⟨hsim,_⟩:=h.modify (p:=p) (ob':=.map (menc ke (mset ms key d))) hp trivial (w':={ w with heap:=w.heap.setIfInBounds b.b (.map ents' clock') }) rfl (by simp)
  (fun b' hb'=>by
   have:=hb' b hb
   simp [Ne.symm this]) (fun _ hr=>⟨b,ents',clock',hb,by simp [hlt],hsz',hent' _ _ hr⟩)
 exact aA (by simp) hrun (.inr ⟨rfl,rfl⟩) ⟨hds,_,_,aP hk,hsim⟩
end
attribute [go_sem] xe AA
end Go.Ab
namespace Go.Ab
inductive TS where
 | int (k:IntKind)
 | bool
 | str
 | sl (w:W) (es:List TS)
mutual
def TS.ok:TS→D→Prop
 | .int k,.int k' n=>k'=k∧k.min≤n∧n≤k.max
 | .bool,.bool _=>True
 | .str,.str l=>l.length≤maxLen
 | .sl _ _,.nils=>True
 | .sl w es,.sl w' xs=>w'=w∧xs.length≤maxLen∧∀ x∈xs,okW w x∧oks es x.cells
 | _,_=>False
def oks:List TS→List D→Prop
 | [],[]=>True
 | t::ts,d::ds=>t.ok d∧oks ts ds
 | _,_=>False
end
theorem fL:∀ {ts:List TS} {ds:List D},oks ts ds→ds.length=ts.length
 | [],[],_=>rfl
 | _::_,_::_,h=>by simp [fL h.2]
 | [],_::_,h=>h.elim
 | _::_,[],h=>h.elim
theorem lP:∀ {ts:List TS} {ds:List D} {ts':List TS} {ds':List D},oks ts ds→oks ts' ds'→oks (ts++ts') (ds++ds')
 | [],[],_,_,_,h=>h
 | _::_,_::_,_,_,h,h'=>⟨h.1,lP h.2 h'⟩
 | [],_::_,_,_,h,_=>h.elim
 | _::_,[],_,_,h,_=>h.elim
mutual
def shp (P:Program):Nat→TypeId→Option (List TS)
 | 0,_=>none
 | n+1,t =>
   match (P.ti t).k with
   | .int k=>some [.int k]
   | .bool=>some [.bool]
   | .str=>some [.str]
   | .slice e=>(shp P n e).bind fun es=>if es.length=P.cellsOf e∧wd (P.ti e).w=es.length∧0<es.length then some [.sl (P.ti e).w es] else none
   | .struct fs=>(y8 P n fs 0).bind fun ts=>if ts.length=P.cellsOf t then some ts else none
   | _=>none
def y8 (P:Program):Nat→List (Nat × Nat)→Nat→Option (List TS)
 | 0,_,_=>none
 | _+1,[],_=>some []
 | n+1,f::r,off =>
   if f.1=off then (shp P n f.2).bind fun ts=>if ts.length=P.cellsOf f.2 then (y8 P n r (off+ts.length)).map (ts++·) else none else none
end
theorem kP {α:Type} {n:Nat} {p:Nat→α→Prop} (h:∀ i,i<n→∃ a,p i a):∃ xs:List α,xs.length=n∧∀ i a,xs[i]?=some a→p i a:=by
 induction n with
 | zero=>exact ⟨[],rfl,fun i a h=>by simp at h⟩
 | succ n ih =>
   obtain ⟨xs,h1,h2⟩:=ih fun i hi=>h i (by omega)
   obtain ⟨a,ha⟩:=h n (by omega)
   refine ⟨xs++[a],by simp [h1],fun i b hb=>?_⟩
   by_cases hi:i<xs.length
   ·rw [List.getElem?_append_left hi] at hb;exact h2 i b hb
   ·rw [List.getElem?_append_right (by omega)] at hb
    have hi0:i-xs.length=0:=by
     have:=(List.getElem?_eq_some_iff.1 hb).1
     simp at this
     omega
    rw [hi0] at hb
    have hb:a=b:=by simpa using hb
    subst hb
    rw [show i=n by omega];exact ha
section
variable {H:Type} {enc:TypeId × Value→H} {P:Program} {w:World} {spare:Nat→Bool} {held:Bool}
def CD (w:World) (cs:List Value) (ds:List D):Prop:=(∀ d∈ds,d.scal=true)∧∀ (i:Nat) d,ds[i]?=some d→Rep w.heap (fun _=>False) (cs.getD i undef) d
theorem CD.one {v:Value} {d:D} (hd:d.scal=true) (h:Rep w.heap (fun _=>False) v d):CD w [v] [d]:=by
 refine ⟨by simpa using hd,fun i d' hi=>?_⟩
 match i,hi with
 | 0,hi=>obtain rfl:=Option.some.inj hi;exact h
theorem kf {a:Addr} {n:Nat} {cs:List Value} (h:w.cells? 0 a n=some cs):cs.length=n∧∀ i,i<n→∃ v,cs[i]?=some v∧w.cell? (a.add i)=some v:=by
 unfold World.cells? at h
 rw [if_pos (Nat.zero_le _)] at h
 have hl:cs.length=n:=by simpa using mapM_some_length h
 refine ⟨hl,fun i hi=>?_⟩
 have:=mapM_some_get h i i (by simp [hi])
 exact ⟨cs[i]'(by omega),by simp [hl,hi],by rw [this];simp [hl,hi]⟩
theorem pB {a:Addr} {cap:Nat} {wf:W} {c:Nat} {xs:List D} (hc:wd wf=c) (hc0:0<c) (hcap:xs.length≤cap) (hw:∀ x∈xs,okW wf x)
  (h:∀ i,i<xs.length→∃ cs,w.cells? 0 (a.add (i*c)) c=some cs∧∀ x,xs[i]?=some x→∀ (j:Nat) d,x.cells[j]?=some d→Rep w.heap (fun _=>False) (cs.getD j undef) d) :
  Rep w.heap (fun _=>False) (.slice (some a) xs.length cap) (.sl wf xs):=by
 by_cases h0:xs.length=0
 ·have:xs=[]:=List.length_eq_zero_iff.1 h0
  subst this
  exact .sl0 _ _ _
 obtain ⟨cs0,hcs0,_⟩:=h 0 (by omega)
 obtain ⟨_,hg0⟩:=kf hcs0
 obtain ⟨v0,_,hv0⟩:=hg0 0 hc0
 have e0:(a.add (0*c)).add 0=a:=by simp [Addr.add]
 rw [e0] at hv0
 obtain ⟨b,o,spot⟩:=a
 unfold World.cell? at hv0
 cases hh:w.heap[b]? with
 | none=>rw [hh] at hv0;cases hv0
 | some ob =>
   rw [hh] at hv0
   cases ob with
   | cells cc e fz =>
     simp only at hv0
     cases spot with
     | some _=>simp at hv0
     | none =>
       have hcell:∀ i v,w.cell? ⟨b,i,none⟩=some v→cc[i]?=some v:=by
        intro i v hi
        simpa [World.cell?,hh] using hi
       refine .sl b o cap cc e fz wf xs hh (fun h=>h) hcap ?_ hw (fun i x j d hi hj=>?_)
       ·rw [hc]
        obtain ⟨cs,hcs,_⟩:=h (xs.length-1) (by omega)
        obtain ⟨_,hg⟩:=kf hcs
        obtain ⟨v,_,hv⟩:=hg (c-1) (by omega)
        rw [bj,bj] at hv
        have:=(Array.getElem?_eq_some_iff.1 (hcell _ _ hv)).1
        have e1:(xs.length-1)*c+c=xs.length*c:=by
         rw [← Nat.succ_mul];congr 1;omega
        omega
       ·have hil:i<xs.length:=(List.getElem?_eq_some_iff.1 hi).1
        obtain ⟨cs,hcs,hrep⟩:=h i hil
        obtain ⟨hlen,hg⟩:=kf hcs
        have hjl:j<c:=by
         have h1:=aT (hw x (List.mem_of_getElem? hi))
         have h2:=(List.getElem?_eq_some_iff.1 hj).1
         omega
        obtain ⟨v,hvj,hv⟩:=hg j hjl
        rw [bj,bj] at hv
        have h3:=hcell _ _ hv
        have h4:=hrep x hi j d hj
        have e1:cs.getD j undef=v:=by simp [List.getD_eq_getElem?_getD,hvj]
        have e2:cc.getD (o+i*wd wf+j) undef=v:=by rw [hc];simp [Array.getD_eq_getD_getElem?,h3]
        rw [e2,← e1];exact h4
   | _=>simp at hv0
theorem n6:∀ m:Nat,
  (∀ n' t cs x ts,shp P m t=some ts→DataW.trod enc P w 0 spare held n' t cs=some x→∃ ds,oks ts ds∧cs.length=ds.length∧CD w cs ds) ∧
  (∀ n' (cs:List Value) r off ts,y8 P m r off=some ts→(∀ f∈r,∃ x,DataW.trod enc P w 0 spare held n' f.2 ((cs.drop f.1).take (P.cellsOf f.2))=some x) →
   ∃ ds,oks ts ds∧(∀ d∈ds,d.scal=true)∧∀ (i:Nat) d,ds[i]?=some d→Rep w.heap (fun _=>False) (cs.getD (off+i) undef) d):=by
 intro m
 induction m with
 | zero=>exact ⟨fun n' t cs x ts h=>by simp [shp] at h,fun n' cs r off ts h=>by simp [y8] at h⟩
 | succ m ih =>
   obtain ⟨ihS,ihF⟩:=ih
   refine ⟨fun n' t cs x ts h hx=>?_,fun n' cs r off ts h hx=>?_⟩
   ·unfold shp at h
    split at h
    ·rename_i k hk
     cases h
     obtain ⟨n,rfl,_,hwf⟩:=DataW.trod_int (u2 hk) hx
     simp only [Lit.wf,Bool.and_eq_true,decide_eq_true_eq] at hwf
     exact ⟨[.int k n],⟨⟨rfl,hwf⟩,trivial⟩,rfl,CD.one rfl (.int k n)⟩
    ·rename_i hk
     cases h
     have hu:P.underlying t=some .bool:=nJ (by rw [hk];rfl)
     obtain ⟨b,rfl,_⟩:=DataW.trod_bool hu hx
     exact ⟨[.bool b],⟨trivial,trivial⟩,rfl,CD.one rfl (.bool b)⟩
    ·rename_i hk
     cases h
     obtain ⟨s,rfl,_,hs⟩:=DataW.trod_string (eK hk) hx
     obtain ⟨l,rfl⟩:∃ l:List UInt8,s=⟨l.toArray⟩:=⟨s.data.toList,by simp⟩
     refine ⟨[.str l],⟨?_,trivial⟩,rfl,CD.one rfl (.str l)⟩
     simpa [ByteArray.size,TS.ok] using hs
    ·rename_i e hk
     obtain ⟨es,hes,h⟩:=Option.bind_eq_some_iff.1 h
     split at h
     ·rename_i hc
      cases h
      obtain ⟨hc1,hc2,hc3⟩:=hc
      rcases DataW.trod_slice (a8 hk) hx with ⟨rfl,_⟩ | ⟨a,len,cap,elems,rest,n,_,rfl,_,_,hlen,hcap,hel,hget,_,_⟩
      ·exact ⟨[.nils],⟨trivial,trivial⟩,rfl,CD.one rfl .nils⟩
      have each:∀ i,i<len→∃ x:D,(okW (P.ti e).w x∧oks es x.cells)∧∃ cs,w.cells? 0 (a.add (i*P.cellsOf e)) (P.cellsOf e)=some cs∧∀ (j:Nat) d,x.cells[j]?=some d→Rep w.heap (fun _=>False) (cs.getD j undef) d:=by
       intro i hi
       have h1:=hget i hi
       have hi':i<elems.length:=by omega
       rw [List.getElem?_eq_getElem hi',Option.bind_eq_some_iff] at h1
       obtain ⟨ci,hci,htr⟩:=h1
       obtain ⟨di,hok,hdl,hsc,hrep⟩:=ihS n e ci _ es hes htr
       have hdl2:=fL hok
       cases hw:(P.ti e).w with
       | none =>
         rw [hw] at hc2
         match di,hdl2,hsc,hrep,hok with
         | [d],_,hsc,hrep,hok =>
           have hs:d.scal=true:=hsc d (by simp)
           have hcd:d.cells=[d]:=by cases d<;>simp_all [D.scal,D.cells]
           exact ⟨d,⟨hs,by rw [hcd];exact hok⟩,ci,hci,by rw [hcd];exact hrep⟩
         | [],hdl2,_,_,_=>simp [wd] at hc2;simp at hdl2;omega
         | _::_::_,hdl2,_,_,_=>simp [wd] at hc2;simp at hdl2;omega
       | some nn =>
         rw [hw] at hc2
         have hc2:nn=es.length:=hc2
         exact ⟨.agg di,⟨⟨by omega,hsc⟩,hok⟩,ci,hci,hrep⟩
      obtain ⟨xs,hxl,hxs⟩:=kP each
      have hr:=pB (w:=w) (a:=a) (cap:=cap) (wf:=(P.ti e).w) (c:=P.cellsOf e) (xs:=xs) (by omega) (by omega) (by omega)
       (fun x hx'=>by obtain ⟨i,hi⟩:=List.mem_iff_getElem?.1 hx';exact (hxs i x hi).1.1)
       (fun i hi=>by
        obtain ⟨_,cs,h2,h3⟩:=hxs i xs[i] (by simp [hi])
        exact ⟨cs,h2,fun x hx' j d hj=>by
         have hx':xs[i]=x:=by simpa [hi] using hx'
         subst hx'
         exact h3 j d hj⟩)
      rw [hxl] at hr
      refine ⟨[.sl (P.ti e).w xs],⟨⟨rfl,by omega,fun x hx'=>?_⟩,trivial⟩,rfl,CD.one rfl hr⟩
      obtain ⟨i,hi⟩:=List.mem_iff_getElem?.1 hx'
      exact (hxs i x hi).1
     ·cases h
    ·rename_i fs hk
     obtain ⟨ts',hts,h⟩:=Option.bind_eq_some_iff.1 h
     split at h
     ·rename_i hc
      cases h
      obtain ⟨fl,hu,rfl⟩:=e8 hk
      obtain ⟨xs,n,_,_,hcl,_,hf⟩:=DataW.trod_struct hu hx
      obtain ⟨ds,h1,h2,h3⟩:=ihF n cs _ 0 ts hts (fun f hf'=>by
       obtain ⟨f0,hf0,rfl⟩:=List.mem_map.1 hf'
       obtain ⟨i,hi⟩:=List.mem_iff_getElem?.1 hf0
       have hi':fl[i]?=some f0:=by simpa using hi
       have:=hf i f0 hi'
       have hlt:i<xs.length:=by
        have:=(Array.getElem?_eq_some_iff.1 hi').1
        omega
       exact ⟨xs[i],by rw [this];simp [hlt]⟩)
      have hl:=fL h1
      exact ⟨ds,h1,by omega,h2,fun i d hi=>by have:=h3 i d hi;rwa [Nat.zero_add] at this⟩
     ·cases h
    ·cases h
   ·unfold y8 at h
    cases r with
    | nil =>
      cases h
      exact ⟨[],trivial,by simp,fun i d hi=>by simp at hi⟩
    | cons f r =>
      simp only at h
      split at h
      ·rename_i hoff
       obtain ⟨ts1,h1,h⟩:=Option.bind_eq_some_iff.1 h
       split at h
       ·rename_i hc
        obtain ⟨ts2,h2,rfl⟩:=Option.map_eq_some_iff.1 h
        obtain ⟨x,hx1⟩:=hx f List.mem_cons_self
        obtain ⟨d1,g1,g2,g3,g4⟩:=ihS n' f.2 _ x ts1 h1 hx1
        obtain ⟨d2,k1,k2,k3⟩:=ihF n' cs r _ ts2 h2 fun q hq=>hx q (List.mem_cons_of_mem _ hq)
        have hl1:=fL g1
        refine ⟨d1++d2,lP g1 k1,fun d hd=>?_,fun i d hi=>?_⟩
        ·rcases List.mem_append.1 hd with hd | hd
         ·exact g3 d hd
         ·exact k2 d hd
        ·by_cases hlt:i<d1.length
         ·rw [List.getElem?_append_left hlt] at hi
          have:=g4 i d hi
          have e:((cs.drop f.1).take (P.cellsOf f.2)).getD i undef=cs.getD (off+i) undef:=by
           rw [List.getD_eq_getElem?_getD,List.getD_eq_getElem?_getD,List.getElem?_take,if_pos (by omega),List.getElem?_drop,hoff]
          rw [e] at this;exact this
         ·rw [List.getElem?_append_right (by omega)] at hi
          have:=k3 _ d hi
          rw [show off+ts1.length+(i-d1.length)=off+i by omega] at this
          exact this
       ·cases h
      ·cases h
theorem reads {m:Nat} {t:TypeId} {v:Value} {dw:DataW H} {ps:List MemPlace} {ts:List TS} (hs:shp P m t=some ts) (h:DataW.Trod enc P w 0 spare held t v dw ps):∃ ds,oks ts ds∧v.cells.size=ds.length∧CD w v.cells.toList ds:=by
 obtain ⟨n,hn⟩:=h
 obtain ⟨ds,h1,h2,h3⟩:=(n6 m).1 n t _ _ ts hs hn
 exact ⟨ds,h1,by simpa using h2,h3⟩
theorem yA {m:Nat} {t:TypeId} {vs:Array Value} {dw:DataW H} {ps:List MemPlace} {ts:List TS} (hs:shp P m t=some ts) (h:DataW.Trod enc P w 0 spare held t (.agg vs) dw ps):∃ ds,oks ts ds∧Rep w.heap (fun _=>False) (.agg vs) (.agg ds):=by
 obtain ⟨ds,h1,h2,h3,h4⟩:=reads hs h
 refine ⟨ds,h1,.agg vs ds h2 h3 fun i d hi=>?_⟩
 have:=h4 i d hi
 simpa [Value.cells,Array.getD_eq_getD_getElem?,List.getD_eq_getElem?_getD] using this
end
end Go.Ab

namespace Go.Proofs.YtejpnabbmgpmaaaGreatDoor
open Go.Ab
theorem ti2:Tryz.prog.ti 2={ k:=.int .i64,sz:=1,by':=8,z:=some [.int .i64 0] }:=by kernel_rfl
theorem ti3:Tryz.prog.ti 3={ k:=.int .i64,sz:=1,by':=8,z:=some [.int .i64 0] }:=by kernel_rfl
theorem ti4:Tryz.prog.ti 4={ k:=.bool,sz:=1,by':=1,z:=some [.bool false] }:=by kernel_rfl
theorem ti5:Tryz.prog.ti 5={ k:=.int .u8,sz:=1,by':=1,z:=some [.int .u8 0] }:=by kernel_rfl
theorem ti9:Tryz.prog.ti 9={ k:=.str,sz:=1,by':=16,z:=some [.str []] }:=by kernel_rfl
theorem Iy:Tryz.prog.ti 21={ k:=.int .i32,sz:=1,by':=4,z:=some [.int .i32 0] }:=by kernel_rfl
theorem IK:Tryz.prog.ti 22={ k:=.slice 48,sz:=1,by':=24,z:=some [.nils] }:=by kernel_rfl
theorem Iu:Tryz.prog.ti 24={ k:=.struct [(0,22)],sz:=1,by':=24,z:=some [.nils] }:=by kernel_rfl
theorem I5:Tryz.prog.ti 27={ k:=.int .i64,sz:=1,by':=8,z:=some [.int .i64 0] }:=by kernel_rfl
theorem Is:Tryz.prog.ti 35={ k:=.slice 74,sz:=1,by':=24,z:=some [.nils] }:=by kernel_rfl
theorem ID:Tryz.prog.ti 37={ k:=.struct [(0,3),(1,2),(2,9),(3,35)],sz:=4,by':=56,z:=some [.int .i64 0,.int .i64 0,.str [],.nils] }:=by kernel_rfl
theorem Iz:Tryz.prog.ti 46={ k:=.slice 89,sz:=1,by':=24,z:=some [.nils] }:=by kernel_rfl
theorem IP:Tryz.prog.ti 48={ k:=.struct [(0,3),(1,3),(2,3),(3,3),(4,2),(5,9),(6,9),(7,46),(8,3)],sz:=9,by':=104,z:=some [.int .i64 0,.int .i64 0,.int .i64 0,.int .i64 0,.int .i64 0,.str [],.str [],.nils,.int .i64 0] }:=by kernel_rfl
theorem mL:Tryz.prog.ti 50={ k:=.ptr 53,sz:=1,by':=8,z:=some [.nilp] }:=by kernel_rfl
theorem qF:Tryz.prog.ti 51={ k:=.slice 5,sz:=1,by':=24,z:=some [.nils] }:=by kernel_rfl
theorem Iw:Tryz.prog.ti 53={ k:=.struct [(0,50),(1,51)],sz:=2,by':=32,z:=some [.nilp,.nils] }:=by kernel_rfl
theorem EP:Tryz.prog.ti 58={ k:=.slice 3,sz:=1,by':=24,z:=some [.nils] }:=by kernel_rfl
theorem IL:Tryz.prog.ti 61={ k:=.slice 95,sz:=1,by':=24,z:=some [.nils] }:=by kernel_rfl
theorem Ix:Tryz.prog.ti 64={ k:=.ptr 68,sz:=1,by':=8,z:=some [.nilp] }:=by kernel_rfl
theorem Gx:Tryz.prog.ti 65={ k:=.ptr 99,sz:=1,by':=8,z:=some [.nilp] }:=by kernel_rfl
theorem Ip:Tryz.prog.ti 68={ k:=.struct [(0,65),(1,27),(2,3),(3,3)],sz:=4,by':=32,z:=some [.nilp,.int .i64 0,.int .i64 0,.int .i64 0] }:=by kernel_rfl
theorem IC:Tryz.prog.ti 74={ k:=.struct [(0,9),(1,37)],sz:=5,by':=72,z:=some [.str [],.int .i64 0,.int .i64 0,.str [],.nils] }:=by kernel_rfl
theorem IA:Tryz.prog.ti 75={ k:=.slice 9,sz:=1,by':=24,z:=some [.nils] }:=by kernel_rfl
theorem IW:Tryz.prog.ti 89={ k:=.struct [(0,9),(1,9),(2,3)],sz:=3,by':=40,z:=some [.str [],.str [],.int .i64 0] }:=by kernel_rfl
theorem I4:Tryz.prog.ti 95={ k:=.struct [(0,3),(1,9),(2,2),(3,3)],sz:=4,by':=40,z:=some [.int .i64 0,.str [],.int .i64 0,.int .i64 0] }:=by kernel_rfl
theorem Io:Tryz.prog.ti 97={ k:=.struct [(0,95),(4,3),(5,27)],sz:=6,by':=56,z:=some [.int .i64 0,.str [],.int .i64 0,.int .i64 0,.int .i64 0,.int .i64 0] }:=by kernel_rfl
theorem I2:Tryz.prog.ti 99={ k:=.struct [(0,61),(1,3)],sz:=2,by':=32,z:=some [.nils,.int .i64 0] }:=by kernel_rfl
theorem Ay:Tryz.prog.ti 111={ k:=.map 9 4,sz:=1,by':=8,z:=some [.nilm] }:=by kernel_rfl
theorem HK:Tryz.prog.ti 127={ k:=.slice 24,sz:=1,by':=24,z:=some [.nils] }:=by kernel_rfl
theorem Hv:Tryz.prog.ti 132={ k:=.struct [(0,9),(1,2)],sz:=2,by':=24,z:=some [.str [],.int .i64 0] }:=by kernel_rfl
theorem HY:Tryz.prog.ti 144={ k:=.struct [(0,3),(1,4)],sz:=2,by':=16,z:=some [.int .i64 0,.bool false] }:=by kernel_rfl
theorem HC:Tryz.prog.ti 150={ k:=.arr 3 3,sz:=3,by':=24,z:=some [.int .i64 0,.int .i64 0,.int .i64 0] }:=by kernel_rfl
theorem Hy:Tryz.prog.ti 152={ k:=.slice 132,sz:=1,by':=24,z:=some [.nils] }:=by kernel_rfl
end Go.Proofs.YtejpnabbmgpmaaaGreatDoor

namespace Go.Proofs.YtejpnabbmgpmaaaGreatDoor
open Go.Ab
attribute [go_sem] ti2 ti3 ti4 ti5 ti9 Iy IK Iu I5 Is ID Iz IP mL qF Iw EP IL Ix Gx Ip IC IA IW I4 Io I2 Ay HK Hv HY HC Hy
attribute [go_sem] Tryz.ntmps4 Tryz.results4 Tryz.ntmps6 Tryz.results6 Tryz.ntmps8 Tryz.results8 Tryz.ntmps10 Tryz.results10 Tryz.ntmps11 Tryz.results11 Tryz.ntmps13 Tryz.results13 Tryz.ntmps14 Tryz.results14 Tryz.ntmps15 Tryz.results15 Tryz.ntmps16 Tryz.results16 Tryz.ntmps17 Tryz.results17 Tryz.ntmps18 Tryz.results18 Tryz.ntmps21 Tryz.results21 Tryz.ntmps23 Tryz.results23 Tryz.ntmps24 Tryz.results24 Tryz.ntmps25 Tryz.results25 Tryz.ntmps27 Tryz.results27 Tryz.ntmps29 Tryz.results29 Tryz.ntmps30 Tryz.results30 Tryz.ntmps31 Tryz.results31 Tryz.ntmps32 Tryz.results32 Tryz.ntmps33 Tryz.results33 Tryz.ntmps34 Tryz.results34 Tryz.ntmps35 Tryz.results35 Tryz.ntmps36 Tryz.results36 Tryz.ntmps37 Tryz.results37 Tryz.ntmps40 Tryz.results40 Tryz.ntmps41 Tryz.results41 Tryz.ntmps42 Tryz.results42 Tryz.ntmps43 Tryz.results43 Tryz.ntmps44 Tryz.results44 Tryz.ntmps45 Tryz.results45 Tryz.ntmps46 Tryz.results46 Tryz.ntmps47 Tryz.results47 Tryz.ntmps48 Tryz.results48 Tryz.ntmps49 Tryz.results49 Tryz.ntmps50 Tryz.results50 Tryz.ntmps52 Tryz.results52 Tryz.ntmps53 Tryz.results53 Tryz.ntmps54 Tryz.results54 Tryz.ntmps55 Tryz.results55 Tryz.ntmps56 Tryz.results56 Tryz.ntmps57 Tryz.results57 Tryz.ntmps58 Tryz.results58 Tryz.ntmps67 Tryz.results67 Tryz.ntmps68 Tryz.results68 Tryz.ntmps69 Tryz.results69 Tryz.ntmps70 Tryz.results70 Tryz.ntmps71 Tryz.results71 Tryz.ntmps72 Tryz.results72 Tryz.ntmps73 Tryz.results73 Tryz.ntmps74 Tryz.results74 Tryz.ntmps75 Tryz.results75 Tryz.ntmps76 Tryz.results76 Tryz.ntmps77 Tryz.results77 Tryz.ntmps78 Tryz.results78 Tryz.ntmps79 Tryz.results79 Tryz.ntmps80 Tryz.results80 Tryz.ntmps81 Tryz.results81 Tryz.ntmps82 Tryz.results82 Tryz.ntmps85 Tryz.results85 Tryz.ntmps86 Tryz.results86 Tryz.ntmps87 Tryz.results87 Tryz.ntmps88 Tryz.results88 Tryz.ntmps89 Tryz.results89 Tryz.ntmps90 Tryz.results90 Tryz.ntmps91 Tryz.results91 Tryz.ntmps92 Tryz.results92 Tryz.ntmps93 Tryz.results93 Tryz.ntmps94 Tryz.results94 Tryz.ntmps95 Tryz.results95 Tryz.ntmps96 Tryz.results96 Tryz.ntmps97 Tryz.results97 Tryz.ntmps100 Tryz.results100 Tryz.ntmps101 Tryz.results101 Tryz.ntmps102 Tryz.results102 Tryz.ntmps103 Tryz.results103 Tryz.ntmps104 Tryz.results104 Tryz.ntmps105 Tryz.results105 Tryz.ntmps106 Tryz.results106 Tryz.ntmps107 Tryz.results107 Tryz.ntmps108 Tryz.results108 Tryz.ntmps110 Tryz.results110 Tryz.ntmps111 Tryz.results111 Tryz.ntmps112 Tryz.results112 Tryz.ntmps113 Tryz.results113 Tryz.ntmps114 Tryz.results114 Tryz.ntmps115 Tryz.results115 Tryz.ntmps116 Tryz.results116 Tryz.ntmps117 Tryz.results117 Tryz.ntmps118 Tryz.results118 Tryz.ntmps120 Tryz.results120 Tryz.ntmps121 Tryz.results121 Tryz.ntmps122 Tryz.results122 Tryz.ntmps123 Tryz.results123 Tryz.ntmps124 Tryz.results124 Tryz.ntmps125 Tryz.results125 Tryz.ntmps126 Tryz.results126 Tryz.ntmps127 Tryz.results127 Tryz.ntmps128 Tryz.results128 Tryz.ntmps129 Tryz.results129 Tryz.ntmps130 Tryz.results130 Tryz.ntmps131 Tryz.results131 Tryz.ntmps132 Tryz.results132 Tryz.ntmps133 Tryz.results133 Tryz.ntmps134 Tryz.results134 Tryz.ntmps135 Tryz.results135 Tryz.ntmps136 Tryz.results136 Tryz.ntmps137 Tryz.results137 Tryz.ntmps138 Tryz.results138 Tryz.ntmps139 Tryz.results139 Tryz.ntmps140 Tryz.results140 Tryz.ntmps141 Tryz.results141 Tryz.ntmps142 Tryz.results142 Tryz.ntmps143 Tryz.results143 Tryz.ntmps144 Tryz.results144 Tryz.ntmps145 Tryz.results145 Tryz.ntmps146 Tryz.results146 Tryz.ntmps148 Tryz.results148 Tryz.ntmps149 Tryz.results149 Tryz.ntmps150 Tryz.results150 Tryz.ntmps151 Tryz.results151 Tryz.ntmps152 Tryz.results152 Tryz.ntmps153 Tryz.results153 Tryz.ntmps154 Tryz.results154 Tryz.ntmps155 Tryz.results155 Tryz.ntmps156 Tryz.results156 Tryz.ntmps157 Tryz.results157 Tryz.ntmps158 Tryz.results158 Tryz.ntmps159 Tryz.results159 Tryz.ntmps160 Tryz.results160 Tryz.ntmps161 Tryz.results161 Tryz.ntmps162 Tryz.results162 Tryz.ntmps163 Tryz.results163 Tryz.ntmps164 Tryz.results164 Tryz.ntmps165 Tryz.results165 Tryz.ntmps166 Tryz.results166 Tryz.ntmps167 Tryz.results167 Tryz.ntmps168 Tryz.results168 Tryz.ntmps169 Tryz.results169 Tryz.ntmps170 Tryz.results170 Tryz.ntmps171 Tryz.results171 Tryz.ntmps172 Tryz.results172 Tryz.ntmps173 Tryz.results173 Tryz.ntmps174 Tryz.results174 Tryz.ntmps175 Tryz.results175 Tryz.ntmps176 Tryz.results176 Tryz.ntmps177 Tryz.results177 Tryz.ntmps178 Tryz.results178 Tryz.ntmps179 Tryz.results179 Tryz.ntmps180 Tryz.results180 Tryz.ntmps181 Tryz.results181 Tryz.ntmps182 Tryz.results182 Tryz.ntmps183 Tryz.results183 Tryz.ntmps184 Tryz.results184 Tryz.ntmps185 Tryz.results185 Tryz.ntmps186 Tryz.results186 Tryz.ntmps187 Tryz.results187
attribute [go_sem] Nat.reduceEqDiff Nat.reduceLT Nat.reduceAdd Nat.reduceMul Nat.reduceLeDiff Nat.reduceSub Nat.reduceBEq Int.reduceEq Int.reduceLT Int.reduceLE Int.reduceToNat Int.reduceAdd Int.reduceSub Int.reduceNeg UInt8.reduceToNat
attribute [go_sem ↓] reduceIte
end Go.Proofs.YtejpnabbmgpmaaaGreatDoor

namespace Go.Proofs
open Go.Shelf
def Tryz.rr:Go.Shelf.Ren:=⟨fun | 173=>128 | 246=>152 | 283=>162 | 284=>163 | 285=>164 | 286=>165 | 129=>174 | 317=>173 | 318=>175 | 319=>176 | 320=>177 | 337=>179 | 338=>180 | n=>n,fun | 2=>2 | 3=>3 | 9=>9 | 4=>4 | 171=>162 | 0=>0 | 53=>163 | 37=>51 | 5=>5 | 173=>166 | 212=>174 | 51=>175 | 20=>20 | 213=>176 | 46=>177 | 232=>180 | 233=>181 | n=>n,fun | 17=>0 | 18=>2 | 19=>3 | n=>n⟩
theorem Tryz.DY:Go.Proofs.LaysM.n173 Tryz.prog Tryz.rr:={
 mixed:=by kernel_rfl
 f129:=Tryz.func174.trans (congrArg some (by kernel_rfl))
 f173:=Tryz.func128.trans (congrArg some (by kernel_rfl))
 f246:=Tryz.func152.trans (congrArg some (by kernel_rfl))
 f283:=Tryz.func162.trans (congrArg some (by kernel_rfl))
 f284:=Tryz.func163.trans (congrArg some (by kernel_rfl))
 f285:=Tryz.func164.trans (congrArg some (by kernel_rfl))
 f286:=Tryz.func165.trans (congrArg some (by kernel_rfl))
 f317:=Tryz.func173.trans (congrArg some (by kernel_rfl))
 f318:=Tryz.func175.trans (congrArg some (by kernel_rfl))
 f319:=Tryz.func176.trans (congrArg some (by kernel_rfl))
 f320:=Tryz.func177.trans (congrArg some (by kernel_rfl))
 f337:=Tryz.func179.trans (congrArg some (by kernel_rfl))
 f338:=Tryz.func180.trans (congrArg some (by kernel_rfl))
 t0:=Tryz.underlying0
 a0:=Tryz.isAgg0
 z0:=Tryz.sizeOf0
 v0:=Tryz.zeroValue0
 t2:=Tryz.underlying2
 a2:=Tryz.isAgg2
 z2:=Tryz.sizeOf2
 v2:=Tryz.zeroValue2
 t3:=Tryz.underlying3
 a3:=Tryz.isAgg3
 z3:=Tryz.sizeOf3
 v3:=Tryz.zeroValue3
 t4:=Tryz.underlying4
 a4:=Tryz.isAgg4
 z4:=Tryz.sizeOf4
 v4:=Tryz.zeroValue4
 t5:=Tryz.underlying5
 a5:=Tryz.isAgg5
 z5:=Tryz.sizeOf5
 v5:=Tryz.zeroValue5
 t9:=Tryz.underlying9
 a9:=Tryz.isAgg9
 z9:=Tryz.sizeOf9
 v9:=Tryz.zeroValue9
 t20:=Tryz.underlying20
 a20:=Tryz.isAgg20
 z20:=Tryz.sizeOf20
 v20:=Tryz.zeroValue20
 t37:=Tryz.underlying51
 a37:=Tryz.isAgg51
 z37:=Tryz.sizeOf51
 v37:=Tryz.zeroValue51
 t46:=Tryz.underlying177
 a46:=Tryz.isAgg177
 z46:=Tryz.sizeOf177
 v46:=Tryz.zeroValue177
 t51:=Tryz.underlying175
 a51:=Tryz.isAgg175
 z51:=Tryz.sizeOf175
 v51:=Tryz.zeroValue175
 t53:=Tryz.underlying163
 a53:=Tryz.isAgg163
 z53:=Tryz.sizeOf163
 v53:=Tryz.zeroValue163
 t171:=Tryz.underlying162
 a171:=Tryz.isAgg162
 z171:=Tryz.sizeOf162
 v171:=Tryz.zeroValue162
 t173:=Tryz.underlying166
 a173:=Tryz.isAgg166
 z173:=Tryz.sizeOf166
 v173:=Tryz.zeroValue166
 t212:=Tryz.underlying174
 a212:=Tryz.isAgg174
 z212:=Tryz.sizeOf174
 v212:=Tryz.zeroValue174
 t213:=Tryz.underlying176
 a213:=Tryz.isAgg176
 z213:=Tryz.sizeOf176
 t232:=Tryz.underlying180
 a232:=Tryz.isAgg180
 z232:=Tryz.sizeOf180
 v232:=Tryz.zeroValue180
 t233:=Tryz.underlying181
 a233:=Tryz.isAgg181
 z233:=Tryz.sizeOf181
 v233:=Tryz.zeroValue181
 g17:=by kernel_rfl
 g18:=by kernel_rfl
 g19:=by kernel_rfl
 i0:=by kernel_rfl
 i2:=by kernel_rfl
 i3:=by kernel_rfl
 i4:=by kernel_rfl
 i5:=by kernel_rfl
 i9:=by kernel_rfl
 i20:=by kernel_rfl
 i37:=by kernel_rfl
 i46:=by kernel_rfl
 i51:=by kernel_rfl
 i53:=by kernel_rfl
 i171:=by kernel_rfl
 i173:=by kernel_rfl
 i212:=by kernel_rfl
 i232:=by kernel_rfl
 i233:=by kernel_rfl
 m17:=by kernel_rfl
 m18:=by kernel_rfl
 m19:=by kernel_rfl }
end Go.Proofs
namespace Go.Proofs.YtejpnabbmgpmaaaGreatDoor
open Go.Ab
def GT (t:TypeId) (fz:Nat × Nat):List (Nat × Obj):=[(0,.cells (Lib.pow10Tab.map fun z=>Value.int .u64 z).toArray t fz)]
theorem G5 {t:TypeId} {fz:Nat × Nat} {w:World} (h:∀ q∈GT t fz,w.heap[q.1]?=some q.2):Lib.TabIs Tryz.prog w "internal/strconv.uint64pow10" .u64 Lib.pow10Tab:=by
 have:=h _ List.mem_cons_self
 unfold Lib.TabIs World.var?
 rw [show Tryz.prog.globalNamed "internal/strconv.uint64pow10" = some 0 by kernel_rfl]
 simp [this]
theorem D6 {t fz} (n:Int) (hn:inR n):HP Tryz.prog (GT t fz) 128 [i64 n,i64 10] (fun r=>r=.d (.str (Lib.itoa n))) :=
 sc (cC Tryz.func128 rfl (by decide +kernel)) rfl fun w hw =>
  (Any.strconv_FormatInt_10 Tryz.DY n hn.1 hn.2 w (G5 hw)).mono fun _ _ ⟨he,k,os,hw'⟩=>⟨_,.str (Lib.itoa n),he,rfl,rfl,hw' ▸ Ext.grow w k os⟩
end Go.Proofs.YtejpnabbmgpmaaaGreatDoor

