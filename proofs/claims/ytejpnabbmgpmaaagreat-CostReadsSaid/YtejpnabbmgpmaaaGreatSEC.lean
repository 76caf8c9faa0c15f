/-
  The generic layer, part 18: the rule for calls, closed. (with the parts that follow it) (with the parts that follow it)
-/
import Derived.Test.YtejpnabbmgpmaaaGreatSEB
import Derived.Lib.AppendIntMem
import Derived.Attr
import Derived.Below
import Derived.Laws.BytesString
import Derived.Laws.RangeString
import Derived.Laws.IdiomMaps
import Derived.ChangeArms
import Derived.WideKeyArgs
set_option linter.all false
namespace Go.Ab
section
variable {P:Program} {cf:Cf}
def DX (s:St) (σ:Name→Name) (d:Nat) (dst:Option Nat) (chp hp':List (Name × Ob)) (r:AV):St :=
 match dst with
 | some _=>aft s σ d chp hp' r
 | none=>{ aft s σ d chp hp' r with fr:=s.fr }
theorem ta {fr:List (Nat × AV)} {chp:List (Name × Ob)} {u:List Nat} {A:Nat→Prop} {β:Name→Option Blk} {b:Nat} (h:(mk fr chp u).own A β b):A b∨∃ p k o,lkA none (chp.map fun x=>(x.1,some x.2)) p=some o∧β p=some k∧k.b=b:=by
 rcases h with h | ⟨p,k,hp,hk,e⟩
 ·exact .inl h
 ·cases ho:(mk fr chp u).hp p with
  | none=>exact absurd ho hp
  | some o=>exact .inr ⟨p,k,o,ho,hk,e⟩
theorem tV {B:Base} {β:Name→Option Blk} {s:St} {tm:Array Value} {w:World} (h:Sim B β s tm w) {f:FuncId} {cargs:List AV} {chp:List (Name × Ob)} {cu:List Nat} {Q0:AV→List (Name × Ob)→Prop} {σ:Name→Name} {d:Nat} (hd:d ∉ s.used)
  (hpass:fb σ cu s chp) (hinj:mj σ chp) (hcu:eU cu cargs=true) {vs:Array Value} (hvs:vs.size=cargs.length) (hv:∀ (i:Nat) x,cargs[i]?=some x→VR w.heap (s.own B.A β) s.used s.hp β (vs.getD i undef) (x.ren σ)) (hc:HCall P B.G f cargs chp cu Q0) :
  CallsIn Fence.wide 0 P f vs w fun e w'=>∃ v,e=.returned v∧∃ r hp',Q0 r hp'∧(iI chp hp'→∃ β2,Sim B β2 { aft s σ d chp hp' r with fr:=s.fr } tm w' ∧
   VR w'.heap ((aft s σ d chp hp' r).own B.A β2) (d::s.used) (aft s σ d chp hp' r).hp β2 v (r.ren (fc σ d chp))):=by
 obtain ⟨O0',hO⟩:∃ O0':Nat→Prop,∀ b,O0' b↔∃ p k,chp.any (fun q=>q.1 == p)=true∧β (σ p)=some k∧k.b=b:=⟨_,fun _=>Iff.rfl⟩
 obtain ⟨A',hA⟩:∃ A':Nat→Prop,∀ b,A' b↔s.own B.A β b∧¬ O0' b:=⟨_,fun _=>Iff.rfl⟩
 have hA':∀ b,A' b→b<w.heap.size:=fun b hb=>h.qM ((hA b).1 hb).1
 have hG':∀ q∈B.G,w.heap[q.1]?=some q.2∧¬ O0' q.1:=fun q hq=>by
  obtain ⟨g1,g2⟩:=B.hG q hq
  have hlt:=ar g1
  refine ⟨(h.frame _ hlt g2).trans g1,fun hb=>?_⟩
  obtain ⟨p,k,hp,hk,e⟩:=(hO _).1 hb
  obtain ⟨o,ho⟩:=nf hp
  obtain ⟨h1,_,_⟩:=ez hpass _ (lkS ho)
  obtain ⟨_,_,g3⟩:=h.blocks (σ p) k (by rw [h1];simp) hk
  rcases g3 with g3 | g3
  ·omega
  ·exact g2 (e ▸ g3)
 have hβc:∀ p,chp.any (fun q=>q.1 == p)=true→(fun p=>β (σ p)) p=β (σ p):=fun _ _=>rfl
 have live:∀ p o,lkA none (chp.map fun x=>(x.1,some x.2)) p=some o→s.hp (σ p)=some (o.ren σ)∧o.inU cu=true∧nm cu p:=fun p o ho=>by
  obtain ⟨h1,h2,h3⟩:=ez hpass _ (lkS ho)
  exact ⟨h1,h2,gZ h3⟩
 have hown:∀ b,(mk (aG 0 cargs) chp cu).own A' (fun p=>β (σ p)) b→s.own B.A β b:=by
  intro b hb
  rcases ta hb with hb | ⟨p,k,o,ho,hk,rfl⟩
  ·exact ((hA b).1 hb).1
  ·exact .inr ⟨σ p,k,by rw [(live p o ho).1];simp,hk,rfl⟩
 have hr:∀ v d,Rep w.heap (s.own B.A β) v d→Rep w.heap ((mk (aG 0 cargs) chp cu).own A' (fun p=>β (σ p))) v d:=fun v d hd=>hd.mono (fun _ _ _=>rfl) (fun b _=>hown b)
 have hob:∀ p o,(mk (aG 0 cargs) chp cu).hp p=some o→s.hp (σ p)=some (o.ren σ)∧(fun p=>β (σ p)) p=β (σ p):=fun p o ho=>⟨(live p o ho).1,rfl⟩
 have hsim:Sim { n:=cargs.length,io:=B.io,G:=B.G,H0:=w.heap,O0:=O0',A:=A',U0:=cu,β0:=fun p=>β (σ p),hA:=hA',hG:=hG' } (fun p=>β (σ p)) (mk (aG 0 cargs) chp cu) vs w:=by
  refine { tms:=hvs,io:=h.io,size:=Nat.le_refl _,frame:=fun _ _ _=>rfl,slots:=fun t=>?_,objs:=fun p o ho=>⟨(live p o ho).2.2,OR.ren hr hob rfl (live p o ho).2.1 (h.objs _ _ (live p o ho).1).2⟩,blocks:=fun p k hp hk=>?_,inj:=fun p q k l hp hq hk hl e=>?_,us:=fun _ hx=>hx,stay:=fun _ _=>rfl }
  ·rw [eJ,bg,if_pos (Nat.zero_le _),Nat.sub_zero]
   cases ht:cargs[t]? with
   | none=>exact .un _
   | some x=>exact (hv t x ht).ren hr hob x rfl (fK hcu t x ht)
  ·cases ho:(mk (aG 0 cargs) chp cu).hp p with
   | none=>exact absurd ho hp
   | some o =>
     have hin:O0' k.b:=(hO _).2 ⟨p,k,List.any_eq_true.2 ⟨_,lkS ho,by simp⟩,hk,rfl⟩
     obtain ⟨g1,_,_⟩:=h.blocks (σ p) k (by rw [(live p o ho).1];simp) hk
     exact ⟨g1,fun ha=>((hA _).1 ha).2 hin,.inr hin⟩
  ·cases ho:(mk (aG 0 cargs) chp cu).hp p with
   | none=>exact absurd ho hp
   | some o =>
     cases ho':(mk (aG 0 cargs) chp cu).hp q with
     | none=>exact absurd ho' hq
     | some o' =>
       have e2:=h.inj (σ p) (σ q) k l (by rw [(live p o ho).1];simp) (by rw [(live q o' ho').1];simp) hk hl e
       exact jq hinj _ (lkS ho) _ (lkS ho') e2
 have hgo:=fun h1 h2 h3 h4=>hc.2 _ _ vs w h1 h2 h3 h4 hsim
 refine (hgo rfl rfl rfl rfl).mono ?_
 rintro e w' ⟨v,r,hp',u',β',rfl,hQ,hs⟩
 exact ⟨v,rfl,r,hp',hQ,fun hl=>v5 h hd hpass hinj hβc hO hA hA' hG' hl hs⟩
theorem dI {s:St} {B:Base} {β:Name→Option Blk} {a:Act} {w:World} (h:Sim B β s a.tmps w) (a0s:List Operand) (i:Nat) (x:AV) (hx:(a0s.map (ev s))[i]?=some x):VR w.heap (s.own B.A β) s.used s.hp β ((a0s.map a.eval).toArray.getD i undef) x:=by
 rw [List.getElem?_map,Option.map_eq_some_iff] at hx
 obtain ⟨y,hy,rfl⟩:=hx
 have e:(a0s.map a.eval).toArray.getD i undef=a.eval y:=by simp [Array.getD_eq_getD_getElem?,hy]
 rw [e];exact h.ev y
theorem q7 {s:St} {k:List It} {Q:Exit→St→Prop} {dst:Option Nat} {fv:Operand} {args:Array Operand} {at':Array TypeId} {ty:TypeId} {pos:String} {af:Array Edge} {g:Option (Nat × Bool)}
  (d:Nat) (σ:Name→Name) (cargs:List AV) (chp:List (Name × Ob)) (cu:List Nat) (Q0:AV→List (Name × Ob)→Prop) {f:FuncId} {caps:List AV}
  (hev:ev s fv=.clo f caps) (hargs:args.toList.map (ev s)++caps=e8 σ cargs) (hcu:eU cu cargs=true) (hd:d ∉ s.used) (hdst:∀ t∈dst,t<cf.n∧t=d)
  (hpass:fb σ cu s chp) (hinj:mj σ chp) (hc:HCall P cf.G f cargs chp cu Q0) (hk:∀ r hp',Q0 r hp'→iI chp hp'∧run P cf k Q (DX s σ d dst chp hp' r)) :
  AOk P cf { dst:=dst,op:=.call { callee:=.value fv,args:=args,argTypes:=at' },type:=ty,pos:=pos,after:=af,guard:=g } s k Q:=by
 intro B hB ds β a w hds h Q'
 refine ⟨fun _ _=>trivial,?_⟩
 have hf:=h.ev fv
 rw [hev] at hf
 generalize hfv:a.eval fv=fval at hf
 cases hf with
 | clo _ cvs _ hcs hcv =>
 have hrun:∀ vs,vs=(args.toList.map a.eval).toArray++cvs→(execOp a.eval { dst:=dst,op:=.call { callee:=.value fv,args:=args,argTypes:=at' },type:=ty,pos:=pos,after:=af,guard:=g }).run P w=.ok (.enter f vs) w:=by
  intro vs hvs
  have e:(execOp a.eval { dst:=dst,op:=.call { callee:=.value fv,args:=args,argTypes:=at' },type:=ty,pos:=pos,after:=af,guard:=g }:Sem Next)=callFunc f (#[]++args.map a.eval++cvs):=by
   show (do let d ← (Deferred.ofValue (a.eval fv) (args.map a.eval));invoke d.target d.args:Sem Next)=_
   rw [hfv];rfl
  rw [e,← hc.1 vs w,hvs]
  congr 2
  apply Array.ext'
  simp
 rw [Oper.semAt_eq _ _ _ (by simp),hrun _ rfl,Oper.uponIn_enter]
 refine ⟨fun hdep=>by simp [eP] at hdep,?_⟩
 have hlen:cargs.length=args.size+caps.length:=by
  have:=congrArg List.length hargs
  rw [bC] at this
  simpa using this.symm
 have hvs:((args.toList.map a.eval).toArray++cvs).size=cargs.length:=by simp [hcs,hlen]
 have hv:∀ (i:Nat) x,cargs[i]?=some x→VR w.heap (s.own B.A β) s.used s.hp β (((args.toList.map a.eval).toArray++cvs).getD i undef) (x.ren σ):=by
  intro i x hi
  have hx:(e8 σ cargs)[i]?=some (x.ren σ):=by rw [cW,hi];rfl
  rw [← hargs] at hx
  by_cases hlt:i<args.size
  ·have hx':(args.toList.map (ev s))[i]?=some (x.ren σ):=by rw [← hx,List.getElem?_append_left (by simpa using hlt)]
   have:=dI h args.toList i _ hx'
   rw [show ((args.toList.map a.eval).toArray++cvs).getD i undef=(args.toList.map a.eval).toArray.getD i undef by simp [Array.getD_eq_getD_getElem?,Array.getElem?_append,hlt]]
   exact this
  ·have hx':caps[i-args.size]?=some (x.ren σ):=by rw [← hx,List.getElem?_append_right (by simpa using Nat.le_of_not_lt hlt)];simp
   have:=hcv _ _ hx'
   rw [show ((args.toList.map a.eval).toArray++cvs).getD i undef=cvs.getD (i-args.size) undef by simp [Array.getD_eq_getD_getElem?,Array.getElem?_append,hlt]]
   exact this
 have hcall:=tV (P:=P) h (σ:=σ) hd hpass hinj hcu hvs hv (by rw [hB.2.2];exact hc)
 have hcall':CallsIn (Fw cf.ro) (0-1) P f ((args.toList.map a.eval).toArray++cvs) w _:=hcall
 refine hcall'.mono ?_
 rintro e w' ⟨v,rfl,r,hp',hQ,hl⟩
 obtain ⟨hlk,hrun'⟩:=hk r hp' hQ
 obtain ⟨β2,hs2,hv2⟩:=hl hlk
 refine ⟨by cases dst<;>exact hds,DX s σ d dst chp hp' r,β2,aW hrun',?_⟩
 cases dst with
 | none=>exact hs2
 | some t =>
   obtain ⟨ht,rfl⟩:=hdst t rfl
   exact hs2.put (by rw [hB.1];exact ht) hv2
end
end Go.Ab
namespace Go.Ab
theorem iQ {u:List Nat}:∀ {l:List AV},(∀ (i:Nat) (x:AV),l[i]?=some x→x.inU u=true)→eU u l=true
 | [],_=>rfl
 | y::r,h=>by
   simp only [eU,Bool.and_eq_true]
   exact ⟨h 0 y rfl,iQ fun i x hi=>h (i+1) x (by simpa using hi)⟩
theorem nU {u:List Nat} {p:Name} (h:nm u p):nmb u p=true:=by
 obtain ⟨a,t,rfl,ha⟩:=h
 simpa [nmb] using ha
theorem VR.inU {H:Array Obj} {own:Nat→Prop} {used:List Nat} {hp:Name→Option Ob} {β:Name→Option Blk} {v:Value} {x:AV} (h:VR H own used hp β v x):x.inU used=true:=by
 induction h with
 | un v=>rfl
 | d v z h=>rfl
 | vw v p off len hn h1 h=>exact nU hn
 | bx v p c hn h1 h=>exact nU hn
 | el v p i c hn h1 h=>exact nU hn
 | mp v p hn h1 h=>exact nU hn
 | its v p hn h1 h h'=>exact nU hn
 | agg vs cs hs hc h0 ih=>exact iQ ih
 | tup vs cs hs h0 ih=>exact iQ ih
 | clo f vs cs hs h0 ih=>exact iQ ih
mutual
theorem AV.ek (τ:Name→Name) (h:∀ p,τ p=p):∀ x:AV,x.ren τ=x
 | .un=>rfl
 | .d _=>rfl
 | .vw p _ _=>by simp only [AV.ren,h]
 | .bx p _=>by simp only [AV.ren,h]
 | .el p _ _=>by simp only [AV.ren,h]
 | .mp p=>by simp only [AV.ren,h]
 | .it p=>by simp only [AV.ren,h]
 | .agg cs=>by simp only [AV.ren,kz τ h cs]
 | .tup cs=>by simp only [AV.ren,kz τ h cs]
 | .clo _ cs=>by simp only [AV.ren,kz τ h cs]
theorem kz (τ:Name→Name) (h:∀ p,τ p=p):∀ l:List AV,e8 τ l=l
 | []=>rfl
 | x::r=>by simp only [e8,AV.ek τ h x,kz τ h r]
end
theorem Ob.ek (τ:Name→Name) (h:∀ p,τ p=p) (o:Ob):o.ren τ=o:=by
 cases o<;>simp only [Ob.ren,kz τ h,h]
theorem OR.inU {H:Array Obj} {own:Nat→Prop} {used:List Nat} {hp:Name→Option Ob} {β:Name→Option Blk} {p:Name} {o:Ob} (h:OR H own used hp β p o):o.inU used=true:=by
 cases o with
 | boxT ty cs =>
   obtain ⟨k,c,e,hk,ho,hc,hz,hl,h1,h⟩:=h
   exact iQ fun i x hi=>(h i x hi).inU
 | _=>rfl
theorem Sim.unuse {B:Base} {β β':Name→Option Blk} {s s':St} {tm tm':Array Value} {w w':World} (h0:Sim B β s tm w) (h:Sim B β' s' tm' w') (hhp:s'.hp=s.hp) {t0:Nat} {x0:AV} (hfr:∀ t,t=t0∨s'.fr t=s.fr t) (hx:s'.fr t0=x0) (hx0:x0.inU s.used=true) :
  ∃ β2,Sim B β2 { s' with used:=s.used } tm' w':=by
 have hi:∀ t,(s'.fr t).inU s.used=true:=fun t=>by
  rcases hfr t with rfl | e
  ·rw [hx];exact hx0
  ·rw [e];exact (h0.slots t).inU
 obtain ⟨β2,h2,_⟩:=h.le (s2:={ s' with used:=s.used }) (τ:=fun p=>p)
  { fr:=fun t=>.inr ⟨(AV.ek _ (fun _=>rfl) _).symm,hi t⟩
    hp:=fun p o ho=>by
     have ho:s'.hp p=some o:=ho
     rw [hhp] at ho
     obtain ⟨g1,g2⟩:=h0.objs p o ho
     exact ⟨by rw [Ob.ek _ (fun _=>rfl),hhp];exact ho,g2.inU,g1⟩
    inj:=fun p q _ _ e=>e
    us:=fun x hx=>h0.us x hx
    stay:=fun _ _ _=>rfl }
 exact ⟨β2,h2⟩
section
variable {P:Program} {cf:Cf}
def HP (P:Program) (G:List (Nat × Obj)) (f:FuncId) (args:List D) (Q:AV→Prop):Prop:=HCall P G f (args.map .d) [] [] fun r hp'=>Q r∧r.inU []=true∧hp'=[]
theorem qQ (u:List Nat):∀ l:List D,eU u (l.map .d)=true
 | []=>rfl
 | _::r=>by simp only [List.map_cons,eU,AV.inU,qQ u r,Bool.and_self]
mutual
theorem AV.ll (u:List Nat):∀ x:AV,x.inU []=true→x.inU u=true
 | .un,_=>rfl
 | .d _,_=>rfl
 | .vw p _ _,h=>by cases p<;>simp [AV.inU,nmb] at h
 | .bx p _,h=>by cases p<;>simp [AV.inU,nmb] at h
 | .el p _ _,h=>by cases p<;>simp [AV.inU,nmb] at h
 | .mp p,h=>by cases p<;>simp [AV.inU,nmb] at h
 | .it p,h=>by cases p<;>simp [AV.inU,nmb] at h
 | .agg cs,h=>jU u cs h
 | .tup cs,h=>jU u cs h
 | .clo _ cs,h=>jU u cs h
theorem jU (u:List Nat):∀ l:List AV,eU [] l=true→eU u l=true
 | [],_=>rfl
 | x::r,h=>by
   simp only [eU,Bool.and_eq_true] at h ⊢
   exact ⟨AV.ll u x h.1,jU u r h.2⟩
end
mutual
theorem AV.kO (τ:Name→Name):∀ x:AV,x.inU []=true→x.ren τ=x
 | .un,_=>rfl
 | .d _,_=>rfl
 | .vw p _ _,h=>by cases p<;>simp [AV.inU,nmb] at h
 | .bx p _,h=>by cases p<;>simp [AV.inU,nmb] at h
 | .el p _ _,h=>by cases p<;>simp [AV.inU,nmb] at h
 | .mp p,h=>by cases p<;>simp [AV.inU,nmb] at h
 | .it p,h=>by cases p<;>simp [AV.inU,nmb] at h
 | .agg cs,h=>by simp only [AV.ren,jy τ cs h]
 | .tup cs,h=>by simp only [AV.ren,jy τ cs h]
 | .clo _ cs,h=>by simp only [AV.ren,jy τ cs h]
theorem jy (τ:Name→Name):∀ l:List AV,eU [] l=true→e8 τ l=l
 | [],_=>rfl
 | x::r,h=>by
   simp only [eU,Bool.and_eq_true] at h
   simp only [e8,AV.kO τ x h.1,jy τ r h.2]
end
theorem lS (l:List Nat):∃ d,d ∉ l:=by
 have:∀ (l:List Nat),∃ m,∀ x∈l,x<m:=by
  intro l
  induction l with
  | nil=>exact ⟨0,by simp⟩
  | cons a r ih =>
    obtain ⟨m,hm⟩:=ih
    refine ⟨a+m+1,fun x hx=>?_⟩
    rcases List.mem_cons.1 hx with rfl | hx
    ·omega
    ·have:=hm x hx;omega
 obtain ⟨m,hm⟩:=this l
 exact ⟨m,fun h=>by have:=hm m h;omega⟩
def St.iK (s:St) (d:Option Nat) (x:AV):St :=
 match d with
 | some t=>s.put t x
 | none=>s
theorem kA {s:St} {k:List It} {Q:Exit→St→Prop} {dst:Option Nat} {fv:Operand} {args:Array Operand} {at':Array TypeId} {ty:TypeId} {pos:String} {af:Array Edge} {g:Option (Nat × Bool)}
  {f:FuncId} {caps:List AV} {ds:List D} {Q0:AV→Prop} (hc:HP P cf.G f ds Q0)
  (hev:ev s fv=.clo f caps) (hargs:args.toList.map (ev s)++caps=ds.map .d) (hdst:∀ t∈dst,t<cf.n) (hk:∀ r,Q0 r→run P cf k Q (s.iK dst r)) :
  AOk P cf { dst:=dst,op:=.call { callee:=.value fv,args:=args,argTypes:=at' },type:=ty,pos:=pos,after:=af,guard:=g } s k Q:=by
 intro B hB ds' β a w hds h Q'
 refine ⟨fun _ _=>trivial,?_⟩
 obtain ⟨d,hd⟩:=lS s.used
 have hf:=h.ev fv
 rw [hev] at hf
 generalize hfv:a.eval fv=fval at hf
 cases hf with
 | clo _ cvs _ hcs hcv =>
 have hrun:∀ vs,vs=(args.toList.map a.eval).toArray++cvs→(execOp a.eval { dst:=dst,op:=.call { callee:=.value fv,args:=args,argTypes:=at' },type:=ty,pos:=pos,after:=af,guard:=g }).run P w=.ok (.enter f vs) w:=by
  intro vs hvs
  have e:(execOp a.eval { dst:=dst,op:=.call { callee:=.value fv,args:=args,argTypes:=at' },type:=ty,pos:=pos,after:=af,guard:=g }:Sem Next)=callFunc f (#[]++args.map a.eval++cvs):=by
   show (do let d ← (Deferred.ofValue (a.eval fv) (args.map a.eval));invoke d.target d.args:Sem Next)=_
   rw [hfv];rfl
  rw [e,← hc.1 vs w,hvs]
  congr 2
  apply Array.ext'
  simp
 rw [Oper.semAt_eq _ _ _ (by simp),hrun _ rfl,Oper.uponIn_enter]
 refine ⟨fun hdep=>by simp [eP] at hdep,?_⟩
 have hlen:(ds.map AV.d).length=args.size+caps.length:=by
  have:=congrArg List.length hargs
  simpa using this.symm
 have hvs:((args.toList.map a.eval).toArray++cvs).size=(ds.map AV.d).length:=by simp [hcs] at hlen ⊢;omega
 have hv:∀ (i:Nat) x,(ds.map AV.d)[i]?=some x→VR w.heap (s.own B.A β) s.used s.hp β (((args.toList.map a.eval).toArray++cvs).getD i undef) (x.ren id):=by
  intro i x hi
  rw [AV.ek id (fun _=>rfl)]
  have hx:=hi
  rw [← hargs] at hx
  by_cases hlt:i<args.size
  ·have hx':(args.toList.map (ev s))[i]?=some x:=by rw [← hx,List.getElem?_append_left (by simpa using hlt)]
   have:=dI h args.toList i _ hx'
   rw [show ((args.toList.map a.eval).toArray++cvs).getD i undef=(args.toList.map a.eval).toArray.getD i undef by simp [Array.getD_eq_getD_getElem?,Array.getElem?_append,hlt]]
   exact this
  ·have hx':caps[i-args.size]?=some x:=by rw [← hx,List.getElem?_append_right (by simpa using Nat.le_of_not_lt hlt)];simp
   have:=hcv _ _ hx'
   rw [show ((args.toList.map a.eval).toArray++cvs).getD i undef=cvs.getD (i-args.size) undef by simp [Array.getD_eq_getD_getElem?,Array.getElem?_append,hlt]]
   exact this
 have hcall:=tV (P:=P) h (σ:=id) (d:=d) hd (chp:=[]) (cu:=[]) trivial trivial (qQ _ _) hvs hv (by rw [hB.2.2];exact hc)
 have hcall':CallsIn (Fw cf.ro) (0-1) P f ((args.toList.map a.eval).toArray++cvs) w _:=hcall
 refine hcall'.mono ?_
 rintro e w' ⟨v,rfl,r,hp',⟨hQ,hru,rfl⟩,hl⟩
 obtain ⟨β2,hs2,hv2⟩:=hl trivial
 rw [AV.kO _ r hru] at hv2
 have hru':=AV.ll s.used r hru
 refine ⟨by cases dst<;>exact hds,s.iK dst r,?_⟩
 cases dst with
 | none =>
   obtain ⟨β3,h3⟩:=h.unuse hs2 rfl (t0:=0) (x0:=s.fr 0) (fun _=>.inr rfl) rfl (h.slots 0).inU
   exact ⟨β3,aW (hk r hQ),h3⟩
 | some t =>
   have h2:=hs2.put (t:=t) (by rw [hB.1];exact hdst t rfl) hv2
   obtain ⟨β3,h3⟩:=h.unuse h2 rfl (t0:=t) (x0:=r) (fun u=>by
    by_cases e:u=t
    ·exact .inl e
    ·exact .inr (by show dJ _ _ _ _=_;simp [dJ,e])) (by show dJ _ _ _ _=_;simp [dJ]) hru'
   exact ⟨β3,aW (hk r hQ),h3⟩
theorem ew {f:FuncId} {fn:Func} {c:Code} (hf:P.funcs[f]?=some fn) (hb:fn.body=some c) (hn:(fn.name == "runtime.NumGoroutine")=false) (vs:Array Value) (w:World):(callFunc f vs).run P w=.ok (.enter f vs) w:=by
 unfold callFunc
 simp only [Sem.run_bind,run_program,Result.andThen_ok,hf,hn,Bool.false_eq_true,if_false,hb,Option.isNone_some,Sem.run_pure]
theorem RX.intro {α:Type} {φ:α→Prop} {r:R α} {a:α} (h:r=.ok a) (hφ:φ a):RX r φ:=by rw [h];exact hφ
def okV (Q:AV→Prop):R (List AV)→Prop
 | .ok l=>(dn l).inU []=true∧Q (dn l)
 | .need p r=>p∧okV Q r
 | .no=>False
def pq (P:Program) (rs:List ResultVar) (Q:AV→Prop) (e:Exit) (s:St):Prop :=
 match e with
 | .ret=>okV Q (gE P s rs)
 | .normal=>okV Q (gE P s rs)
 | _=>False
theorem GS (rs:List ResultVar) (Q:AV→Prop) (s:St):pq P rs Q .ret s=okV Q (gE P s rs):=rfl
theorem zg (rs:List ResultVar) (Q:AV→Prop) (s:St):pq P rs Q .normal s=okV Q (gE P s rs):=rfl
theorem G3 (Q:AV→Prop) (l:List AV):okV Q (.ok l)=((dn l).inU []=true∧Q (dn l)):=rfl
theorem Bb (Q:AV→Prop) (p:Prop) (r:R (List AV)):okV Q (.need p r)=(p∧okV Q r):=rfl
theorem CN (x:AV):dn [x]=x:=rfl
theorem A6 (x y:AV) (r:List AV):dn (x::y::r)=.tup (x::y::r):=rfl
theorem Bk:dn []=.tup []:=rfl
theorem uX {Q:AV→Prop}:∀ {r:R (List AV)},okV Q r→RX r fun l=>∃ x hp' u' τ,(Q x∧x.inU []=true∧hp'=[])∧∀ s:St,LeL [] τ (oH s (dn l)) [(0,x)] hp' u'
 | .ok l,h=>⟨dn l,[],[],id,⟨h.2,h.1,rfl⟩,fun s=>⟨⟨⟨by show dn l=_;rw [AV.ek id (fun _=>rfl)],h.1⟩,trivial⟩,trivial,trivial,rfl,trivial⟩⟩
 | .need _ r,h=>⟨h.1,uX h.2⟩
 | .no,h=>h.elim
theorem RX.mono {α:Type} {φ ψ:α→Prop} (h:∀ x,φ x→ψ x):∀ {r:R α},RX r φ→RX r ψ
 | .ok _,g=>h _ g
 | .need _ _,g=>⟨g.1,RX.mono h g.2⟩
 | .no,g=>g
theorem al {G:List (Nat × Obj)} {f:FuncId} {fn:Func} {c:Code} {args:List D} {Q:AV→Prop} (hf:P.funcs[f]?=some fn) (hb:fn.body=some c) (hnm:(fn.name == "runtime.NumGoroutine")=false) (hn:args.length≤fn.ntmps)
  (h:run P ⟨fn.ntmps,none,G,[]⟩ [.code c] (pq P fn.results.toList Q) (mk (aG 0 (args.map .d)) [] [])):HP P G f args Q:=by
 refine Bx hf hb (ew hf hb hnm) (by simpa using hn) (fun e s hq=>?_) h
 cases e with
 | ret=>exact (uX hq).mono fun l ⟨x,hp',u',τ,h1,h2⟩=>⟨x,hp',u',τ,h1,h2 s⟩
 | normal=>exact (uX hq).mono fun l ⟨x,hp',u',τ,h1,h2⟩=>⟨x,hp',u',τ,h1,h2 s⟩
 | exit i=>exact hq.elim
 | goto l=>exact hq.elim
 | panic c=>exact hq.elim
 | outgrown=>exact hq.elim
end
end Go.Ab
namespace Go.Ab
structure Ext (w w':World):Prop where
 io:wio w'=wio w
 size:w.heap.size≤w'.heap.size
 old:∀ b,b<w.heap.size→w'.heap[b]?=w.heap[b]?
theorem Ext.refl (w:World):Ext w w:=⟨rfl,Nat.le_refl _,fun _ _=>rfl⟩
def D.val:D→Option Value
 | .int k n=>some (.int k n)
 | .bool b=>some (.bool b)
 | .str s=>some (.string ⟨s.toArray⟩)
 | .nilp=>some (.pointer none)
 | .nils=>some (.slice none 0 0)
 | .nilm=>some (.map none)
 | .nilf=>some .nilFunc
 | .nili=>some .nilIface
 | _=>none
theorem Rep.val {H:Array Obj} {own:Nat→Prop} {v u:Value} {d:D} (h:Rep H own v d) (hd:d.val=some u):v=u:=by
 cases h<;>simp [D.val] at hd<;>first | exact hd | exact hd.symm
theorem D.Fe {H:Array Obj} {own:Nat→Prop} {v:Value} {d:D} (h:d.val=some v):Rep H own v d:=by
 cases d<;>simp [D.val] at h<;>subst h<;>constructor
def vals:List D→Option (List Value)
 | []=>some []
 | d::r=>match d.val,vals r with
   | some v,some vs=>some (v::vs)
   | _,_=>none
theorem sG:∀ {l:List D} {vs:List Value},vals l=some vs→vs.length=l.length∧∀ (i:Nat) d,l[i]?=some d→d.val=vs[i]?
 | [],vs,h=>by simp only [vals,Option.some.injEq] at h;subst h;exact ⟨rfl,by simp⟩
 | d::r,vs,h=>by
   simp only [vals] at h
   split at h
   ·rename_i v vs' h1 h2
    simp only [Option.some.injEq] at h
    subst h
    obtain ⟨g1,g2⟩:=sG h2
    refine ⟨by simp [g1],fun i e hi=>?_⟩
    cases i with
    | zero=>simp at hi;subst hi;simpa using h1
    | succ i=>simpa using g2 i e (by simpa using hi)
   ·cases h
section
variable {P:Program}
end
end Go.Ab

namespace Go.Ab
abbrev i64 (n:Int):D:=.int .i64 n
def inR (n:Int):Prop:=-9223372036854775808≤n∧n≤9223372036854775807
def w64 (n:Int):Int:=IntKind.i64.wrap n
def u64 (n:Int):Int:=IntKind.u64.wrap n
theorem wrap_i64 (n:Int):IntKind.i64.wrap n=w64 n:=rfl
theorem Bm (n:Int):IntKind.u64.wrap n=u64 n:=rfl
theorem vZ (n:Int):u64 n=n % 18446744073709551616:=by simp [u64,IntKind.wrap,IntKind.bits,IntKind.signed]
theorem nt (n:Int):w64 n=if n % 18446744073709551616 ≥ 9223372036854775808 then n % 18446744073709551616-18446744073709551616 else n % 18446744073709551616:=by
 simp [w64,IntKind.wrap,IntKind.bits,IntKind.signed]
theorem ai {n:Int} (h:inR n):w64 n=n:=by
 obtain ⟨h1,h2⟩:=h
 rw [nt];split<;>omega
def Jj (a b:Int):Int:=if b=0 then 0 else w64 (a.tdiv b)
def Jd (b:Int):Int:=if b=0 then 9 else 0
end Go.Ab
namespace Go.Ab
def lZ {α β:Type} [DecidableEq α]:List (α × β)→α→β→List (α × β)
 | [],i,x=>[(i,x)]
 | q::r,i,x=>if i=q.1 then (i,x)::r else q::lZ r i x
def jX {α β:Type} [DecidableEq α]:List (α × β)→α→List (α × β)
 | [],_=>[]
 | q::r,i=>if i=q.1 then jX r i else q::jX r i
theorem jT {α β:Type} [DecidableEq α] (z:β) (i:α) (x:β) (j:α):∀ l:List (α × β),lkA z (lZ l i x) j=if j=i then x else lkA z l j
 | []=>by simp [lZ,lkA]
 | q::r=>by
   simp only [lZ]
   split
   ·rename_i e;subst e;simp only [lkA];split<;>rfl
   ·rename_i e
    simp only [lkA,jT z i x j r]
    by_cases h1:j=q.1
    ·rw [if_pos h1,if_pos h1,if_neg (fun e2=>e (e2.symm.trans h1))]
    ·rw [if_neg h1,if_neg h1]
theorem np (i:Name) (x:Ob):∀ l:List (Name × Ob),(lZ l i x).map (fun q=>(q.1,some q.2))=lZ (l.map fun q=>(q.1,some q.2)) i (some x)
 | []=>rfl
 | q::r=>by
   simp only [lZ,List.map_cons]
   split
   ·rfl
   ·rw [List.map_cons,np i x r]
theorem ik {α β:Type} [DecidableEq α] (z:β) (i:α) (j:α):∀ l:List (α × β),lkA z (jX l i) j=if j=i then z else lkA z l j
 | []=>by simp [jX,lkA]
 | q::r=>by
   simp only [jX]
   split
   ·rename_i e
    rw [ik z i j r,lkA]
    by_cases h1:j=i
    ·rw [if_pos h1,if_pos h1]
    ·rw [if_neg h1,if_neg h1,if_neg (fun e2=>h1 (e2.trans e.symm))]
   ·rename_i e
    simp only [lkA,ik z i j r]
    by_cases h1:j=q.1
    ·rw [if_pos h1,if_pos h1,if_neg (fun e2=>e (e2.symm.trans h1))]
    ·rw [if_neg h1,if_neg h1]
theorem ir (i:Name):∀ l:List (Name × Ob),(jX l i).map (fun q=>(q.1,some q.2))=jX (l.map fun q=>(q.1,some q.2)) i
 | []=>rfl
 | q::r=>by
   simp only [jX,List.map_cons]
   split
   ·exact ir i r
   ·rw [List.map_cons,ir i r]
theorem ij (fr hp u) (t:Nat) (x:AV):(mk fr hp u).put t x=mk (lZ fr t x) hp u:=by
 unfold St.put mk
 congr 1
 funext j
 rw [jT];rfl
theorem Ce (fr hp u) (t:Nat) (o:Ob):(mk fr hp u).add t o=mk fr (lZ hp [t] o) (t::u):=by
 unfold St.add mk
 congr 1
 funext j
 rw [np,jT];rfl
theorem Hv (fr hp u) (p:Name) (o:Ob):(mk fr hp u).set p (some o)=mk fr (lZ hp p o) u:=by
 unfold St.set mk
 congr 1
 funext j
 rw [np,jT];rfl
theorem Hz (fr hp u) (p:Name):(mk fr hp u).set p none=mk fr (jX hp p) u:=by
 unfold St.set mk
 congr 1
 funext j
 rw [ir,ik];rfl
section
variable {P:Program} {cf:Cf} {Q:Exit→St→Prop} {s:St} {k:List It} {o:Oper} {a b:Code} {t:Nat} {all:Array Oper} {r:List Oper}
theorem tA:cnd P cf (.d (.bool true)) a b k Q s=run P cf (.code a::k) Q s:=by simp [cnd]
theorem pY:cnd P cf (.d (.bool false)) a b k Q s=run P cf (.code b::k) Q s:=by simp [cnd]
def skp (P:Program) (cf:Cf) (d:Option Nat) (all:Array Oper) (r:List Oper) (k:List It) (Q:Exit→St→Prop) (s:St):Prop :=
 match d with
 | some t=>if t<cf.n then run P cf (.ops all r::k) Q (s.put t (.tup [])) else False
 | none=>run P cf (.ops all r::k) Q s
theorem jt (d:Option Nat):(bZ cf.n d s (.tup [])).run (fun s'=>run P cf (.ops all r::k) Q s') False=skp P cf d all r k Q s:=by
 cases d with
 | none=>rfl
 | some t=>simp only [bZ,skp];split<;>simp [R.run]
theorem CC:gd P cf (some (t,.d (.bool true))) true all o r s k Q=stp P cf (opR P.ti cf.n o.op o.dst (s.put t (.d (.bool true)))) { o with guard:=none } (s.put t (.d (.bool true))) (.ops all r::k) Q:=by simp [gd]
theorem AW:gd P cf (some (t,.d (.bool false))) false all o r s k Q=stp P cf (opR P.ti cf.n o.op o.dst (s.put t (.d (.bool false)))) { o with guard:=none } (s.put t (.d (.bool false))) (.ops all r::k) Q:=by simp [gd]
theorem Am:gd P cf (some (t,.d (.bool true))) false all o r s k Q=skp P cf o.dst all r k Q (s.put t (.d (.bool true))):=by simp [gd,jt]
theorem AT:gd P cf (some (t,.d (.bool false))) true all o r s k Q=skp P cf o.dst all r k Q (s.put t (.d (.bool false))):=by simp [gd,jt]
theorem Ip {want:Bool}:gd P cf (some (t,.tup [])) want all o r s k Q=skp P cf o.dst all r k Q s:=by simp [gd,jt]
theorem yf {p:Prop} [Decidable p] (h1:p→run P cf (.code a::k) Q s) (h2:¬ p→run P cf (.code b::k) Q s):cnd P cf (.d (.bool (decide p))) a b k Q s :=
 ⟨fun h=>h1 (of_decide_eq_true h),fun h=>h2 (of_decide_eq_false h)⟩
theorem vy {c:Bool} (h1:c=true→run P cf (.code a::k) Q s) (h2:c=false→run P cf (.code b::k) Q s):cnd P cf (.d (.bool c)) a b k Q s:=⟨h1,h2⟩
theorem sH {p:Prop} [Decidable p] {want:Bool}
  (h1:p→gd P cf (some (t,.d (.bool true))) want all o r (s.put t (.d (.bool true))) k Q) (h2:¬ p→gd P cf (some (t,.d (.bool false))) want all o r (s.put t (.d (.bool false))) k Q):gd P cf (some (t,.d (.bool (decide p)))) want all o r s k Q:=by
 have pp:∀ x y:AV,(s.put t x).put t y=s.put t y:=fun x y=>by
  unfold St.put;congr 1;funext i;simp only [dJ];split<;>rfl
 by_cases h:p
 ·have:=h1 h
  simp only [h,decide_true]
  cases want
  ·rw [Am] at this ⊢;rw [pp] at this;exact this
  ·rw [CC] at this ⊢;rw [pp] at this;exact this
 ·have:=h2 h
  simp only [h,decide_false]
  cases want
  ·rw [AW] at this ⊢;rw [pp] at this;exact this
  ·rw [AT] at this ⊢;rw [pp] at this;exact this
theorem yT {c:Bool} {want:Bool}
  (h1:c=true→gd P cf (some (t,.d (.bool true))) want all o r (s.put t (.d (.bool true))) k Q) (h2:c=false→gd P cf (some (t,.d (.bool false))) want all o r (s.put t (.d (.bool false))) k Q):gd P cf (some (t,.d (.bool c))) want all o r s k Q:=by
 have:=sH (p:=c=true) (Q:=Q) (s:=s) (k:=k) (o:=o) (t:=t) (all:=all) (r:=r) (P:=P) (cf:=cf) (want:=want) h1 (fun h=>h2 (by simpa using h))
 simpa using this
end
def mM {α:Type}:Nat→List α→List α
 | 0,_=>[]
 | _+1,[]=>[]
 | n+1,a::l=>a::mM n l
def mK {α:Type}:Nat→List α→List α
 | 0,l=>l
 | _+1,[]=>[]
 | n+1,_::l=>mK n l
def Cp {α:Type}:List α→Nat→α→List α
 | [],_,_=>[]
 | _::l,0,x=>x::l
 | a::l,n+1,x=>a::Cp l n x
def zE {α:Type}:List α→List α→List α
 | [],m=>m
 | a::l,m=>a::zE l m
def sy {α:Type}:List α→Nat
 | []=>0
 | _::l=>sy l+1
theorem k9 {α:Type}:∀ (n:Nat) (l:List α),mM n l=l.take n
 | 0,l=>by simp [mM]
 | _+1,[]=>rfl
 | n+1,a::l=>by simp [mM,k9 n l]
theorem kx {α:Type}:∀ (n:Nat) (l:List α),mK n l=l.drop n
 | 0,l=>by simp [mK]
 | _+1,[]=>rfl
 | n+1,a::l=>by simp [mK,kx n l]
theorem w9 {α:Type}:∀ (l:List α) (n:Nat) (x:α),Cp l n x=l.set n x
 | [],_,_=>rfl
 | _::l,0,x=>rfl
 | a::l,n+1,x=>by simp [Cp,w9 l n x]
theorem xw {α:Type}:∀ (l m:List α),zE l m=l++m
 | [],m=>rfl
 | a::l,m=>by simp [zE,xw l m]
theorem lp {α:Type}:∀ (l:List α),sy l=l.length
 | []=>rfl
 | a::l=>by simp [sy,lp l]
theorem BI (i:TI) (d:D) (c:Nat):jl i d c=if i.k.bh then none else match d with
  | .agg cs=>if i.k.agg then (if c+i.sz≤sy cs then some (.agg (mM i.sz (mK c cs))) else none) else cs[c]?
  | d=>if i.k.agg then none else if c=0 then some d else none:=by
 unfold jl
 split
 ·rfl
 ·cases d<;>simp only [k9,kx,lp]
theorem AH (i:TI) (cs:List AV) (c:Nat):oK i cs c=if i.k.bh then .no else if i.k.agg then (if c+i.sz≤sy cs then .ok (fZ (mM i.sz (mK c cs))) else .no) else R.ofO cs[c]?:=by
 unfold oK
 simp only [k9,kx,lp]
theorem zA {α:Type} (l:List α) (c:Nat) (xs:List α):splice l c xs=zE (mM c l) (zE xs (mK (c+sy xs) l)):=by
 unfold splice
 simp only [k9,kx,lp,xw]
theorem vS (i:TI) (w:W) (xs:List D) (j c:Nat) (y:D):jI i w xs j c y=if i.k.bh then none
  else if i.isW w && nM w y && c == 0 then some (xs.set j y)
  else if i.k.agg then none
  else match xs.getD j .nilp with
   | .agg cs=>if y.scal∧c<sy cs∧i.sz=1 then some (xs.set j (.agg (Cp cs c y))) else none
   | _=>none:=by
 unfold jI
 simp only [w9,lp]
 generalize xs.getD j .nilp=z
 cases z<;>rfl
theorem Iq {α:Type} [BEq α] (l m:List α):List.beq l m=(l == m):=rfl
section
variable {P:Program} {cf:Cf} {Q:Exit→St→Prop} {s s':St} {k:List It} {o:Oper} {a b:Code} {all:Array Oper} {r:List Oper}
def xk (P:Program) (cf:Cf) (i:Nat) (k:List It) (Q:Exit→St→Prop) (s:St):Prop:=goK P cf (fa i k) i Q s
theorem oz (i:Nat):run P cf (.code (.exit i)::k) Q s=xk P cf i k Q s:=CJ Q s k i
theorem vF (i:Nat):xk P cf i [] Q s=Q (.exit i) s:=rfl
theorem ri (i:Nat) (c:Code):xk P cf i (.code c::k) Q s=xk P cf i k Q s:=rfl
theorem Ac (i:Nat):xk P cf i (.ops all r::k) Q s=xk P cf i k Q s:=rfl
theorem BP (i:Nat):xk P cf i (.blk i::k) Q s=run P cf k Q s:=by simp [xk,fa,goK]
theorem Bl (i j:Nat) (h:(j == i)=false):xk P cf i (.blk j::k) Q s=xk P cf i k Q s:=by
 have:j≠i:=by simpa using h
 simp [xk,fa,this]
theorem uv (t:Nat) (h:t<cf.n):skp P cf (some t) all r k Q s=run P cf (.ops all r::k) Q (s.put t (.tup [])):=by simp [skp,h]
theorem BX:skp P cf none all r k Q s=run P cf (.ops all r::k) Q s:=rfl
end
attribute [go_sem] dW wc mz xR p4 tl nZ run_seq tR pL oz vF ri Ac BP Bl vX sE rf n7 qG tA pY CC AW Am AT yG gV uv BX
attribute [go_sem] wrap_i64 Bm GS zg G3 Bb CN A6 Bk AV.inU eU
attribute [go_sem] Ob.box Ob.arr G8 isB ym
attribute [go_sem] opR bZ gz j1 ju vS nM cT oB ky gI fN ig cB iw da oy jg loI tS iY BZ E6 TK.isBool dR unR kP sR Bn AD BI AH zA cN jm jV fZ nT mb lx mM mK zE sy Cp ev cv TK.agg TK.bh TI.isW TI.zOk TI.by1 TI.zero D.scal R.bind R.ofO R.run ot TI.w St.iK
attribute [go_sem] ij Ce Hv Hz lZ jX eJ FR aa xa dV aG gE
attribute [go_sem] List.map_cons List.map_nil List.getElem?_cons_zero List.getElem?_cons_succ Option.map_some Option.map_none Option.isSome_some Option.getD_some reduceCtorEq List.cons.injEq and_true true_and and_self if_true if_false ite_true ite_false and_false false_and
attribute [go_sem] List.getD_cons_zero Int.cast_ofNat_Int Int.toNat_natCast List.drop_succ_cons List.drop_zero Nat.add_one_sub_one List.take_length List.length_map Option.getD_none Option.isSome_none List.flatMap_cons List.flatMap_nil
attribute [go_sem] List.not_mem_nil not_false_eq_true not_true_eq_false List.mem_cons or_false or_self false_or forall_const Bool.true_eq_false Bool.false_eq_true Bool.not_true Bool.not_false false_imp_iff true_imp_iff imp_self List.length_cons List.length_nil decide_true decide_false decide_eq_true_eq decide_eq_false_iff_not Nat.zero_add Nat.add_zero Bool.and_true Bool.true_and Bool.and_false Bool.false_and beq_self_eq_true List.all_cons List.all_nil List.toList_toArray ne_eq List.getElem?_toArray
end Go.Ab
namespace Go.Ab
section
variable {P:Program}
theorem tX {G:List (Nat × Obj)} {f:FuncId} {ds:List D} {Q:AV→Prop} (h:HP P G f ds Q) {W:World} (hG:∀ q∈G,W.heap[q.1]?=some q.2) {vs:Array Value} (hs:vs.size=ds.length)
  (hr:∀ (i:Nat) d,ds[i]?=some d→Rep W.heap (fun _=>False) (vs.getD i undef) d) :
  Calls P f vs W fun e W'=>∃ v r,e=.returned v∧Q r∧Ext W W'∧∃ u hp β own,VR W'.heap own u hp β v r:=by
 have hno:∀ (fr:List (Nat × AV)) (u:List Nat) (β:Name→Option Blk) (b:Nat),¬ (mk fr [] u).own (fun _=>False) β b:=by
  rintro fr u β b (hb | ⟨p,k,hp,_⟩)
  ·exact hb
  ·exact hp rfl
 have hsim:Sim { n:=ds.length,io:=wio W,G:=G,H0:=W.heap,O0:=fun _=>False,A:=fun _=>False,U0:=[],β0:=fun _=>none,hA:=fun _ hb=>hb.elim,hG:=fun q hq=>⟨hG q hq,fun hb=>hb⟩ }
   (fun _=>none) (mk (aG 0 (ds.map .d)) [] []) vs W:=by
  refine { tms:=hs,io:=rfl,size:=Nat.le_refl _,frame:=fun _ _ _=>rfl,slots:=fun t=>?_,objs:=fun p o ho=>(by cases ho),blocks:=fun p k hp=>(by exact absurd rfl hp),inj:=fun p q k l hp=>(by exact absurd rfl hp),us:=fun x hx=>(by cases hx),stay:=fun p hp=>rfl }
  rw [eJ,bg,if_pos (Nat.zero_le _),Nat.sub_zero,List.getElem?_map]
  cases hd:ds[t]? with
  | none=>exact .un _
  | some d=>exact .d _ _ ((hr t d hd).mono (fun _ _ _=>rfl) (fun b _ hb=>(hno _ _ _ b hb).elim))
 have hgo:=fun h1 h2 h3 h4=>h.2 _ _ vs W h1 h2 h3 h4 hsim
 refine (callsIn_wide.1 (hgo (by simp) rfl rfl rfl)).mono ?_
 rintro e W' ⟨v,r,hp',u',β',rfl,⟨hQ,_,rfl⟩,hs2⟩
 refine ⟨v,r,rfl,hQ,⟨hs2.io,hs2.size,fun b hb=>hs2.frame b hb (fun h=>h)⟩,_,_,_,_,hs2.slots 0⟩
theorem Ext.frame {W W':World} (h:Ext W W') (may:MemPlace→Prop):W.keptBut W' may:=by
 have hio:=h.io
 simp only [wio,Prod.mk.injEq] at hio
 refine ⟨hio.1,hio.2,fun i hi=>?_⟩
 rw [h.old i hi]
 split<;>simp_all
end
end Go.Ab
namespace Go.Ab
abbrev ToK (_:List It):Type:=St
abbrev ToX (_:Nat) (_:List It):Type:=St
abbrev ToS (_:Oper) (_:St) (_:List It):Type 1:=R St
abbrev ToG (_:Bool) (_:Array Oper) (_:Oper) (_:List Oper) (_:St) (_:List It):Type:=Option (Nat × AV)
abbrev ToC (_ _:Code) (_:List It) (_:St):Type:=AV
abbrev ToP (_:Option Nat) (_:Array Oper) (_:List Oper) (_:List It):Type:=St
structure Eng (P:Program) (cf:Cf) (Q:Exit→St→Prop) where
 run:(k:List It)→ToK k→Prop
 stp:(o:Oper)→(s:St)→(k:List It)→ToS o s k→Prop
 gd:(w:Bool)→(all:Array Oper)→(o:Oper)→(r:List Oper)→(s:St)→(k:List It)→ToG w all o r s k→Prop
 cnd:(a b:Code)→(k:List It)→(s:St)→ToC a b k s→Prop
 xk:(i:Nat)→(k:List It)→ToX i k→Prop
 skp:(d:Option Nat)→(all:Array Oper)→(r:List Oper)→(k:List It)→ToP d all r k→Prop
 run_eq:∀ (k:List It) (s:St),run k s=Ab.run P cf k Q s
 stp_eq:∀ (x:R St) o s k,stp o s k x=Ab.stp P cf x o s k Q
 gd_eq:∀ (v:Option (Nat × AV)) w all o r s k,gd w all o r s k v=Ab.gd P cf v w all o r s k Q
 cnd_eq:∀ (v:AV) a b k s,cnd a b k s v=Ab.cnd P cf v a b k Q s
 xk_eq':∀ i k (s:St),xk i k s=Ab.xk P cf i k Q s
 jt:∀ d all r k (s:St),skp d all r k s=Ab.skp P cf d all r k Q s
theorem Gh (P:Program) (cf:Cf) (Q:Exit→St→Prop):Nonempty (Eng P cf Q) :=
 ⟨⟨fun k s=>run P cf k Q s,fun o s k x=>stp P cf x o s k Q,fun w all o r s k v=>gd P cf v w all o r s k Q,fun a b k s v=>cnd P cf v a b k Q s,fun i k s=>xk P cf i k Q s,fun d all r k s=>skp P cf d all r k Q s,
   fun _ _=>rfl,fun _ _ _ _=>rfl,fun _ _ _ _ _ _ _=>rfl,fun _ _ _ _ _=>rfl,fun _ _ _=>rfl,fun _ _ _ _ _=>rfl⟩⟩
section
variable {P:Program} {cf:Cf} {Q:Exit→St→Prop} (E:Eng P cf Q) (s:St) (k:List It) (o:Oper) (a b:Code) (t:Nat) (all:Array Oper) (r:List Oper)
theorem IQ:E.run [] s=Q .normal s:=by rw [E.run_eq,dW]
theorem HV (i:Nat):E.run (.blk i::k) s=E.run k s:=by rw [E.run_eq,E.run_eq,wc]
theorem yH:E.run (.ops all []::k) s=E.run k s:=by rw [E.run_eq,E.run_eq,mz]
theorem Io (d:Option Nat) (op:Op) (ty:Nat) (p:String) (e:Array Edge) :
 E.run (.ops all ({ dst:=d,op:=op,type:=ty,pos:=p,after:=e,guard:=none }::r)::k) s =
  E.stp { dst:=d,op:=op,type:=ty,pos:=p,after:=e,guard:=none } s (.ops all r::k) (opR P.ti cf.n op d s):=by rw [E.run_eq,E.stp_eq,xR]
theorem Dm (d:Option Nat) (op:Op) (ty:Nat) (p:String) (e:Array Edge) (j:Nat) (want:Bool) :
 E.run (.ops all ({ dst:=d,op:=op,type:=ty,pos:=p,after:=e,guard:=some (j,want) }::r)::k) s =
  E.gd want all { dst:=d,op:=op,type:=ty,pos:=p,after:=e,guard:=some (j,want) } r s k (e7 all j s):=by rw [E.run_eq,E.gd_eq,p4]
theorem Gd:E.run (.code .skip::k) s=E.run k s:=by rw [E.run_eq,E.run_eq,tl]
theorem CW (i:Nat) (ops:List Oper):E.run (.code (.region i ops.toArray false)::k) s=E.run (.ops ops.toArray ops::k) s:=by rw [E.run_eq,E.run_eq,nZ]
theorem HS:E.run (.code (.seq a b)::k) s=E.run (.code a::.code b::k) s:=by rw [E.run_eq,E.run_eq,run_seq]
theorem Gt (x:Operand):E.run (.code (.cond x a b)::k) s=E.cnd a b k s (ev s x):=by rw [E.run_eq,E.cnd_eq,tR]
theorem Et (i:Nat):E.run (.code (.block i a)::k) s=E.run (.code a::.blk i::k) s:=by rw [E.run_eq,E.run_eq,pL]
theorem Ga (i:Nat):E.run (.code (.exit i)::k) s=E.xk i k s:=by rw [E.run_eq,E.xk_eq',oz]
theorem Im:E.run (.code .ret::k) s=Q .ret s:=by rw [E.run_eq,vX]
theorem nQ (s':St):E.stp o s k (.ok s')=E.run k s':=by rw [E.run_eq,E.stp_eq,rf]
theorem oa (p:Prop) (x:R St):E.stp o s k (.need p x)=(p∧E.stp o s k x):=by rw [E.stp_eq,E.stp_eq,n7]
theorem vI:E.cnd a b k s (.d (.bool true))=E.run (.code a::k) s:=by rw [E.cnd_eq,E.run_eq,tA]
theorem s9:E.cnd a b k s (.d (.bool false))=E.run (.code b::k) s:=by rw [E.cnd_eq,E.run_eq,pY]
theorem xQ:E.gd true all o r s k (some (t,.d (.bool true)))=E.stp { o with guard:=none } (s.put t (.d (.bool true))) (.ops all r::k) (opR P.ti cf.n o.op o.dst (s.put t (.d (.bool true)))):=by rw [E.gd_eq,E.stp_eq,CC]
theorem wV:E.gd false all o r s k (some (t,.d (.bool false)))=E.stp { o with guard:=none } (s.put t (.d (.bool false))) (.ops all r::k) (opR P.ti cf.n o.op o.dst (s.put t (.d (.bool false)))):=by rw [E.gd_eq,E.stp_eq,AW]
theorem xu:E.gd false all o r s k (some (t,.d (.bool true)))=E.skp o.dst all r k (s.put t (.d (.bool true))):=by rw [E.gd_eq,E.jt,Am]
theorem w5:E.gd true all o r s k (some (t,.d (.bool false)))=E.skp o.dst all r k (s.put t (.d (.bool false))):=by rw [E.gd_eq,E.jt,AT]
theorem xY (want:Bool):E.gd want all o r s k (some (t,.tup []))=E.skp o.dst all r k s:=by rw [E.gd_eq,E.jt,Ip]
theorem iu (t:Nat) (h:t<cf.n):E.skp (some t) all r k s=E.run (.ops all r::k) (s.put t (.tup [])):=by rw [E.jt,E.run_eq,uv t h]
theorem AN (i:Nat):E.xk i [] s=Q (.exit i) s:=by rw [E.xk_eq',vF]
theorem yE (i:Nat) (c:Code):E.xk i (.code c::k) s=E.xk i k s:=by rw [E.xk_eq',E.xk_eq',ri]
theorem DP (i:Nat):E.xk i (.blk i::k) s=E.run k s:=by rw [E.xk_eq',E.run_eq,BP]
theorem DT (i j:Nat) (h:(j == i)=false):E.xk i (.blk j::k) s=E.xk i k s:=by rw [E.xk_eq',E.xk_eq',Bl i j h]
variable {s k o a b all r}
end
attribute [go_sem] IQ HV yH Io Dm Gd CW HS Gt Et Ga Im nQ oa vI s9 xQ wV xu w5 xY iu AN yE DP DT
section
variable {P:Program} {cf:Cf} {Q:Exit→St→Prop} (E:Eng P cf Q) {s:St} {k:List It} {o:Oper} {a b:Code} {t:Nat} {all:Array Oper} {r:List Oper}
def eV (_E:Eng P cf Q) (c:Code) (s:St) (k:List It):Prop:=ACk P cf c s k Q
theorem F8:E.run (.code (.loop a)::k) s=eV E (.loop a) s k:=by rw [E.run_eq,sE];rfl
theorem Hb (i:Nat) (ops:List Oper):E.run (.code (.region i ops.toArray true)::k) s=eV E (.region i ops.toArray true) s k:=by rw [E.run_eq,Aw];rfl
theorem aM:E.stp o s k .no=AOk P cf o s k Q:=by rw [E.stp_eq,qG]
theorem aB {c:Bool} (h1:c=true→E.run (.code a::k) s) (h2:c=false→E.run (.code b::k) s):E.cnd a b k s (.d (.bool c)):=by
 rw [E.cnd_eq]
 exact vy (fun h=>by rw [← E.run_eq];exact h1 h) (fun h=>by rw [← E.run_eq];exact h2 h)
theorem ah {p:Prop} [Decidable p] (h1:p→E.run (.code a::k) s) (h2:¬ p→E.run (.code b::k) s):E.cnd a b k s (.d (.bool (decide p))):=by
 rw [E.cnd_eq]
 exact yf (fun h=>by rw [← E.run_eq];exact h1 h) (fun h=>by rw [← E.run_eq];exact h2 h)
theorem bU {c:Bool} {want:Bool}
  (h1:c=true→E.gd want all o r (s.put t (.d (.bool true))) k (some (t,.d (.bool true)))) (h2:c=false→E.gd want all o r (s.put t (.d (.bool false))) k (some (t,.d (.bool false)))):E.gd want all o r s k (some (t,.d (.bool c))):=by
 rw [E.gd_eq]
 exact yT (fun h=>by rw [← E.gd_eq];exact h1 h) (fun h=>by rw [← E.gd_eq];exact h2 h)
theorem an {p:Prop} [Decidable p] {want:Bool}
  (h1:p→E.gd want all o r (s.put t (.d (.bool true))) k (some (t,.d (.bool true)))) (h2:¬ p→E.gd want all o r (s.put t (.d (.bool false))) k (some (t,.d (.bool false)))):E.gd want all o r s k (some (t,.d (.bool (decide p)))):=by
 rw [E.gd_eq]
 exact sH (fun h=>by rw [← E.gd_eq];exact h1 h) (fun h=>by rw [← E.gd_eq];exact h2 h)
end
theorem wW (a b:Int):(a == b)=decide (a=b):=rfl
theorem FL (a b:Int):(a != b)=decide (¬ a=b):=by simp only [bne,wW,decide_not]
theorem Hr:(true == false)=false:=rfl
theorem Hn:(false == true)=false:=rfl
attribute [go_sem] Hr Hn F8 Hb wW FL eq_self not_true_eq_false
theorem veil {P:Program} {cf:Cf} {Q:Exit→St→Prop} {k:List It} {s:St} (h:∀ E:Eng P cf Q,E.run k s):run P cf k Q s:=by
 obtain ⟨E⟩:=Gh P cf Q
 rw [← E.run_eq];exact h E
theorem ag {P:Program} {cf:Cf} {Q:Exit→St→Prop} (E:Eng P cf Q) {s:St} {k:List It} {dst:Option Nat} {fv:Operand} {args:Array Operand} {at':Array TypeId} {ty:TypeId} {pos:String} {af:Array Edge}
  {f:FuncId} {caps:List AV} {ds:List D} {Q0:AV→Prop} (hc:HP P cf.G f ds Q0)
  (hev:ev s fv=.clo f caps) (hargs:args.toList.map (ev s)++caps=ds.map .d) (hdst:∀ t∈dst,t<cf.n) (hk:∀ r,Q0 r→E.run k (s.iK dst r)) :
  E.stp { dst:=dst,op:=.call { callee:=.value fv,args:=args,argTypes:=at' },type:=ty,pos:=pos,after:=af,guard:=none } s k .no:=by
 rw [E.stp_eq,qG]
 exact kA hc hev hargs hdst fun r hr=>by rw [← E.run_eq];exact hk r hr
theorem bq:(∀ a b:Bool,((a && b)=true)=(a=true∧b=true))∧(∀ a:Bool,((!a)=true)=(a=false))∧(∀ a:Bool,((!a)=false)=(a=true)) :=
 ⟨fun a b=>by cases a<;>cases b<;>simp,fun a=>by cases a<;>simp,fun a=>by cases a<;>simp⟩
end Go.Ab

namespace Go.Ab
def frE (s:St):List (Nat × AV)→Prop
 | []=>True
 | q::r=>s.fr q.1=q.2∧q.2.inU []=true∧frE s r
theorem xI {s:St}:∀ {l:List (Nat × AV)},frE s l→∀ q∈l,s.fr q.1=q.2∧q.2.inU []=true
 | [],_,q,h=>by simp at h
 | _::r,h,q,hq=>by
   rcases List.mem_cons.1 hq with rfl | hq
   ·exact ⟨h.1,h.2.1⟩
   ·exact xI h.2.2 q hq
theorem wa {s:St} {fr:List (Nat × AV)} (h:frE s fr):Le [] id s (mk fr [] []) where
 fr:=fun t=>by
  rcases m5 (z:=AV.un) (l:=fr) (i:=t) with e | hm
  ·exact .inl e
  ·obtain ⟨h1,h2⟩:=xI h _ hm
   exact .inr ⟨by rw [AV.ek id (fun _=>rfl)];exact h1,h2⟩
 hp:=fun p o ho=>by cases ho
 inj:=fun p q hp=>by exact absurd rfl hp
 us:=fun x hx=>by cases hx
 stay:=fun p hp=>by obtain ⟨a,t,_,ha⟩:=hp;cases ha
section
variable {P:Program} {cf:Cf}
theorem x7 (next:St→Prop) (k:List It) (Q:Exit→St→Prop) (s:St) (i:Nat):lq P cf next k Q (.exit i) s=xk P cf i k Q s:=rfl
theorem oD {X:Type} (I:X→St) (μ:X→Nat) (next:X→St→Prop) {c:Code} {s:St} {k:List It} {Q:Exit→St→Prop}
  (h0:∃ x τ,Le cf.U τ s (I x))
  (hn:∀ x s',next x s'→∃ y,μ y<μ x∧∃ τ,Le cf.U τ s' (I y)) (hr:∀ x,run P cf [.code c] (lq P cf (next x) k Q) (I x)):ACk P cf (.loop c) s k Q:=by
 have key:∀ N x,μ x<N→∀ (B:Base),cf.fits B→∀ ds β a w,a.defers=ds→Sim B β (I x) a.tmps w→Code.roundsIn (Fw cf.ro) 0 P c (hold P cf (lift B ds Q) k) N a w:=by
  intro N
  induction N with
  | zero=>intro x hx;omega
  | succ N ih =>
    intro x hx B hB ds β a w hds h
    rw [roundsIn_succ]
    refine wpIn_mono (aW (hr x) B hB ds β a w hds h) fun e a' w' hq=>?_
    obtain ⟨hd',s',β',hq,hs⟩:=hq
    cases e with
    | normal =>
      obtain ⟨y,hy,τ,hle⟩:=hn x s' hq
      obtain ⟨β2,hs2,_⟩:=hs.le (τ:=τ) (by rw [hB.2.1];exact hle)
      exact ih y (by omega) B hB ds β2 a' w' hd' hs2
    | exit i =>
      unfold lq goK at hq
      show hold P cf (lift B ds Q) k (.exit i) a' w'
      simp only at hq
      split at hq
      ·rename_i k' hk'
       exact cE _ i k k' a' w' hk' (aW hq B hB ds β' a' w' hd' hs)
      ·rename_i hk'
       exact cF _ i k a' w' hk' ⟨hd',s',β',hq,hs⟩
    | ret=>exact fW _ k a' w' ⟨hd',s',β',hq,hs⟩
    | goto l=>exact hq.elim
    | panic c=>exact hq.elim
    | outgrown=>exact hq.elim
 obtain ⟨x,τ,hle⟩:=h0
 intro B hB ds β a w hds h
 obtain ⟨β2,hs2,_⟩:=h.le (τ:=τ) (by rw [hB.2.1];exact hle)
 exact wpIn_loop_rounds (μ x+1) (key _ x (Nat.lt_succ_self _) B hB ds β2 a w hds hs2)
theorem Cc {X:Type} (I:X→List (Nat × AV)) (μ:X→Nat) {c:Code} {s:St} {k:List It} {Q:Exit→St→Prop} (hU:cf.U=[]) (x0:X) (h0:frE s (I x0))
  (hr:∀ x,run P cf [.code c] (lq P cf (fun s'=>∃ y,μ y<μ x∧frE s' (I y)) k Q) (mk (I x) [] [])):ACk P cf (.loop c) s k Q :=
 oD (fun x=>mk (I x) [] []) μ _ ⟨x0,id,by rw [hU];exact wa h0⟩ (fun x s' ⟨y,hy,h⟩=>⟨y,hy,id,by rw [hU];exact wa h⟩) hr
end
attribute [go_sem] frE yN x7 F6 vF ri Ac BP Bl
end Go.Ab
namespace Go.Ab
section
variable {P:Program} {cf:Cf}
end
end Go.Ab
namespace Go.Ab
section
variable {P:Program} {cf:Cf}
theorem Bq {X:Type} (I:X→List (Nat × AV)) (O:X→List (Name × Ob)) (u:List Nat) (μ:X→Nat) {c:Code} {s:St} {k:List It} {Q:Exit→St→Prop} (x0:X) (h0:LeL cf.U id s (I x0) (O x0) u)
  (hr:∀ x,run P cf [.code c] (lq P cf (fun s'=>∃ y,μ y<μ x∧LeL cf.U id s' (I y) (O y) u) k Q) (mk (I x) (O x) u)):ACk P cf (.loop c) s k Q :=
 oD (fun x=>mk (I x) (O x) u) μ _ ⟨x0,id,h0.le⟩ (fun _ _ ⟨y,hy,h⟩=>⟨y,hy,id,h.le⟩) hr
theorem y6 {s:St} {k:List It} {Q:Exit→St→Prop} {xt:Nat} {x:Operand} {t:Nat} {ty:TypeId} {pos:String} {af:Array Edge} {l:List UInt8} (hs:(P.ti xt).k=.str) (hx:ev s x=.d (.str l)) (ht:t<cf.n) (hu:t ∉ s.used)
  (hk:run P cf k Q ((s.add t (.siter l 0)).put t (.it [t]))) :
  AOk P cf { dst:=some t,op:=.range xt x,type:=ty,pos:=pos,after:=af,guard:=none } s k Q:=by
 intro B hB ds β a w hds h Q'
 have hv:=h.ev x
 rw [hx] at hv
 have hv:=hv.toD.val rfl
 have hrun:(execOp a.eval { dst:=some t,op:=.range xt x,type:=ty,pos:=pos,after:=af,guard:=none }).run P w=.ok (.value (.pointer (some ⟨w.heap.size,0,none⟩))) (w.alloc (.stringIter ⟨l.toArray⟩ 0)):=by
  show (do pure (Next.value (← Instr.range xt (a.eval x))):Sem Next).run P w=_
  rw [hv,Sem.run_bind]
  simp [Instr.range,run_underlying (gq hs)]
 obtain ⟨hsim,_⟩:=h.alloc hu (.stringIter ⟨l.toArray⟩ 0) (.siter l 0) 0 (fun β' hβ _=>⟨_,hβ,World.iter_heap w ⟨l.toArray⟩ 0⟩)
 refine aK (by simp) hrun (.inl rfl) ⟨hds,_,_,aW hk,hsim.put (by rw [hB.1];exact ht) ?_⟩
 refine .its _ _ ⟨t,[],rfl,List.mem_cons_self⟩ rfl (fun l' i hi=>⟨⟨w.heap.size,0,0⟩,by simp [aD],rfl⟩) (fun l' c i hi=>⟨⟨w.heap.size,0,0⟩,by simp [aD],rfl⟩)
theorem Ca {s:St} {k:List It} {Q:Exit→St→Prop} {x:Operand} {t:Nat} {ty:TypeId} {ps:String} {af:Array Edge} {p:Name} {l:List UInt8} {pos:Nat} (hx:ev s x=.it p) (hp:s.hp p=some (.siter l pos)) (ht:t<cf.n)
  (h1:pos<l.length→run P cf k Q ((s.set p (some (.siter l (pos+(Utf8.decode ⟨l.toArray⟩ pos).2)))).put t (.tup [.d (.bool true),.d (.int .i64 pos),.d (.int .i32 (Utf8.decode ⟨l.toArray⟩ pos).1)])))
  (h2:¬ pos<l.length→run P cf k Q (s.put t (.tup [.d (.bool false)]))) :
  AOk P cf { dst:=some t,op:=.next x true,type:=ty,pos:=ps,after:=af,guard:=none } s k Q:=by
 intro B hB ds β a w hds h Q'
 have hv:=h.ev x
 rw [hx] at hv
 have hsz:(⟨l.toArray⟩:ByteArray).size=l.length:=by simp [ByteArray.size]
 generalize hval:a.eval x=v at hv
 cases hv with
 | its _ _ hn ho g g' =>
 obtain ⟨kk,hk,rfl⟩:=g l pos hp
 obtain ⟨k2,hk2,hh⟩:=(h.objs p _ hp).2
 obtain rfl:=Option.some.inj (hk.symm.trans hk2)
 have hlt:=ar hh
 by_cases hpos:pos<l.length
 ·have hrun:(execOp a.eval { dst:=some t,op:=.next x true,type:=ty,pos:=ps,after:=af,guard:=none }).run P w =
    .ok (.value (.tuple #[.bool true,goInt pos,.int .i32 (Utf8.decode ⟨l.toArray⟩ pos).1])) { w with heap:=w.heap.setIfInBounds kk.b (.stringIter ⟨l.toArray⟩ (pos+(Utf8.decode ⟨l.toArray⟩ pos).2)) }:=by
   show (do pure (Next.value (← Instr.next (a.eval x) true ty)):Sem Next).run P w=_
   rw [hval,Sem.run_bind]
   simp [Instr.next,getObj,setObj,hh,hsz,hpos,Sem.run]
  obtain ⟨hsim,hvr⟩:=h.modify (p:=p) (ob':=.siter l (pos+(Utf8.decode ⟨l.toArray⟩ pos).2)) hp trivial (w':={ w with heap:=w.heap.setIfInBounds kk.b (.stringIter ⟨l.toArray⟩ (pos+(Utf8.decode ⟨l.toArray⟩ pos).2)) }) rfl (by simp)
   (fun b hb=>by
    have:=hb kk hk
    simp [Ne.symm this]) (fun _ _=>⟨kk,hk,by simp [hlt]⟩)
  refine aK (by simp) hrun (.inl rfl) ⟨hds,_,_,aW (h1 hpos),hsim.put (by rw [hB.1];exact ht) ?_⟩
  refine .tup _ _ rfl fun i y hi=>?_
  match i,hi with
  | 0,hi=>obtain rfl:=Option.some.inj hi;exact .d _ _ (.bool _)
  | 1,hi=>obtain rfl:=Option.some.inj hi;exact .d _ _ (.int _ _)
  | 2,hi=>obtain rfl:=Option.some.inj hi;exact .d _ _ (.int _ _)
 ·have hrun:(execOp a.eval { dst:=some t,op:=.next x true,type:=ty,pos:=ps,after:=af,guard:=none }).run P w=.ok (.value (.tuple #[.bool false])) w:=by
   show (do pure (Next.value (← Instr.next (a.eval x) true ty)):Sem Next).run P w=_
   rw [hval,Sem.run_bind]
   simp [Instr.next,getObj,hh,hsz,hpos,Sem.run]
  refine aK (by simp) hrun (.inl rfl) ⟨hds,_,_,aW (h2 hpos),h.put (by rw [hB.1];exact ht) ?_⟩
  refine .tup _ _ rfl fun i y hi=>?_
  match i,hi with
  | 0,hi=>obtain rfl:=Option.some.inj hi;exact .d _ _ (.bool _)
end
end Go.Ab

namespace Go.Ab
def opV (tf:Nat→TI) (o:Op) (s:St):R AV :=
 match o with
 | .move x=>.ok (ev s x)
 | .assign x=>.ok (ev s x)
 | .pick c a b=>kP (ev s c) (ev s a) (ev s b)
 | .build t parts=>nT tf (tf t) (parts.toList.map fun q=>(q.1,ev s q.2))
 | .load t x=>j1 (tf t) s.hp (ev s x)
 | .fieldAddr t x f=>cT (tf t) tf s.hp (ev s x) f
 | .field t x f=>oB (tf t) tf (ev s x) f
 | .indexAddr t x j=>da (tf t) tf s.hp (ev s x) (ev s j)
 | .index t x j=>oy (tf t) (ev s x) (ev s j)
 | .slice t x lo hi mx=>match mx with
   | none=>jg (tf t) tf s.hp (ev s x) (lo.map (ev s)) (hi.map (ev s))
   | some _=>.no
 | .binOp op t x y _=>BZ (tf t).k op (ev s x) (ev s y)
 | .unOp op _ x=>unR op (ev s x)
 | .convert a b x=>tS (tf a) (tf b) (ev s x)
 | .extract x i=>iY (ev s x) i
 | .makeFunc fn first caps=>gI fn first.toList (caps.toList.map (ev s))
 | .call c=>match c.callee with
   | .builtin b=>match b,c.args.toList,c.argTypes.toList with
     | .len,[x],[t]=>sR (tf t) s.hp (ev s x)
     | .max,[x,y],_=>Bn (ev s x) (ev s y)
     | .min,[x,y],_=>AD (ev s x) (ev s y)
     | _,_,_=>.no
   | _=>.no
 | _=>.no
theorem EJ (tf:Nat→TI) (n:Nat) (o:Op) (d:Option Nat) (s:St):opV tf o s=.no∨opR tf n o d s=(opV tf o s).bind (bZ n d s):=by
 cases o with
 | slice t x lo hi mx=>cases mx<;>simp [opV,opR]
 | call c =>
   obtain ⟨callee,args,ats⟩:=c
   cases callee with
   | value _=>exact .inl rfl
   | invoke _ _=>exact .inl rfl
   | builtin b =>
     obtain ⟨args⟩:=args
     obtain ⟨ats⟩:=ats
     simp only [opV,opR]
     split
     ·exact .inr rfl
     ·exact .inr rfl
     ·exact .inr rfl
     ·exact .inl rfl
 | _=>first | exact .inr rfl | exact .inl rfl
theorem Ia {s s':St} {x:Operand} (h:∀ t,x=.tmp t→s'.fr t=s.fr t):ev s' x=ev s x:=by
 cases x<;>first | rfl | exact h _ rfl
theorem vN {s s':St} {l:List Operand} (h:∀ x∈l,ev s' x=ev s x):l.map (ev s')=l.map (ev s):=List.map_congr_left h
theorem GI (tf:Nat→TI) (o:Op) (s s':St) (hh:s'.hp=s.hp) (h:∀ x∈o.operands,ev s' x=ev s x):opV tf o s'=opV tf o s:=by
 cases o with
 | slice t x lo hi mx =>
   cases mx with
   | some _=>rfl
   | none =>
     simp only [opV,hh]
     rw [h x (by simp [Op.operands])]
     have h1:lo.map (ev s')=lo.map (ev s):=by
      cases lo with
      | none=>rfl
      | some y=>simp [h y (by simp [Op.operands])]
     have h2:hi.map (ev s')=hi.map (ev s):=by
      cases hi with
      | none=>rfl
      | some y=>simp [h y (by simp [Op.operands])]
     rw [h1,h2]
 | build t parts =>
   simp only [opV]
   have:(parts.toList.map fun q=>(q.1,ev s' q.2))=parts.toList.map fun q=>(q.1,ev s q.2) :=
    List.map_congr_left fun q hq=>by rw [h q.2 (by simp only [Op.operands,List.mem_toArray,List.mem_map];exact ⟨q,hq,rfl⟩)]
   rw [this]
 | makeFunc fn first caps =>
   simp only [opV]
   rw [vN fun x hx=>h x (by simp only [Op.operands,Array.mem_append];exact .inr (by simpa using hx))]
 | call c =>
   obtain ⟨callee,args,ats⟩:=c
   cases callee with
   | value _=>rfl
   | invoke _ _=>rfl
   | builtin b =>
     obtain ⟨args⟩:=args
     obtain ⟨ats⟩:=ats
     have hm:∀ x∈args,ev s' x=ev s x:=fun x hx=>h x (by simp [Op.operands,Call.operands,hx])
     simp only [opV]
     split
     ·rename_i x _;rw [hh,hm x (by simp)]
     ·rename_i x y;rw [hm x (by simp),hm y (by simp)]
     ·rename_i x y;rw [hm x (by simp),hm y (by simp)]
     ·rfl
 | _=>first
   | rfl
   | (simp only [opV,hh];simp only [Op.operands,List.mem_toArray,List.mem_cons,List.not_mem_nil,or_false,forall_eq_or_imp,forall_eq] at h;simp only [h])
def yl:R AV→AV→Prop
 | .ok y,x=>y=x
 | .need p r,x=>p∧yl r x
 | .no,_=>False
def qv:R AV→(AV→Prop)→Prop→Prop
 | .ok x,f,_=>f x
 | .need p r,f,z=>p∧qv r f z
 | .no,_,z=>z
def dOk (n:Nat):Option Nat→Prop
 | some t=>t<n
 | none=>True
section
variable (P:Program) (cf:Cf) (ops:Array Oper)
def QY (o:Oper) (s:St) (x:AV):Prop:=∀ s',s'.hp=s.hp→s'.used=s.used→(∀ y∈o.op.operands,ev s' y=ev s y) →
 ∀ B,cf.fits B→∀ ds β a w,a.defers=ds→Sim B β s' a.tmps w→∀ Q',o.wpIn (Fw cf.ro) 0 P a w (fun a' w'=>a'.defers=ds∧∃ β',Sim B β' (s'.putd o.dst x) a'.tmps w') Q'
def qrun (K:St→Prop):List Oper→St→Prop
 | [],s=>K s
 | o::r,s =>
   match o.guard with
   | none=>qv (opV P.ti o.op s) (fun x=>dOk cf.n o.dst∧qrun K r (s.putd o.dst x)) (∃ x,QY P cf o s x∧dOk cf.n o.dst∧qrun K r (s.putd o.dst x))
   | some (j,want) =>
     match e7 ops j s with
     | some (t,.d (.bool b)) =>
       (b=want→qv (opV P.ti o.op (s.put t (.d (.bool want)))) (fun x=>dOk cf.n o.dst∧qrun K r ((s.put t (.d (.bool want))).putd o.dst x)) (∃ x,QY P cf o (s.put t (.d (.bool want))) x∧dOk cf.n o.dst∧qrun K r ((s.put t (.d (.bool want))).putd o.dst x))) ∧
       (b=!want→dOk cf.n o.dst∧qrun K r ((s.put t (.d (.bool (!want)))).putd o.dst (.tup [])))
     | some (_,.tup [])=>dOk cf.n o.dst∧qrun K r (s.putd o.dst (.tup []))
     | _=>False
variable {P cf ops}
theorem n8 {s:St} {t:Nat} {x:AV} (h:s.fr t=x):s.put t x=s:=by
 unfold St.put
 congr 1
 funext i
 unfold dJ
 split
 ·rename_i e;rw [e,h]
 ·rfl
theorem mB {j:Nat} {s:St} {t:Nat} {v:AV} (h:e7 ops j s=some (t,v)):∃ oj,ops[j]?=some oj∧oj.dst=some t∧s.fr t=v:=by
 unfold e7 at h
 split at h
 ·rename_i oj hj
  simp only [Option.map_eq_some_iff,Prod.mk.injEq] at h
  obtain ⟨t',ht',rfl,hv⟩:=h
  exact ⟨oj,hj,ht',hv⟩
 ·cases h
theorem mA {o oj:Oper} {j t:Nat} {want:Bool} (hg:o.guard=some (j,want)) (hj:ops[j]?=some oj) (hd:oj.dst=some t):t∈o.looksAt ops:=by
 refine List.mem_append_right _ ?_
 simp [hg,hj,hd]
theorem kC {B:Base} {β:Name→Option Blk} {s:St} {tm:Array Value} {w:World} (h:Sim B β s tm w) {j t:Nat} {oj:Oper} {b:Bool} (hj:ops[j]?=some oj) (hjd:oj.dst=some t) (hjt:s.fr t=.d (.bool b)):yielded ops tm j=some b:=by
 have hv:=h.slots t
 rw [hjt] at hv
 have hb:=hv.bool
 have hlt:t<tm.size:=by
  rcases Nat.lt_or_ge t tm.size with hlt | hge
  ·exact hlt
  ·simp [Array.getD_eq_getD_getElem?,Array.getElem?_eq_none hge] at hb;cases hb
 simp [yielded,hj,hjd,Array.getElem?_eq_getElem hlt]
 simp [Array.getD_eq_getD_getElem?,hlt] at hb
 rw [hb]
theorem sf {B:Base} {β:Name→Option Blk} {s:St} {tm:Array Value} {w:World} (h:Sim B β s tm w) {j t:Nat} {oj:Oper} (hj:ops[j]?=some oj) (hjd:oj.dst=some t) (hjt:s.fr t=.tup []):yielded ops tm j=none:=by
 have hv:=h.slots t
 rw [hjt] at hv
 rcases Nat.lt_or_ge t tm.size with hlt | hge
 ·have hb:tm.getD t undef=.tuple #[]:=by
   generalize tm.getD t undef=v at hv
   cases hv with
   | tup vs _ hs _ =>
     have:vs=#[]:=Array.eq_empty_of_size_eq_zero hs
     rw [this]
  simp [Array.getD_eq_getD_getElem?,hlt] at hb
  simp [yielded,hj,hjd,Array.getElem?_eq_getElem hlt,hb]
 ·simp [yielded,hj,hjd,Array.getElem?_eq_none hge]
end
end Go.Ab
namespace Go.Ab
section
variable {P:Program} {cf:Cf} {ops:Array Oper}
def dr (ops:Array Oper) (i:Nat):Option Nat:=(ops[i]?).bind (·.dst)
theorem Fc (s:St) (d:Option Nat) (x:AV):(s.putd d x).hp=s.hp:=by cases d<;>rfl
theorem zy (s:St) (d:Option Nat) (x:AV):(s.putd d x).used=s.used:=by cases d<;>rfl
def q5 (ops:Array Oper) (i:Nat):List Nat:=match ops[i]? with
 | some o=>o.looksAt ops
 | none=>[]
theorem gH {i t:Nat} (h:dr ops i=some t):i<ops.size:=by
 unfold dr at h
 rcases Nat.lt_or_ge i ops.size with hlt | hge
 ·exact hlt
 ·rw [Array.getElem?_eq_none hge] at h;cases h
structure Up (ops:Array Oper) (listed:Array Bool) (L:List Nat):Prop where
 size:listed.size=ops.size
 mem:∀ j,j<ops.size→(listed[j]?=some true↔j∈L)
 lt:∀ j∈L,j<ops.size
 closed:∀ j∈L,∀ o,ops[j]?=some o→∀ e∈o.after,Region.binds .any e=true→e.on∈L
theorem jH:∀ (n:Nat) (L:List Nat),L.Nodup→(∀ x∈L,x<n)→L.length≤n
 | 0,L,_,h=>by
   cases L with
   | nil=>simp
   | cons a r=>exact absurd (h a List.mem_cons_self) (Nat.not_lt_zero _)
 | n+1,L,hn,h=>by
   have h1:=jH n (L.erase n) (hn.erase n) fun x hx=>by
    have:=(hn.mem_erase_iff).1 hx
    have h2:=h x this.2
    omega
   by_cases hm:n∈L
   ·rw [List.length_erase_of_mem hm] at h1;omega
   ·rw [List.erase_of_not_mem hm] at h1;omega
theorem Ck {s s':St} (h1:s.hp=s'.hp) (h2:s.used=s'.used) (h3:∀ t,s.fr t=s'.fr t):s=s':=by
 obtain ⟨f,h,u⟩:=s
 obtain ⟨f',h',u'⟩:=s'
 simp only at h1 h2 h3
 subst h1;subst h2
 rw [show f=f' from funext h3]
end
end Go.Ab
namespace Go.Ab
section
variable (P:Program) (cf:Cf) (ops:Array Oper) (K:St→Prop)
def qst (x:R AV) (o:Oper) (r:List Oper) (s:St):Prop:=qv x (fun y=>dOk cf.n o.dst∧qrun P cf ops K r (s.putd o.dst y)) (∃ y,QY P cf o s y∧dOk cf.n o.dst∧qrun P cf ops K r (s.putd o.dst y))
def qgd (v:Option (Nat × AV)) (want:Bool) (o:Oper) (r:List Oper) (s:St):Prop :=
 match v with
 | some (t,.d (.bool b)) =>
   (b=want→qst P cf ops K (opV P.ti o.op (s.put t (.d (.bool want)))) o r (s.put t (.d (.bool want)))) ∧
   (b=!want→dOk cf.n o.dst∧qrun P cf ops K r ((s.put t (.d (.bool (!want)))).putd o.dst (.tup [])))
 | some (_,.tup [])=>dOk cf.n o.dst∧qrun P cf ops K r (s.putd o.dst (.tup []))
 | _=>False
abbrev ToQ (_:List Oper):Type:=St
abbrev I7 (_:Oper) (_:List Oper) (_:St):Type 1:=R AV
abbrev Jb (_:Bool) (_:Oper) (_:List Oper) (_:St):Type:=Option (Nat × AV)
abbrev IZ (_:Option Nat) (_:AV) (_:List Oper):Type:=St
structure QEng where
 run:(r:List Oper)→ToQ r→Prop
 stp:(o:Oper)→(r:List Oper)→(s:St)→I7 o r s→Prop
 gd:(w:Bool)→(o:Oper)→(r:List Oper)→(s:St)→Jb w o r s→Prop
 pt:(d:Option Nat)→(x:AV)→(r:List Oper)→IZ d x r→Prop
 run_eq:∀ r (s:St),run r s=qrun P cf ops K r s
 stp_eq:∀ (x:R AV) o r s,stp o r s x=qst P cf ops K x o r s
 gd_eq:∀ (v:Option (Nat × AV)) w o r s,gd w o r s v=qgd P cf ops K v w o r s
 pt_eq:∀ d x r (s:St),pt d x r s=(dOk cf.n d∧qrun P cf ops K r (s.putd d x))
end
section
variable {P:Program} {cf:Cf} {ops:Array Oper} {K:St→Prop} (E:QEng P cf ops K) (s:St) (o:Oper) (r:List Oper)
variable {s o r}
attribute [go_sem] opV
theorem ni (s:St) (t:Nat) (x y:AV):(s.put t x).put t y=s.put t y:=by
 unfold St.put;congr 1;funext i;simp only [dJ];split<;>rfl
end
end Go.Ab

namespace Go.Ab
section
variable {P:Program} {cf:Cf} {Q:Exit→St→Prop} {s:St} {k:List It} {c:Code}
def lqE (E:Eng P cf Q) (next:St→Prop) (k:List It) (e:Exit) (s:St):Prop :=
 match e with
 | .normal=>next s
 | .exit i=>E.xk i k s
 | .ret=>Q .ret s
 | _=>False
theorem vP (E:Eng P cf Q) (next:St→Prop) (k:List It):lqE E next k=lq P cf next k Q:=by
 funext e s
 cases e with
 | exit i=>show E.xk i k s=xk P cf i k Q s;rw [E.xk_eq']
 | _=>rfl
theorem vv (E:Eng P cf Q) (next:St→Prop):lqE E next k .normal s=next s:=rfl
theorem Bw (E:Eng P cf Q) (next:St→Prop) (i:Nat):lqE E next k (.exit i) s=E.xk i k s:=rfl
theorem Ev (E:Eng P cf Q) (next:St→Prop):lqE E next k .ret s=Q .ret s:=rfl
attribute [go_sem] vv Bw Ev
theorem cq (E:Eng P cf Q) {X:Type} (I:X→List (Nat × AV)) (μ:X→Nat) (hU:cf.U=[]) (x0:X) (h0:frE s (I x0))
  (hr:∀ x,∀ E':Eng P cf (lqE E (fun s'=>∃ y,μ y<μ x∧frE s' (I y)) k),E'.run [.code c] (mk (I x) [] [])):eV E (.loop c) s k :=
 Cc I μ hU x0 h0 fun x=>by rw [← vP E];exact veil (hr x)
theorem bl (E:Eng P cf Q) {X:Type} (I:X→List (Nat × AV)) (O:X→List (Name × Ob)) (u:List Nat) (μ:X→Nat) (x0:X) (h0:LeL cf.U id s (I x0) (O x0) u)
  (hr:∀ x,∀ E':Eng P cf (lqE E (fun s'=>∃ y,μ y<μ x∧LeL cf.U id s' (I y) (O y) u) k),E'.run [.code c] (mk (I x) (O x) u)):eV E (.loop c) s k :=
 Bq I O u μ x0 h0 fun x=>by rw [← vP E];exact veil (hr x)
end
end Go.Ab
namespace Go.Ab
section
variable {P:Program} {cf:Cf} {Q:Exit→St→Prop} (E:Eng P cf Q) {s:St} {k:List It}
theorem tU {xt:Nat} {x:Operand} {t:Nat} {ty:TypeId} {pos:String} {af:Array Edge} (l:List UInt8) (hs:(P.ti xt).k=.str) (hx:ev s x=.d (.str l)) (ht:t<cf.n) (hu:t ∉ s.used)
  (hk:E.run k ((s.add t (.siter l 0)).put t (.it [t]))) :
  E.stp { dst:=some t,op:=.range xt x,type:=ty,pos:=pos,after:=af,guard:=none } s k .no:=by
 rw [aM]
 exact y6 hs hx ht hu (by rw [← E.run_eq];exact hk)
theorem wY {x:Operand} {t:Nat} {ty:TypeId} {ps:String} {af:Array Edge} (p:Name) (l:List UInt8) (pos:Nat) (hx:ev s x=.it p) (hp:s.hp p=some (.siter l pos)) (ht:t<cf.n)
  (h1:pos<l.length→E.run k ((s.set p (some (.siter l (pos+(Utf8.decode ⟨l.toArray⟩ pos).2)))).put t (.tup [.d (.bool true),.d (.int .i64 pos),.d (.int .i32 (Utf8.decode ⟨l.toArray⟩ pos).1)])))
  (h2:¬ pos<l.length→E.run k (s.put t (.tup [.d (.bool false)]))) :
  E.stp { dst:=some t,op:=.next x true,type:=ty,pos:=ps,after:=af,guard:=none } s k .no:=by
 rw [aM]
 exact Ca hx hp ht (fun h=>by rw [← E.run_eq];exact h1 h) (fun h=>by rw [← E.run_eq];exact h2 h)
end
theorem Az (u:List Nat) (h:Nat) (t:Name):nmb u (h::t)=u.contains h:=rfl
attribute [go_sem] LeL frL hpL mj wM AV.ren Ob.ren e8 Ob.inU Az id_eq List.contains_cons List.contains_nil Bool.or_true Bool.true_or Bool.or_false Bool.false_or
end Go.Ab
namespace Go.Ab
mutual
def AV.frz (p:Name) (w:W) (xs:List D):AV→AV
 | .un=>.un
 | .d x=>.d x
 | .vw q o l=>if q=p then .d (.sl w ((xs.drop o).take l)) else .vw q o l
 | .bx q c=>.bx q c
 | .el q i c=>.el q i c
 | .mp q=>.mp q
 | .it q=>.it q
 | .agg cs=>fZ (cP p w xs cs)
 | .tup cs=>.tup (cP p w xs cs)
 | .clo f cs=>.clo f (cP p w xs cs)
def cP (p:Name) (w:W) (xs:List D):List AV→List AV
 | []=>[]
 | x::r=>x.frz p w xs::cP p w xs r
end
theorem eT (p:Name) (w:W) (xs:List D):∀ l:List AV,(cP p w xs l).length=l.length
 | []=>rfl
 | _::r=>by simp [cP,eT p w xs r]
theorem iS (p:Name) (w:W) (xs:List D):∀ (l:List AV) (i:Nat),(cP p w xs l)[i]?=(l[i]?).map (AV.frz p w xs)
 | [],i=>by simp [cP]
 | x::r,0=>by simp [cP]
 | x::r,i+1=>by simp [cP,iS p w xs r i]
section
variable {H:Array Obj} {own own':Nat→Prop} {used:List Nat} {hp hp':Name→Option Ob} {β:Name→Option Blk}
theorem VR.frz {p:Name} {w:W} {xs:List D} (hr:∀ v d,Rep H own v d→Rep H own' v d) (hst:∀ q,nm used q→Stays hp hp' β β q) (hp0:hp p=some (.arr w xs)) (ho:OR H own used hp β p (.arr w xs))
  (hno:∀ k,β p=some k→¬ own' k.b) {v:Value} {x:AV} (h:VR H own used hp β v x):VR H own' used hp' β v (x.frz p w xs):=by
 induction h with
 | un v=>exact .un v
 | d v x h=>exact .d v x (hr v x h)
 | vw v q off len hn h1 h =>
   unfold AV.frz
   split
   ·rename_i e
    subst e
    obtain ⟨hle,a,cap,rfl,h2⟩:=h _ w xs hp0
    refine .d _ _ ?_
    have hlen:((xs.drop off).take len).length=len:=by simp;omega
    by_cases h0:len=0
    ·subst h0
     rw [List.take_zero]
     exact .sl0 a cap w
    ·rcases h2 with ⟨h3,_⟩ | ⟨k,hk,rfl,hcap,hz⟩
     ·exact absurd h3 h0
     ·rcases ho with ⟨h4,rfl⟩ | ⟨k',c,e,hk',hc,hcz,hl,hw,hrep⟩
      ·rw [hk] at h4;cases h4
      ·rw [hk] at hk'
       cases hk'
       have:Rep H own' (.slice (some ⟨k.b,k.o+off*wd w,none⟩) ((xs.drop off).take len).length cap) (.sl w ((xs.drop off).take len)):=by
        refine .sl k.b (k.o+off*wd w) cap c e (0,0) w _ hc (hno k hk) (by omega) ?_ (fun x hx=>hw x (List.mem_of_mem_drop (List.mem_of_mem_take hx))) (fun i x j d hi hj=>?_)
        ·rw [hlen,hcz]
         have e1:(off+cap)*wd w=off*wd w+cap*wd w:=Nat.add_mul _ _ _
         have e2:len*wd w≤cap*wd w:=Nat.mul_le_mul_right _ hcap
         omega
        ·have hi':xs[off+i]?=some x:=by
          rw [List.getElem?_take] at hi
          split at hi
          ·rw [List.getElem?_drop] at hi;exact hi
          ·cases hi
         have:=hrep (off+i) x j d hi' hj
         rw [show k.o+off*wd w+i*wd w+j=k.o+(off+i)*wd w+j by rw [Nat.add_mul];omega]
         exact hr _ _ this
       rw [hlen] at this
       exact this
   ·exact VR.mono hr (fun _ h=>h) hst (.vw v q off len hn h1 h)
 | bx v q c hn h1 h=>exact VR.mono hr (fun _ h=>h) hst (.bx v q c hn h1 h)
 | el v q i c hn h1 h=>exact VR.mono hr (fun _ h=>h) hst (.el v q i c hn h1 h)
 | mp v q hn h1 h=>exact VR.mono hr (fun _ h=>h) hst (.mp v q hn h1 h)
 | its v q hn h1 h h'=>exact VR.mono hr (fun _ h=>h) hst (.its v q hn h1 h h')
 | agg vs cs hs hc _ ih =>
   have:=fp (H:=H) (own:=own') (used:=used) (hp:=hp') (β:=β) (vs:=vs.toList) (cs:=cP p w xs cs) (by rw [eT];simpa using hs) (by simpa using hc) (fun i v x hv hx=>by
    rw [iS,Option.map_eq_some_iff] at hx
    obtain ⟨y,hy,rfl⟩:=hx
    have:=ih i y hy
    have e:vs.getD i undef=v:=by
     simp only [Array.getElem?_toList] at hv
     simp [Array.getD_eq_getD_getElem?,hv]
    rw [e] at this
    exact this)
   simpa [AV.frz] using this
 | tup vs cs hs _ ih =>
   refine .tup vs _ (by rw [eT];exact hs) (fun i x hi=>?_)
   rw [iS,Option.map_eq_some_iff] at hi
   obtain ⟨y,hy,rfl⟩:=hi
   exact ih i y hy
 | clo f vs cs hs _ ih =>
   refine .clo f vs _ (by rw [eT];exact hs) (fun i x hi=>?_)
   rw [iS,Option.map_eq_some_iff] at hi
   obtain ⟨y,hy,rfl⟩:=hi
   exact ih i y hy
end
def St.frz (s:St) (p:Name) (w:W) (xs:List D):St:={ fr:=fun t=>(s.fr t).frz p w xs,hp:=aD s.hp p none,used:=s.used }
theorem Sim.frz {B:Base} {β:Name→Option Blk} {s:St} {tm:Array Value} {w:World} (h:Sim B β s tm w) {p:Name} {wf:W} {xs:List D} (hp:s.hp p=some (.arr wf xs)):Sim B β (s.frz p wf xs) tm w:=by
 have h0:=h.drop p
 have hsub:∀ q o,(s.set p none).hp q=some o→s.hp q=some o:=by
  intro q o ho
  by_cases e:q=p
  ·subst e;simp [St.set,aD] at ho
  ·simpa [St.set,aD,e] using ho
 have hne:∀ q,(s.set p none).hp q≠none→s.hp q≠none∧q≠p:=by
  intro q hq
  cases ho:(s.set p none).hp q with
  | none=>exact absurd ho hq
  | some o =>
    refine ⟨by rw [hsub q o ho];simp,fun e=>?_⟩
    subst e;simp [St.set,aD] at ho
 have hr:∀ v d,Rep w.heap (s.own B.A β) v d→Rep w.heap ((s.set p none).own B.A β) v d:=fun v d hd=>hd.mono (fun _ _ _=>rfl) (by
  rintro b _ (hA | ⟨q,k,hq,hk,e⟩)
  ·exact .inl hA
  ·exact .inr ⟨q,k,(hne q hq).1,hk,e⟩)
 have hst:∀ q,nm s.used q→Stays s.hp (s.set p none).hp β β q:=fun q _ o' ho'=>⟨o',hsub q o' ho',Ob.cG _,rfl⟩
 refine { tms:=h.tms,io:=h.io,size:=h.size,frame:=h.frame,slots:=fun i=>?_,objs:=h0.objs,blocks:=h0.blocks,inj:=h0.inj,us:=h.us,stay:=h.stay }
 refine (h.slots i).frz hr hst hp (h.objs p _ hp).2 fun k hk hown=>?_
 rcases hown with hA | ⟨q,k',hq,hk',e⟩
 ·exact (h.blocks p k (by rw [hp];simp) hk).2.1 hA
 ·exact (hne q hq).2 (h.inj q p k' k (hne q hq).1 (by rw [hp];simp) hk' hk e)
section
variable {P:Program} {cf:Cf} {Q:Exit→St→Prop} {s:St} {k:List It}
theorem dF {o:Oper} {o':Oper} (ho':o'={ o with guard:=none }) (h:stp P cf (opR P.ti cf.n o.op o.dst s) o' s k Q):AOk P cf o' s k Q:=by
 intro B hB ds β a w hds hs Q'
 unfold stp at h
 have h':(opR P.ti B.n o'.op o'.dst s).run (fun s'=>run P cf k Q s') (AOk P cf o' s k Q):=by subst ho';rw [hB.1];exact h
 rcases fu hs h' with hz | ⟨nx,v,w',s',β',hrun,hnx,hf,hsim⟩
 ·exact hz B hB ds β a w hds hs Q'
 ·have hnd:∀ c,o'.op≠.defer c:=by
   intro c hc
   have:∃ d w2,(execOp a.eval o').run P w=.ok (.defer d) w2∨∃ h w2,(execOp a.eval o').run P w=.halt h w2:=by
    simp only [execOp,hc,Sem.run_bind]
    cases (resolve a.eval c o'.type).run P w with
    | ok d w2=>exact ⟨d,w2,.inl rfl⟩
    | halt hh w2=>exact ⟨default,w2,.inr ⟨hh,w2,rfl⟩⟩
   obtain ⟨d,w2,h1 | ⟨hh,w3,h1⟩⟩:=this
   ·rw [hrun] at h1;cases h1;rcases hnx with h2 | ⟨h2,_⟩<;>cases h2
   ·rw [hrun] at h1;cases h1
  exact aK hnd hrun hnx ⟨by cases o'.dst<;>exact hds,s',β',aW hf,hsim⟩
theorem zS (E:Eng P cf Q) {d:Option Nat} {op:Op} {ty:TypeId} {ps:String} {af:Array Edge} (p:Name) (w:W) (xs:List D) (hp:s.hp p=some (.arr w xs)) (h:E.stp { dst:=d,op:=op,type:=ty,pos:=ps,after:=af,guard:=none } (s.frz p w xs) k (opR P.ti cf.n op d (s.frz p w xs))) :
  E.stp { dst:=d,op:=op,type:=ty,pos:=ps,after:=af,guard:=none } s k .no:=by
 rw [aM]
 rw [E.stp_eq] at h
 have h1:=dF (o:={ dst:=d,op:=op,type:=ty,pos:=ps,after:=af,guard:=none }) rfl h
 intro B hB ds β a w' hds hs Q'
 exact h1 B hB ds β a w' hds (hs.frz hp) Q'
theorem rX (p:Name) (w:W) (xs:List D) (t:Nat):∀ l:List (Nat × AV),(lkA .un l t).frz p w xs=lkA .un (l.map fun q=>(q.1,q.2.frz p w xs)) t
 | []=>rfl
 | q::r=>by
   simp only [lkA,List.map_cons]
   split
   ·rfl
   ·exact rX p w xs t r
theorem rO (fr:List (Nat × AV)) (hp:List (Name × Ob)) (u:List Nat) (p:Name) (w:W) (xs:List D):(mk fr hp u).frz p w xs=mk (fr.map fun q=>(q.1,q.2.frz p w xs)) (jX hp p) u:=by
 unfold St.frz mk
 congr 1
 ·funext t
  exact rX p w xs t fr
 ·funext q
  rw [ir,ik]
  rfl
attribute [go_sem] rO AV.frz cP
def frzs (L:List (Name × W × List D)) (x:AV):AV:=L.foldl (fun x q=>x.frz q.1 q.2.1 q.2.2) x
def Lok (s:St):List (Name × W × List D)→Prop
 | []=>True
 | q::r=>s.hp q.1=some (.arr q.2.1 q.2.2)∧Lok (s.frz q.1 q.2.1 q.2.2) r
def pz (P:Program) (rs:List ResultVar) (Q:AV→Prop) (e:Exit) (s:St):Prop :=
 match e with
 | .ret=>RX (gE P s rs) fun l=>∃ L,Lok s L∧(frzs L (dn l)).inU []=true∧Q (frzs L (dn l))
 | .normal=>RX (gE P s rs) fun l=>∃ L,Lok s L∧(frzs L (dn l)).inU []=true∧Q (frzs L (dn l))
 | _=>False
theorem Ha (rs:List ResultVar) (Q:AV→Prop) (s:St):pz P rs Q .ret s=RX (gE P s rs) fun l=>∃ L,Lok s L∧(frzs L (dn l)).inU []=true∧Q (frzs L (dn l)):=rfl
theorem yB (rs:List ResultVar) (Q:AV→Prop) (s:St):pz P rs Q .normal s=RX (gE P s rs) fun l=>∃ L,Lok s L∧(frzs L (dn l)).inU []=true∧Q (frzs L (dn l)):=rfl
theorem H8 {α:Type} (a:α) (φ:α→Prop):RX (.ok a) φ=φ a:=rfl
theorem ER {α:Type} (p:Prop) (r:R α) (φ:α→Prop):RX (.need p r) φ=(p∧RX r φ):=rfl
attribute [go_sem] Ha yB H8 ER
theorem ye (q:Name × W × List D) (L:List (Name × W × List D)) (x:AV):frzs (q::L) x=frzs L (x.frz q.1 q.2.1 q.2.2):=rfl
theorem zY (x:AV):frzs [] x=x:=rfl
attribute [go_sem] ye zY Lok
theorem nC {B:Base} {β:Name→Option Blk} {tm:Array Value} {w:World}:∀ (L:List (Name × W × List D)) (s:St),Sim B β s tm w→Lok s L→∃ s',Sim B β s' tm w∧∀ t,s'.fr t=frzs L (s.fr t)
 | [],s,h,_=>⟨s,h,fun _=>rfl⟩
 | q::L,s,h,hl=>by
   obtain ⟨s',h1,h2⟩:=nC L (s.frz q.1 q.2.1 q.2.2) (h.frz hl.1) hl.2
   exact ⟨s',h1,fun t=>by rw [h2 t];rfl⟩
theorem rY (x:AV):∀ (L:List (Name × W × List D)) (s s2:St),s.hp=s2.hp→Lok s L→Lok s2 L
 | [],_,_,_,_=>trivial
 | q::L,s,s2,e,h=>⟨by rw [← e];exact h.1,rY x L _ _ (by show aD s.hp _ _=aD s2.hp _ _;rw [e]) h.2⟩
theorem aw {G:List (Nat × Obj)} {f:FuncId} {fn:Func} {c:Code} {args:List D} {Q:AV→Prop} (hf:P.funcs[f]?=some fn) (hb:fn.body=some c) (hnm:(fn.name == "runtime.NumGoroutine")=false) (hn:args.length≤fn.ntmps)
  (h:run P ⟨fn.ntmps,none,G,[]⟩ [.code c] (pz P fn.results.toList Q) (mk (aG 0 (args.map .d)) [] [])):HP P G f args Q:=by
 refine ⟨ew hf hb hnm,fun B β vs w h1 h2 h3 h4 hs=>?_⟩
 have hsz:vs.size=args.length:=by rw [hs.tms,h1];simp
 have hs':Sim { B with n:=fn.ntmps } β (mk (aG 0 (args.map .d)) [] []) (vs++Array.replicate (fn.ntmps-vs.size) undef) w:=by
  refine { hs with tms:=by simp;omega,slots:=fun t=>?_ }
  have:=hs.slots t
  by_cases ht:t<vs.size
  ·have e:(vs++Array.replicate (fn.ntmps-vs.size) undef).getD t undef=vs.getD t undef:=by
    simp [Array.getD_eq_getD_getElem?,Array.getElem?_append,ht]
   rw [e];exact this
  ·have e:(mk (aG 0 (args.map .d)) [] []).fr t=.un:=by
    rw [eJ,bg,if_pos (Nat.zero_le _),List.getElem?_eq_none (by simp;omega)];rfl
   rw [e];exact .un _
 have hrun:=aW h { B with n:=fn.ntmps } ⟨rfl,h3,h4⟩ [] β { tmps:=vs++Array.replicate (fn.ntmps-vs.size) undef,defers:=[] } w rfl hs'
 refine callsIn_of_wp hf hb trivial (wpIn_mono (F:=Fence.wide) hrun fun e a' w' hq=>?_)
 obtain ⟨hd,s',β',hq,hsim⟩:=hq
 have fin:RX (gE P s' fn.results.toList) (fun l=>∃ L,Lok s' L∧(frzs L (dn l)).inU []=true∧Q (frzs L (dn l))) →
   a'.defers=[]∧∃ v,(results fn a'.tmps).run P w'=.ok v w'∧∃ v' r hp' u' β',Ending.returned v=.returned v'∧(Q r∧r.inU []=true∧hp'=[])∧Sim { B with n:=1 } β' (mk [(0,r)] hp' u') #[v'] w':=by
  intro hx
  obtain ⟨l,v,⟨L,hL,hin,hQ⟩,hr,hv⟩:=dL hsim fn hx
  have hret:Sim { B with n:=1 } β' (oH s' (dn l)) #[v] w':=by
   refine { tms:=rfl,io:=hsim.io,size:=hsim.size,frame:=hsim.frame,slots:=fun t=>?_,objs:=hsim.objs,blocks:=hsim.blocks,inj:=hsim.inj,us:=hsim.us,stay:=hsim.stay }
   show VR w'.heap (s'.own B.A β') s'.used s'.hp β' _ (if t=0 then dn l else .un)
   by_cases ht:t=0
   ·subst ht;rw [if_pos rfl];exact hv
   ·rw [if_neg ht];exact .un _
  obtain ⟨s2,hs2,hfr⟩:=nC L _ hret (rY (dn l) L s' _ rfl hL)
  have hle:LeL ([]:List Nat) id s2 [(0,frzs L (dn l))] [] []:=by
   refine ⟨⟨⟨?_,hin⟩,trivial⟩,trivial,trivial,rfl,trivial⟩
   rw [AV.ek id (fun _=>rfl),hfr 0]
   rfl
  obtain ⟨β2,hs3,_⟩:=hs2.le (τ:=id) (by show Le B.U0 id _ _;rw [h3];exact hle.le)
  exact ⟨hd,v,hr,v,_,_,_,β2,rfl,⟨hQ,hin,rfl⟩,hs3⟩
 cases e with
 | normal=>exact fin hq
 | ret=>exact fin hq
 | exit i=>exact hq.elim
 | goto l=>exact hq.elim
 | panic c=>exact hq.elim
 | outgrown=>exact hq.elim
end
end Go.Ab

namespace Go.Ab
def menc {κ:Type} (ke:κ→D) (ms:List (κ × D)):List (D × D):=ms.map fun q=>(ke q.1,q.2)
theorem BV {κ:Type} (ke:κ→D):menc ke []=[]:=rfl
section
variable {κ:Type} [DecidableEq κ]
def mlook:List (κ × D)→κ→Option D
 | [],_=>none
 | q::r,a=>if q.1=a then some q.2 else mlook r a
def mset:List (κ × D)→κ→D→List (κ × D)
 | [],a,d=>[(a,d)]
 | q::r,a,d=>if q.1=a then (a,d)::r else q::mset r a d
def midx:List κ→κ→Option Nat
 | [],_=>none
 | x::r,a=>if x=a then some 0 else (midx r a).map (·+1)
theorem l9 {a:κ} {d:D}:∀ {ms:List (κ × D)},midx (ms.map (·.1)) a=none→mlook ms a=none∧mset ms a d=ms++[(a,d)]
 | [],_=>⟨rfl,rfl⟩
 | q::r,h=>by
   simp only [List.map_cons,midx] at h
   split at h
   ·cases h
   ·rename_i hq
    obtain ⟨h1,h2⟩:=l9 (d:=d) (Option.map_eq_none_iff.1 h)
    exact ⟨by simp [mlook,hq,h1],by simp [mset,hq,h2]⟩
theorem lI {a:κ} {d:D}:∀ {ms:List (κ × D)} {i:Nat},midx (ms.map (·.1)) a=some i→∃ e,ms[i]?=some (a,e)∧mlook ms a=some e∧mset ms a d=ms.set i (a,d)
 | [],_,h=>by cases h
 | q::r,i,h=>by
   simp only [List.map_cons,midx] at h
   split at h
   ·rename_i hq
    cases h
    exact ⟨q.2,by simp [← hq],by simp [mlook,hq],by simp [mset,hq]⟩
   ·rename_i hq
    obtain ⟨j,hj,rfl⟩:=Option.map_eq_some_iff.1 h
    obtain ⟨e,h1,h2,h3⟩:=lI (d:=d) hj
    exact ⟨e,by simpa using h1,by simp [mlook,hq,h2],by simp [mset,hq,h3]⟩
structure C5 (P:Program) (kt:TypeId) (ke:κ→D) (kv:κ→Value):Prop where
 val:∀ {H:Array Obj} {own:Nat→Prop} {v:Value} {a:κ},Rep H own v (ke a)→v=kv a
 rep:∀ (H:Array Obj) (own:Nat→Prop) (a:κ),Rep H own (kv a) (ke a)
 chk:∀ (b:Bool) (a:κ) (w:World),(Instr.checkKey b 10000 kt (kv a)).run P w=.ok () w
 same:∀ a:κ,Instr.sameBits 10000 (kv a) (kv a)=true
 find:∀ (a:κ) (es:List MapEntry) (ks:List κ) (w:World),es.map (·.key)=ks.map kv→(Instr.findKey kt (kv a) es).run P w=.ok ((midx ks a).bind fun i=>(es[i]?).map fun e=>(i,e.val)) w
end
section
variable {P:Program}
theorem oU {κ:Type} [DecidableEq κ] {kv:κ→Value} {kind:TypeDesc} {a:κ} (hs:∀ x,Instr.sameNow kind (kv a) (kv x)=some (decide (x=a))):∀ (es:List MapEntry) (ks:List κ) (i:Nat),es.map (·.key)=ks.map kv →
  Instr.findNow kind (kv a) es i=some ((midx ks a).bind fun j=>(es[j]?).map fun e=>(i+j,e.val))
 | [],ks,i,h=>by
   cases ks with
   | nil=>rfl
   | cons k r=>simp at h
 | e::es,ks,i,h=>by
   cases ks with
   | nil=>simp at h
   | cons k r =>
     simp only [List.map_cons,List.cons.injEq] at h
     simp only [Instr.findNow,h.1,hs,midx]
     by_cases hk:k=a
     ·simp [hk]
     ·simp only [hk,decide_false,if_false,oU hs es r (i+1) h.2]
      cases midx r a with
      | none=>rfl
      | some j=>simp [Nat.add_assoc,Nat.add_comm 1 j]
theorem DU {κ:Type} [DecidableEq κ] {kt:TypeId} {kv:κ→Value} {kind:TypeDesc} (hk:P.underlying kt=some kind) (a:κ) (hs:∀ x,Instr.sameNow kind (kv a) (kv x)=some (decide (x=a))) (es:List MapEntry) (ks:List κ) (w:World) (h:es.map (·.key)=ks.map kv) :
  (Instr.findKey kt (kv a) es).run P w=.ok ((midx ks a).bind fun i=>(es[i]?).map fun e=>(i,e.val)) w:=by
 have:=oU hs es ks 0 h
 simp only [Nat.zero_add] at this
 simp only [Instr.findKey,Sem.run_bind,run_underlying hk,Result.andThen_ok,this]
 rfl
theorem A1 {d:TypeDesc} {a b:Value} {p:Prop} [Decidable p] (ha:MapKept.IsKey d a) (hb:MapKept.IsKey d b) (h:p↔a=b):Instr.sameNow d a b=some (decide p):=by
 obtain ⟨r,hr,hi⟩:=MapKept.sameNow_of_keys ha hb
 rw [hr]
 congr 1
 rw [Bool.eq_iff_iff,hi,decide_eq_true_eq,h]
theorem BC {kt:TypeId} (h:(P.ti kt).k=.str):C5 P kt (fun l:List UInt8=>D.str l) (fun l=>.string ⟨l.toArray⟩) where
 val:=fun h=>by cases h;rfl
 rep:=fun _ _ l=>.str l
 chk:=fun b a w=>MapKept.run_checkKey (gq h) (by trivial) b 9999
 same:=fun a=>by
  have:Instr.sameBits (9999+1) (.string ⟨a.toArray⟩) (.string ⟨a.toArray⟩)=true:=by simp [Instr.sameBits,MapKept.bytes_beq]
  exact this
 find:=fun a es ks w hk=>DU (gq h) a (fun x=>A1 (by trivial) (by trivial) ⟨fun e=>by rw [e],fun e=>by
  have e1:=congrArg (fun v=>match v with | Value.string b=>b.data.toList | _=>[]) e
  simpa using e1.symm⟩) es ks w hk
end
section
variable {P:Program} {cf:Cf} {Q:Exit→St→Prop} {s:St} {k:List It}
variable {κ:Type} [DecidableEq κ] {ke:κ→D} {kv:κ→Value}
theorem vc {ents:Array MapEntry} {clock:Nat} (h:Borns ents clock) (k v:Value):Borns (ents.push { key:=k,val:=v,born:=clock }) (clock+1):=by
 obtain ⟨h1,h2⟩:=h
 refine ⟨?_,fun e he=>?_⟩
 ·rw [Array.toList_push,List.map_append,List.nodup_append]
  refine ⟨h1,by simp,fun a ha b hb=>?_⟩
  obtain ⟨e,he,rfl⟩:=List.mem_map.1 ha
  have:=h2 e he
  have hb:b=clock:=by simpa using hb
  omega
 ·rw [Array.toList_push] at he
  rcases List.mem_append.1 he with he | he
  ·have:=h2 e he;omega
  ·rw [List.mem_singleton.1 he];exact Nat.lt_succ_self _
theorem rV {ents:Array MapEntry} {clock:Nat} (h:Borns ents clock) (i:Nat) (f:MapEntry→MapEntry) (hf:∀ e,(f e).born=e.born):Borns (ents.modify i f) clock:=by
 have e:(ents.modify i f).toList.map (·.born)=ents.toList.map (·.born):=by
  refine List.ext_getElem? fun j=>?_
  rw [List.getElem?_map,List.getElem?_map,Array.getElem?_toList,Array.getElem?_toList,Array.getElem?_modify]
  split
  ·cases ents[j]? with
   | none=>rfl
   | some x=>simp [hf]
  ·rfl
 obtain ⟨h1,h2⟩:=h
 refine ⟨by rw [e];exact h1,fun x hx=>?_⟩
 have:x.born∈(ents.modify i f).toList.map (·.born):=List.mem_map_of_mem hx
 rw [e] at this
 obtain ⟨y,hy,hxy⟩:=List.mem_map.1 this
 rw [← hxy];exact h2 y hy
theorem zp (E:Eng P cf Q) {t0:Nat} {t:Nat} {ty:TypeId} {pos:String} {af:Array Edge} (ht:t<cf.n) (hu:t ∉ s.used) (hk:E.run k ((s.add t (.map [])).put t (.mp [t]))) :
  E.stp { dst:=some t,op:=.makeMap t0 none,type:=ty,pos:=pos,after:=af,guard:=none } s k .no:=by
 rw [aM]
 rw [E.run_eq] at hk
 intro B hB ds β a w hds h Q'
 have hrun:(execOp a.eval { dst:=some t,op:=.makeMap t0 none,type:=ty,pos:=pos,after:=af,guard:=none }).run P w=.ok (.value (.map (some w.heap.size))) (w.alloc (.map #[] 0)):=by
  simp only [execOp,Instr.makeMap]
  rfl
 obtain ⟨hsim,_⟩:=h.alloc hu (.map #[] 0) (.map []) 0 (fun β' hβ _=>⟨_,#[],0,hβ,by show (w.heap.push _)[w.heap.size]?=_;rw [Array.getElem?_push_size],⟨rfl,by simp [Borns]⟩,fun i x hi=>by simp at hi⟩)
 refine aK (by simp) hrun (.inl rfl) ⟨hds,_,_,aW hk,hsim.put (by rw [hB.1];exact ht) ?_⟩
 refine .mp _ _ ⟨t,[],rfl,List.mem_cons_self⟩ rfl (fun es _=>⟨⟨w.heap.size,0,0⟩,by simp [aD],rfl⟩)
theorem tJ {kt:TypeId} (K:C5 P kt ke kv) {H:Array Obj} {own:Nat→Prop} {ms:List (κ × D)} {ents:Array MapEntry} (hsz:ents.size=(menc ke ms).length)
  (h:∀ (i:Nat) (x:D × D),(menc ke ms)[i]?=some x→∃ en:MapEntry,ents[i]?=some en∧Rep H own en.key x.1∧Rep H own en.val x.2):ents.toList.map (·.key)=(ms.map (·.1)).map kv:=by
 have hl:ents.size=ms.length:=by simpa [menc] using hsz
 apply List.ext_getElem (by simp [hl])
 intro i h1 h2
 have hi:i<ms.length:=by simpa using h2
 obtain ⟨en,he,hk,_⟩:=h i (ke ms[i].1,ms[i].2) (by simp [menc,hi])
 have hie:i<ents.size:=by omega
 simp [hie] at he
 simp [he,K.val hk]
def zdA:Value→Option D
 | .agg cs=>(cs.toList.mapM zd).map .agg
 | v=>zd v
def wX (P:Program) (t:TypeId):Option D:=(P.info? t).bind fun i=>i.zero.bind zdA
theorem yX {t:TypeId} {z:D} (h:wX P t=some z):∃ v,(∀ w,(zeroValue t).run P w=.ok v w)∧∀ (H:Array Obj) (own:Nat→Prop),Rep H own v z:=by
 obtain ⟨i,hi,h⟩:=Option.bind_eq_some_iff.1 h
 obtain ⟨v,hv,h⟩:=Option.bind_eq_some_iff.1 h
 refine ⟨v,fun w=>?_,fun H own=>?_⟩
 ·simp [zeroValue,typeInfo,hi,hv]
 ·cases v with
  | agg cs =>
    simp only [zdA,Option.map_eq_some_iff] at h
    obtain ⟨ds,hd,rfl⟩:=h
    obtain ⟨h1,h2,_,h4⟩:=ix (H:=H) (own:=own) hd
    refine .agg cs ds (by simpa using h1.symm) h2 (fun i d hi=>?_)
    obtain ⟨u,hu,hr⟩:=h4 i d hi
    have hu':cs[i]?=some u:=by simpa using hu
    have:cs.getD i undef=u:=by simp [Array.getD_eq_getD_getElem?,hu']
    rw [this];exact hr
  | _=>simp only [zdA] at h;exact (AS (H:=H) (own:=own) h).1
def xm (z:D) (co:Bool) (r:Option D):AV:=if co then .tup [.d (r.getD z),.d (.bool r.isSome)] else .d (r.getD z)
theorem zt {xt kt et:Nat} {x y:Operand} {co:Bool} {dst:Option Nat} {ty:TypeId} {pos:String} {af:Array Edge} {gg:Option (Nat × Bool)} (p:Name) (ms:List (κ × D)) (key:κ) (z:D) (hm:(P.ti xt).k=.map kt et) (K:C5 P kt ke kv) (hz:wX P et=some z)
  (hx:ev s x=.mp p) (hp:s.hp p=some (.map (menc ke ms))) (hy:ev s y=.d (ke key)) (hdst:∀ t∈dst,t<cf.n) (hk:run P cf k Q (s.iK dst (xm z co (mlook ms key)))) :
  AOk P cf { dst:=dst,op:=.lookup xt x y co,type:=ty,pos:=pos,after:=af,guard:=gg } s k Q:=by
 intro B hB ds β a w hds h Q'
 have hv:=h.ev x
 rw [hx] at hv
 have hkey:=h.ev y
 rw [hy] at hkey
 have hkey:=K.val hkey.toD
 generalize hval:a.eval x=v at hv
 cases hv with
 | mp _ _ hn ho g =>
 obtain ⟨b,hb,rfl⟩:=g _ hp
 obtain ⟨b2,ents,clock,hb2,hh,⟨hsz,hbo⟩,hent⟩:=(h.objs p _ hp).2
 obtain rfl:=Option.some.inj (hb.symm.trans hb2)
 obtain ⟨zv,hzr,hzrep⟩:=yX hz
 have hzrep:=hzrep w.heap (s.own B.A β)
 have hks:=tJ K hsz hent
 have hf:=K.find key ents.toList _ w hks
 have key1:∃ r,VR w.heap (s.own B.A β) s.used s.hp β r (xm z co (mlook ms key))∧(execOp a.eval { dst:=dst,op:=.lookup xt x y co,type:=ty,pos:=pos,after:=af,guard:=gg }).run P w=.ok (.value r) w:=by
  cases hi:midx (ms.map (·.1)) key with
  | none =>
    obtain ⟨h1,_⟩:=l9 (d:=z) hi
    rw [hi] at hf
    refine ⟨if co then .tuple #[zv,.bool false] else zv,?_,?_⟩
    ·rw [h1]
     cases co
     ·exact .d _ _ hzrep
     ·refine .tup _ _ rfl fun i y hi=>?_
      match i,hi with
      | 0,hi=>obtain rfl:=Option.some.inj hi;exact .d _ _ hzrep
      | 1,hi=>obtain rfl:=Option.some.inj hi;exact .d _ _ (.bool _)
    ·simp only [execOp,hval,hkey,Instr.lookup,Sem.run_bind,run_underlying (oS hm),Result.andThen_ok,MapKept.run_getObj_map hh,K.chk,Sem.run_pure]
     rw [hf]
     simp [hzr]
  | some i =>
    obtain ⟨e,h0,h1,_⟩:=lI (d:=z) hi
    rw [hi] at hf
    obtain ⟨en,he,_,hrep⟩:=hent i (ke key,e) (by simp [menc,h0])
    have he':ents.toList[i]?=some en:=by simpa using he
    refine ⟨if co then .tuple #[en.val,.bool true] else en.val,?_,?_⟩
    ·rw [h1]
     cases co
     ·exact .d _ _ hrep
     ·refine .tup _ _ rfl fun i y hi=>?_
      match i,hi with
      | 0,hi=>obtain rfl:=Option.some.inj hi;exact .d _ _ hrep
      | 1,hi=>obtain rfl:=Option.some.inj hi;exact .d _ _ (.bool _)
    ·simp only [execOp,hval,hkey,Instr.lookup,Sem.run_bind,run_underlying (oS hm),Result.andThen_ok,MapKept.run_getObj_map hh,K.chk,Sem.run_pure]
     rw [hf]
     simp [he]
 obtain ⟨r,hr1,hr2⟩:=key1
 refine aK (by simp) hr2 (.inl rfl) ⟨by cases dst<;>exact hds,_,β,aW hk,?_⟩
 cases dst with
 | none=>exact h
 | some t=>exact h.put (by rw [hB.1];exact hdst t rfl) hr1
theorem Bu (E:Eng P cf Q) {xt kt et:Nat} {x y:Operand} {co:Bool} {dst:Option Nat} {ty:TypeId} {pos:String} {af:Array Edge} (p:Name) (ms:List (κ × D)) (key:κ) (z:D) (hm:(P.ti xt).k=.map kt et) (K:C5 P kt ke kv) (hz:wX P et=some z)
  (hx:ev s x=.mp p) (hp:s.hp p=some (.map (menc ke ms))) (hy:ev s y=.d (ke key)) (hdst:∀ t∈dst,t<cf.n) (hk:E.run k (s.iK dst (xm z co (mlook ms key)))) :
  E.stp { dst:=dst,op:=.lookup xt x y co,type:=ty,pos:=pos,after:=af,guard:=none } s k .no:=by
 rw [aM]
 rw [E.run_eq] at hk
 exact zt p ms key z hm K hz hx hp hy hdst hk
theorem sW (E:Eng P cf Q) {xt kt et:Nat} {x y z:Operand} {dst:Option Nat} {ty:TypeId} {pos:String} {af:Array Edge} (p:Name) (ms:List (κ × D)) (key:κ) (d:D) (hm:(P.ti xt).k=.map kt et) (K:C5 P kt ke kv)
  (hx:ev s x=.mp p) (hp:s.hp p=some (.map (menc ke ms))) (hy:ev s y=.d (ke key)) (hd:ev s z=.d d) (hdst:dst=none) (hk:E.run k (s.set p (some (.map (menc ke (mset ms key d)))))) :
  E.stp { dst:=dst,op:=.mapUpdate xt x y z,type:=ty,pos:=pos,after:=af,guard:=none } s k .no:=by
 subst hdst
 rw [aM]
 rw [E.run_eq] at hk
 intro B hB ds β a w hds h Q'
 have hv:=h.ev x
 rw [hx] at hv
 have hkey:=h.ev y
 rw [hy] at hkey
 have hkey:=K.val hkey.toD
 have hzv:=h.ev z
 rw [hd] at hzv
 have hzv:=hzv.toD
 generalize hval:a.eval x=v at hv
 cases hv with
 | mp _ _ hn ho g =>
 obtain ⟨b,hb,rfl⟩:=g _ hp
 obtain ⟨b2,ents,clock,hb2,hh,⟨hsz,hbo⟩,hent⟩:=(h.objs p _ hp).2
 obtain rfl:=Option.some.inj (hb.symm.trans hb2)
 have hlt:=ar hh
 have hks:=tJ K hsz hent
 have hf:=K.find key ents.toList _ w hks
 have hl:ents.size=ms.length:=by simpa [menc] using hsz
 have key1:∃ ents' clock',(execOp a.eval { dst:=none,op:=.mapUpdate xt x y z,type:=ty,pos:=pos,after:=af,guard:=none }).run P w=.ok .skip { w with heap:=w.heap.setIfInBounds b.b (.map ents' clock') } ∧
   (ents'.size=(menc ke (mset ms key d)).length∧Borns ents' clock')∧∀ (H:Array Obj) (own:Nat→Prop),(∀ v d,Rep w.heap (s.own B.A β) v d→Rep H own v d)→∀ (i:Nat) (x:D × D),(menc ke (mset ms key d))[i]?=some x→∃ en:MapEntry,ents'[i]?=some en∧Rep H own en.key x.1∧Rep H own en.val x.2:=by
  cases hi:midx (ms.map (·.1)) key with
  | none =>
    obtain ⟨_,h2⟩:=l9 (d:=d) hi
    rw [hi] at hf
    refine ⟨ents.push { key:=kv key,val:=a.eval z,born:=clock },clock+1,?_,?_,?_⟩
    ·simp only [execOp,hval,hkey,Instr.mapUpdate,Sem.run_bind,run_underlying (oS hm),Result.andThen_ok,MapKept.run_getObj_map hh,K.chk,Sem.run_pure]
     rw [hf]
     simp [setObj,Sem.run,hh]
    ·rw [h2];exact ⟨by simp [menc,hl],vc hbo _ _⟩
    ·intro H own hr i x hi'
     rw [h2] at hi'
     by_cases hlt':i<ms.length
     ·have:(menc ke ms)[i]?=some x:=by
       rw [← hi'];simp [menc,List.getElem?_append_left,hlt']
      obtain ⟨en,h3,h4,h5⟩:=hent i x this
      exact ⟨en,by rw [Array.getElem?_push,if_neg (by omega)];exact h3,hr _ _ h4,hr _ _ h5⟩
     ·have hie:i=ms.length:=by
       have:=(List.getElem?_eq_some_iff.1 hi').1
       simp [menc] at this
       omega
      subst hie
      have:x=(ke key,d):=by
       simp [menc] at hi'
       exact hi'.symm
      subst this
      exact ⟨_,by rw [Array.getElem?_push,if_pos hl.symm],K.rep _ _ _,hr _ _ hzv⟩
  | some i =>
    obtain ⟨e,h0,_,h2⟩:=lI (d:=d) hi
    rw [hi] at hf
    obtain ⟨en,he,hkr,hrep⟩:=hent i (ke key,e) (by simp [menc,h0])
    have hke:=K.val hkr
    have he':ents.toList[i]?=some en:=by simpa using he
    refine ⟨ents.modify i fun e=>{ e with key:=kv key,val:=a.eval z },clock,?_,?_,?_⟩
    ·simp only [execOp,hval,hkey,Instr.mapUpdate,Sem.run_bind,run_underlying (oS hm),Result.andThen_ok,MapKept.run_getObj_map hh,K.chk,Sem.run_pure]
     rw [hf]
     simp [setObj,Sem.run,Instr.keyThatStays,he,hke,K.same,hh]
    ·rw [h2];exact ⟨by simp [menc,hl],rV hbo _ _ fun _=>rfl⟩
    ·intro H own hr j x hj
     rw [h2] at hj
     have hjl:j<ms.length:=by
      have:=(List.getElem?_eq_some_iff.1 hj).1
      simpa [menc] using this
     by_cases hij:i=j
     ·subst hij
      have:x=(ke key,d):=by
       simp [menc,hjl] at hj
       exact hj.symm
      subst this
      exact ⟨_,by rw [Array.getElem?_modify,if_pos rfl,he];rfl,K.rep _ _ _,hr _ _ hzv⟩
     ·have:(menc ke ms)[j]?=some x:=by
       rw [← hj];simp [menc,List.getElem?_set_ne hij]
      obtain ⟨en',h3,h4,h5⟩:=hent j x this
      exact ⟨en',by rw [Array.getElem?_modify,if_neg hij];exact h3,hr _ _ h4,hr _ _ h5⟩
 obtain ⟨ents',clock',hrun,hsz',hent'⟩:=key1
 obtain ⟨hsim,_⟩:=h.modify (p:=p) (ob':=.map (menc ke (mset ms key d))) hp trivial (w':={ w with heap:=w.heap.setIfInBounds b.b (.map ents' clock') }) rfl (by simp)
  (fun b' hb'=>by
   have:=hb' b hb
   simp [Ne.symm this]) (fun _ hr=>⟨b,ents',clock',hb,by simp [hlt],hsz',hent' _ _ hr⟩)
 exact aK (by simp) hrun (.inr ⟨rfl,rfl⟩) ⟨hds,_,_,aW hk,hsim⟩
end
attribute [go_sem] xm BV
end Go.Ab
namespace Go.Ab
inductive TS where
 | int (k:IntKind)
 | bool
 | str
 | sl (w:W) (es:List TS)
mutual
def TS.ok:TS→D→Prop
 | .int k,.int k' n=>k'=k∧k.min≤n∧n≤k.max
 | .bool,.bool _=>True
 | .str,.str l=>l.length≤maxLen
 | .sl _ _,.nils=>True
 | .sl w es,.sl w' xs=>w'=w∧xs.length≤maxLen∧∀ x∈xs,okW w x∧oks es x.cells
 | _,_=>False
def oks:List TS→List D→Prop
 | [],[]=>True
 | t::ts,d::ds=>t.ok d∧oks ts ds
 | _,_=>False
end
theorem il:∀ {ts:List TS} {ds:List D},oks ts ds→ds.length=ts.length
 | [],[],_=>rfl
 | _::_,_::_,h=>by simp [il h.2]
 | [],_::_,h=>h.elim
 | _::_,[],h=>h.elim
theorem oJ:∀ {ts:List TS} {ds:List D} {ts':List TS} {ds':List D},oks ts ds→oks ts' ds'→oks (ts++ts') (ds++ds')
 | [],[],_,_,_,h=>h
 | _::_,_::_,_,_,h,h'=>⟨h.1,oJ h.2 h'⟩
 | [],_::_,_,_,h,_=>h.elim
 | _::_,[],_,_,h,_=>h.elim
mutual
def shp (P:Program):Nat→TypeId→Option (List TS)
 | 0,_=>none
 | n+1,t =>
   match (P.ti t).k with
   | .int k=>some [.int k]
   | .bool=>some [.bool]
   | .str=>some [.str]
   | .slice e=>(shp P n e).bind fun es=>if es.length=P.cellsOf e∧wd (P.ti e).w=es.length∧0<es.length then some [.sl (P.ti e).w es] else none
   | .struct fs=>(As P n fs 0).bind fun ts=>if ts.length=P.cellsOf t then some ts else none
   | _=>none
def As (P:Program):Nat→List (Nat × Nat)→Nat→Option (List TS)
 | 0,_,_=>none
 | _+1,[],_=>some []
 | n+1,f::r,off =>
   if f.1=off then (shp P n f.2).bind fun ts=>if ts.length=P.cellsOf f.2 then (As P n r (off+ts.length)).map (ts++·) else none else none
end
theorem s7 {α:Type} {n:Nat} {p:Nat→α→Prop} (h:∀ i,i<n→∃ a,p i a):∃ xs:List α,xs.length=n∧∀ i a,xs[i]?=some a→p i a:=by
 induction n with
 | zero=>exact ⟨[],rfl,fun i a h=>by simp at h⟩
 | succ n ih =>
   obtain ⟨xs,h1,h2⟩:=ih fun i hi=>h i (by omega)
   obtain ⟨a,ha⟩:=h n (by omega)
   refine ⟨xs++[a],by simp [h1],fun i b hb=>?_⟩
   by_cases hi:i<xs.length
   ·rw [List.getElem?_append_left hi] at hb;exact h2 i b hb
   ·rw [List.getElem?_append_right (by omega)] at hb
    have hi0:i-xs.length=0:=by
     have:=(List.getElem?_eq_some_iff.1 hb).1
     simp at this
     omega
    rw [hi0] at hb
    have hb:a=b:=by simpa using hb
    subst hb
    rw [show i=n by omega];exact ha
section
variable {H:Type} {enc:TypeId × Value→H} {P:Program} {w:World} {spare:Nat→Bool} {held:Bool}
def CD (w:World) (cs:List Value) (ds:List D):Prop:=(∀ d∈ds,d.scal=true)∧∀ (i:Nat) d,ds[i]?=some d→Rep w.heap (fun _=>False) (cs.getD i undef) d
theorem CD.one {v:Value} {d:D} (hd:d.scal=true) (h:Rep w.heap (fun _=>False) v d):CD w [v] [d]:=by
 refine ⟨by simpa using hd,fun i d' hi=>?_⟩
 match i,hi with
 | 0,hi=>obtain rfl:=Option.some.inj hi;exact h
theorem mi {a:Addr} {n:Nat} {cs:List Value} (h:w.cells? 0 a n=some cs):cs.length=n∧∀ i,i<n→∃ v,cs[i]?=some v∧w.cell? (a.add i)=some v:=by
 unfold World.cells? at h
 rw [if_pos (Nat.zero_le _)] at h
 have hl:cs.length=n:=by simpa using mapM_some_length h
 refine ⟨hl,fun i hi=>?_⟩
 have:=mapM_some_get h i i (by simp [hi])
 exact ⟨cs[i]'(by omega),by simp [hl,hi],by rw [this];simp [hl,hi]⟩
theorem yQ {a:Addr} {cap:Nat} {wf:W} {c:Nat} {xs:List D} (hc:wd wf=c) (hc0:0<c) (hcap:xs.length≤cap) (hw:∀ x∈xs,okW wf x)
  (h:∀ i,i<xs.length→∃ cs,w.cells? 0 (a.add (i*c)) c=some cs∧∀ x,xs[i]?=some x→∀ (j:Nat) d,x.cells[j]?=some d→Rep w.heap (fun _=>False) (cs.getD j undef) d) :
  Rep w.heap (fun _=>False) (.slice (some a) xs.length cap) (.sl wf xs):=by
 by_cases h0:xs.length=0
 ·have:xs=[]:=List.length_eq_zero_iff.1 h0
  subst this
  exact .sl0 _ _ _
 obtain ⟨cs0,hcs0,_⟩:=h 0 (by omega)
 obtain ⟨_,hg0⟩:=mi hcs0
 obtain ⟨v0,_,hv0⟩:=hg0 0 hc0
 have e0:(a.add (0*c)).add 0=a:=by simp [Addr.add]
 rw [e0] at hv0
 obtain ⟨b,o,spot⟩:=a
 unfold World.cell? at hv0
 cases hh:w.heap[b]? with
 | none=>rw [hh] at hv0;cases hv0
 | some ob =>
   rw [hh] at hv0
   cases ob with
   | cells cc e fz =>
     simp only at hv0
     cases spot with
     | some _=>simp at hv0
     | none =>
       have hcell:∀ i v,w.cell? ⟨b,i,none⟩=some v→cc[i]?=some v:=by
        intro i v hi
        simpa [World.cell?,hh] using hi
       refine .sl b o cap cc e fz wf xs hh (fun h=>h) hcap ?_ hw (fun i x j d hi hj=>?_)
       ·rw [hc]
        obtain ⟨cs,hcs,_⟩:=h (xs.length-1) (by omega)
        obtain ⟨_,hg⟩:=mi hcs
        obtain ⟨v,_,hv⟩:=hg (c-1) (by omega)
        rw [bN,bN] at hv
        have:=(Array.getElem?_eq_some_iff.1 (hcell _ _ hv)).1
        have e1:(xs.length-1)*c+c=xs.length*c:=by
         rw [← Nat.succ_mul];congr 1;omega
        omega
       ·have hil:i<xs.length:=(List.getElem?_eq_some_iff.1 hi).1
        obtain ⟨cs,hcs,hrep⟩:=h i hil
        obtain ⟨hlen,hg⟩:=mi hcs
        have hjl:j<c:=by
         have h1:=bO (hw x (List.mem_of_getElem? hi))
         have h2:=(List.getElem?_eq_some_iff.1 hj).1
         omega
        obtain ⟨v,hvj,hv⟩:=hg j hjl
        rw [bN,bN] at hv
        have h3:=hcell _ _ hv
        have h4:=hrep x hi j d hj
        have e1:cs.getD j undef=v:=by simp [List.getD_eq_getElem?_getD,hvj]
        have e2:cc.getD (o+i*wd wf+j) undef=v:=by rw [hc];simp [Array.getD_eq_getD_getElem?,h3]
        rw [e2,← e1];exact h4
   | _=>simp at hv0
theorem vH:∀ m:Nat,
  (∀ n' t cs x ts,shp P m t=some ts→DataW.trod enc P w 0 spare held n' t cs=some x→∃ ds,oks ts ds∧cs.length=ds.length∧CD w cs ds) ∧
  (∀ n' (cs:List Value) r off ts,As P m r off=some ts→(∀ f∈r,∃ x,DataW.trod enc P w 0 spare held n' f.2 ((cs.drop f.1).take (P.cellsOf f.2))=some x) →
   ∃ ds,oks ts ds∧(∀ d∈ds,d.scal=true)∧∀ (i:Nat) d,ds[i]?=some d→Rep w.heap (fun _=>False) (cs.getD (off+i) undef) d):=by
 intro m
 induction m with
 | zero=>exact ⟨fun n' t cs x ts h=>by simp [shp] at h,fun n' cs r off ts h=>by simp [As] at h⟩
 | succ m ih =>
   obtain ⟨ihS,ihF⟩:=ih
   refine ⟨fun n' t cs x ts h hx=>?_,fun n' cs r off ts h hx=>?_⟩
   ·unfold shp at h
    split at h
    ·rename_i k hk
     cases h
     obtain ⟨n,rfl,_,hwf⟩:=DataW.trod_int (qR hk) hx
     simp only [Lit.wf,Bool.and_eq_true,decide_eq_true_eq] at hwf
     exact ⟨[.int k n],⟨⟨rfl,hwf⟩,trivial⟩,rfl,CD.one rfl (.int k n)⟩
    ·rename_i hk
     cases h
     have hu:P.underlying t=some .bool:=kp (by rw [hk];rfl)
     obtain ⟨b,rfl,_⟩:=DataW.trod_bool hu hx
     exact ⟨[.bool b],⟨trivial,trivial⟩,rfl,CD.one rfl (.bool b)⟩
    ·rename_i hk
     cases h
     obtain ⟨s,rfl,_,hs⟩:=DataW.trod_string (gq hk) hx
     obtain ⟨l,rfl⟩:∃ l:List UInt8,s=⟨l.toArray⟩:=⟨s.data.toList,by simp⟩
     refine ⟨[.str l],⟨?_,trivial⟩,rfl,CD.one rfl (.str l)⟩
     simpa [ByteArray.size,TS.ok] using hs
    ·rename_i e hk
     obtain ⟨es,hes,h⟩:=Option.bind_eq_some_iff.1 h
     split at h
     ·rename_i hc
      cases h
      obtain ⟨hc1,hc2,hc3⟩:=hc
      rcases DataW.trod_slice (bW hk) hx with ⟨rfl,_⟩ | ⟨a,len,cap,elems,rest,n,_,rfl,_,_,hlen,hcap,hel,hget,_,_⟩
      ·exact ⟨[.nils],⟨trivial,trivial⟩,rfl,CD.one rfl .nils⟩
      have each:∀ i,i<len→∃ x:D,(okW (P.ti e).w x∧oks es x.cells)∧∃ cs,w.cells? 0 (a.add (i*P.cellsOf e)) (P.cellsOf e)=some cs∧∀ (j:Nat) d,x.cells[j]?=some d→Rep w.heap (fun _=>False) (cs.getD j undef) d:=by
       intro i hi
       have h1:=hget i hi
       have hi':i<elems.length:=by omega
       rw [List.getElem?_eq_getElem hi',Option.bind_eq_some_iff] at h1
       obtain ⟨ci,hci,htr⟩:=h1
       obtain ⟨di,hok,hdl,hsc,hrep⟩:=ihS n e ci _ es hes htr
       have hdl2:=il hok
       cases hw:(P.ti e).w with
       | none =>
         rw [hw] at hc2
         match di,hdl2,hsc,hrep,hok with
         | [d],_,hsc,hrep,hok =>
           have hs:d.scal=true:=hsc d (by simp)
           have hcd:d.cells=[d]:=by cases d<;>simp_all [D.scal,D.cells]
           exact ⟨d,⟨hs,by rw [hcd];exact hok⟩,ci,hci,by rw [hcd];exact hrep⟩
         | [],hdl2,_,_,_=>simp [wd] at hc2;simp at hdl2;omega
         | _::_::_,hdl2,_,_,_=>simp [wd] at hc2;simp at hdl2;omega
       | some nn =>
         rw [hw] at hc2
         have hc2:nn=es.length:=hc2
         exact ⟨.agg di,⟨⟨by omega,hsc⟩,hok⟩,ci,hci,hrep⟩
      obtain ⟨xs,hxl,hxs⟩:=s7 each
      have hr:=yQ (w:=w) (a:=a) (cap:=cap) (wf:=(P.ti e).w) (c:=P.cellsOf e) (xs:=xs) (by omega) (by omega) (by omega)
       (fun x hx'=>by obtain ⟨i,hi⟩:=List.mem_iff_getElem?.1 hx';exact (hxs i x hi).1.1)
       (fun i hi=>by
        obtain ⟨_,cs,h2,h3⟩:=hxs i xs[i] (by simp [hi])
        exact ⟨cs,h2,fun x hx' j d hj=>by
         have hx':xs[i]=x:=by simpa [hi] using hx'
         subst hx'
         exact h3 j d hj⟩)
      rw [hxl] at hr
      refine ⟨[.sl (P.ti e).w xs],⟨⟨rfl,by omega,fun x hx'=>?_⟩,trivial⟩,rfl,CD.one rfl hr⟩
      obtain ⟨i,hi⟩:=List.mem_iff_getElem?.1 hx'
      exact (hxs i x hi).1
     ·cases h
    ·rename_i fs hk
     obtain ⟨ts',hts,h⟩:=Option.bind_eq_some_iff.1 h
     split at h
     ·rename_i hc
      cases h
      obtain ⟨fl,hu,rfl⟩:=gR hk
      obtain ⟨xs,n,_,_,hcl,_,hf⟩:=DataW.trod_struct hu hx
      obtain ⟨ds,h1,h2,h3⟩:=ihF n cs _ 0 ts hts (fun f hf'=>by
       obtain ⟨f0,hf0,rfl⟩:=List.mem_map.1 hf'
       obtain ⟨i,hi⟩:=List.mem_iff_getElem?.1 hf0
       have hi':fl[i]?=some f0:=by simpa using hi
       have:=hf i f0 hi'
       have hlt:i<xs.length:=by
        have:=(Array.getElem?_eq_some_iff.1 hi').1
        omega
       exact ⟨xs[i],by rw [this];simp [hlt]⟩)
      have hl:=il h1
      exact ⟨ds,h1,by omega,h2,fun i d hi=>by have:=h3 i d hi;rwa [Nat.zero_add] at this⟩
     ·cases h
    ·cases h
   ·unfold As at h
    cases r with
    | nil =>
      cases h
      exact ⟨[],trivial,by simp,fun i d hi=>by simp at hi⟩
    | cons f r =>
      simp only at h
      split at h
      ·rename_i hoff
       obtain ⟨ts1,h1,h⟩:=Option.bind_eq_some_iff.1 h
       split at h
       ·rename_i hc
        obtain ⟨ts2,h2,rfl⟩:=Option.map_eq_some_iff.1 h
        obtain ⟨x,hx1⟩:=hx f List.mem_cons_self
        obtain ⟨d1,g1,g2,g3,g4⟩:=ihS n' f.2 _ x ts1 h1 hx1
        obtain ⟨d2,k1,k2,k3⟩:=ihF n' cs r _ ts2 h2 fun q hq=>hx q (List.mem_cons_of_mem _ hq)
        have hl1:=il g1
        refine ⟨d1++d2,oJ g1 k1,fun d hd=>?_,fun i d hi=>?_⟩
        ·rcases List.mem_append.1 hd with hd | hd
         ·exact g3 d hd
         ·exact k2 d hd
        ·by_cases hlt:i<d1.length
         ·rw [List.getElem?_append_left hlt] at hi
          have:=g4 i d hi
          have e:((cs.drop f.1).take (P.cellsOf f.2)).getD i undef=cs.getD (off+i) undef:=by
           rw [List.getD_eq_getElem?_getD,List.getD_eq_getElem?_getD,List.getElem?_take,if_pos (by omega),List.getElem?_drop,hoff]
          rw [e] at this;exact this
         ·rw [List.getElem?_append_right (by omega)] at hi
          have:=k3 _ d hi
          rw [show off+ts1.length+(i-d1.length)=off+i by omega] at this
          exact this
       ·cases h
      ·cases h
theorem reads {m:Nat} {t:TypeId} {v:Value} {dw:DataW H} {ps:List MemPlace} {ts:List TS} (hs:shp P m t=some ts) (h:DataW.Trod enc P w 0 spare held t v dw ps):∃ ds,oks ts ds∧v.cells.size=ds.length∧CD w v.cells.toList ds:=by
 obtain ⟨n,hn⟩:=h
 obtain ⟨ds,h1,h2,h3⟩:=(vH m).1 n t _ _ ts hs hn
 exact ⟨ds,h1,by simpa using h2,h3⟩
theorem yO {m:Nat} {t:TypeId} {v:Value} {dw:DataW H} {ps:List MemPlace} {ty:TS} (hs:shp P m t=some [ty]) (hv:v.cells=#[v]) (h:DataW.Trod enc P w 0 spare held t v dw ps):∃ d,ty.ok d∧Rep w.heap (fun _=>False) v d:=by
 obtain ⟨ds,h1,h2,h3,h4⟩:=reads hs h
 match ds,h1 with
 | [d],h1 =>
   refine ⟨d,h1.1,?_⟩
   have:=h4 0 d rfl
   rw [hv] at this
   exact this
theorem yC {m:Nat} {t:TypeId} {vs:Array Value} {dw:DataW H} {ps:List MemPlace} {ts:List TS} (hs:shp P m t=some ts) (h:DataW.Trod enc P w 0 spare held t (.agg vs) dw ps):∃ ds,oks ts ds∧Rep w.heap (fun _=>False) (.agg vs) (.agg ds):=by
 obtain ⟨ds,h1,h2,h3,h4⟩:=reads hs h
 refine ⟨ds,h1,.agg vs ds h2 h3 fun i d hi=>?_⟩
 have:=h4 i d hi
 simpa [Value.cells,Array.getD_eq_getD_getElem?,List.getD_eq_getElem?_getD] using this
end
end Go.Ab

