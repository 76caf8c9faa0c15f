/-
  The generic layer, part 44: calls that look at arrays that the caller goes on owning: they are handed in as plain data, where what is handed back names none of them. (with the parts that follow it) (with the parts that follow it)
-/
import Derived.Test.YtejpnabbmgpmaaaGreatDoorVAD
import Derived.Maps.RangeRun
import Derived.RangeFuncRecord
import Derived.RangeFuncSeq
import Derived.RangeFuncLeaves
import Derived.DefersIn
import Derived.RangeFuncBound
set_option linter.all false
namespace Go.Ab
mutual
def D.flat:D→Bool
 | .int _ _=>true
 | .bool _=>true
 | .str _=>true
 | .nilp=>true
 | .nils=>true
 | .nilm=>true
 | .nilf=>true
 | .nili=>true
 | .unk=>true
 | .sl _ xs=>xs.isEmpty
 | .slx _ _=>false
 | .agg cs=>jN cs
 | .ptr _=>false
 | .clo _ cs=>jN cs
 | .ifc _ d=>d.flat
 | .mpd _ _ _ _=>false
 | .yl _=>true
def jN:List D→Bool
 | []=>true
 | d::r=>d.flat && jN r
end
mutual
def AV.flat:AV→Bool
 | .un=>true
 | .d x=>x.flat
 | .vw _ _ _=>true
 | .bx _ _=>true
 | .el _ _ _=>true
 | .mp _=>true
 | .it _=>true
 | .agg cs=>gQ cs
 | .tup cs=>gQ cs
 | .clo _ cs=>gQ cs
def gQ:List AV→Bool
 | []=>true
 | x::r=>x.flat && gQ r
end
def tJ:List (D × D)→Bool
 | []=>true
 | x::r=>x.1.flat && x.2.flat && tJ r
def Ob.flat:Ob→Bool
 | .arrT _ _ xs=>jN xs
 | .boxT _ cs=>gQ cs
 | .map es=>tJ es
 | .siter _ _=>true
 | .miter _ _ _=>false
def k9:List (Name × Ob)→Bool
 | []=>true
 | x::r=>x.2.flat && k9 r
theorem fk:∀ {l:List D},jN l=true→∀ (i:Nat) d,l[i]?=some d→d.flat=true
 | [],_,i,d,h=>by simp at h
 | x::r,hf,i,d,h=>by
   simp only [jN,Bool.and_eq_true] at hf
   cases i with
   | zero=>cases h;exact hf.1
   | succ i=>exact fk hf.2 i d (by simpa using h)
theorem eL:∀ {l:List AV},gQ l=true→∀ (i:Nat) x,l[i]?=some x→x.flat=true
 | [],_,i,d,h=>by simp at h
 | x::r,hf,i,d,h=>by
   simp only [gQ,Bool.and_eq_true] at hf
   cases i with
   | zero=>cases h;exact hf.1
   | succ i=>exact eL hf.2 i d (by simpa using h)
theorem o0:∀ {l:List (D × D)},tJ l=true→∀ (i:Nat) x,l[i]?=some x→x.1.flat=true∧x.2.flat=true
 | [],_,i,d,h=>by simp at h
 | x::r,hf,i,d,h=>by
   simp only [tJ,Bool.and_eq_true] at hf
   cases i with
   | zero=>cases h;exact hf.1
   | succ i=>exact o0 hf.2 i d (by simpa using h)
theorem oK:∀ {l:List (Name × Ob)},k9 l=true→∀ q∈l,q.2.flat=true
 | [],_,q,h=>by simp at h
 | x::r,hf,q,h=>by
   simp only [k9,Bool.and_eq_true] at hf
   rcases List.mem_cons.1 h with rfl | h
   ·exact hf.1
   ·exact oK hf.2 q h
theorem Rep.reown {H H':Array Obj} {own own':Nat→Prop} {v:Value} {d:D} (h:Rep H own v d):d.flat=true→Rep H' own' v d:=by
 induction h with
 | int k n=>exact fun _=>.int k n
 | bool b=>exact fun _=>.bool b
 | str l=>exact fun _=>.str l
 | nilp=>exact fun _=>.nilp
 | nils=>exact fun _=>.nils
 | nilm=>exact fun _=>.nilm
 | nilf=>exact fun _=>.nilf
 | nili=>exact fun _=>.nili
 | unk v h=>exact fun _=>.unk v h
 | yl l=>exact fun _=>.yl l
 | agg vs cs hs hc _ ih=>exact fun hf=>.agg vs cs hs hc fun i d hi=>ih i d hi (fk hf i d hi)
 | sl0 a cap w=>exact fun _=>.sl0 a cap w
 | sl b o cap c e fz w xs hb hn hcap hz hw _ ih =>
   intro hf
   have:xs=[]:=by simpa [D.flat] using hf
   subst this
   exact .sl0 _ _ _
 | slx v w xs _ hc ih=>intro hf;cases hf
 | ptr b o c e fz d hb hn hz hsc _ ih=>intro hf;cases hf
 | clo f vs cs hs _ ih=>exact fun hf=>.clo f vs cs hs fun i d hi=>ih i d hi (fk hf i d hi)
 | ifc t v d _ ih=>exact fun hf=>.ifc t v d (ih hf)
 | mpd b clk ents bs ks vs hb hn hs hbs _ _ ih1 ih2=>intro hf;cases hf
section
variable {H:Array Obj} {own own':Nat→Prop} {used:List Nat} {hp:Name→Option Ob} {β:Name→Option Blk}
theorem VR.reown {v:Value} {x:AV} (h:VR H own used hp β v x):x.flat=true→VR H own' used hp β v x:=by
 induction h with
 | un v=>exact fun _=>.un v
 | d v x h=>exact fun hf=>.d v x (h.reown hf)
 | vw v p off len hu h1 h=>exact fun _=>.vw v p off len hu h1 h
 | bx v p c hu h1 h=>exact fun _=>.bx v p c hu h1 h
 | el v p i c hu h1 h=>exact fun _=>.el v p i c hu h1 h
 | mp v p hu h1 h=>exact fun _=>.mp v p hu h1 h
 | its v p hu h1 h h'=>exact fun _=>.its v p hu h1 h h'
 | agg vs cs hs hc _ ih=>exact fun hf=>.agg vs cs hs hc fun i x hi=>ih i x hi (eL hf i x hi)
 | tup vs cs hs _ ih=>exact fun hf=>.tup vs cs hs fun i x hi=>ih i x hi (eL hf i x hi)
 | clo f vs cs hs _ ih=>exact fun hf=>.clo f vs cs hs fun i x hi=>ih i x hi (eL hf i x hi)
theorem u6 {d:D} (h:d.flat=true):jN d.cells=true:=by
 cases d<;>first | exact h | (simp only [D.cells,jN,Bool.and_true];exact h)
theorem OR.reown {p:Name} {o:Ob} (h:OR H own used hp β p o) (hf:o.flat=true):OR H own' used hp β p o:=by
 cases o with
 | arrT ty w xs =>
   rcases h with h | ⟨k,c,e,hk,hc,hz,hl,hw,h⟩
   ·exact .inl h
   ·exact .inr ⟨k,c,e,hk,hc,hz,hl,hw,fun i x j d hi hj=>(h i x j d hi hj).reown (fk (u6 (fk hf i x hi)) j d hj)⟩
 | boxT ty cs =>
   obtain ⟨k,c,e,hk,ho,hc,hz,hl,h1,h⟩:=h
   exact ⟨k,c,e,hk,ho,hc,hz,hl,h1,fun j x hj=>(h j x hj).reown (eL hf j x hj)⟩
 | map es =>
   obtain ⟨k,ents,clock,hk,hc,hz,h⟩:=h
   refine ⟨k,ents,clock,hk,hc,hz,fun i x hi=>?_⟩
   obtain ⟨en,h1,h2,h3⟩:=h i x hi
   obtain ⟨g1,g2⟩:=o0 hf i x hi
   exact ⟨en,h1,h2.reown g1,h3.reown g2⟩
 | siter s pos=>exact h
 | miter _ _ _=>cases hf
end
theorem Sim.reown {n:Nat} {io:Os × Array (Nat × ByteArray)} {G:List (Nat × Obj)} {H0:Array Obj} {O0 A A2:Nat→Prop} {U0:List Nat} {β0:Name→Option Blk} {hA:∀ b,A b→b<H0.size} {hA2:∀ b,A2 b→b<H0.size} {hG:∀ q∈G,H0[q.1]?=some q.2∧¬ O0 q.1}
  {β:Name→Option Blk} {fr:List (Nat × AV)} {hp:List (Name × Ob)} {u:List Nat} {tm:Array Value} {w:World}
  (h:Sim ⟨n,io,G,H0,O0,A,U0,β0,hA,hG⟩ β (Go.Ab.mk fr hp u) tm w) (hO:∀ b,A2 b→¬ O0 b) (hf:∀ t,(lkA AV.un fr t).flat=true) (hh:k9 hp=true):Sim ⟨n,io,G,H0,O0,A2,U0,β0,hA2,hG⟩ β (Go.Ab.mk fr hp u) tm w:=by
 refine { tms:=h.tms,io:=h.io,size:=h.size,frame:=h.frame,slots:=fun t=>(h.slots t).reown (hf t),objs:=fun p o ho=>?_,blocks:=fun p k hp hk=>?_,inj:=h.inj,us:=h.us,stay:=h.stay }
 ·obtain ⟨h1,h2⟩:=h.objs p o ho
  exact ⟨h1,h2.reown (oK hh _ (fj ho))⟩
 ·obtain ⟨h1,_,h3⟩:=h.blocks p k hp hk
  refine ⟨h1,fun ha=>?_,h3⟩
  rcases h3 with h3 | h3
  ·exact absurd (hA2 _ ha) (Nat.not_lt.2 h3)
  ·exact hO _ ha h3
def St.bM (s:St) (L:List (Name × W × List D)):St:=L.foldl (fun s q=>s.frz q.1 q.2.1 q.2.2) s
theorem zR (s:St):s.bM []=s:=rfl
theorem x7 (s:St) (q:Name × W × List D) (L):s.bM (q::L)=(s.frz q.1 q.2.1 q.2.2).bM L:=rfl
theorem qQ:∀ (L:List (Name × W × List D)) (s:St) (p:Name) (o:Ob),(s.bM L).hp p=some o→s.hp p=some o
 | [],_,_,_,h=>h
 | q::L,s,p,o,h=>by
   have:=qQ L _ p o h
   have h2:au s.hp q.1 none p=some o:=this
   unfold au at h2
   split at h2
   ·cases h2
   ·exact h2
theorem mR {B:Base} {β:Name→Option Blk} {tm:Array Value} {w:World}:∀ (L:List (Name × W × List D)) (s:St),Sim B β s tm w→Lok s L→Sim B β (s.bM L) tm w
 | [],_,h,_=>h
 | _::L,_,h,hl=>mR L _ (h.frz hl.1) hl.2
theorem oY {P:Program} {B:Base} {β:Name→Option Blk} {s s':St} {tm tm':Array Value} {w:World} (h:Sim B β s tm w) (h':Sim B β s' tm' w) (hsub:∀ p o,s'.hp p=some o→s.hp p=some o) {f:FuncId} {cargs:List AV} {chp:List (Name × Ob)} {cu:List Nat} {Q0:AV→List (Name × Ob)→Prop} {σ:Name→Name} {d:Nat} (hd:d ∉ s.used)
  (hpass:dN σ cu s' chp) (hinj:kI σ chp) (hcu:dC cu cargs=true) {vs:Array Value} (hvs:vs.size=cargs.length) (hv:∀ (i:Nat) x,cargs[i]?=some x→VR w.heap (s'.own B.A β) s'.used s'.hp β (vs.getD i undef) (x.ren σ)) (hc:HCall P B.G f cargs chp cu Q0)
  (hflat:∀ r hp',Q0 r hp'→r.flat=true∧k9 hp'=true) :
  CallsIn Fence.wide 0 P f vs w fun e w'=>∃ v,e=.returned v∧∃ r hp',Q0 r hp'∧(gp chp hp'→∃ β2,Sim B β2 { aft s σ d chp hp' r with fr:=s.fr } tm w' ∧
   VR w'.heap ((aft s σ d chp hp' r).own B.A β2) (d::s.used) (aft s σ d chp hp' r).hp β2 v (r.ren (dV σ d chp))):=by
 obtain ⟨O0',hO⟩:∃ O0':Nat→Prop,∀ b,O0' b↔∃ p k,chp.any (fun q=>q.1 == p)=true∧β (σ p)=some k∧k.b=b:=⟨_,fun _=>Iff.rfl⟩
 obtain ⟨A',hA⟩:∃ A':Nat→Prop,∀ b,A' b↔s'.own B.A β b∧¬ O0' b:=⟨_,fun _=>Iff.rfl⟩
 obtain ⟨A2,hA2⟩:∃ A2:Nat→Prop,∀ b,A2 b↔s.own B.A β b∧¬ O0' b:=⟨_,fun _=>Iff.rfl⟩
 have hA':∀ b,A' b→b<w.heap.size:=fun b hb=>h'.qb ((hA b).1 hb).1
 have hA2':∀ b,A2 b→b<w.heap.size:=fun b hb=>h.qb ((hA2 b).1 hb).1
 have hpass0:dN σ cu s chp:=by
  clear hinj hO hcu hv hc
  induction chp with
  | nil=>trivial
  | cons q r ih=>exact ⟨⟨hsub _ _ hpass.1.1,hpass.1.2⟩,ih hpass.2⟩
 have hG':∀ q∈B.G,w.heap[q.1]?=some q.2∧¬ O0' q.1:=fun q hq=>by
  obtain ⟨g1,g2⟩:=B.hG q hq
  have hlt:=al g1
  refine ⟨(h.frame _ hlt g2).trans g1,fun hb=>?_⟩
  obtain ⟨p,k,hp,hk,e⟩:=(hO _).1 hb
  obtain ⟨o,ho⟩:=lL hp
  obtain ⟨h1,_,_⟩:=dc hpass0 _ (lkS ho)
  obtain ⟨_,_,g3⟩:=h.blocks (σ p) k (by rw [h1];simp) hk
  rcases g3 with g3 | g3
  ·omega
  ·exact g2 (e ▸ g3)
 have hβc:∀ p,chp.any (fun q=>q.1 == p)=true→(fun p=>β (σ p)) p=β (σ p):=fun _ _=>rfl
 have live:∀ p o,lkA none (chp.map fun x=>(x.1,some x.2)) p=some o→s'.hp (σ p)=some (o.ren σ)∧o.inU cu=true∧nm cu p:=fun p o ho=>by
  obtain ⟨h1,h2,h3⟩:=dc hpass _ (lkS ho)
  exact ⟨h1,h2,gh h3⟩
 have hown:∀ b,(mk (aB 0 cargs) chp cu).own A' (fun p=>β (σ p)) b→s'.own B.A β b:=by
  intro b hb
  rcases tB hb with hb | ⟨p,k,o,ho,hk,rfl⟩
  ·exact ((hA b).1 hb).1
  ·exact .inr ⟨σ p,k,by rw [(live p o ho).1];simp,hk,rfl⟩
 have hr:∀ v d,Rep w.heap (s'.own B.A β) v d→Rep w.heap ((mk (aB 0 cargs) chp cu).own A' (fun p=>β (σ p))) v d:=fun v d hd=>hd.mono (fun _ _ _=>rfl) (fun b _=>hown b)
 have hob:∀ p o,(mk (aB 0 cargs) chp cu).hp p=some o→s'.hp (σ p)=some (o.ren σ)∧(fun p=>β (σ p)) p=β (σ p):=fun p o ho=>⟨(live p o ho).1,rfl⟩
 have hsim:Sim { n:=cargs.length,io:=B.io,G:=B.G,H0:=w.heap,O0:=O0',A:=A',U0:=cu,β0:=fun p=>β (σ p),hA:=hA',hG:=hG' } (fun p=>β (σ p)) (mk (aB 0 cargs) chp cu) vs w:=by
  refine { tms:=hvs,io:=h.io,size:=Nat.le_refl _,frame:=fun _ _ _=>rfl,slots:=fun t=>?_,objs:=fun p o ho=>⟨(live p o ho).2.2,OR.ren hr hob rfl (live p o ho).2.1 (h'.objs _ _ (live p o ho).1).2⟩,blocks:=fun p k hp hk=>?_,inj:=fun p q k l hp hq hk hl e=>?_,us:=fun _ hx=>hx,stay:=fun _ _=>rfl }
  ·rw [cS,aN,if_pos (Nat.zero_le _),Nat.sub_zero]
   cases ht:cargs[t]? with
   | none=>exact .un _
   | some x=>exact (hv t x ht).ren hr hob x rfl (eG hcu t x ht)
  ·cases ho:(mk (aB 0 cargs) chp cu).hp p with
   | none=>exact absurd ho hp
   | some o =>
     have hin:O0' k.b:=(hO _).2 ⟨p,k,List.any_eq_true.2 ⟨_,lkS ho,by simp⟩,hk,rfl⟩
     obtain ⟨g1,_,_⟩:=h'.blocks (σ p) k (by rw [(live p o ho).1];simp) hk
     exact ⟨g1,fun ha=>((hA _).1 ha).2 hin,.inr hin⟩
  ·cases ho:(mk (aB 0 cargs) chp cu).hp p with
   | none=>exact absurd ho hp
   | some o =>
     cases ho':(mk (aB 0 cargs) chp cu).hp q with
     | none=>exact absurd ho' hq
     | some o' =>
       have e2:=h'.inj (σ p) (σ q) k l (by rw [(live p o ho).1];simp) (by rw [(live q o' ho').1];simp) hk hl e
       exact gW hinj _ (lkS ho) _ (lkS ho') e2
 have hgo:=fun h1 h2 h3 h4=>hc.2 _ _ vs w h1 h2 h3 h4 hsim
 refine (hgo rfl rfl rfl rfl).mono ?_
 rintro e w' ⟨v,r,hp',u',β',rfl,hQ,hs⟩
 obtain ⟨f1,f2⟩:=hflat r hp' hQ
 have hs2:=hs.reown (A2:=A2) (hA2:=hA2') (fun b hb=>((hA2 b).1 hb).2) (fun t=>by
  simp only [lkA]
  split
  ·exact f1
  ·rfl) f2
 exact ⟨v,rfl,r,hp',hQ,fun hl=>wh h hd hpass0 hinj hβc hO hA2 hA2' hG' hl hs2⟩
section
variable {P:Program} {cf:Cf}
theorem AQ {s:St} {k:List It} {Q:Exit→St→Prop} {dst:Option Nat} {fv:Operand} {args:Array Operand} {at':Array TypeId} {ty:TypeId} {pos:String} {af:Array Edge} {g:Option (Nat × Bool)}
  (L:List (Name × W × List D)) (hL:Lok s L) (d:Nat) (σ:Name→Name) (cargs:List AV) (chp:List (Name × Ob)) (cu:List Nat) (Q0:AV→List (Name × Ob)→Prop) {f:FuncId} {caps:List AV}
  (hev:ev (s.bM L) fv=.clo f caps) (hargs:args.toList.map (ev (s.bM L))++caps=dM σ cargs) (hcu:dC cu cargs=true) (hd:d ∉ s.used) (hdst:∀ t∈dst,t<cf.n∧t=d)
  (hpass:dN σ cu (s.bM L) chp) (hinj:kI σ chp) (hc:HCall P cf.G f cargs chp cu Q0) (hflat:∀ r hp',Q0 r hp'→r.flat=true∧k9 hp'=true)
  (hk:∀ r hp',Q0 r hp'→gp chp hp'∧run P cf k Q (C4 s σ d dst chp hp' r)) :
  AOk P cf { dst:=dst,op:=.call { callee:=.value fv,args:=args,argTypes:=at' },type:=ty,pos:=pos,after:=af,guard:=g } s k Q:=by
 intro B hB ds β a w hds h Q'
 refine ⟨fun _ _=>trivial,?_⟩
 have h':=mR L s h hL
 have hf:=h'.ev fv
 rw [hev] at hf
 generalize hfv:a.eval fv=fval at hf
 cases hf with
 | clo _ cvs _ hcs hcv =>
 have hrun:∀ vs,vs=(args.toList.map a.eval).toArray++cvs→(execOp a.eval { dst:=dst,op:=.call { callee:=.value fv,args:=args,argTypes:=at' },type:=ty,pos:=pos,after:=af,guard:=g }).run P w=.ok (.enter f vs) w:=by
  intro vs hvs
  have e:(execOp a.eval { dst:=dst,op:=.call { callee:=.value fv,args:=args,argTypes:=at' },type:=ty,pos:=pos,after:=af,guard:=g }:Sem Next)=callFunc f (#[]++args.map a.eval++cvs):=by
   show (do let d ← (Deferred.ofValue (a.eval fv) (args.map a.eval));invoke d.target d.args:Sem Next)=_
   rw [hfv];rfl
  rw [e,← hc.1 vs w,hvs]
  congr 2
  apply Array.ext'
  simp
 rw [Oper.semAt_eq _ _ _ (by simp),hrun _ rfl,Oper.uponIn_enter]
 refine ⟨fun hdep=>by simp [fx] at hdep,?_⟩
 have hlen:cargs.length=args.size+caps.length:=by
  have:=congrArg List.length hargs
  rw [bh] at this
  simpa using this.symm
 have hvs:((args.toList.map a.eval).toArray++cvs).size=cargs.length:=by simp [hcs,hlen]
 have hv:∀ (i:Nat) x,cargs[i]?=some x→VR w.heap ((s.bM L).own B.A β) (s.bM L).used (s.bM L).hp β (((args.toList.map a.eval).toArray++cvs).getD i undef) (x.ren σ):=by
  intro i x hi
  have hx:(dM σ cargs)[i]?=some (x.ren σ):=by rw [bT,hi];rfl
  rw [← hargs] at hx
  by_cases hlt:i<args.size
  ·have hx':(args.toList.map (ev (s.bM L)))[i]?=some (x.ren σ):=by rw [← hx,List.getElem?_append_left (by simpa using hlt)]
   have:=eM h' args.toList i _ hx'
   rw [show ((args.toList.map a.eval).toArray++cvs).getD i undef=(args.toList.map a.eval).toArray.getD i undef by simp [Array.getD_eq_getD_getElem?,Array.getElem?_append,hlt]]
   exact this
  ·have hx':caps[i-args.size]?=some (x.ren σ):=by rw [← hx,List.getElem?_append_right (by simpa using Nat.le_of_not_lt hlt)];simp
   have:=hcv _ _ hx'
   rw [show ((args.toList.map a.eval).toArray++cvs).getD i undef=cvs.getD (i-args.size) undef by simp [Array.getD_eq_getD_getElem?,Array.getElem?_append,hlt]]
   exact this
 have hcall:=oY (P:=P) h h' (fun p o ho=>qQ L s p o ho) (σ:=σ) hd hpass hinj hcu hvs hv (by rw [hB.2.2];exact hc) hflat
 have hcall':CallsIn (Fw cf.ro) (0-1) P f ((args.toList.map a.eval).toArray++cvs) w _:=hcall
 refine hcall'.mono ?_
 rintro e w' ⟨v,rfl,r,hp',hQ,hl⟩
 obtain ⟨hlk,hrun'⟩:=hk r hp' hQ
 obtain ⟨β2,hs2,hv2⟩:=hl hlk
 refine ⟨by cases dst<;>exact hds,C4 s σ d dst chp hp' r,β2,aP hrun',?_⟩
 cases dst with
 | none=>exact hs2
 | some t =>
   obtain ⟨ht,rfl⟩:=hdst t rfl
   exact hs2.put (by rw [hB.1];exact ht) hv2
theorem rK (l:List AV):dM id l=l:=by
 induction l with
 | nil=>rfl
 | cons x r ih=>rw [dM,ih,AV.dI id (fun _=>rfl)]
section
variable {Q:Exit→St→Prop} {s:St} {k:List It}
theorem zF (E:Eng P cf Q) {d:Nat} {fv:Operand} {args:Array Operand} {at':Array TypeId} {ty:TypeId} {pos:String} {af:Array Edge}
  {f:FuncId} {caps:List AV} (L:List (Name × W × List D)) (cargs:List AV) (chp:List (Name × Ob)) (cu:List Nat) {Q0:AV→List (Name × Ob)→Prop} (hc:HCall P cf.G f cargs chp cu Q0) (hflat:∀ r hp',Q0 r hp'→r.flat=true∧k9 hp'=true)
  (hL:Lok s L) (hev:ev (s.bM L) fv=.clo f caps) (hargs:args.toList.map (ev (s.bM L))++caps=cargs) (hd:d<cf.n∧d ∉ s.used) (hcu:dC cu cargs=true) (hpass:dN id cu (s.bM L) chp) (hinj:kI id chp)
  (hk:∀ r hp',Q0 r hp'→gp chp hp'∧E.run k (aft s id d chp hp' r)) :
  E.stp { dst:=some d,op:=.call { callee:=.value fv,args:=args,argTypes:=at' },type:=ty,pos:=pos,after:=af,guard:=none } s k .no:=by
 rw [aE]
 refine AQ L hL d id cargs chp cu Q0 hev ?_ hcu hd.2 (fun t ht=>?_) hpass hinj hc hflat fun r hp' hr=>?_
 ·rw [hargs,rK]
 ·obtain rfl:=Option.some.inj ht
  exact ⟨hd.1,rfl⟩
 ·obtain ⟨h1,h2⟩:=hk r hp' hr
  exact ⟨h1,by rw [← E.run_eq];exact h2⟩
theorem yu {dst:Option Nat} {fv:Operand} {args:Array Operand} {at':Array TypeId} {ty:TypeId} {pos:String} {af:Array Edge} {g:Option (Nat × Bool)}
  (L:List (Name × W × List D)) (hL:Lok s L) {f:FuncId} {caps:List AV} {ds:List D} {Q0:AV→Prop} (hc:HP P cf.G f ds Q0) (hflat:∀ r,Q0 r→r.flat=true)
  (hev:ev (s.bM L) fv=.clo f caps) (hargs:args.toList.map (ev (s.bM L))++caps=ds.map .d) (hdst:∀ t∈dst,t<cf.n) (hk:∀ r,Q0 r→run P cf k Q (s.ja dst r)) :
  AOk P cf { dst:=dst,op:=.call { callee:=.value fv,args:=args,argTypes:=at' },type:=ty,pos:=pos,after:=af,guard:=g } s k Q:=by
 intro B hB ds' β a w hds h Q'
 obtain ⟨d,hd⟩:=oL s.used
 refine ⟨fun _ _=>trivial,?_⟩
 have h':=mR L s h hL
 have hf:=h'.ev fv
 rw [hev] at hf
 generalize hfv:a.eval fv=fval at hf
 cases hf with
 | clo _ cvs _ hcs hcv =>
 have hrun:∀ vs,vs=(args.toList.map a.eval).toArray++cvs→(execOp a.eval { dst:=dst,op:=.call { callee:=.value fv,args:=args,argTypes:=at' },type:=ty,pos:=pos,after:=af,guard:=g }).run P w=.ok (.enter f vs) w:=by
  intro vs hvs
  have e:(execOp a.eval { dst:=dst,op:=.call { callee:=.value fv,args:=args,argTypes:=at' },type:=ty,pos:=pos,after:=af,guard:=g }:Sem Next)=callFunc f (#[]++args.map a.eval++cvs):=by
   show (do let d ← (Deferred.ofValue (a.eval fv) (args.map a.eval));invoke d.target d.args:Sem Next)=_
   rw [hfv];rfl
  rw [e,← hc.1 vs w,hvs]
  congr 2
  apply Array.ext'
  simp
 rw [Oper.semAt_eq _ _ _ (by simp),hrun _ rfl,Oper.uponIn_enter]
 refine ⟨fun hdep=>by simp [fx] at hdep,?_⟩
 have hlen:(ds.map AV.d).length=args.size+caps.length:=by
  have:=congrArg List.length hargs
  simpa using this.symm
 have hvs:((args.toList.map a.eval).toArray++cvs).size=(ds.map AV.d).length:=by simp [hcs] at hlen ⊢;omega
 have hv:∀ (i:Nat) x,(ds.map AV.d)[i]?=some x→VR w.heap ((s.bM L).own B.A β) (s.bM L).used (s.bM L).hp β (((args.toList.map a.eval).toArray++cvs).getD i undef) (x.ren id):=by
  intro i x hi
  rw [AV.dI id (fun _=>rfl)]
  have hx:=hi
  rw [← hargs] at hx
  by_cases hlt:i<args.size
  ·have hx':(args.toList.map (ev (s.bM L)))[i]?=some x:=by rw [← hx,List.getElem?_append_left (by simpa using hlt)]
   have:=eM h' args.toList i _ hx'
   rw [show ((args.toList.map a.eval).toArray++cvs).getD i undef=(args.toList.map a.eval).toArray.getD i undef by simp [Array.getD_eq_getD_getElem?,Array.getElem?_append,hlt]]
   exact this
  ·have hx':caps[i-args.size]?=some x:=by rw [← hx,List.getElem?_append_right (by simpa using Nat.le_of_not_lt hlt)];simp
   have:=hcv _ _ hx'
   rw [show ((args.toList.map a.eval).toArray++cvs).getD i undef=cvs.getD (i-args.size) undef by simp [Array.getD_eq_getD_getElem?,Array.getElem?_append,hlt]]
   exact this
 have hcall:=oY (P:=P) h h' (fun p o ho=>qQ L s p o ho) (Q0:=fun r hp'=>Q0 r∧r.inU []=true∧hp'=[]) (σ:=id) (d:=d) hd (chp:=[]) (cu:=[]) trivial trivial (uY _ _) hvs hv (by rw [hB.2.2];exact hc) (fun r hp' hq=>⟨hflat r hq.1,by rw [hq.2.2];rfl⟩)
 have hcall':CallsIn (Fw cf.ro) (0-1) P f ((args.toList.map a.eval).toArray++cvs) w _:=hcall
 refine hcall'.mono ?_
 rintro e w' ⟨v,rfl,r,hp',⟨hQ,hru,rfl⟩,hl⟩
 obtain ⟨β2,hs2,hv2⟩:=hl trivial
 rw [AV.n7 _ r hru] at hv2
 have hru':=AV.ml s.used r hru
 refine ⟨by cases dst<;>exact hds,s.ja dst r,?_⟩
 cases dst with
 | none =>
   obtain ⟨β3,h3⟩:=h.unuse hs2 rfl (t0:=0) (x0:=s.fr 0) (fun _=>.inr rfl) rfl (h.slots 0).inU
   exact ⟨β3,aP (hk r hQ),h3⟩
 | some t =>
   have h2:=hs2.put (t:=t) (by rw [hB.1];exact hdst t rfl) hv2
   obtain ⟨β3,h3⟩:=h.unuse h2 rfl (t0:=t) (x0:=r) (fun u=>by
    by_cases e:u=t
    ·exact .inl e
    ·exact .inr (by show de _ _ _ _=_;simp [de,e])) (by show de _ _ _ _=_;simp [de]) hru'
   exact ⟨β3,aP (hk r hQ),h3⟩
theorem lM (E:Eng P cf Q) {dst:Option Nat} {fv:Operand} {args:Array Operand} {at':Array TypeId} {ty:TypeId} {pos:String} {af:Array Edge}
  (L:List (Name × W × List D)) {f:FuncId} {caps:List AV} {ds:List D} {Q0:AV→Prop} (hc:HP P cf.G f ds Q0) (hflat:∀ r,Q0 r→r.flat=true) (hL:Lok s L)
  (hev:ev (s.bM L) fv=.clo f caps) (hargs:args.toList.map (ev (s.bM L))++caps=ds.map .d) (hdst:∀ t∈dst,t<cf.n) (hk:∀ r,Q0 r→E.run k (s.ja dst r)) :
  E.stp { dst:=dst,op:=.call { callee:=.value fv,args:=args,argTypes:=at' },type:=ty,pos:=pos,after:=af,guard:=none } s k .no:=by
 rw [aE]
 exact yu L hL hc hflat hev hargs hdst fun r hr=>by rw [← E.run_eq];exact hk r hr
section
variable {ops:Array Oper} {K:St→Ns→Prop} {r:List Oper} {ns:Ns}
end
end
attribute [go_sem] zR x7 D.flat jN AV.flat gQ k9 tJ Ob.flat List.isEmpty_nil
end
end Go.Ab
namespace Go.Ab
def Ob.frz (p:Name) (w:W) (xs:List D):Ob→Ob
 | .boxT ty cs=>.boxT ty (Go.Ab.bM p w xs cs)
 | o=>o
theorem Ob.zZ (p:Name) (w:W) (xs:List D) (o:Ob):o.like (o.frz p w xs):=by
 cases o<;>simp [Ob.frz,Ob.like]
def St.eQ (s:St) (p:Name) (w:W) (xs:List D):St:={ fr:=fun t=>(s.fr t).frz p w xs,hp:=fun q=>(au s.hp p none q).map (Ob.frz p w xs),used:=s.used }
theorem Sim.eQ {B:Base} {β:Name→Option Blk} {s:St} {tm:Array Value} {w:World} (h:Sim B β s tm w) {p:Name} {wf:W} {xs:List D} (hp:s.hp p=some (.arr wf xs)):Sim B β (s.eQ p wf xs) tm w:=by
 have hsub:∀ q o',(s.eQ p wf xs).hp q=some o'→q≠p∧∃ o,s.hp q=some o∧o'=o.frz p wf xs:=by
  intro q o' ho
  by_cases e:q=p
  ·subst e;simp [St.eQ,au] at ho
  ·simp only [St.eQ,au,if_neg e,Option.map_eq_some_iff] at ho
   obtain ⟨o,h1,h2⟩:=ho
   exact ⟨e,o,h1,h2.symm⟩
 have hne:∀ q,(s.eQ p wf xs).hp q≠none→s.hp q≠none∧q≠p:=by
  intro q hq
  cases ho:(s.eQ p wf xs).hp q with
  | none=>exact absurd ho hq
  | some o' =>
    obtain ⟨e,o,h1,_⟩:=hsub q o' ho
    exact ⟨by rw [h1];simp,e⟩
 have hr:∀ v d',Rep w.heap (s.own B.A β) v d'→Rep w.heap ((s.eQ p wf xs).own B.A β) v d':=fun v d' hd=>hd.mono (fun _ _ _=>rfl) (by
  rintro b _ (hA | ⟨q,k,hq,hk,e⟩)
  ·exact .inl hA
  ·exact .inr ⟨q,k,(hne q hq).1,hk,e⟩)
 have hst:∀ q,nm s.used q→Stays s.hp (s.eQ p wf xs).hp β β q:=fun q _ o' ho'=>by
  obtain ⟨_,o,h1,rfl⟩:=hsub q o' ho'
  exact ⟨o,h1,Ob.zZ p wf xs o,rfl⟩
 have hno:∀ k,β p=some k→¬ (s.eQ p wf xs).own B.A β k.b:=by
  rintro k hk (hA | ⟨q,k',hq,hk',e⟩)
  ·exact (h.blocks p k (by rw [hp];simp) hk).2.1 hA
  ·exact (hne q hq).2 (h.inj q p k' k (hne q hq).1 (by rw [hp];simp) hk' hk e)
 have hvr:∀ {v:Value} {x:AV},VR w.heap (s.own B.A β) s.used s.hp β v x→VR w.heap ((s.eQ p wf xs).own B.A β) s.used (s.eQ p wf xs).hp β v (x.frz p wf xs):=fun hv=>hv.frz hr hst hp (h.objs p _ hp).2 hno
 refine { tms:=h.tms,io:=h.io,size:=h.size,frame:=h.frame,slots:=fun i=>hvr (h.slots i),objs:=fun q o' ho'=>?_,blocks:=fun q k hq hk=>h.blocks q k (hne q hq).1 hk,inj:=fun q q' k k' hq hq'=>h.inj q q' k k' (hne q hq).1 (hne q' hq').1,us:=h.us,stay:=h.stay }
 obtain ⟨_,o,h1,rfl⟩:=hsub q o' ho'
 obtain ⟨g1,g2⟩:=h.objs q o h1
 refine ⟨g1,?_⟩
 cases o with
 | boxT ty cs =>
   obtain ⟨k,c,e,a1,a2,a3,a4,a5,a6,a7⟩:=g2
   refine ⟨k,c,e,a1,a2,a3,a4,by rw [a5,dx],a6,fun j x hj=>?_⟩
   rw [gR,Option.map_eq_some_iff] at hj
   obtain ⟨y,hy,rfl⟩:=hj
   exact hvr (a7 j y hy)
 | _=>exact g2.mono hr (fun _ h=>h) hst rfl fun _ _=>rfl
theorem rY (p:Name) (w:W) (xs:List D) (q:Name):∀ l:List (Name × Ob),(lkA none (l.map fun x=>(x.1,some x.2)) q).map (Ob.frz p w xs)=lkA none ((l.map fun x=>(x.1,x.2.frz p w xs)).map fun x=>(x.1,some x.2)) q
 | []=>rfl
 | x::r=>by
   simp only [lkA,List.map_cons]
   split
   ·rfl
   ·exact rY p w xs q r
theorem vC (fr:List (Nat × AV)) (hp:List (Name × Ob)) (u:List Nat) (p:Name) (w:W) (xs:List D):(mk fr hp u).eQ p w xs=mk (fr.map fun q=>(q.1,q.2.frz p w xs)) ((iE hp p).map fun q=>(q.1,q.2.frz p w xs)) u:=by
 unfold St.eQ mk
 congr 1
 ·funext t
  exact pD p w xs t fr
 ·funext q
  rw [← rY,fN,gb]
  rfl
attribute [go_sem] vC Ob.frz
section
variable {P:Program} {cf:Cf} {Q:Exit→St→Prop} {s:St} {k:List It}
theorem jX (E:Eng P cf Q) {d:Option Nat} {op:Op} {ty:TypeId} {ps:String} {af:Array Edge} (p:Name) (w:W) (xs:List D) (hp:s.hp p=some (.arr w xs)) {s':St} (he:s.eQ p w xs=s') (h:E.stp { dst:=d,op:=op,type:=ty,pos:=ps,after:=af,guard:=none } s' k (opR P.ti cf.n op d s')) :
  E.stp { dst:=d,op:=op,type:=ty,pos:=ps,after:=af,guard:=none } s k .no:=by
 subst he
 rw [aE]
 rw [E.stp_eq] at h
 have h1:=cZ (o:={ dst:=d,op:=op,type:=ty,pos:=ps,after:=af,guard:=none }) rfl h
 intro B hB ds β a w' hds hs Q'
 exact h1 B hB ds β a w' hds (hs.eQ hp) Q'
theorem j3 (E:Eng P cf Q) {c:Code} (p:Name) (w:W) (xs:List D) (hp:s.hp p=some (.arr w xs)) (h:er E c (s.eQ p w xs) k):er E c s k:=by
 intro B hB ds β a w' hds hs
 exact h B hB ds β a w' hds (hs.eQ hp)
section
variable {ops:Array Oper} {K:St→Ns→Prop} {r:List Oper} {ns:Ns}
end
end
end Go.Ab
namespace Go.Ab
open Go.ChangeMaps (setBlock)
mutual
def AV.frM (p:Name) (d:D):AV→AV
 | .un=>.un
 | .d x=>.d x
 | .vw q o l=>.vw q o l
 | .bx q c=>.bx q c
 | .el q i c=>.el q i c
 | .mp q=>if q=p then .d d else .mp q
 | .it q=>.it q
 | .agg cs=>eS (jV p d cs)
 | .tup cs=>.tup (jV p d cs)
 | .clo f cs=>rv f (jV p d cs)
def jV (p:Name) (d:D):List AV→List AV
 | []=>[]
 | x::r=>x.frM p d::jV p d r
end
theorem dB (p:Name) (d:D):∀ l:List AV,(jV p d l).length=l.length
 | []=>rfl
 | _::r=>by simp [jV,dB p d r]
theorem gO (p:Name) (d:D):∀ (l:List AV) (i:Nat),(jV p d l)[i]?=(l[i]?).map (AV.frM p d)
 | [],i=>by simp [jV]
 | x::r,i=>by
   cases i with
   | zero=>simp [jV]
   | succ i=>simpa [jV] using gO p d r i
section
variable {H:Array Obj} {own own':Nat→Prop} {used:List Nat} {hp hp':Name→Option Ob} {β:Name→Option Blk}
theorem VR.frM {p:Name} {d:D} {es:List (D × D)} (hr:∀ v d,Rep H own v d→Rep H own' v d) (hst:∀ q,nm used q→Stays hp hp' β β q) (hp0:hp p=some (.map es)) (hd:∀ k,β p=some k→Rep H own' (.map (some k.b)) d)
  {v:Value} {x:AV} (h:VR H own used hp β v x):VR H own' used hp' β v (x.frM p d):=by
 induction h with
 | un v=>exact .un v
 | d v x h=>exact .d v x (hr v x h)
 | vw v q off len hn h1 h=>exact VR.mono hr (fun _ h=>h) hst (.vw v q off len hn h1 h)
 | bx v q c hn h1 h=>exact VR.mono hr (fun _ h=>h) hst (.bx v q c hn h1 h)
 | el v q i c hn h1 h=>exact VR.mono hr (fun _ h=>h) hst (.el v q i c hn h1 h)
 | mp v q hn h1 h =>
   unfold AV.frM
   split
   ·rename_i e
    subst e
    obtain ⟨k,hk,rfl⟩:=h _ hp0
    exact .d _ _ (hd k hk)
   ·exact VR.mono hr (fun _ h=>h) hst (.mp v q hn h1 h)
 | its v q hn h1 h h'=>exact VR.mono hr (fun _ h=>h) hst (.its v q hn h1 h h')
 | agg vs cs hs hc _ ih =>
   have:=ef (H:=H) (own:=own') (used:=used) (hp:=hp') (β:=β) (vs:=vs.toList) (cs:=jV p d cs) (by rw [dB];simpa using hs) (by simpa using hc) (fun i v x hv hx=>by
    rw [gO,Option.map_eq_some_iff] at hx
    obtain ⟨y,hy,rfl⟩:=hx
    have:=ih i y hy
    have e:vs.getD i undef=v:=by
     simp only [Array.getElem?_toList] at hv
     simp [Array.getD_eq_getD_getElem?,hv]
    rw [e] at this
    exact this)
   simpa [AV.frM] using this
 | tup vs cs hs _ ih =>
   refine .tup vs _ (by rw [dB];exact hs) (fun i x hi=>?_)
   rw [gO,Option.map_eq_some_iff] at hi
   obtain ⟨y,hy,rfl⟩:=hi
   exact ih i y hy
 | clo f vs cs hs _ ih =>
   refine ph (by rw [dB];exact hs) (fun i x hi=>?_)
   rw [gO,Option.map_eq_some_iff] at hi
   obtain ⟨y,hy,rfl⟩:=hi
   exact ih i y hy
end
def Ob.frM (p:Name) (d:D):Ob→Ob
 | .boxT ty cs=>.boxT ty (jV p d cs)
 | o=>o
theorem Ob.AJ (p:Name) (d:D) (o:Ob):o.like (o.frM p d):=by
 cases o<;>simp [Ob.frM,Ob.like]
def St.frM (s:St) (p:Name) (d:D):St:={ fr:=fun t=>(s.fr t).frM p d,hp:=fun q=>(au s.hp p none q).map (Ob.frM p d),used:=s.used }
def mpD (clk:Nat) (bs:List Nat) (es:List (D × D)):D:=.mpd clk bs (es.map (·.1)) (es.map (·.2))
def Stamps (clk:Nat) (bs:List Nat) (es:List (D × D)):Prop:=bs.length=es.length∧bs.Nodup∧∀ b∈bs,b<clk
theorem Sim.frM {B:Base} {β:Name→Option Blk} {s:St} {tm:Array Value} {w:World} (h:Sim B β s tm w) {p:Name} {es:List (D × D)} (hp:s.hp p=some (.map es)):∃ clk bs,Stamps clk bs es∧Sim B β (s.frM p (mpD clk bs es)) tm w:=by
 obtain ⟨k0,ents,clk,hk0,hc0,⟨hsz,hb1,hb2⟩,hent⟩:=(h.objs p _ hp).2
 refine ⟨clk,ents.toList.map (·.born),⟨by simp [hsz],hb1,fun b hb=>?_⟩,?_⟩
 ·obtain ⟨e,he,rfl⟩:=List.mem_map.1 hb
  exact hb2 e he
 obtain ⟨d,hd0⟩:∃ d,d=mpD clk (ents.toList.map (·.born)) es:=⟨_,rfl⟩
 rw [← hd0]
 have hsub:∀ q o',(s.frM p d).hp q=some o'→q≠p∧∃ o,s.hp q=some o∧o'=o.frM p d:=by
  intro q o' ho
  by_cases e:q=p
  ·subst e;simp [St.frM,au] at ho
  ·simp only [St.frM,au,if_neg e,Option.map_eq_some_iff] at ho
   obtain ⟨o,h1,h2⟩:=ho
   exact ⟨e,o,h1,h2.symm⟩
 have hne:∀ q,(s.frM p d).hp q≠none→s.hp q≠none∧q≠p:=by
  intro q hq
  cases ho:(s.frM p d).hp q with
  | none=>exact absurd ho hq
  | some o' =>
    obtain ⟨e,o,h1,_⟩:=hsub q o' ho
    exact ⟨by rw [h1];simp,e⟩
 have hr:∀ v d',Rep w.heap (s.own B.A β) v d'→Rep w.heap ((s.frM p d).own B.A β) v d':=fun v d' hd=>hd.mono (fun _ _ _=>rfl) (by
  rintro b _ (hA | ⟨q,k,hq,hk,e⟩)
  ·exact .inl hA
  ·exact .inr ⟨q,k,(hne q hq).1,hk,e⟩)
 have hst:∀ q,nm s.used q→Stays s.hp (s.frM p d).hp β β q:=fun q _ o' ho'=>by
  obtain ⟨_,o,h1,rfl⟩:=hsub q o' ho'
  exact ⟨o,h1,Ob.AJ p d o,rfl⟩
 have hno:∀ k,β p=some k→¬ (s.frM p d).own B.A β k.b:=by
  rintro k hk (hA | ⟨q,k',hq,hk',e⟩)
  ·exact (h.blocks p k (by rw [hp];simp) hk).2.1 hA
  ·exact (hne q hq).2 (h.inj q p k' k (hne q hq).1 (by rw [hp];simp) hk' hk e)
 have hgd:∀ (i:Nat) (en:MapEntry),ents[i]?=some en→ents.getD i default=en:=fun i en h=>by simp [Array.getD_eq_getD_getElem?,h]
 have hdr:∀ k,β p=some k→Rep w.heap ((s.frM p d).own B.A β) (.map (some k.b)) d:=by
  intro k hk
  obtain rfl:=Option.some.inj (hk.symm.trans hk0)
  rw [hd0]
  refine .mpd k.b clk ents _ _ _ hc0 (by rw [← hd0];exact hno k hk) ⟨by simp [hsz],by simp⟩ rfl (fun i x hi=>?_) (fun i x hi=>?_)
  ·rw [List.getElem?_map,Option.map_eq_some_iff] at hi
   obtain ⟨y,hy,rfl⟩:=hi
   obtain ⟨en,h1,h2,_⟩:=hent i y hy
   rw [hgd i en h1,← hd0]
   exact hr _ _ h2
  ·rw [List.getElem?_map,Option.map_eq_some_iff] at hi
   obtain ⟨y,hy,rfl⟩:=hi
   obtain ⟨en,h1,_,h2⟩:=hent i y hy
   rw [hgd i en h1,← hd0]
   exact hr _ _ h2
 have hvr:∀ {v:Value} {x:AV},VR w.heap (s.own B.A β) s.used s.hp β v x→VR w.heap ((s.frM p d).own B.A β) s.used (s.frM p d).hp β v (x.frM p d):=fun hv=>hv.frM hr hst hp hdr
 refine { tms:=h.tms,io:=h.io,size:=h.size,frame:=h.frame,slots:=fun i=>hvr (h.slots i),objs:=fun q o' ho'=>?_,blocks:=fun q k hq hk=>h.blocks q k (hne q hq).1 hk,inj:=fun q q' k k' hq hq'=>h.inj q q' k k' (hne q hq).1 (hne q' hq').1,us:=h.us,stay:=h.stay }
 obtain ⟨_,o,h1,rfl⟩:=hsub q o' ho'
 obtain ⟨g1,g2⟩:=h.objs q o h1
 refine ⟨g1,?_⟩
 cases o with
 | boxT ty cs =>
   obtain ⟨k,c,e,a1,a2,a3,a4,a5,a6,a7⟩:=g2
   refine ⟨k,c,e,a1,a2,a3,a4,by rw [a5,dB],a6,fun j x hj=>?_⟩
   rw [gO,Option.map_eq_some_iff] at hj
   obtain ⟨y,hy,rfl⟩:=hj
   exact hvr (a7 j y hy)
 | _=>exact g2.mono hr (fun _ h=>h) hst rfl fun _ _=>rfl
attribute [go_sem] AV.frM jV Ob.frM
section
variable {P:Program} {cf:Cf} {Q:Exit→St→Prop} {s:St} {k:List It}
end
end Go.Ab

namespace Go.Ab
section
variable {P:Program} {cf:Cf}
theorem Sim.mv {B B':Base} {β:Name→Option Blk} {s:St} {tm:Array Value} {w w':World} (h:Sim B β s tm w) (hn:B'.n=B.n) (hio:wio w'=B'.io) (hsz:B'.H0.size≤w'.heap.size)
  (hfr:∀ b,b<B'.H0.size→¬ B'.O0 b→w'.heap[b]?=B'.H0[b]?) (hw:w.heap.size≤w'.heap.size) (hk:∀ b,b<w.heap.size→¬ B.A b→w'.heap[b]?=w.heap[b]?)
  (hA:∀ b,b<w.heap.size→B'.A b→B.A b) (hbl:∀ p k,s.hp p≠none→β p=some k→B'.H0.size≤k.b∨B'.O0 k.b)
  (hus:∀ x∈B'.U0,x∈s.used) (hst:∀ p,nm B'.U0 p→β p=B'.β0 p):Sim B' β s tm w':=by
 have hown:∀ b,b<w.heap.size→s.own B'.A β b→s.own B.A β b:=by
  rintro b hb (h1 | h1)
  ·exact .inl (hA b hb h1)
  ·exact .inr h1
 have hr:∀ v d,Rep w.heap (s.own B.A β) v d→Rep w'.heap (s.own B'.A β) v d:=fun v d hd=>hd.mono (fun b hb hlt=>hk b hlt (fun ha=>hb (.inl ha))) hown
 have hst':∀ p,nm s.used p→Stays s.hp s.hp β β p:=fun p _ o' ho=>⟨o',ho,Ob.bE _,rfl⟩
 refine { tms:=h.tms.trans hn.symm,io:=hio,size:=hsz,frame:=hfr,slots:=fun t=>(h.slots t).mono hr (fun _ h=>h) hst',objs:=fun p o ho=>⟨(h.objs p o ho).1,(h.objs p o ho).2.mono hr (fun _ h=>h) hst' rfl (fun k hk'=>?_)⟩,blocks:=fun p k hp hk'=>?_,inj:=h.inj,us:=hus,stay:=hst }
 ·obtain ⟨b1,b2,_⟩:=h.blocks p k (by rw [ho];simp) hk'
  exact hk k.b b1 b2
 ·obtain ⟨b1,b2,_⟩:=h.blocks p k hp hk'
  exact ⟨Nat.lt_of_lt_of_le b1 hw,fun ha=>b2 (hA _ b1 ha),hbl p k hp hk'⟩
def bk (s:St) (β:Name→Option Blk) (b:Nat):Prop:=∃ p k,s.hp p≠none∧β p=some k∧k.b=b
theorem Sim.bu {B:Base} {β:Name→Option Blk} {s:St} {tm:Array Value} {w:World} (h:Sim B β s tm w) {b:Nat} (hb:bk s β b):b<w.heap.size∧¬ B.A b∧(B.H0.size≤b∨B.O0 b):=by
 obtain ⟨p,k,hp,hk,rfl⟩:=hb
 exact h.blocks p k hp hk
def ARY (P:Program) (cf:Cf) (Φ:Exit→Act→World→Prop) (I:Base→List Deferred→Prop) (k:List It) (s:St):Prop :=
 ∀ B,cf.fits B→∀ ds β a w,a.defers=ds→I B ds→Sim B β s a.tmps w→hold P cf Φ k .normal a w
def ARX (cf:Cf) (Φ:Exit→Act→World→Prop) (I:Base→List Deferred→Prop) (e:Exit) (s:St):Prop :=
 ∀ B,cf.fits B→∀ ds β a w,a.defers=ds→I B ds→Sim B β s a.tmps w→Φ e a w
def yq (P:Program) (cf:Cf) (Φ:Exit→Act→World→Prop) (I:Base→List Deferred→Prop) (k:List It) (e:Exit) (s:St):Prop :=
 match e with
 | .normal=>ARY P cf Φ I k s
 | .exit i=>(match eJ i k with
   | some k'=>ARY P cf Φ I k' s
   | none=>ARX cf Φ I (.exit i) s)
 | .ret=>ARX cf Φ I .ret s
 | _=>False
variable {Φ:Exit→Act→World→Prop} {I:Base→List Deferred→Prop} {k:List It} {s:St} {B:Base} {ds:List Deferred} {e:Exit} {a:Act} {w:World}
theorem xQ:yq P cf Φ I k .normal s=ARY P cf Φ I k s:=rfl
theorem F2:yq P cf Φ I k .ret s=ARX cf Φ I .ret s:=rfl
theorem tY (i:Nat):yq P cf Φ I [] (.exit i) s=ARX cf Φ I (.exit i) s:=rfl
theorem qH (i:Nat) (c:Code):yq P cf Φ I (.code c::k) (.exit i) s=yq P cf Φ I k (.exit i) s:=rfl
theorem rb (i:Nat) (all:Array Oper) (r:List Oper):yq P cf Φ I (.ops all r::k) (.exit i) s=yq P cf Φ I k (.exit i) s:=rfl
theorem vn (i:Nat):yq P cf Φ I (.blk i::k) (.exit i) s=ARY P cf Φ I k s:=by simp [yq,eJ]
theorem jm {β:Name→Option Blk} (hB:cf.fits B) (hI:I B ds) (hd:a.defers=ds) (hq:yq P cf Φ I k e s) (hs:Sim B β s a.tmps w):hold P cf Φ k e a w:=by
 cases e with
 | normal=>exact hq B hB ds β a w hd hI hs
 | exit i =>
   simp only [yq] at hq
   split at hq
   ·rename_i k' hk';exact bF _ i k k' a w hk' (hq B hB ds β a w hd hI hs)
   ·rename_i hk';exact bG _ i k a w hk' (hq B hB ds β a w hd hI hs)
 | ret=>exact eB _ k a w (hq B hB ds β a w hd hI hs)
 | goto l=>exact hq.elim
 | panic c=>exact hq.elim
 | outgrown=>exact hq.elim
theorem wB (hB:cf.fits B) (hI:I B ds) (h:lift B ds (yq P cf Φ I k) e a w):hold P cf Φ k e a w:=by
 obtain ⟨hd,s',β',hq,hs⟩:=h
 exact jm hB hI hd hq hs
theorem GM {c:Code} (h:run P cf [.code c] (yq P cf Φ I k) s):ARY P cf Φ I (.code c::k) s :=
 fun B hB ds β a w hds hI hs=>wpIn_mono (aP h B hB ds β a w hds hs) fun _ _ _ hq=>wB hB hI hq
theorem az {c:Code} (h:∀ E:Eng P cf (yq P cf Φ I k),E.run [.code c] s):ARY P cf Φ I (.code c::k) s:=GM (veil h)
theorem bf {x y:Code} (h:ARY P cf Φ I (.code x::.code y::k) s):ARY P cf Φ I (.code (.seq x y)::k) s :=
 fun B hB ds β a w hds hI hs=>wpIn_seq (wpIn_mono (h B hB ds β a w hds hI hs) (pc _ y k))
theorem lB {i:Nat} {x:Code} (h:ARY P cf Φ I (.code x::.blk i::k) s):ARY P cf Φ I (.code (.block i x)::k) s :=
 fun B hB ds β a w hds hI hs=>wpIn_block (wpIn_mono (h B hB ds β a w hds hI hs) (mZ _ i k))
theorem EZ {i:Nat} (h:ARY P cf Φ I k s):ARY P cf Φ I (.blk i::k) s:=fun B hB ds β a w hds hI hs=>h B hB ds β a w hds hI hs
theorem H3 (h:ARX cf Φ I .normal s):ARY P cf Φ I [] s:=fun B hB ds β a w hds hI hs=>h B hB ds β a w hds hI hs
theorem rL {i:Nat} {ops:List Oper} (h:ARY P cf Φ I (.ops ops.toArray ops::k) s):ARY P cf Φ I (.code (.region i ops.toArray false)::k) s:=by
 intro B hB ds β a w hds hI hs
 refine wpIn_region ?_
 refine h B hB ds β a w hds hI hs _ ?_
 apply List.ext_getElem?
 intro j
 simp only [List.getElem?_map,List.size_toArray,List.getElem?_toArray]
 by_cases hj:j<ops.length
 ·simp [hj]
 ·simp [hj]
theorem yF {all:Array Oper} (h:ARY P cf Φ I k s):ARY P cf Φ I (.ops all []::k) s:=by
 intro B hB ds β a w hds hI hs l hl
 cases l with
 | nil=>exact h B hB ds β a w hds hI hs
 | cons i l=>simp at hl
theorem DT {all:Array Oper} {o:Oper} {r:List Oper} (hg:o.guard=none) (h:(opR P.ti cf.n o.op o.dst s).run (fun s'=>ARY P cf Φ I (.ops all r::k) s') False):ARY P cf Φ I (.ops all (o::r)::k) s:=by
 intro B hB ds β a w hds hI hs l hl
 cases l with
 | nil=>simp at hl
 | cons i l =>
   simp only [List.map_cons,List.cons.injEq] at hl
   obtain ⟨hi,hl⟩:=hl
   have hw:Region.wanted o (yielded all a.tmps)=true:=by simp [Region.wanted,hg]
   simp only [wpOpsIn,hi,hw,if_true]
   rw [← hB.1] at h
   rcases fo hs h with hz | ⟨nx,v,w',s',β',hrun,hnx,hf,hs'⟩
   ·exact hz.elim
   ·have hnd:∀ c,o.op≠.defer c:=by
     intro c hc
     have:∃ d w2,(execOp a.eval o).run P w=.ok (.defer d) w2∨∃ h w2,(execOp a.eval o).run P w=.halt h w2:=by
      simp only [execOp,hc,Sem.run_bind]
      cases (resolve a.eval c o.type).run P w with
      | ok d w2=>exact ⟨d,w2,.inl rfl⟩
      | halt hh w2=>exact ⟨default,w2,.inr ⟨hh,w2,rfl⟩⟩
     obtain ⟨d,w2,h1 | ⟨hh,w3,h1⟩⟩:=this
     ·rw [hrun] at h1;cases h1;rcases hnx with h2 | ⟨h2,_⟩<;>cases h2
     ·rw [hrun] at h1;cases h1
    refine aA hnd hrun hnx (hf B hB ds β' _ w' ?_ hI hs' l hl)
    cases o.dst<;>exact hds
theorem CZ (s':St) (f:St→Prop) (z:Prop):(R.ok s').run f z=f s':=rfl
theorem yQ (p:Prop) (x:R St) (f:St→Prop) (z:Prop):(R.need p x).run f z=(p∧x.run f z):=rfl
def lpY (P:Program) (cf:Cf) (Φ:Exit→Act→World→Prop) {X:Type} (S:X→St) (J:X→Base→List Deferred→Prop) (μ:X→Nat) (x:X) (k:List It) (e:Exit) (a:Act) (w:World):Prop :=
 match e with
 | .normal=>∃ y,μ y<μ x∧∃ B,cf.fits B∧J y B a.defers∧∃ β,Sim B β (S y) a.tmps w
 | e=>hold P cf Φ k e a w
theorem Gc {X:Type} (S:X→St) (J:X→Base→List Deferred→Prop) (μ:X→Nat) {c:Code} (x0:X) (h0:∃ τ,Le cf.U τ s (S x0)) (hI:∀ B ds,I B ds→J x0 B ds)
  (hr:∀ x,ARY P cf (lpY P cf Φ S J μ x k) (J x) [.code c] (S x)):ARY P cf Φ I (.code (.loop c)::k) s:=by
 have key:∀ N x,μ x<N→∀ (B:Base),cf.fits B→∀ ds β a w,a.defers=ds→J x B ds→Sim B β (S x) a.tmps w→Code.roundsIn (Fw cf.ro) 0 P c (hold P cf Φ k) N a w:=by
  intro N
  induction N with
  | zero=>intro x hx;omega
  | succ N ih =>
    intro x hx B hB ds β a w hds hJ h
    rw [roundsIn_succ]
    refine wpIn_mono (hr x B hB ds β a w hds hJ h) fun e a' w' hq=>?_
    cases e with
    | normal =>
      obtain ⟨y,hy,B',hB',hJ',β',hs'⟩:=hq
      exact ih y (by omega) B' hB' _ β' a' w' rfl hJ' hs'
    | exit i=>exact hq
    | ret=>exact hq
    | goto l=>exact hq
    | panic c=>exact hq
    | outgrown=>exact hq
 obtain ⟨τ,hle⟩:=h0
 intro B hB ds β a w hds hi h
 obtain ⟨β2,hs2,_⟩:=h.le (τ:=τ) (by rw [hB.2.1];exact hle)
 exact wpIn_loop_rounds (μ x0+1) (key _ x0 (Nat.lt_succ_self _) B hB ds β2 a w hds (hI _ _ hi) hs2)
theorem rE {X:Type} {S:X→St} {J:X→Base→List Deferred→Prop} {μ:X→Nat} {x:X} (y:X) (hy:μ y<μ x) (τ:Name→Name) (hle:Le cf.U τ s (S y)) (hI:∀ B ds,I B ds→J y B ds):ARY P cf (lpY P cf Φ S J μ x k) I [] s:=by
 intro B hB ds β a w hds hi h
 obtain ⟨β2,hs2,_⟩:=h.le (τ:=τ) (by rw [hB.2.1];exact hle)
 exact ⟨y,hy,B,hB,by rw [hds];exact hI _ _ hi,β2,hs2⟩
theorem tS {X:Type} {S:X→St} {J:X→Base→List Deferred→Prop} {μ:X→Nat} {x:X} {i:Nat} (h:yq P cf Φ I k (.exit i) s):ARX cf (lpY P cf Φ S J μ x k) I (.exit i) s :=
 fun _ hB _ _ _ _ hds hi hs=>jm hB hi hds h hs
theorem l8 {X:Type} {S:X→St} {J:X→Base→List Deferred→Prop} {μ:X→Nat} {x:X} (h:ARX cf Φ I .ret s):ARX cf (lpY P cf Φ S J μ x k) I .ret s :=
 fun B hB ds β a w hds hi hs=>eB _ k a w (h B hB ds β a w hds hi hs)
end
end Go.Ab
namespace Go.Ab
structure Stp (W:World) (X:Nat→Prop) (W':World) (X':Nat→Prop):Prop where
 size:W.heap.size≤W'.heap.size
 io:wio W'=wio W
 same:∀ b,b<W.heap.size→¬ X b→W'.heap[b]?=W.heap[b]?
 new:∀ b,X' b→(X b∨W.heap.size≤b)∧b<W'.heap.size
structure Itz where
 l:Nat
 w:World
 C0:Nat→Prop
 J:Nat→(Nat→Prop)→(Nat→Prop)→World→Prop
 Jx:Nat→(Nat→Prop)→(Nat→Prop)→World→Prop
structure Itz.Ok (P:Program) (G:List (Nat × Obj)) (N:Nat) (xs:Nat→List D) (z:Itz):Prop where
 lt:∀ b,z.C0 b→b<z.w.heap.size
 stab:∀ n C X W X' W',z.J n C X W→Stp W X W' X'→z.J n C X' W'
 stabx:∀ n C X W X' W',z.Jx n C X W→Stp W X W' X'→z.Jx n C X' W'
 round:∀ n C X W vs,n<N→z.J n C X W→vs.size=(xs n).length→(∀ i d,(xs n)[i]?=some d→Rep W.heap (fun b=>C b∨X b) (vs.getD i undef) d) →
  YieldAt Fence.wide 0 P z.l vs W fun e W'=>∃ C',(wio W'=wio W∧W.heap.size≤W'.heap.size∧(∀ b,b<W.heap.size→¬ C b→W'.heap[b]?=W.heap[b]?)∧(∀ q∈G,W'.heap[q.1]?=W.heap[q.1]?)∧∀ b,C' b→(C b∨W.heap.size≤b)∧b<W'.heap.size) ∧
   ((e=.returned (.bool true)∧z.J (n+1) C' X W')∨(e=.returned (.bool false)∧z.Jx (n+1) C' X W'))
def ItC (P:Program) (G:List (Nat × Obj)) (f:FuncId) (caps:List D) (N:Nat) (xs:Nat→List D):Prop :=
 (∀ vs w,(callFunc f vs).run P w=.ok (.enter f vs) w) ∧
 ∀ z:Itz,z.Ok P G N xs→∀ cvs:Array Value,cvs.size=caps.length→(∀ i d,caps[i]?=some d→Rep z.w.heap z.C0 (cvs.getD i undef) d)→z.J 0 z.C0 (fun _=>False) z.w→(∀ q∈G,z.w.heap[q.1]?=some q.2) →
  CallsIn Fence.wide 0 P f (#[.func (.yield z.l) #[] #[]]++cvs) z.w fun e W'=>(∃ v,e=.returned v)∧∃ C X,z.J N C X W'∨∃ n,z.Jx n C X W'
def IJ (z:Itz) (J:(Nat→Prop)→(Nat→Prop)→World→Prop) (B:Base) (ds:List Deferred):Prop :=
 ds=[]∧∃ C X W0,W0.heap=B.H0∧wio W0=B.io∧J C X W0∧(∀ b,B.A b↔C b)∧(∀ b,B.O0 b↔X b)∧(∀ b,X b→z.w.heap.size≤b)∧z.w.heap.size≤W0.heap.size
def II (z:Itz) (n:Nat):Base→List Deferred→Prop:=IJ z (z.J n)
def IX (z:Itz):Base→List Deferred→Prop:=IJ z fun C X W=>∃ n,z.Jx n C X W
def ΦI (z:Itz) (N:Nat) (e:Exit) (a:Act) (w:World):Prop:=(e=.normal∨e=.ret)∧a.defers=[]∧∃ C X,z.J N C X w∨∃ n,z.Jx n C X w
section
variable {P:Program} {cf:Cf} {G:List (Nat × Obj)} {N:Nat} {xs:Nat→List D} {z:Itz} {k:List It} {s:St}
theorem IJ.stp {J:(Nat→Prop)→(Nat→Prop)→World→Prop} {B:Base} {ds:List Deferred} {β:Name→Option Blk} {tm:Array Value} {w:World} (h:IJ z J B ds) (hs:Sim B β s tm w) :
  ∃ C X W0,W0.heap=B.H0∧J C X W0∧Stp W0 X w (bk s β)∧(∀ b,B.A b↔C b)∧(∀ b,bk s β b→z.w.heap.size≤b)∧z.w.heap.size≤w.heap.size:=by
 obtain ⟨_,C,X,W0,h1,h2,hJ,hA,hO,hX,hz⟩:=h
 have hsz:W0.heap.size=B.H0.size:=by rw [h1]
 refine ⟨C,X,W0,h1,hJ,⟨by rw [hsz];exact hs.size,by rw [h2];exact hs.io,fun b hb hx=>?_,fun b hb=>?_⟩,hA,fun b hb=>?_,?_⟩
 ·rw [h1];exact hs.frame b (by rw [← hsz];exact hb) (fun ho=>hx ((hO b).1 ho))
 ·obtain ⟨b1,_,b3⟩:=hs.bu hb
  refine ⟨?_,b1⟩
  rcases b3 with b3 | b3
  ·exact .inr (by rw [hsz];exact b3)
  ·exact .inl ((hO b).1 b3)
 ·rcases (hs.bu hb).2.2 with b3 | b3
  ·have:=hs.size;omega
  ·exact hX b ((hO b).1 b3)
 ·have:=hs.size;omega
theorem A1 {z:Itz} (hz:z.Ok P G N xs) {e:Exit} (he:e=.normal∨e=.ret):ARX cf (ΦI z N) (II z N) e s:=by
 intro B hB ds β a w hds hi hs
 obtain ⟨C,X,W0,_,hJ,hst,_⟩:=IJ.stp hi hs
 exact ⟨he,hds.trans hi.1,C,_,.inl (hz.stab _ _ _ _ _ _ hJ hst)⟩
theorem FE {z:Itz} (hz:z.Ok P G N xs) {e:Exit} (he:e=.normal∨e=.ret):ARX cf (ΦI z N) (IX z) e s:=by
 intro B hB ds β a w hds hi hs
 obtain ⟨C,X,W0,_,⟨n,hJ⟩,hst,_⟩:=IJ.stp hi hs
 exact ⟨he,hds.trans hi.1,C,_,.inr ⟨n,hz.stabx _ _ _ _ _ _ hJ hst⟩⟩
theorem CY (hz:z.Ok P cf.G N xs) {Φ:Exit→Act→World→Prop} {n t:Nat} {all:Array Oper} {fv:Operand} {args:Array Operand} {at':Array TypeId} {ty:TypeId} {pos:String} {af:Array Edge} {r:List Oper}
  (hn:n<N) (ht:t<cf.n) (hev:ev s fv=.d (.yl z.l)) (hargs:args.toList.map (ev s)=(xs n).map .d)
  (h1:ARY P cf Φ (II z (n+1)) (.ops all r::k) (s.put t (.d (.bool true)))) (h2:ARY P cf Φ (IX z) (.ops all r::k) (s.put t (.d (.bool false)))) :
  ARY P cf Φ (II z n) (.ops all ({ dst:=some t,op:=.call { callee:=.value fv,args:=args,argTypes:=at' },type:=ty,pos:=pos,after:=af,guard:=none }::r)::k) s:=by
 intro B hB ds β a w hds hI hs l hl
 cases l with
 | nil=>simp at hl
 | cons i l =>
   simp only [List.map_cons,List.cons.injEq] at hl
   obtain ⟨hi,hl⟩:=hl
   simp only [wpOpsIn,hi,Region.wanted,if_true]
   obtain ⟨C,X,W0,hW0,hJ,hst,hA,hX,hzw⟩:=IJ.stp hI hs
   have hJ':=hz.stab _ _ _ _ _ _ hJ hst
   have hf:=hs.ev fv
   rw [hev] at hf
   have hfv:a.eval fv=.func (.yield z.l) #[] #[]:=by
    have:=hf.toD
    generalize a.eval fv=v at this
    cases this;rfl
   have hlen:args.size=(xs n).length:=by simpa using congrArg List.length hargs
   have hrd:=hz.round n C (bk s β) w (args.map a.eval) hn hJ' (by simpa using hlen) (fun j d hj=>by
    have hx:(args.toList.map (ev s))[j]?=some (.d d):=by rw [hargs,List.getElem?_map,hj];rfl
    have:=(eM hs args.toList j _ hx).toD
    rw [show (args.map a.eval).getD j undef=(args.toList.map a.eval).toArray.getD j undef by simp [Array.getD_eq_getD_getElem?]]
    refine this.mono (fun _ _ _=>rfl) (fun b _ hb=>?_)
    rcases hb with hb | hb
    ·exact .inl ((hA b).2 hb)
    ·exact .inr hb)
   obtain ⟨fn,tmps,assign,body,hy,hrd⟩:=hrd
   refine ⟨fun _ _=>trivial,?_⟩
   have hrun:(execOp a.eval { dst:=some t,op:=.call { callee:=.value fv,args:=args,argTypes:=at' },type:=ty,pos:=pos,after:=af,guard:=none }:Sem Next).run P w=.ok (.round z.l fn tmps assign body) w:=by
    have e:(execOp a.eval { dst:=some t,op:=.call { callee:=.value fv,args:=args,argTypes:=at' },type:=ty,pos:=pos,after:=af,guard:=none }:Sem Next)=Instr.yield z.l (#[]++args.map a.eval++#[]):=by
     show (do let d ← (Deferred.ofValue (a.eval fv) (args.map a.eval));invoke d.target d.args:Sem Next)=_
     rw [hfv];rfl
    rw [e]
    simpa using hy
   rw [Oper.semAt_eq _ _ _ (by simp),hrun,Oper.uponIn_round]
   refine ⟨fun hdep=>by simp [fx] at hdep,?_⟩
   have hrd':RoundIn (Fw cf.ro) (0-1) P z.l fn tmps assign body w _:=hrd
   refine hrd'.mono ?_
   rintro e W' ⟨C',⟨c1,c2,c3,c4,c5⟩,hq⟩
   have hG':∀ q∈B.G,W'.heap[q.1]?=some q.2∧¬ bk s β q.1:=fun q hq=>by
    obtain ⟨g1,g2⟩:=B.hG q hq
    have hlt:=al g1
    refine ⟨(c4 q (by rw [← hB.2.2];exact hq)).trans ((hs.frame _ hlt g2).trans g1),fun hb=>?_⟩
    rcases (hs.bu hb).2.2 with g3 | g3
    ·omega
    ·exact g2 g3
   let B':Base:={ n:=B.n,io:=B.io,G:=B.G,H0:=W'.heap,O0:=bk s β,A:=C',U0:=B.U0,β0:=B.β0,hA:=fun b hb=>(c5 b hb).2,hG:=hG' }
   have hs':Sim B' β s a.tmps W':=by
    refine hs.mv rfl (c1.trans hs.io) (Nat.le_refl _) (fun _ _ _=>rfl) c2 (fun b hb hn=>c3 b hb (fun hc=>hn ((hA b).2 hc))) (fun b hb hc=>?_) (fun p k hp hk=>.inr ⟨p,k,hp,hk,rfl⟩) hs.us hs.stay
    rcases (c5 b hc).1 with h | h
    ·exact (hA b).2 h
    ·omega
   have hIJ:∀ J:(Nat→Prop)→(Nat→Prop)→World→Prop,J C' (bk s β) W'→IJ z J B' ds:=fun J hj=>⟨hI.1,C',_,W',rfl,c1.trans hs.io,hj,fun _=>Iff.rfl,fun _=>Iff.rfl,hX,Nat.le_trans hzw c2⟩
   rcases hq with ⟨rfl,hj⟩ | ⟨rfl,hj⟩
   ·exact h1 B' ⟨hB.1,hB.2.1,hB.2.2⟩ ds β (a.put (some t) (.bool true)) W' hds (hIJ _ hj) (hs'.put (by show t<B.n;rw [hB.1];exact ht) (.d _ _ (.bool _))) l hl
   ·exact h2 B' ⟨hB.1,hB.2.1,hB.2.2⟩ ds β (a.put (some t) (.bool false)) W' hds (hIJ _ ⟨_,hj⟩) (hs'.put (by show t<B.n;rw [hB.1];exact ht) (.d _ _ (.bool _))) l hl
theorem EE {G:List (Nat × Obj)} {f:FuncId} {fn:Func} {c:Code} {caps:List D} (hf:P.funcs[f]?=some fn) (hb:fn.body=some c) (hnm:(fn.name == "runtime.NumGoroutine")=false) (hn:caps.length+1≤fn.ntmps) (hres:fn.results=#[])
  (h:∀ z:Itz,z.Ok P G N xs→ARY P ⟨fn.ntmps,none,G,[]⟩ (ΦI z N) (II z 0) [.code c] (mk (aB 0 (.d (.yl z.l)::caps.map .d)) [] [])):ItC P G f caps N xs:=by
 refine ⟨cC hf hb hnm,fun z hz cvs hsz hcv hJ hG=>?_⟩
 let B:Base:={ n:=fn.ntmps,io:=wio z.w,G:=G,H0:=z.w.heap,O0:=fun _=>False,A:=z.C0,U0:=[],β0:=fun _=>none,hA:=hz.lt,hG:=fun q hq=>⟨hG q hq,fun h=>h⟩ }
 have hsim:Sim B (fun _=>none) (mk (aB 0 (.d (.yl z.l)::caps.map .d)) [] []) ((#[Value.func (.yield z.l) #[] #[]]++cvs)++Array.replicate (fn.ntmps-(#[Value.func (.yield z.l) #[] #[]]++cvs).size) undef) z.w:=by
  have hown:∀ b,(mk (aB 0 (.d (.yl z.l)::caps.map .d)) [] []).own z.C0 (fun _=>none) b→z.C0 b:=by
   rintro b (hb | ⟨p,k,hp,_⟩)
   ·exact hb
   ·exact absurd rfl hp
  refine { tms:=by show (_:Array Value).size=fn.ntmps;simp;omega,io:=rfl,size:=Nat.le_refl _,frame:=fun _ _ _=>rfl,slots:=fun t=>?_,objs:=fun p o ho=>(by cases ho),blocks:=fun p k hp=>absurd rfl hp,inj:=fun p q k l hp=>absurd rfl hp,us:=fun _ hx=>hx,stay:=fun p hp=>(by obtain ⟨_,_,_,hx⟩:=hp;cases hx) }
  rw [cS,aN,if_pos (Nat.zero_le _),Nat.sub_zero]
  cases t with
  | zero =>
    have e:((#[Value.func (.yield z.l) #[] #[]]++cvs)++Array.replicate (fn.ntmps-(#[Value.func (.yield z.l) #[] #[]]++cvs).size) undef).getD 0 undef=.func (.yield z.l) #[] #[]:=by
     simp [Array.getD_eq_getD_getElem?,Array.getElem?_append]
    rw [e]
    exact .d _ _ (.yl _)
  | succ t =>
    cases ht:(caps.map AV.d)[t]? with
    | none=>rw [List.getElem?_cons_succ,ht];exact .un _
    | some x =>
      rw [List.getElem?_cons_succ,ht]
      rw [List.getElem?_map,Option.map_eq_some_iff] at ht
      obtain ⟨d,hd,rfl⟩:=ht
      have hlt:t<cvs.size:=by rw [hsz];exact (List.getElem?_eq_some_iff.1 hd).1
      have e:((#[Value.func (.yield z.l) #[] #[]]++cvs)++Array.replicate (fn.ntmps-(#[Value.func (.yield z.l) #[] #[]]++cvs).size) undef).getD (t+1) undef=cvs.getD t undef:=by
       have h1:t+1<1+cvs.size:=by omega
       simp [Array.getD_eq_getD_getElem?,Array.getElem?_append,h1,hlt]
      rw [e]
      exact .d _ _ ((hcv t d hd).mono (fun _ _ _=>rfl) (fun b _=>hown b))
 have hrun:=h z hz B ⟨rfl,rfl,rfl⟩ [] (fun _=>none) { tmps:=(#[Value.func (.yield z.l) #[] #[]]++cvs)++Array.replicate (fn.ntmps-(#[Value.func (.yield z.l) #[] #[]]++cvs).size) undef,defers:=[] } z.w rfl
  ⟨rfl,z.C0,fun _=>False,z.w,rfl,rfl,hJ,fun _=>Iff.rfl,fun _=>Iff.rfl,fun b hb=>hb.elim,Nat.le_refl _⟩ hsim
 refine callsIn_of_wp hf hb trivial (wpIn_mono (F:=Fence.wide) hrun fun e a' w' hq=>?_)
 obtain ⟨he,hd,hq⟩:=hq
 have hr:(results fn a'.tmps).run P w'=.ok (.tuple #[]) w':=by
  simp [results,hres]
 rcases he with rfl | rfl
 ·exact ⟨hd,_,hr,⟨_,rfl⟩,hq⟩
 ·exact ⟨hd,_,hr,⟨_,rfl⟩,hq⟩
end
attribute [go_sem] xQ F2 tY qH rb vn CZ yQ
end Go.Ab

namespace Go.Ab
structure BExt (B0 B:Base):Prop where
 n:B.n=B0.n
 io:B.io=B0.io
 G:B.G=B0.G
 U0:B.U0=B0.U0
 β0:B.β0=B0.β0
 size:B0.H0.size≤B.H0.size
 frame:∀ b,b<B0.H0.size→¬ B0.O0 b→B.H0[b]?=B0.H0[b]?
 O0:∀ b,b<B0.H0.size→B.O0 b→B0.O0 b
 A:∀ b,B0.A b→B.A b
theorem BExt.refl (B:Base):BExt B B:=⟨rfl,rfl,rfl,rfl,rfl,Nat.le_refl _,fun _ _ _=>rfl,fun _ _ h=>h,fun _ h=>h⟩
theorem BExt.trans {A B C:Base} (h:BExt A B) (g:BExt B C):BExt A C :=
 ⟨g.n.trans h.n,g.io.trans h.io,g.G.trans h.G,g.U0.trans h.U0,g.β0.trans h.β0,Nat.le_trans h.size g.size,
  fun b hb ho=>(g.frame b (Nat.lt_of_lt_of_le hb h.size) (fun hc=>ho (h.O0 b hb hc))).trans (h.frame b hb ho),fun b hb hc=>h.O0 b hb (g.O0 b (Nat.lt_of_lt_of_le hb h.size) hc),fun b hb=>g.A b (h.A b hb)⟩
def mkD (D:Nat):Deferred:={ target:=.collected D,args:=#[] }
structure CI (B0:Base) (B:Base) (ds:List Deferred):Prop where
 ext:BExt B0 B
 mark:∃ Ds:List Nat,ds=Ds.map mkD∧Ds.Nodup∧∀ D∈Ds,B.H0[D]?=some (.deferred (some []))∧B.A D∧B0.H0.size≤D∧¬ B.O0 D
def St.fra (s:St) (fr:Nat→AV):St:={ s with fr:=fr }
def LK (s0 s:St):Prop:=∀ p o',nm s0.used p→s.hp p=some o'→∃ o,s0.hp p=some o∧o.like o'
def og (s:St):List Nat→List D→St
 | t::ts,d::ds=>og (s.put t (.d d)) ts ds
 | _,_=>s
section
variable {P:Program} {cf:Cf}
theorem Sim.og {B:Base} {β:Name→Option Blk} {w:World}:∀ (ts:List Nat) (ds:List D) (vs:List Value) (s:St) (tm:Array Value),Sim B β s tm w→(∀ t∈ts,t<B.n)→vs.length=ds.length →
  (∀ i d,ds[i]?=some d→Rep w.heap (s.own B.A β) (vs.getD i undef) d)→Sim B β (og s ts ds) ((ts.zip vs).foldl (fun tm (q:Nat × Value)=>tm.setIfInBounds q.1 q.2) tm) w
 | [],ds,vs,s,tm,h,_,_,_=>by cases ds<;>exact h
 | _::_,[],[],s,tm,h,_,_,_=>h
 | t::ts,d::ds,v::vs,s,tm,h,ht,hl,hv=>by
   refine Sim.og ts ds vs (s.put t (.d d)) _ (h.put (ht t List.mem_cons_self) (.d _ _ (hv 0 d rfl))) (fun x hx=>ht x (List.mem_cons_of_mem _ hx)) (by simpa using hl) (fun i d' hi=>?_)
   exact hv (i+1) d' hi
def rq (P:Program) (cf:Cf) (Φ:Exit→Act→World→Prop) (B0:Base) (k:List It) {X:Type} (Iv:X→St) (s0:St) (e:Exit) (s2:St):Prop :=
 match e with
 | .normal=>LK s0 s2∧∃ y τ,Le cf.U τ (s2.fra s0.fr) (Iv y)
 | .exit i=>LK s0 s2∧yq P cf Φ (CI B0) k (.exit i) (s2.fra s0.fr)
 | .ret=>LK s0 s2∧yq P cf Φ (CI B0) k .ret (s2.fra s0.fr)
 | _=>False
def SS (B:Base) (tm:Array Value) (D L:Nat) (C X:Nat→Prop) (W:World) (s:St):Prop :=
 ∃ β B',BExt B B'∧B'.H0=W.heap∧(∀ b,B'.O0 b↔bk s β b)∧(∀ b,B'.A b↔(B.A b∨X b∨b=D∨b=L))∧(∀ b,C b↔(B.A b∨b=D∨b=L∨bk s β b))∧Sim B' β s tm W
theorem SS.stp {B:Base} {tm:Array Value} {D L z0:Nat} {C X X':Nat→Prop} {W W':World} {s:St} (h:SS B tm D L C X W s) (hst:Stp W X W' X') (hX:∀ b,X b→z0≤b) (hz:B.H0.size≤z0) (hW:z0≤W.heap.size) (hD:D<W.heap.size) (hL:L<W.heap.size) :
  SS B tm D L C X' W' s:=by
 obtain ⟨β,B',hE,hH,hO,hA,hC,hs⟩:=h
 have hlt:∀ b,B.A b→b<W.heap.size:=fun b hb=>Nat.lt_of_lt_of_le (B.hA b hb) (by rw [← hH];exact hE.size)
 have hsame:∀ b,b<B.H0.size→W'.heap[b]?=W.heap[b]?:=fun b hb=>hst.same b (by omega) (fun hx=>by have:=hX b hx;omega)
 have hG:∀ q∈B'.G,W'.heap[q.1]?=some q.2∧¬ bk s β q.1:=fun q hq=>by
  have h0:=B.hG q (by rw [← hE.G];exact hq)
  have h1:=B'.hG q hq
  exact ⟨(hsame _ (al h0.1)).trans (by rw [← hH];exact h1.1),fun hb=>h1.2 ((hO _).2 hb)⟩
 refine ⟨β,{ n:=B'.n,io:=B'.io,G:=B'.G,H0:=W'.heap,O0:=bk s β,A:=fun b=>B.A b∨X' b∨b=D∨b=L,U0:=B'.U0,β0:=B'.β0,hA:=?_,hG:=hG },?_,rfl,fun _=>Iff.rfl,fun _=>Iff.rfl,hC,?_⟩
 ·rintro b (hb | hb | rfl | rfl)
  ·exact Nat.lt_of_lt_of_le (hlt b hb) hst.size
  ·exact (hst.new b hb).2
  ·exact Nat.lt_of_lt_of_le hD hst.size
  ·exact Nat.lt_of_lt_of_le hL hst.size
 ·refine ⟨hE.n,hE.io,hE.G,hE.U0,hE.β0,Nat.le_trans hE.size (by rw [hH];exact hst.size),fun b hb ho=>?_,fun b hb ho=>hE.O0 b hb ((hO b).2 ho),fun b hb=>.inl hb⟩
  exact (hsame b hb).trans ((by rw [hH]:W.heap[b]?=B'.H0[b]?).trans (hE.frame b hb ho))
 ·refine hs.mv rfl (hst.io.trans hs.io) (Nat.le_refl _) (fun _ _ _=>rfl) hst.size (fun b hb hn=>hst.same b hb (fun hx=>hn ((hA b).2 (.inr (.inl hx))))) (fun b hb hc=>?_) (fun p k hp hk=>.inr ⟨p,k,hp,hk,rfl⟩) hs.us hs.stay
  rcases hc with hc | hc | hc | hc
  ·exact (hA b).2 (.inl hc)
  ·rcases (hst.new b hc).1 with h1 | h1
   ·exact (hA b).2 (.inr (.inl h1))
   ·omega
  ·exact (hA b).2 (.inr (.inr (.inl hc)))
  ·exact (hA b).2 (.inr (.inr (.inr hc)))
theorem SS.after {B B':Base} {tm:Array Value} {D L:Nat} {X:Nat→Prop} {W W2 W3 W4:World} {s0 s1 s2:St} {β' β1 β2:Name→Option Blk} {tm2:Array Value} {B2:Base}
  (hE:BExt B B') (hH:B'.H0=W.heap) (hO:∀ b,B'.O0 b↔bk s0 β' b) (hA:∀ b,B'.A b↔(B.A b∨X b∨b=D∨b=L)) (hs:Sim B' β' s0 tm W)
  (hn2:B2.n=B'.n) (hio2:B2.io=B'.io) (hG2:B2.G=B'.G) (hH2:B2.H0=W2.heap) (hO2:∀ b,B2.O0 b↔bk s1 β1 b) (hA2:B2.A=B'.A) (hU2:B2.U0=s0.used) (hβ2:B2.β0=β')
  (hsz:W.heap.size≤W2.heap.size) (h12:∀ b,b<W.heap.size→¬ bk s0 β' b→b≠L→W2.heap[b]?=W.heap[b]?) (hown1:∀ b,bk s1 β1 b→W.heap.size≤b∨bk s0 β' b)
  (hs2:Sim B2 β2 s2 tm2 W3) (hlk:LK s0 s2) (hLz:B.H0.size≤L) (h34:W3.heap.size=W4.heap.size) (hio4:wio W4=wio W3) (h4:∀ b,b≠L→W4.heap[b]?=W3.heap[b]?) :
  (∀ b,b<W.heap.size→¬ bk s0 β' b→b≠L→W4.heap[b]?=W.heap[b]?)∧W.heap.size≤W4.heap.size∧(∀ b,bk s2 β2 b→(W.heap.size≤b∨bk s0 β' b)∧b<W4.heap.size∧¬ B'.A b) ∧
   ∃ B4,BExt B B4∧B4.H0=W4.heap∧(∀ b,B4.O0 b↔bk s2 β2 b)∧(∀ b,B4.A b↔(B.A b∨X b∨b=D∨b=L))∧Sim B4 β2 (s2.fra s0.fr) tm W4:=by
 have hown2:∀ b,bk s2 β2 b→W.heap.size≤b∨bk s0 β' b:=fun b hb=>by
  rcases (hs2.bu hb).2.2 with h | h
  ·rw [hH2] at h;exact .inl (Nat.le_trans hsz h)
  ·exact hown1 b ((hO2 b).1 h)
 have hz3:W2.heap.size≤W3.heap.size:=by have:=hs2.size;rw [hH2] at this;exact this
 have hsame:∀ b,b<W.heap.size→¬ bk s0 β' b→b≠L→W4.heap[b]?=W.heap[b]?:=fun b hb hnb hne=>by
  have h1:¬ bk s1 β1 b:=fun h=>by
   rcases hown1 b h with h | h
   ·omega
   ·exact hnb h
  refine (h4 b hne).trans ((hs2.frame b (by rw [hH2];omega) (fun h=>h1 ((hO2 b).1 h))).trans ?_)
  rw [hH2];exact h12 b hb hnb hne
 have hsz4:W.heap.size≤W4.heap.size:=by omega
 have hG4:∀ q∈B'.G,W4.heap[q.1]?=some q.2∧¬ bk s2 β2 q.1:=fun q hq=>by
  obtain ⟨g1,g2⟩:=B'.hG q hq
  have hlt:=al g1
  have hlt':q.1<W.heap.size:=by rw [← hH];exact hlt
  have hq2:=B2.hG q (by rw [hG2];exact hq)
  have hno:¬ bk s2 β2 q.1:=fun hb=>by
   rcases hown2 _ hb with h | h
   ·omega
   ·exact g2 ((hO _).2 h)
  refine ⟨?_,hno⟩
  have h3:W3.heap[q.1]?=some q.2:=(hs2.frame _ (al hq2.1) hq2.2).trans hq2.1
  have hb0:=al (B.hG q (by rw [← hE.G];exact hq)).1
  exact (h4 _ (by omega)).trans h3
 have hltA:∀ b,B'.A b→b<W4.heap.size:=fun b hb=>Nat.lt_of_lt_of_le (B'.hA b hb) (by rw [hH];exact hsz4)
 refine ⟨hsame,hsz4,fun b hb=>⟨hown2 b hb,by have:=(hs2.bu hb).1;omega,by have:=(hs2.bu hb).2.1;rw [hA2] at this;exact this⟩,?_⟩
 let B4:Base:={ n:=B'.n,io:=B'.io,G:=B'.G,H0:=W4.heap,O0:=bk s2 β2,A:=B'.A,U0:=B'.U0,β0:=B'.β0,hA:=hltA,hG:=hG4 }
 have hu:∀ x∈s0.used,x∈s2.used:=fun x hx=>hs2.us x (by rw [hU2];exact hx)
 have hst:∀ p,nm s0.used p→β2 p=β' p:=fun p hp=>by rw [← hβ2];exact hs2.stay p (by rw [hU2];exact hp)
 have hs4:Sim B4 β2 s2 tm2 W4:=by
  refine hs2.mv hn2.symm (hio4.trans (hs2.io.trans hio2)) (Nat.le_refl _) (fun _ _ _=>rfl) (by omega) (fun b hb hn=>h4 b (fun e=>hn (by rw [hA2,hA];exact .inr (.inr (.inr e))))) (fun b _ hb=>by rw [hA2];exact hb) (fun p k hp hk=>.inr ⟨p,k,hp,hk,rfl⟩) (fun x hx=>hu x (hs.us x hx)) (fun p hp=>?_)
  have:nm s0.used p:=hp.mono hs.us
  exact (hst p this).trans (hs.stay p hp)
 have hown:∀ b,b<W.heap.size→s2.own B'.A β2 b→s0.own B'.A β' b:=by
  rintro b hb (h1 | h1)
  ·exact .inl h1
  ·rcases hown2 b h1 with h | h
   ·omega
   ·exact .inr h
 have hr:∀ v d,Rep W.heap (s0.own B'.A β') v d→Rep W4.heap (s2.own B'.A β2) v d:=fun v d hd=>hd.mono (fun b hb hlt=>hsame b hlt (fun h=>hb (.inr h)) (fun e=>hb (.inl ((hA b).2 (.inr (.inr (.inr e))))))) hown
 refine ⟨B4,⟨hE.n,hE.io,hE.G,hE.U0,hE.β0,Nat.le_trans hE.size (by rw [hH];exact hsz4),fun b hb ho=>?_,fun b hb ho=>?_,fun b hb=>(hA b).2 (.inl hb)⟩,rfl,fun _=>Iff.rfl,hA,?_⟩
 ·have hbW:b<W.heap.size:=by have:=hE.size;rw [hH] at this;omega
  refine (hsame b hbW (fun h=>ho (hE.O0 b hb ((hO b).2 h))) (by omega)).trans ?_
  rw [← hE.frame b hb ho,hH]
 ·rcases hown2 b ho with h | h
  ·have:=hE.size;rw [hH] at this;omega
  ·exact hE.O0 b hb ((hO b).2 h)
 ·exact { hs4 with tms:=hs.tms,slots:=fun t=>(hs.slots t).mono hr hu (fun p hp o' ho=>by obtain ⟨o,h1,h2⟩:=hlk p o' hp ho;exact ⟨o,h1,h2,hst p hp⟩) }
theorem SS.mk' {B B4:Base} {tm:Array Value} {D L:Nat} {X:Nat→Prop} {W4:World} {s5:St} {β5:Name→Option Blk} (hE:BExt B B4) (hH:B4.H0=W4.heap) (hsub:∀ b,bk s5 β5 b→B4.O0 b) (hA:∀ b,B4.A b↔(B.A b∨X b∨b=D∨b=L))
  (hs:Sim B4 β5 s5 tm W4):SS B tm D L (fun b=>B.A b∨b=D∨b=L∨bk s5 β5 b) X W4 s5:=by
 refine ⟨β5,{ n:=B4.n,io:=B4.io,G:=B4.G,H0:=W4.heap,O0:=bk s5 β5,A:=B4.A,U0:=B4.U0,β0:=B4.β0,hA:=fun b hb=>by rw [← hH];exact B4.hA b hb,hG:=fun q hq=>⟨by rw [← hH];exact (B4.hG q hq).1,fun hb=>(B4.hG q hq).2 (hsub _ hb)⟩ },
  ⟨hE.n,hE.io,hE.G,hE.U0,hE.β0,by show B.H0.size≤W4.heap.size;rw [← hH];exact hE.size,fun b hb ho=>?_,fun b hb ho=>hE.O0 b hb (hsub b ho),hE.A⟩,rfl,fun _=>Iff.rfl,hA,fun _=>Iff.rfl,?_⟩
 ·show W4.heap[b]?=_
  rw [← hH];exact hE.frame b hb ho
 ·exact hs.mv rfl hs.io (Nat.le_refl _) (fun _ _ _=>rfl) (Nat.le_refl _) (fun _ _ _=>rfl) (fun _ _ h=>h) (fun p k hp hk=>.inr ⟨p,k,hp,hk,rfl⟩) hs.us hs.stay
def wc (P:Program) (cf:Cf) (Φ:Exit→Act→World→Prop) (B0:Base) (k:List It) (c:Code) (s:St):Prop :=
 (∃ i,c=.exit i∧yq P cf Φ (CI B0) k (.exit i) s)∨(c=.ret∧yq P cf Φ (CI B0) k .ret s)
theorem yy (ps:List Nat) (vs tm:Array Value):(ps.toArray.zip vs).foldl (fun tmps (q:Nat × Value)=>tmps.setIfInBounds q.1 q.2) tm=(ps.zip vs.toList).foldl (fun tm (q:Nat × Value)=>tm.setIfInBounds q.1 q.2) tm:=by
 rw [← Array.foldl_toList,Array.toList_zip]
theorem Bp {n0:Nat} {G0:List (Nat × Obj)} {U0:List Nat} {B0 B:Base} {ps:List Nat} {assign body:Code} {k:List It} {Φ:Exit→Act→World→Prop} {X:Type} {s0:St} {Iv:X→St} {fn:FuncId} {tm:Array Value} {D L:Nat} {C Xs:Nat→Prop} {W:World} {vs:Array Value}
  {xl:List Ab.D} (hB:(⟨n0,none,G0,U0⟩:Cf).fits B) (hps:∀ t∈ps,t<n0) (hxl:xl.length=ps.length)
  (hr:run P ⟨n0,some L,G0,s0.used⟩ [.code assign] (fun e s1=>e=.normal∧run P ⟨n0,some L,G0,s0.used⟩ [.code body] (rq P ⟨n0,none,G0,U0⟩ Φ B0 k Iv s0) s1) (Ab.og s0 ps xl))
  (hL:W.heap[L]?=some (.loop { state:=.ready,pending:=none,fn,tmps:=tm,params:=ps.toArray,assign,body,defers:=D })) (hDL:D≠L) (hLz:B.H0.size≤L) (hDz:B.H0.size≤D) (hD:W.heap[D]?=some (.deferred (some [])))
  (hS:SS B tm D L C Xs W s0) (hvs:vs.size=xl.length) (hrep:∀ i d,xl[i]?=some d→Rep W.heap (fun b=>C b∨Xs b) (vs.getD i undef) d) :
  YieldAt Fence.wide 0 P L vs W fun e W'=>∃ C',(wio W'=wio W∧W.heap.size≤W'.heap.size∧(∀ b,b<W.heap.size→¬ C b→W'.heap[b]?=W.heap[b]?)∧(∀ q∈G0,W'.heap[q.1]?=W.heap[q.1]?)∧∀ b,C' b→(C b∨W.heap.size≤b)∧b<W'.heap.size)∧W'.heap[D]?=some (.deferred (some [])) ∧
   ((e=.returned (.bool true)∧W'.heap[L]?=some (.loop { state:=.ready,pending:=none,fn,tmps:=tm,params:=ps.toArray,assign,body,defers:=D })∧∃ y,SS B tm D L C' Xs W' (Iv y)) ∨
    (e=.returned (.bool false)∧∃ c s',W'.heap[L]?=some (.loop { state:=.done,pending:=some c,fn,tmps:=tm,params:=ps.toArray,assign,body,defers:=D })∧wc P ⟨n0,none,G0,U0⟩ Φ B0 k c s'∧SS B tm D L C' Xs W' s')):=by
 obtain ⟨β',B',hE,hH,hO,hA,hC,hsx⟩:=hS
 have hLlt:=al hL
 have hDlt:=al hD
 refine ⟨fn,_,assign,body,run_yield hL (by simp [hvs,hxl]),roundIn_of_wpIn trivial ?_⟩
 rw [yy]
 have hGn:∀ q∈B'.G,W.heap[q.1]?=some q.2∧¬ bk s0 β' q.1:=fun q hq=>⟨by rw [← hH];exact (B'.hG q hq).1,fun hb=>(B'.hG q hq).2 ((hO _).2 hb)⟩
 let Br1:Base:={ n:=B'.n,io:=B'.io,G:=B'.G,H0:=W.heap,O0:=bk s0 β',A:=B'.A,U0:=s0.used,β0:=β',hA:=fun b hb=>by rw [← hH];exact B'.hA b hb,hG:=hGn }
 have hs1:Sim Br1 β' s0 tm W:=hsx.mv rfl hsx.io (Nat.le_refl _) (fun _ _ _=>rfl) (Nat.le_refl _) (fun _ _ _=>rfl) (fun _ _ h=>h) (fun p k hp hk=>.inr ⟨p,k,hp,hk,rfl⟩) (fun _ h=>h) (fun _ _=>rfl)
 have hn1:B'.n=n0:=hE.n.trans hB.1
 have hG1:B'.G=G0:=hE.G.trans hB.2.2
 have hs1':=hs1.og ps xl vs.toList s0 tm (fun t ht=>by show t<B'.n;rw [hn1];exact hps t ht) (by simpa using hvs) (fun i d hi=>by
  have:=hrep i d hi
  rw [show vs.toList.getD i undef=vs.getD i undef by simp [Array.getD_eq_getD_getElem?,List.getD_eq_getElem?_getD]]
  refine this.mono (fun _ _ _=>rfl) (fun b _ hb=>?_)
  rcases hb with hb | hb
  ·rcases (hA b).1 hb with h | h | h | h
   ·exact .inl ((hC b).2 (.inl h))
   ·exact .inr h
   ·exact .inl ((hC b).2 (.inr (.inl h)))
   ·exact .inl ((hC b).2 (.inr (.inr (.inl h))))
  ·exact .inl ((hC b).2 (.inr (.inr (.inr hb)))))
 have hrunA:=aP hr Br1 ⟨hn1,rfl,hG1⟩ [] β' { tmps:=(ps.zip vs.toList).foldl (fun tm (q:Nat × Value)=>tm.setIfInBounds q.1 q.2) tm,defers:=[] } W rfl hs1'
 refine wpIn_mono hrunA ?_
 rintro e a1 W1 ⟨hd1,s1,β1,⟨rfl,hrun⟩,hsA⟩
 have hnA:∀ b,B'.A b→¬ bk s0 β' b:=fun b hb ho=>(hsx.bu ho).2.1 hb
 have hAL:B'.A L:=(hA L).2 (.inr (.inr (.inr rfl)))
 have hAD:B'.A D:=(hA D).2 (.inr (.inr (.inl rfl)))
 have hL1:=(hsA.frame L hLlt (hnA L hAL)).trans hL
 have hD1:=(hsA.frame D hDlt (hnA D hAD)).trans hD
 refine ⟨_,run_beginRound hL1 rfl,?_⟩
 obtain ⟨W2,hW2⟩:∃ W2,W1.putObj L (.loop { state:=.busy,pending:=none,fn,tmps:=tm,params:=ps.toArray,assign,body,defers:=D })=W2:=⟨_,rfl⟩
 show body.wpIn _ _ _ _ _ (W1.putObj L (.loop { state:=.busy,pending:=none,fn,tmps:=tm,params:=ps.toArray,assign,body,defers:=D }))
 rw [hW2]
 have hz12:W2.heap.size=W1.heap.size:=by rw [← hW2];simp
 have hzW1:W.heap.size≤W1.heap.size:=hsA.size
 have h12:∀ b,b≠L→W2.heap[b]?=W1.heap[b]?:=fun b hb=>by rw [← hW2];exact World.putObj_heap_other hb
 have hL2:W2.heap[L]?=some (.loop { state:=.busy,pending:=none,fn,tmps:=tm,params:=ps.toArray,assign,body,defers:=D }):=by rw [← hW2];exact World.putObj_heap_same (by omega)
 have hD2:=(h12 D hDL).trans hD1
 have hio2:wio W2=wio W1:=by rw [← hW2];rfl
 have hqlt:∀ q∈B'.G,q.1<B.H0.size:=fun q hq=>al (B.hG q (by rw [← hE.G];exact hq)).1
 have hGB:∀ q∈B'.G,W2.heap[q.1]?=some q.2∧¬ bk s1 β1 q.1:=fun q hq=>by
  have h0:=hqlt q hq
  have h1:=hGn q hq
  refine ⟨(h12 _ (by omega)).trans ((hsA.frame _ (al h1.1) h1.2).trans h1.1),fun hb=>?_⟩
  rcases (hsA.bu hb).2.2 with h | h
  ·have:=al h1.1
   change W.heap.size≤_ at h
   omega
  ·exact h1.2 h
 let Br2:Base:={ n:=B'.n,io:=B'.io,G:=B'.G,H0:=W2.heap,O0:=bk s1 β1,A:=B'.A,U0:=s0.used,β0:=β',hA:=fun b hb=>by have:=B'.hA b hb;rw [hH] at this;omega,hG:=hGB }
 have hsB:Sim Br2 β1 s1 a1.tmps W2:=hsA.mv rfl (hio2.trans hsA.io) (Nat.le_refl _) (fun _ _ _=>rfl) (by omega) (fun b hb hn=>h12 b (fun e=>hn (e ▸ hAL))) (fun _ _ h=>h) (fun p k hp hk=>.inr ⟨p,k,hp,hk,rfl⟩) hsA.us hsA.stay
 have hrunB:=aP hrun Br2 ⟨hn1,rfl,hG1⟩ [] β1 a1 W2 hd1 hsB
 refine wpIn_mono hrunB ?_
 rintro e a3 W3 ⟨hd3,s2,β2,hq,hs3⟩
 have hL3:=(hs3.frame L (al hL2) (fun ho=>(hsA.bu ho).2.1 hAL)).trans hL2
 have hD3:=(hs3.frame D (al hD2) (fun ho=>(hsA.bu ho).2.1 hAD)).trans hD2
 have hLlt3:=al hL3
 have hrest:∀ (W4:World),LK s0 s2→W3.heap.size=W4.heap.size→wio W4=wio W3→(∀ b,b≠L→W4.heap[b]?=W3.heap[b]?) →
   (W4.heap[D]?=some (.deferred (some []))∧∃ B4,BExt B B4∧B4.H0=W4.heap∧(∀ b,B4.O0 b↔bk s2 β2 b)∧(∀ b,B4.A b↔(B.A b∨Xs b∨b=D∨b=L))∧Sim B4 β2 (s2.fra s0.fr) tm W4) ∧
    ∀ C':Nat→Prop,(∀ b,C' b→B.A b∨b=D∨b=L∨bk s2 β2 b)→(wio W4=wio W∧W.heap.size≤W4.heap.size∧(∀ b,b<W.heap.size→¬ C b→W4.heap[b]?=W.heap[b]?)∧(∀ q∈G0,W4.heap[q.1]?=W.heap[q.1]?)∧∀ b,C' b→(C b∨W.heap.size≤b)∧b<W4.heap.size):=by
  intro W4 hlk h34 hio4 h4
  obtain ⟨g1,g2,g3,B4,g4,g5,g6,g7,g8⟩:=SS.after (B2:=Br2) (W2:=W2) hE hH hO hA hsx rfl rfl rfl rfl (fun _=>Iff.rfl) rfl rfl rfl (by omega) (fun b hb hnb hne=>(h12 b hne).trans (hsA.frame b hb hnb)) (fun b hb=>(hsA.bu hb).2.2) hs3 hlk hLz h34 hio4 h4
  refine ⟨⟨(h4 D hDL).trans hD3,B4,g4,g5,g6,g7,g8⟩,fun C' hC'=>⟨hio4.trans (hs3.io.trans hsx.io.symm),g2,fun b hb hn=>g1 b hb (fun h=>hn ((hC b).2 (.inr (.inr (.inr h))))) (fun h=>hn ((hC b).2 (.inr (.inr (.inl h))))),fun q hq=>?_,fun b hb=>?_⟩⟩
  ·have hq':q∈B'.G:=by rw [hG1];exact hq
   have h0:=hqlt q hq'
   exact g1 _ (al (hGn q hq').1) (hGn q hq').2 (by omega)
  ·have hBA:∀ b,B.A b→b<W4.heap.size:=fun b hb=>by have:=B.hA b hb;have:=hE.size;rw [hH] at this;omega
   rcases hC' b hb with h | rfl | rfl | h
   ·exact ⟨.inl ((hC b).2 (.inl h)),hBA b h⟩
   ·exact ⟨.inl ((hC _).2 (.inr (.inl rfl))),by omega⟩
   ·exact ⟨.inl ((hC _).2 (.inr (.inr (.inl rfl)))),by omega⟩
   ·obtain ⟨h1,h2,_⟩:=g3 b h
    refine ⟨?_,h2⟩
    rcases h1 with h1 | h1
    ·exact .inr h1
    ·exact .inl ((hC b).2 (.inr (.inr (.inr h1))))
 have hjump:∀ (c:Code),LK s0 s2→wc P ⟨n0,none,G0,U0⟩ Φ B0 k c (s2.fra s0.fr)→∃ v W4,(Instr.endRound L (some c)).run P W3=.ok v W4∧∃ C',(wio W4=wio W∧W.heap.size≤W4.heap.size∧(∀ b,b<W.heap.size→¬ C b→W4.heap[b]?=W.heap[b]?)∧(∀ q∈G0,W4.heap[q.1]?=W.heap[q.1]?)∧∀ b,C' b→(C b∨W.heap.size≤b)∧b<W4.heap.size)∧W4.heap[D]?=some (.deferred (some [])) ∧
   ((Ending.returned v=.returned (.bool true)∧W4.heap[L]?=some (.loop { state:=.ready,pending:=none,fn,tmps:=tm,params:=ps.toArray,assign,body,defers:=D })∧∃ y,SS B tm D L C' Xs W4 (Iv y)) ∨
    (Ending.returned v=.returned (.bool false)∧∃ c s',W4.heap[L]?=some (.loop { state:=.done,pending:=some c,fn,tmps:=tm,params:=ps.toArray,assign,body,defers:=D })∧wc P ⟨n0,none,G0,U0⟩ Φ B0 k c s'∧SS B tm D L C' Xs W4 s')):=by
  intro c hlk hj
  obtain ⟨⟨r1,B4,r2,r3,r4,r5,r6⟩,r7⟩:=hrest (W3.putObj L (.loop { state:=.done,pending:=some c,fn,tmps:=tm,params:=ps.toArray,assign,body,defers:=D })) hlk (by simp) rfl (fun b hb=>World.putObj_heap_other hb)
  exact ⟨_,_,run_endRound (some c) hL3,_,r7 _ (fun b hb=>hb),r1,.inr ⟨rfl,c,_,World.putObj_heap_same hLlt3,hj,SS.mk' (s5:=s2.fra s0.fr) (β5:=β2) r2 r3 (fun b hb=>(r4 b).2 hb) r5 r6⟩⟩
 cases e with
 | normal =>
   obtain ⟨hlk,y,τ,hle⟩:=hq
   obtain ⟨⟨r1,B4,r2,r3,r4,r5,r6⟩,r7⟩:=hrest (W3.putObj L (.loop { state:=.ready,pending:=none,fn,tmps:=tm,params:=ps.toArray,assign,body,defers:=D })) hlk (by simp) rfl (fun b hb=>World.putObj_heap_other hb)
   obtain ⟨β5,hs5,hβ5⟩:=r6.le (τ:=τ) (by rw [r2.U0,hB.2.1];exact hle)
   have hsub:∀ b,bk (Iv y) β5 b→bk s2 β2 b:=by
    rintro b ⟨p,k,hp,hk,rfl⟩
    cases ho:(Iv y).hp p with
    | none=>exact absurd ho hp
    | some o =>
      refine ⟨τ p,k,?_,by rw [← hβ5 p hp];exact hk,rfl⟩
      have:=(hle.hp p o ho).1
      intro h
      have h':(s2.fra s0.fr).hp (τ p)=none:=h
      rw [h'] at this;cases this
   exact ⟨_,_,run_endRound none hL3,_,r7 (fun b=>B.A b∨b=D∨b=L∨bk (Iv y) β5 b) (fun b hb=>Or.imp id (Or.imp id (Or.imp id (hsub b))) hb),r1,.inl ⟨rfl,World.putObj_heap_same hLlt3,y,SS.mk' r2 r3 (fun b hb=>(r4 b).2 (hsub b hb)) r5 hs5⟩⟩
 | exit i=>exact hjump (.exit i) hq.1 (.inl ⟨i,rfl,hq.2⟩)
 | ret=>exact hjump .ret hq.1 (.inr ⟨rfl,hq.2⟩)
 | goto l=>exact hq.elim
 | panic c=>exact hq.elim
 | outgrown=>exact hq.elim
end
end Go.Ab

namespace Go.Ab
open Go.RowKit
section
variable {P:Program} {cf:Cf}
def asg (P:Program) (cf:Cf) (body:Code) (Q:Exit→St→Prop) (e:Exit) (s1:St):Prop:=e=.normal∧run P cf [.code body] Q s1
theorem Hr {P:Program} {cf:Cf} {body:Code} {Q:Exit→St→Prop} {s1:St} (h:∀ E:Eng P cf Q,E.run [.code body] s1):asg P cf body Q .normal s1:=⟨rfl,veil h⟩
theorem wL {B0:Base} (hro:cf.ro=none) {f:FuncId} {caps:List D} {N:Nat} {xs:Nat→List D} (hit:ItC P cf.G f caps N xs) {g:Operand} {ps:List Nat} {assign body:Code} {k:List It} {s:St} {Φ:Exit→Act→World→Prop}
  (hev:ev s g=.d (.clo f caps)) {X:Type} (Iv:Nat→X→St) (hps:∀ t∈ps,t<cf.n) (hxs:∀ n,n<N→(xs n).length=ps.length) (h0:∃ x τ,Le cf.U τ s (Iv 0 x))
  (hr:∀ n x,n<N→∀ l,run P ⟨cf.n,some l,cf.G,(Iv n x).used⟩ [.code assign] (asg P ⟨cf.n,some l,cf.G,(Iv n x).used⟩ body (rq P cf Φ B0 k (Iv (n+1)) (Iv n x))) (og (Iv n x) ps (xs n)))
  (hd:∀ x,ARY P cf Φ (CI B0) k (Iv N x)):ARY P cf Φ (CI B0) (.code (.rangeFunc g ps.toArray assign body)::k) s:=by
 obtain ⟨n0,ro,G0,U0⟩:=cf
 simp only at hro
 subst hro
 intro B hB ds β a w hds hCI hs
 refine wpIn_rangeFunc fun fn _=>?_
 have hg:=hs.ev g
 rw [hev] at hg
 obtain ⟨cvs,hsz,hcv,hval⟩:∃ cvs:Array Value,cvs.size=caps.length∧(∀ i d,caps[i]?=some d→Rep w.heap (s.own B.A β) (cvs.getD i undef) d)∧a.eval g=.func (.func f) #[] cvs:=by
  have:=hg.toD
  generalize a.eval g=v at this
  cases this with
  | clo _ vs _ h1 h2=>exact ⟨vs,h1,h2,rfl⟩
 obtain ⟨W1,hW1⟩:∃ W1,(w.alloc (.deferred (some []))).alloc (.loop { state:=.ready,pending:=none,fn,tmps:=a.tmps,params:=ps.toArray,assign,body,defers:=w.heap.size })=W1:=⟨_,rfl⟩
 have hz1:W1.heap.size=w.heap.size+2:=by rw [← hW1];simp
 have hL1:W1.heap[w.heap.size+1]?=some (.loop { state:=.ready,pending:=none,fn,tmps:=a.tmps,params:=ps.toArray,assign,body,defers:=w.heap.size }):=by
  rw [← hW1]
  have:=World.alloc_heap_new (w.alloc (.deferred (some []))) (.loop { state:=.ready,pending:=none,fn,tmps:=a.tmps,params:=ps.toArray,assign,body,defers:=w.heap.size })
  rwa [World.size_alloc] at this
 have hD1:W1.heap[w.heap.size]?=some (.deferred (some [])):=by
  rw [← hW1];exact (Below.heap_alloc _ _ _ (by simp)).trans (World.alloc_heap_new w _)
 have hold:∀ b,b<w.heap.size→W1.heap[b]?=w.heap[b]?:=fun b hb=>by
  rw [← hW1];exact (Below.heap_alloc _ _ _ (by simp;omega)).trans (Below.heap_alloc _ _ _ hb)
 have hio1:wio W1=wio w:=by rw [← hW1];rfl
 obtain ⟨x0,τ,hle⟩:=h0
 obtain ⟨β0,hs0,hβ0⟩:=hs.le (τ:=τ) (by rw [hB.2.1];exact hle)
 have hBz:B.H0.size≤w.heap.size:=hs.size
 have hown0:∀ b,bk (Iv 0 x0) β0 b→s.own B.A β b:=by
  rintro b ⟨p,k,hp,hk,rfl⟩
  cases ho:(Iv 0 x0).hp p with
  | none=>exact absurd ho hp
  | some o =>
    refine .inr ⟨τ p,k,?_,by rw [← hβ0 p hp];exact hk,rfl⟩
    rw [(hle.hp p o ho).1];simp
 let D:=w.heap.size
 let L:=w.heap.size+1
 let RB:LoopState→Option Code→(Nat→Prop)→World→Prop:=fun st pe X W =>
  W.heap[L]?=some (.loop { state:=st,pending:=pe,fn,tmps:=a.tmps,params:=ps.toArray,assign,body,defers:=D })∧W.heap[D]?=some (.deferred (some []))∧w.heap.size+2≤W.heap.size∧∀ b,X b→w.heap.size+2≤b∧b<W.heap.size
 obtain ⟨z,hzl,hzw,hzC,hzJ,hzX⟩:∃ z:Itz,z.l=L∧z.w=W1∧(z.C0=fun b=>B.A b∨b=D∨b=L∨bk (Iv 0 x0) β0 b)∧(z.J=fun n C X W=>RB .ready none X W∧∃ x,SS B a.tmps D L C X W (Iv n x)) ∧
  (z.Jx=fun _ C X W=>∃ c s',RB .done (some c) X W∧wc P ⟨n0,none,G0,U0⟩ Φ B0 k c s'∧SS B a.tmps D L C X W s'):=⟨⟨L,W1,_,_,_⟩,rfl,rfl,rfl,rfl,rfl⟩
 have hRB:∀ st pe X W X' W',RB st pe X W→Stp W X W' X'→RB st pe X' W':=fun st pe X W X' W' ⟨h1,h2,h3,h4⟩ hst=>by
  refine ⟨(hst.same L (al h1) (fun hx=>by have:=(h4 _ hx).1;show False;simp only [L] at this;omega)).trans h1,(hst.same D (al h2) (fun hx=>by have:=(h4 _ hx).1;show False;simp only [D] at this;omega)).trans h2,Nat.le_trans h3 hst.size,fun b hb=>⟨?_,(hst.new b hb).2⟩⟩
  rcases (hst.new b hb).1 with h | h
  ·exact (h4 b h).1
  ·exact Nat.le_trans h3 h
 have hz:z.Ok P G0 N xs:=by
  refine ⟨?_,?_,?_,?_⟩<;>simp only [hzl,hzw,hzC,hzJ,hzX]
  ·rintro b (h | rfl | rfl | h)
   ·have:=B.hA b h;show b<W1.heap.size;omega
   ·show w.heap.size<W1.heap.size;omega
   ·show w.heap.size+1<W1.heap.size;omega
   ·have:=hs.qb (hown0 b h);show b<W1.heap.size;omega
  ·rintro n C X W X' W' ⟨h1,x,h2⟩ hst
   exact ⟨hRB _ _ _ _ _ _ h1 hst,x,h2.stp hst (fun b hb=>(h1.2.2.2 b hb).1) (by omega) h1.2.2.1 (al h1.2.1) (al h1.1)⟩
  ·rintro n C X W X' W' ⟨c,s',h1,hj,h2⟩ hst
   exact ⟨c,s',hRB _ _ _ _ _ _ h1 hst,hj,h2.stp hst (fun b hb=>(h1.2.2.2 b hb).1) (by omega) h1.2.2.1 (al h1.2.1) (al h1.1)⟩
  ·rintro n C X W vs hn ⟨h1,x,h2⟩ hvs hrep
   obtain ⟨fn',t',as',bd',hy,hrd⟩:=Bp (B0:=B0) (k:=k) (Iv:=Iv (n+1)) (D:=D) (L:=L) hB hps (hxs n hn) (hr n x hn L) h1.1 (by simp only [D,L];omega) (by simp only [L];omega) (by simp only [D];omega) h1.2.1 h2 hvs hrep
   refine ⟨fn',t',as',bd',hy,hrd.mono ?_⟩
   rintro e W' ⟨C',hc,hD',hq⟩
   have hX:∀ b,X b→w.heap.size+2≤b∧b<W'.heap.size:=fun b hb=>⟨(h1.2.2.2 b hb).1,Nat.lt_of_lt_of_le (h1.2.2.2 b hb).2 hc.2.1⟩
   refine ⟨C',hc,?_⟩
   rcases hq with ⟨rfl,hl,y,hS⟩ | ⟨rfl,c,s',hl,hj,hS⟩
   ·exact .inl ⟨rfl,⟨hl,hD',Nat.le_trans h1.2.2.1 hc.2.1,hX⟩,y,hS⟩
   ·exact .inr ⟨rfl,c,s',⟨hl,hD',Nat.le_trans h1.2.2.1 hc.2.1,hX⟩,hj,hS⟩
 have hJ0:z.J 0 z.C0 (fun _=>False) z.w:=by
  simp only [hzw,hzC,hzJ]
  refine ⟨⟨hL1,hD1,by show _≤W1.heap.size;omega,fun b hb=>hb.elim⟩,x0,?_⟩
  have hG:∀ q∈B.G,W1.heap[q.1]?=some q.2∧¬ bk (Iv 0 x0) β0 q.1:=fun q hq=>by
   obtain ⟨g1,g2⟩:=B.hG q hq
   have hlt:=al g1
   refine ⟨(hold _ (by omega)).trans ((hs.frame _ hlt g2).trans g1),fun hb=>?_⟩
   rcases (hs0.bu hb).2.2 with h | h
   ·omega
   ·exact g2 h
  have hA1:∀ b,(B.A b∨False∨b=D∨b=L)→b<W1.heap.size:=by
   rintro b (h | h | rfl | rfl)
   ·have:=B.hA b h;omega
   ·exact h.elim
   ·show w.heap.size<_;omega
   ·show w.heap.size+1<_;omega
  let B1:Base:={ n:=B.n,io:=B.io,G:=B.G,H0:=W1.heap,O0:=bk (Iv 0 x0) β0,A:=fun b=>B.A b∨False∨b=D∨b=L,U0:=B.U0,β0:=B.β0,hG:=hG,hA:=hA1 }
  refine SS.mk' (B4:=B1) (β5:=β0) ⟨rfl,rfl,rfl,rfl,rfl,by show B.H0.size≤W1.heap.size;omega,fun b hb ho=>(hold b (by omega)).trans (hs.frame b hb ho),fun b hb ho=>?_,fun b hb=>.inl hb⟩ rfl (fun b hb=>hb) (fun b=>Iff.rfl) ?_
  ·rcases (hs0.bu ho).2.2 with h | h
   ·omega
   ·exact h
  ·refine hs0.mv rfl (hio1.trans hs.io) (Nat.le_refl _) (fun _ _ _=>rfl) (by omega) (fun b hb _=>hold b hb) (fun b hb hc=>?_) (fun p k hp hk=>.inr ⟨p,k,hp,hk,rfl⟩) hs0.us hs0.stay
   rcases hc with h | h | h | h
   ·exact h
   ·exact h.elim
   ·simp only [D] at h;omega
   ·simp only [L] at h;omega
 have hcaps:∀ i d,caps[i]?=some d→Rep z.w.heap z.C0 (cvs.getD i undef) d:=fun i d hi=>(by rw [hzw,hzC];exact (hcv i d hi).mono (fun b _ hlt=>hold b hlt) (fun b hb hc=>by
  rcases hc with h | h | h | h
  ·exact .inl h
  ·simp only [D] at h;omega
  ·simp only [L] at h;omega
  ·exact hown0 b h))
 have hGz:∀ q∈G0,z.w.heap[q.1]?=some q.2:=fun q hq=>by
  obtain ⟨g1,g2⟩:=B.hG q (by rw [hB.2.2];exact hq)
  have hlt:=al g1
  rw [hzw];exact (hold _ (by omega)).trans ((hs.frame _ hlt g2).trans g1)
 have hcall:=hit.2 z hz cvs hsz hcaps hJ0 hGz
 rw [hzl,hzw] at hcall
 simp only [hzJ,hzX] at hcall
 refine ⟨L,[mkD D],W1,{ target:=.fn (.func f) cvs,args:=#[.func (.yield L) #[] #[]] },W1,f,#[.func (.yield L) #[] #[]]++cvs,W1,?_,?_,fun _ _=>trivial,?_,fun hdep=>by simp [fx] at hdep,?_⟩
 ·rw [← hW1];exact run_enterLoop_outer _ _ _ _ _
 ·simp only [resolve,hval]
  simp [go_sem]
 ·simp [invoke,go_sem,hit.1]
 have hcall':CallsIn (Fw none) (0-1) P f (#[.func (.yield L) #[] #[]]++cvs) W1 _:=hcall
 refine hcall'.mono ?_
 rintro e W2 ⟨⟨v,rfl⟩,C,X',hq⟩
 have key:∀ st pe s',RB st pe X' W2→SS B a.tmps D L C X' W2 s'→∃ W4 B5 β5,W4=W2.putObj L (.loop { state:=.exhausted,pending:=pe,fn,tmps:=a.tmps,params:=ps.toArray,assign,body,defers:=D })∧CI B0 B5 ([mkD D]++a.defers)∧(⟨n0,none,G0,U0⟩:Cf).fits B5∧Sim B5 β5 s' a.tmps W4:=by
  rintro st pe s' ⟨h1,h2,h3,h4⟩ ⟨β',B',hE,hH,hO,hA,hC,hsx⟩
  have hoth:∀ b,b≠L→(W2.putObj L (.loop { state:=.exhausted,pending:=pe,fn,tmps:=a.tmps,params:=ps.toArray,assign,body,defers:=D })).heap[b]?=W2.heap[b]?:=fun b hb=>World.putObj_heap_other hb
  have hlt:∀ b,b<B.H0.size→b≠L:=fun b hb=>by simp only [L];omega
  have hsz4:(W2.putObj L (.loop { state:=.exhausted,pending:=pe,fn,tmps:=a.tmps,params:=ps.toArray,assign,body,defers:=D })).heap.size=W2.heap.size:=by simp
  generalize hW4:W2.putObj L (.loop { state:=.exhausted,pending:=pe,fn,tmps:=a.tmps,params:=ps.toArray,assign,body,defers:=D })=W4 at hoth hsz4
  have hio4:wio W4=wio W2:=by rw [← hW4];rfl
  have hG5:∀ q∈B'.G,W4.heap[q.1]?=some q.2∧¬ bk s' β' q.1:=fun q hq=>by
   have g0:=al (B.hG q (by rw [← hE.G];exact hq)).1
   have g1:=B'.hG q hq
   exact ⟨(hoth _ (hlt _ g0)).trans (by rw [← hH];exact g1.1),fun hb=>g1.2 ((hO _).2 hb)⟩
  let B5:Base:={ n:=B'.n,io:=B'.io,G:=B'.G,H0:=W4.heap,O0:=bk s' β',A:=B'.A,U0:=B'.U0,β0:=B'.β0,hA:=fun b hb=>by have:=B'.hA b hb;rw [hH] at this;omega,hG:=hG5 }
  have hE5:BExt B B5:=by
   refine ⟨hE.n,hE.io,hE.G,hE.U0,hE.β0,by show B.H0.size≤W4.heap.size;omega,fun b hb ho=>?_,fun b hb ho=>hE.O0 b hb ((hO b).2 ho),hE.A⟩
   show W4.heap[b]?=_
   rw [hoth b (hlt b hb),← hH];exact hE.frame b hb ho
  refine ⟨W4,B5,β',rfl,⟨hCI.ext.trans hE5,?_⟩,⟨hE5.n.trans hB.1,hE5.U0.trans hB.2.1,hE5.G.trans hB.2.2⟩,?_⟩
  ·obtain ⟨Ds,e1,e2,e3⟩:=hCI.mark
   have hAD:B'.A D:=(hA D).2 (.inr (.inr (.inl rfl)))
   refine ⟨D::Ds,by rw [hds,e1];rfl,List.nodup_cons.2 ⟨fun hm=>?_,e2⟩,fun D' hD'=>?_⟩
   ·have:=al (e3 D hm).1
    simp only [D] at this;omega
   ·rcases List.mem_cons.1 hD' with rfl | hm
    ·refine ⟨(hoth D (by simp only [D,L];omega)).trans h2,hAD,Nat.le_trans hCI.ext.size hBz,fun ho=>(hsx.bu ho).2.1 hAD⟩
    ·obtain ⟨f1,f2,f3,f4⟩:=e3 D' hm
     have hl:=al f1
     exact ⟨(hE5.frame D' hl f4).trans f1,hE5.A D' f2,f3,fun ho=>f4 (hE5.O0 D' hl ho)⟩
  ·exact hsx.mv rfl (hio4.trans hsx.io) (Nat.le_refl _) (fun _ _ _=>rfl) (by omega) (fun b hb hn=>hoth b (fun e=>hn (e ▸ (hA L).2 (.inr (.inr (.inr rfl)))))) (fun b _ h=>h) (fun p k hp hk=>.inr ⟨p,k,hp,hk,rfl⟩) hsx.us hsx.stay
 rcases hq with ⟨h1,x,hS⟩ | ⟨n,c,s',h1,hj,hS⟩
 ·obtain ⟨W4,B5,β5,e4,hc5,hf5,hs5⟩:=key _ _ _ h1 hS
  refine ⟨none,W4,?_,?_⟩
  ·rw [e4];exact run_endLoop h1.1 (by simp)
  ·exact hd x B5 hf5 _ β5 { a with defers:=[mkD D]++a.defers } W4 rfl hc5 hs5
 ·obtain ⟨W4,B5,β5,e4,hc5,hf5,hs5⟩:=key _ _ _ h1 hS
  refine ⟨some c,W4,?_,?_⟩
  ·rw [e4];exact run_endLoop h1.1 (by simp)
  ·rcases hj with ⟨i,rfl,hy⟩ | ⟨rfl,hy⟩
   ·exact wpIn_exit (jm (a:={ a with defers:=[mkD D]++a.defers }) hf5 hc5 rfl hy hs5)
   ·exact wpIn_ret (jm (a:={ a with defers:=[mkD D]++a.defers }) hf5 hc5 rfl hy hs5)
def RH (B0:Base) (Q:AV→List (Name × Ob)→Prop) (e:Ending) (w:World):Prop:=∃ v r hp' u' β',e=.returned v∧Q r hp'∧Sim { B0 with n:=1 } β' (mk [(0,r)] hp' u') #[v] w
def ΦR (P:Program) (fn:Func) (B0:Base) (Q:AV→List (Name × Ob)→Prop):Exit→Act→World→Prop:=bodyPostM Fence.wide 0 P fn (RH B0 Q)
theorem marks {fn:Func} {tmps:Array Value} {R:Ending→World→Prop}:∀ (Ds:List Nat) (w:World),Ds.Nodup→(∀ D∈Ds,w.heap[D]?=some (.deferred (some []))) →
  (∀ w',w'.heap.size=w.heap.size→wio w'=wio w→(∀ b,b ∉ Ds→w'.heap[b]?=w.heap[b]?)→∃ v,(results fn tmps).run P w'=.ok v w'∧R (.returned v) w')→LeavesInM Fence.wide 0 P fn tmps R (Ds.map mkD) .returning w
 | [],w,_,_,h=>h w rfl rfl (fun _ _=>rfl)
 | D::Ds,w,hn,hd,h=>by
   obtain ⟨h1,h2⟩:=List.nodup_cons.1 hn
   have hD:=hd D List.mem_cons_self
   refine ⟨by simp,.inl ⟨D,_,rfl,run_takeDeferred hD,marks Ds _ h2 (fun D' hD'=>?_) (fun w' z1 z2 z3=>?_)⟩⟩
   ·have hne:D'≠D:=fun e=>h1 (e ▸ hD')
    exact (World.putObj_heap_other hne).trans (hd D' (List.mem_cons_of_mem _ hD'))
   ·refine h w' (by rw [z1];simp) (z2.trans rfl) (fun b hb=>?_)
    rw [z3 b (fun hm=>hb (List.mem_cons_of_mem _ hm))]
    have hne:b≠D:=fun e=>hb (e ▸ List.mem_cons_self)
    exact World.putObj_heap_other hne
theorem CI.back {B0 B:Base} {ds:List Deferred} {β:Name→Option Blk} {s:St} {tm:Array Value} {w:World} (h:CI B0 B ds) (hs:Sim B β s tm w) {fn:Func} {R:Ending→World→Prop}
  (hR:∀ w',Sim B0 β s tm w'→∃ v,(results fn tm).run P w'=.ok v w'∧R (.returned v) w'):LeavesInM Fence.wide 0 P fn tm R ds .returning w:=by
 obtain ⟨Ds,rfl,hn,hd⟩:=h.mark
 refine marks Ds w hn (fun D hD=>?_) (fun w' z1 z2 z3=>hR w' ?_)
 ·obtain ⟨f1,f2,f3,f4⟩:=hd D hD
  exact (hs.frame D (al f1) f4).trans f1
 ·have hz:=h.ext.size
  have hz2:=hs.size
  refine hs.mv h.ext.n.symm (z2.trans (hs.io.trans h.ext.io)) (by omega) (fun b hb ho=>?_) (by omega) (fun b hb hna=>z3 b (fun hm=>hna (hd b hm).2.1)) (fun b _ hb=>h.ext.A b hb) (fun p k hp hk=>?_) (by rw [← h.ext.U0];exact hs.us) (by rw [← h.ext.U0,← h.ext.β0];exact hs.stay)
  ·rw [z3 b (fun hm=>by have:=(hd b hm).2.2.1;omega),hs.frame b (by omega) (fun hc=>ho (h.ext.O0 b hb hc))]
   exact h.ext.frame b hb ho
  ·rcases (hs.blocks p k hp hk).2.2 with g | g
   ·exact .inl (by omega)
   ·rcases Nat.lt_or_ge k.b B0.H0.size with hlt | hge
    ·exact .inr (h.ext.O0 _ hlt g)
    ·exact .inl hge
theorem qz {B:Base} {β:Name→Option Blk} {s:St} {tm:Array Value} {w:World} {v:Value} {x:AV} (hsim:Sim B β s tm w) (hv:VR w.heap (s.own B.A β) s.used s.hp β v x):Sim { B with n:=1 } β (mD s x) #[v] w:=by
 refine { tms:=rfl,io:=hsim.io,size:=hsim.size,frame:=hsim.frame,slots:=fun t=>?_,objs:=hsim.objs,blocks:=hsim.blocks,inj:=hsim.inj,us:=hsim.us,stay:=hsim.stay }
 show VR w.heap (s.own B.A β) s.used s.hp β _ (if t=0 then x else .un)
 by_cases ht:t=0
 ·subst ht;rw [if_pos rfl];exact hv
 ·rw [if_neg ht];exact .un _
theorem HF {B0:Base} {fn:Func} {u:List Nat} {Q:AV→List (Name × Ob)→Prop} {s:St} {e:Exit} (he:e=.ret∨e=.normal) (hu:B0.U0=u) (h:fq P fn.results.toList u Q .ret s):ARX cf (ΦR P fn { B0 with n:=1 } Q) (CI B0) e s:=by
 intro B hB ds β a w hds hc hs
 have:LeavesInM Fence.wide 0 P fn a.tmps (RH { B0 with n:=1 } Q) a.defers .returning w:=by
  rw [hds]
  refine hc.back hs (fun w' hs'=>?_)
  obtain ⟨l,v,⟨r,hp',u',τ,hQ,hle⟩,hr,hv⟩:=cz hs' fn h
  obtain ⟨β2,hs2,_⟩:=(qz hs' hv).le (τ:=τ) (by show Le B0.U0 τ _ _;rw [hu];exact hle.le)
  exact ⟨v,hr,v,r,hp',u',β2,rfl,hQ,hs2⟩
 rcases he with rfl | rfl<;>exact this
theorem gz {B0:Base} {fn:Func} {Q:AV→Prop} {s:St} {e:Exit} (he:e=.ret∨e=.normal) (hu:B0.U0=[]) (h:pz P fn.results.toList Q .ret s):ARX cf (ΦR P fn { B0 with n:=1 } fun r hp'=>Q r∧r.inU []=true∧hp'=[]) (CI B0) e s:=by
 intro B hB ds β a w hds hc hs
 have:LeavesInM Fence.wide 0 P fn a.tmps (RH { B0 with n:=1 } fun r hp'=>Q r∧r.inU []=true∧hp'=[]) a.defers .returning w:=by
  rw [hds]
  refine hc.back hs (fun w' hs'=>?_)
  obtain ⟨l,v,⟨L,hL,hin,hQ⟩,hr,hv⟩:=cz hs' fn h
  obtain ⟨s2,hs2,hfr⟩:=mj L _ (qz hs' hv) (p6 (bZ l) L s _ rfl hL)
  have hle:LeL ([]:List Nat) id s2 [(0,frzs L (bZ l))] [] []:=by
   refine ⟨⟨⟨?_,hin⟩,trivial⟩,trivial,trivial,rfl,trivial⟩
   rw [AV.dI id (fun _=>rfl),hfr 0]
   rfl
  obtain ⟨β2,hs3,_⟩:=hs2.le (τ:=id) (by show Le B0.U0 id _ _;rw [hu];exact hle.le)
  exact ⟨v,hr,v,_,_,_,β2,rfl,⟨hQ,hin,rfl⟩,hs3⟩
 rcases he with rfl | rfl<;>exact this
theorem qf {G:List (Nat × Obj)} {f:FuncId} {fn:Func} {c:Code} {args:List AV} {hp:List (Name × Ob)} {u:List Nat} {Q:AV→List (Name × Ob)→Prop} (hf:P.funcs[f]?=some fn) (hb:fn.body=some c)
  (hnm:(fn.name == "runtime.NumGoroutine")=false) (hn:args.length≤fn.ntmps)
  (h:∀ B0:Base,B0.U0=u→ARY P ⟨fn.ntmps,none,G,u⟩ (ΦR P fn { B0 with n:=1 } Q) (CI B0) [.code c] (mk (aB 0 args) hp u)):HCall P G f args hp u Q:=by
 refine ⟨cC hf hb hnm,fun B β vs w h1 h2 h3 h4 hs=>?_⟩
 have hsz:vs.size=args.length:=hs.tms.trans h1
 have hs':Sim { B with n:=fn.ntmps } β (mk (aB 0 args) hp u) (vs++Array.replicate (fn.ntmps-vs.size) undef) w:=by
  refine { hs with tms:=by simp;omega,slots:=fun t=>?_ }
  have:=hs.slots t
  by_cases ht:t<vs.size
  ·have e:(vs++Array.replicate (fn.ntmps-vs.size) undef).getD t undef=vs.getD t undef:=by
    simp [Array.getD_eq_getD_getElem?,Array.getElem?_append,ht]
   rw [e];exact this
  ·have e:(mk (aB 0 args) hp u).fr t=.un:=by
    rw [cS,aN,if_pos (Nat.zero_le _),List.getElem?_eq_none (by omega)];rfl
   rw [e];exact .un _
 have hrun:=h { B with n:=fn.ntmps } h3 { B with n:=fn.ntmps } ⟨rfl,h3,h4⟩ [] β { tmps:=vs++Array.replicate (fn.ntmps-vs.size) undef,defers:=[] } w rfl ⟨.refl _,[],rfl,List.nodup_nil,fun D hD=>by cases hD⟩ hs'
 exact callsIn_of_wp_marks hf hb trivial hrun
theorem o8 {s0:St} {fr:List (Nat × AV)} {hp:List (Name × Ob)} {u:List Nat} (h:∀ q∈hp,nmb s0.used q.1=true→∃ o,s0.hp q.1=some o∧o.like q.2):LK s0 (mk fr hp u):=by
 intro p o' hn ho
 refine h _ (fj ho) ?_
 obtain ⟨a,t,rfl,ha⟩:=hn
 simpa [nmb] using ha
theorem gF (fr fr':List (Nat × AV)) (hp:List (Name × Ob)) (u u':List Nat) (hp':List (Name × Ob)):(mk fr hp u).fra (mk fr' hp' u').fr=mk fr' hp u:=rfl
end
end Go.Ab

namespace Go.Ab
section
variable {P:Program}
theorem HCall.fB {G:List (Nat × Obj)} {f:FuncId} {args:List AV} {hp:List (Name × Ob)} {u:List Nat} {Q Q':AV→List (Name × Ob)→Prop} (h:HCall P G f args hp u Q) (p:Name) (x:D)
  (hQ:∀ r hp',Q r hp'→(mk [] hp' []).hp p=some (.box (x.cells.map .d))∧(x.cells.all D.scal)=true∧Q' (r.frB p x) ((iE hp' p).map fun q=>(q.1,q.2.frB p x))):HCall P G f args hp u Q':=by
 refine ⟨h.1,fun B β vs W h1 h2 h3 h4 h5=>?_⟩
 refine (h.2 B β vs W h1 h2 h3 h4 h5).mono ?_
 rintro e w' ⟨v,r,hp',u',β',he,hq,hs⟩
 obtain ⟨g1,g2,g3⟩:=hQ r hp' hq
 have:=hs.frB (p:=p) (d:=x) g1 (List.all_eq_true.1 g2)
 rw [B6] at this
 exact ⟨v,_,_,_,β',he,g3,this⟩
theorem HCall.fA {G:List (Nat × Obj)} {f:FuncId} {args:List AV} {hp:List (Name × Ob)} {u:List Nat} {Q Q':AV→List (Name × Ob)→Prop} (h:HCall P G f args hp u Q) (p:Name)
  (hQ:∀ r hp',Q r hp'→∃ w xs,(mk [] hp' []).hp p=some (.arr w xs)∧Q' (r.frz p w xs) ((iE hp' p).map fun q=>(q.1,q.2.frz p w xs))):HCall P G f args hp u Q':=by
 refine ⟨h.1,fun B β vs W h1 h2 h3 h4 h5=>?_⟩
 refine (h.2 B β vs W h1 h2 h3 h4 h5).mono ?_
 rintro e w' ⟨v,r,hp',u',β',he,hq,hs⟩
 obtain ⟨w,xs,g1,g3⟩:=hQ r hp' hq
 have:=hs.eQ (p:=p) g1
 rw [vC] at this
 exact ⟨v,_,_,_,β',he,g3,this⟩
end
section
variable {P:Program} {cf:Cf} {Q:Exit→St→Prop} {s:St} {k:List It}
theorem bw (E:Eng P cf Q) {d:Nat} {fv:Operand} {args:Array Operand} {at':Array TypeId} {ty:TypeId} {pos:String} {af:Array Edge}
  {f:FuncId} {caps:List AV} (σ:Name→Name) (cargs:List AV) (chp:List (Name × Ob)) (cu:List Nat) {Q0:AV→List (Name × Ob)→Prop} (hc:HCall P cf.G f cargs chp cu Q0)
  (hev:ev s fv=.clo f caps) (hargs:args.toList.map (ev s)++caps=dM σ cargs) (hd:d<cf.n∧d ∉ s.used) (hcu:dC cu cargs=true) (hpass:dN σ cu s chp) (hinj:kI σ chp)
  (hk:∀ r hp',Q0 r hp'→gp chp hp'∧E.run k (aft s σ d chp hp' r)) :
  E.stp { dst:=some d,op:=.call { callee:=.value fv,args:=args,argTypes:=at' },type:=ty,pos:=pos,after:=af,guard:=none } s k .no:=by
 rw [aE]
 refine qd d σ cargs chp cu Q0 hev hargs hcu hd.2 (fun t ht=>?_) hpass hinj hc fun r hp' hr=>?_
 ·obtain rfl:=Option.some.inj ht
  exact ⟨hd.1,rfl⟩
 ·obtain ⟨h1,h2⟩:=hk r hp' hr
  exact ⟨h1,by rw [← E.run_eq];exact h2⟩
theorem wR (E:Eng P cf Q) {d:Option Nat} {op:Op} {ty:TypeId} {ps:String} {af:Array Edge} (p:Name) (j n:Nat) (w:W) (cs:List AV) (hp:s.hp p=some (.box cs)) (hj:cs[j]?=some (.d .nils)) (hn:n ∉ s.used) {s':St} (he:(s.add n (.arr w [])).set p (some (.box (cs.set j (.vw [n] 0 0))))=s')
  (h:E.stp { dst:=d,op:=op,type:=ty,pos:=ps,after:=af,guard:=none } s' k (opR P.ti cf.n op d s')):E.stp { dst:=d,op:=op,type:=ty,pos:=ps,after:=af,guard:=none } s k .no:=by
 subst he
 rw [aE]
 rw [E.stp_eq] at h
 have h0:=cZ (o:={ dst:=d,op:=op,type:=ty,pos:=ps,after:=af,guard:=none }) rfl h
 intro B hB ds β a w' hds hs
 have h1:=hs.dU hn none w
 have hpn:p≠[n]:=fE (hs.objs p _ hp).1 hn
 refine h0 B hB ds _ a w' hds (h1.rebox (cs:=cs) (by simpa [St.add,au,hpn] using hp) (by simp) fun v i x x' hx hx' hv=>?_)
 by_cases e:j=i
 ·subst e
  rw [hj] at hx
  cases hx
  rw [List.getElem?_set] at hx'
  simp at hx'
  obtain ⟨_,rfl⟩:=hx'
  exact jy (w:=w) ⟨n,[],rfl,List.mem_cons_self⟩ (by simp [St.add,au]) hv
 ·rw [List.getElem?_set_ne e,hx] at hx'
  cases hx'
  exact hv
end
section
variable {P:Program} {cf:Cf} {Q:Exit→St→Prop} {s:St} {k:List It} {κ:Type} [DecidableEq κ] {ke:κ→D} {kv:κ→Value}
end
section
variable {P:Program} {cf:Cf} {ops:Array Oper} {K:St→Ns→Prop} {s:St} {r:List Oper} {ns:Ns}
end
section
variable {P:Program} {cf:Cf} {Φ:Exit→Act→World→Prop} {I:Base→List Deferred→Prop} {k:List It} {s:St}
theorem xg (p:Name) (j n:Nat) (w:W) (cs:List AV) (hp:s.hp p=some (.box cs)) (hj:cs[j]?=some (.d .nils)) (hn:n ∉ s.used) (h:ARY P cf Φ I k ((s.add n (.arr w [])).set p (some (.box (cs.set j (.vw [n] 0 0)))))):ARY P cf Φ I k s:=by
 intro B hB ds β a w' hds hi hs
 have h1:=hs.dU hn none w
 have hpn:p≠[n]:=fE (hs.objs p _ hp).1 hn
 refine h B hB ds _ a w' hds hi (h1.rebox (cs:=cs) (by simpa [St.add,au,hpn] using hp) (by simp) fun v i x x' hx hx' hv=>?_)
 by_cases e:j=i
 ·subst e
  rw [hj] at hx
  cases hx
  rw [List.getElem?_set] at hx'
  simp at hx'
  obtain ⟨_,rfl⟩:=hx'
  exact jy (w:=w) ⟨n,[],rfl,List.mem_cons_self⟩ (by simp [St.add,au]) hv
 ·rw [List.getElem?_set_ne e,hx] at hx'
  cases hx'
  exact hv
def lkO:Option Ob→Ob→Prop
 | some o,o'=>o.like o'
 | none,_=>False
theorem Ca (o o':Ob):lkO (some o) o'=o.like o':=rfl
def LKL (s0:St):List (Name × Ob)→Prop
 | []=>True
 | q::r=>(nmb s0.used q.1=true→lkO (s0.hp q.1) q.2)∧LKL s0 r
theorem fI {s0:St}:∀ {l:List (Name × Ob)},LKL s0 l→∀ q∈l,nmb s0.used q.1=true→∃ o,s0.hp q.1=some o∧o.like q.2
 | [],_,q,h,_=>by cases h
 | _::r,h,q,hq,hn=>by
   rcases List.mem_cons.1 hq with rfl | hq
   ·have:=h.1 hn
    cases ho:s0.hp q.1 with
    | none=>rw [ho] at this;exact this.elim
    | some o=>rw [ho] at this;exact ⟨o,rfl,this⟩
   ·exact fI h.2 q hq hn
theorem Fu {B0:Base} {X:Type} {Iv:X→St} {fr0 fr:List (Nat × AV)} {hp0 hp:List (Name × Ob)} {u0 u:List Nat} {fr':List (Nat × AV)} {hp':List (Name × Ob)} {u':List Nat} (hl:LKL (mk fr0 hp0 u0) hp) (y:X) (τ:Name→Name) (hy:Iv y=mk fr' hp' u') (hle:LeL cf.U τ (mk fr0 hp u) fr' hp' u') :
 rq P cf Φ B0 k Iv (mk fr0 hp0 u0) .normal (mk fr hp u):=⟨o8 (fI hl),y,τ,by rw [hy];exact hle.le⟩
theorem ye (s:St) (t:Nat) (ts:List Nat) (d:D) (ds:List D):og s (t::ts) (d::ds)=og (s.put t (.d d)) ts ds:=rfl
theorem zz (s:St) (ds:List D):og s [] ds=s:=by cases ds<;>rfl
theorem yR (a b:Nat) (l m:List Nat):((a::l) == (b::m))=(a == b && l == m):=rfl
theorem Ed:(([]:List Nat) == [])=true:=rfl
theorem Eu (b:Nat) (m:List Nat):(([]:List Nat) == b::m)=false:=rfl
theorem Ei (b:Nat) (m:List Nat):(b::m == ([]:List Nat))=false:=rfl
attribute [go_sem] yR Ed Eu Ei Bool.false_and Bool.and_false Bool.true_and Bool.and_true Bool.or_self Bool.and_self Az LKL Ca ye zz
end
section
variable {P:Program} {cf:Cf} {ops:Array Oper} {K:St→Ns→Prop} {s:St} {r:List Oper} {ns:Ns}
end
end Go.Ab

namespace Go.Ab
section
variable {P:Program} {cf:Cf} {ops opsP:Array Oper}
theorem Cj {ro:Option Nat} {Q:Exit→Act→World→Prop} {m:Nat} (haft:∀ i o,ops[i]?=some o→∀ e∈o.after,Region.binds .any e=true→e.on<i) (htl:∀ j i,m≤j→j<ops.size→i<j→Anc ops j i) :
  ∀ (d j fuel:Nat) (listed:Array Bool) (a:Act) (w:World),j+d=ops.size→m≤j→d≤fuel→Up ops listed (List.range j)→wpOpsIn (Fw ro) 0 P ops Q (List.range' j d) a w→wpAnyIn (Fw ro) 0 P .any ops Q fuel listed a w:=by
 intro d
 induction d with
 | zero =>
   intro j fuel listed a w hj hmj hf hu h
   have hr:Region.ready .any ops listed=[]:=by
    apply List.eq_nil_iff_forall_not_mem.2
    intro i hi
    obtain ⟨h0,o,ho,_⟩:=mem_ready.1 hi
    have hlt:i<ops.size:=by
     rcases Nat.lt_or_ge i ops.size with hlt | hge
     ·exact hlt
     ·rw [Array.getElem?_eq_none hge] at ho;cases ho
    have h3:=(hu.mem i hlt).2 (List.mem_range.2 (by omega))
    simp [h3] at h0
   cases fuel with
   | zero=>exact ⟨hr,h⟩
   | succ fuel=>exact ⟨fun _=>h,fun i hi=>by rw [hr] at hi;cases hi⟩
 | succ d ih =>
   intro j fuel listed a w hj hmj hf hu h
   cases fuel with
   | zero=>omega
   | succ fuel =>
     have hjl:j<ops.size:=by omega
     obtain ⟨o,ho⟩:∃ o,ops[j]?=some o:=⟨ops[j],by simp⟩
     have hjr:j∈Region.ready .any ops listed:=by
      rw [mem_ready]
      refine ⟨?_,o,ho,fun e he hb=>?_⟩
      ·have:=hu.mem j hjl
       have hl:j<listed.size:=by rw [hu.size];exact hjl
       cases hv:listed[j] with
       | true =>
         have:=List.mem_range.1 (this.1 (by simp [hl,hv]))
         omega
       | false=>simp [hl,hv]
      ·have h2:=haft j o ho e he hb
       have h3:=(hu.mem e.on (by omega)).2 (List.mem_range.2 h2)
       simp [h3]
     refine ⟨fun hr=>(by rw [hr] at hjr;cases hjr),fun i hi=>?_⟩
     obtain ⟨h0,oi,hoi,hw⟩:=mem_ready.1 hi
     have hlt:i<ops.size:=by
      rcases Nat.lt_or_ge i ops.size with hlt | hge
      ·exact hlt
      ·rw [Array.getElem?_eq_none hge] at hoi;cases hoi
     have hij:i=j:=by
      rcases Nat.lt_trichotomy i j with g | g | g
      ·have h3:=(hu.mem i hlt).2 (List.mem_range.2 g)
       simp [h3] at h0
      ·exact g
      ·have hwL:∀ e∈oi.after,Region.binds .any e=true→e.on∈List.range j:=fun e he hb=>by
        have h1:=hw e he hb
        have h2:=haft i oi hoi e he hb
        refine (hu.mem e.on (by omega)).1 ?_
        have hl:e.on<listed.size:=by rw [hu.size];omega
        simp [hl] at h1
        simp [hl,h1]
       have:=List.mem_range.1 (kM hu hoi hwL (htl i j (by omega) hlt g))
       omega
     subst hij
     rw [List.range'_succ,wpOpsIn_cons] at h
     refine wpOpIn_mono (fun a' w' h'=>ih (i+1) fuel _ a' w' (by omega) (by omega) (by omega) ?_ h') h
     refine ⟨by simpa using hu.size,fun x hx=>?_,fun x hx=>by have:=List.mem_range.1 hx;omega,fun x hx o' ho' e he hb=>?_⟩
     ·have hl:i<listed.size:=by rw [hu.size];exact hlt
      by_cases hij:i=x
      ·subst hij;simp [hl]
      ·rw [Array.getElem?_setIfInBounds_ne hij,hu.mem x hx,List.mem_range,List.mem_range]
       omega
     ·have h2:=haft x o' ho' e he hb
      have:=List.mem_range.1 hx
      exact List.mem_range.2 (by omega)
variable {ns:Ns} {xs:Nat→AV} {fs:Nat→Fp} {s:St}
theorem Ie (hq:chk opsP ns=true) (hns:∀ i,i<opsP.size→ns.getD i ([],[],[])=fpN (fs i)) {B:Base} (hB:cf.fits B) {ds:List Deferred} {Q:Exit→Act→World→Prop}
  (hlt0:opsP.size<ops.size) (hpre:∀ i,i<opsP.size→ops[i]?=opsP[i]?) (hgd:∀ (i:Nat) (o:Oper),opsP[i]?=some o→o.guard=none)
  (haft:∀ i o,ops[i]?=some o→∀ e∈o.after,Region.binds .any e=true→e.on<i) (htl:∀ j i,opsP.size≤j→j<ops.size→i<j→Anc ops j i)
  (hall:∀ j o,opsP[j]?=some o→mV P cf opsP j o (dP opsP xs fs (List.range' 0 (j-0)) s) (xs j) (fs j))
  (hK:∀ β a w,a.defers=ds→Sim B β (dP opsP xs fs (List.range' 0 opsP.size) s) a.tmps w→wpOpsIn (Fw cf.ro) 0 P ops Q (List.range' opsP.size (ops.size-opsP.size)) a w) :
  ∀ (fuel:Nat) (listed listedP:Array Bool) (L:List Nat) (s':St) (β:Name→Option Blk) (a:Act) (w:World),Up ops listed L→Up opsP listedP L→L.Nodup→ops.size≤fuel+L.length→a.defers=ds→OKE opsP xs fs s L s'→Sim B β s' a.tmps w →
   wpAnyIn (Fw cf.ro) 0 P .any ops Q fuel listed a w:=by
 intro fuel
 induction fuel with
 | zero =>
   intro listed listedP L s' β a w hu huP hnd hn hds hL hs
   have:=im opsP.size L hnd huP.lt
   omega
 | succ fuel ih =>
   intro listed listedP L s' β a w hu huP hnd hn hds hL hs
   have full:(∀ j,j<opsP.size→j∈L)→wpAnyIn (Fw cf.ro) 0 P .any ops Q (fuel+1) listed a w:=by
    intro hfull
    obtain ⟨⟨e1,e2⟩,e3⟩:=oU hq hL huP.lt hfull
    have h1:=hK β a w hds (hs.reuse e1.symm e2.symm e3)
    have hmem:∀ j,j∈L↔j<opsP.size:=fun j=>⟨huP.lt j,hfull j⟩
    have hlen:=im opsP.size L hnd huP.lt
    refine Cj haft htl (ops.size-opsP.size) opsP.size (fuel+1) listed a w (by omega) (Nat.le_refl _) (by omega) ?_ h1
    exact ⟨hu.size,fun j hj=>by rw [hu.mem j hj,hmem,List.mem_range],fun j hj=>by have:=List.mem_range.1 hj;omega,fun j hj o ho e he hb=>by
     have:=haft j o ho e he hb
     have:=List.mem_range.1 hj
     exact List.mem_range.2 (by omega)⟩
   by_cases hfull:∀ j,j<opsP.size→j∈L
   ·exact full hfull
   have hmiss:∃ j,j<opsP.size∧j ∉ L:=by
    apply Decidable.byContradiction
    intro h
    exact hfull fun j hj=>Decidable.byContradiction fun hn=>h ⟨j,hj,hn⟩
   obtain ⟨j0,hj0,hj0L⟩:=hmiss
   refine ⟨fun hr=>?_,fun i hi=>?_⟩
   ·exfalso
    have key:∀ j,j<opsP.size→j∈L:=by
     intro j
     induction j using Nat.strongRecOn with
     | ind j ih2 =>
       intro hlt
       apply Decidable.byContradiction
       intro hn2
       have hjo:j<ops.size:=by omega
       obtain ⟨o,ho⟩:∃ o,ops[j]?=some o:=⟨ops[j],by simp⟩
       have:j∈Region.ready .any ops listed:=by
        rw [mem_ready]
        refine ⟨?_,o,ho,fun e he hb=>?_⟩
        ·have:=hu.mem j hjo
         have hl:j<listed.size:=by rw [hu.size];exact hjo
         cases hv:listed[j] with
         | true=>exact absurd (this.1 (by simp [hl,hv])) hn2
         | false=>simp [hl,hv]
        ·have h2:=haft j o ho e he hb
         have h3:=(hu.mem e.on (by omega)).2 (ih2 e.on h2 (by omega))
         simp [h3]
       rw [hr] at this;cases this
    exact hj0L (key j0 hj0)
   ·obtain ⟨h0,o,ho,hw⟩:=mem_ready.1 hi
    have hlt:i<ops.size:=by
     rcases Nat.lt_or_ge i ops.size with hlt | hge
     ·exact hlt
     ·rw [Array.getElem?_eq_none hge] at ho;cases ho
    have hiL:i ∉ L:=fun h=>by
     have h3:=(hu.mem i hlt).2 h
     simp [h3] at h0
    have hwL:∀ e∈o.after,Region.binds .any e=true→e.on∈L:=fun e he hb=>by
     have h1:=hw e he hb
     have h2:=haft i o ho e he hb
     refine (hu.mem e.on (by omega)).1 ?_
     have hl:e.on<listed.size:=by rw [hu.size];omega
     simp [hl] at h1
     simp [hl,h1]
    have hiP:i<opsP.size:=by
     apply Decidable.byContradiction
     intro hge
     exact hj0L (kM hu ho hwL (htl i j0 (by omega) hlt (by omega)))
    have hoP:opsP[i]?=some o:=by rw [← hpre i hiP];exact ho
    have hd:b8 opsP i=o.dst:=by simp [b8,hoP]
    have hg:=hgd i o hoP
    have hconv:∀ K a w,wpOpIn (Fw cf.ro) 0 P opsP Q i K a w→wpOpIn (Fw cf.ro) 0 P ops Q i K a w:=fun K a w h=>by
     simp only [wpOpIn,hoP,ho,Region.wanted,hg,if_true] at h ⊢
     exact h
    refine hconv _ _ _ (wpOpIn_mono (fun a' w' ⟨hd',β',hs'⟩=>ih (listed.setIfInBounds i true) (listedP.setIfInBounds i true) (L++[i]) _ β' a' w' ?_ ?_ ?_ ?_ hd' (hd ▸ hL.snoc ?_) hs') ((hall i o hoP).2 _ (oT hq hns huP hL hoP hiL hwL (hall i o hoP).1) B hB ds β a w hds hs Q))
    ·refine ⟨by simpa using hu.size,fun j hj=>?_,fun j hj=>?_,fun j hj o' ho' e he hb=>?_⟩
     ·have hl:j<listed.size:=by rw [hu.size];exact hj
      by_cases hij:i=j
      ·subst hij;simp [hl]
      ·rw [Array.getElem?_setIfInBounds_ne hij,hu.mem j hj]
       simp [Ne.symm hij]
     ·rcases List.mem_append.1 hj with hj | hj
      ·exact hu.lt j hj
      ·rw [List.mem_singleton.1 hj];exact hlt
     ·rcases List.mem_append.1 hj with hj | hj
      ·exact List.mem_append_left _ (hu.closed j hj o' ho' e he hb)
      ·rw [List.mem_singleton.1 hj,ho] at ho'
       cases ho'
       exact List.mem_append_left _ (hwL e he hb)
    ·refine ⟨by simpa using huP.size,fun j hj=>?_,fun j hj=>?_,fun j hj o' ho' e he hb=>?_⟩
     ·have hl:j<listedP.size:=by rw [huP.size];exact hj
      by_cases hij:i=j
      ·subst hij;simp [hl]
      ·rw [Array.getElem?_setIfInBounds_ne hij,huP.mem j hj]
       simp [Ne.symm hij]
     ·rcases List.mem_append.1 hj with hj | hj
      ·exact huP.lt j hj
      ·rw [List.mem_singleton.1 hj];exact hiP
     ·rcases List.mem_append.1 hj with hj | hj
      ·exact List.mem_append_left _ (huP.closed j hj o' ho' e he hb)
      ·rw [List.mem_singleton.1 hj,hoP] at ho'
       cases ho'
       exact List.mem_append_left _ (hwL e he hb)
    ·rw [List.nodup_append]
     exact ⟨hnd,by simp,fun x hx y hy=>by rw [List.mem_singleton.1 hy];rintro rfl;exact hiL hx⟩
    ·simp only [List.length_append,List.length_singleton];omega
    ·intro k hk p o1 o2 h1 h2
     have hne:i≠k:=fun e=>hiL (e ▸ hk)
     rcases uj hq hns hiP (huP.lt k hk) hne h1 (.inr ⟨o2,h2⟩) with ⟨h3,_⟩ | ⟨_,h4⟩
     ·omega
     ·exact absurd (gk huP h4 hk) hiL
def kj (ops:Array Oper) (m:Nat):Bool :=
 let A:=ancs [] ops.toList
 ((List.range ops.size).all fun i=>match ops[i]? with
   | some o=>o.after.toList.all fun e=>!Region.binds .any e || decide (e.on<i)
   | none=>true) &&
 (List.range ops.size).all fun j=>decide (j<m) || (List.range j).all fun i=>(A.getD j []).contains i
theorem vl {m:Nat} (h:kj ops m=true):∀ i o,ops[i]?=some o→∀ e∈o.after,Region.binds .any e=true→e.on<i:=by
 intro i o ho e he hb
 have hi:i<ops.size:=by
  rcases Nat.lt_or_ge i ops.size with hlt | hge
  ·exact hlt
  ·rw [Array.getElem?_eq_none hge] at ho;cases ho
 simp only [kj,Bool.and_eq_true] at h
 have h2:=List.all_eq_true.1 h.1 i (List.mem_range.2 hi)
 simp only [ho] at h2
 have h3:=List.all_eq_true.1 h2 e (Array.mem_toList_iff.2 he)
 simpa [hb] using h3
theorem uL {m:Nat} (h:kj ops m=true):∀ j i,m≤j→j<ops.size→i<j→Anc ops j i:=by
 intro j i hm hj hi
 simp only [kj,Bool.and_eq_true] at h
 have h2:=List.all_eq_true.1 h.2 j (List.mem_range.2 hj)
 simp only [Bool.or_eq_true,decide_eq_true_eq] at h2
 have h3:=h2.resolve_left (by omega)
 have h4:=List.all_eq_true.1 h3 i (List.mem_range.2 hi)
 exact iX (ops:=ops) ops.toList [] (fun j=>by simp) (fun i k hk=>by simp at hk) _ _ (by simpa using h4)
theorem x6 {id:Nat} {l q:List Oper} {s:St} {k:List It} {Q:Exit→St→Prop} (hm:P.follows .mixedOrders=true) (hq0:q≠[]) (hg:(l.all fun o=>o.guard.isNone)=true) (ht:kj (l++q).toArray l.length=true)
  (h:xrun P cf l.toArray (fun s' ns=>chk l.toArray ns=true∧run P cf (.ops (l++q).toArray q::k) Q s') l s []):ACk P cf (.region id (l++q).toArray true) s k Q:=by
 obtain ⟨xs,fs,⟨hq,hK⟩,hall⟩:=iO (ops:=l.toArray) l 0 s [] (fun j=>by simp) h
 intro B hB ds β a w hds hs
 refine wpIn_region_any hm ?_
 have hns:∀ i,i<l.toArray.size→(([]:Ns)++(List.range' 0 l.length).map fun j=>fpN (fs j)).getD i ([],[],[])=fpN (fs i):=by
  intro i hi
  have hi:i<l.length:=by simpa using hi
  simp [hi]
 have hql:0<q.length:=List.length_pos_iff.2 hq0
 refine Ie (ops:=(l++q).toArray) (opsP:=l.toArray) hq hns hB (ds:=ds) (by simp;omega) (fun i hi=>?_) (fun i o ho=>?_) (vl ht) (by simpa using uL ht) (fun j o ho=>hall j o (Nat.zero_le _) ho) (fun β a w hds hs=>?_) _ _ (Array.replicate l.toArray.size false) [] s β a _ ?_ ?_ List.nodup_nil (by simp) hds (.nil _ _ _) (hs.jR rfl rfl)
 ·have hi:i<l.length:=by simpa using hi
  simp [List.getElem?_append_left,hi]
 ·have hi:i<l.length:=by
   have:=(Array.getElem?_eq_some_iff.1 ho).1
   simpa using this
  have hm2:o∈l:=by
   have:l[i]?=some o:=by simpa using ho
   exact List.mem_of_getElem? this
  have:=List.all_eq_true.1 hg o hm2
  simpa using this
 ·refine aP hK B hB ds β a w hds (by simpa using hs) _ ?_
  apply List.ext_getElem?
  intro j
  simp only [List.getElem?_map,List.size_toArray,List.length_append]
  by_cases hj:j<q.length
  ·rw [List.getElem?_range' (by omega)]
   simp [hj]
  ·simp [hj]
 ·refine ⟨by simp,fun j hj=>?_,by simp,by simp⟩
  have hj:j<l.length+q.length:=by simpa using hj
  simp [hj]
 ·refine ⟨by simp,fun j hj=>?_,by simp,by simp⟩
  have hj:j<l.length:=by simpa using hj
  simp [hj]
theorem jc (n:Nat) {id:Nat} {l p q:List Oper} {s:St} {k:List It} {Q:Exit→St→Prop} (hm:P.follows .mixedOrders=true) (E0:Eng P cf Q) (htd:l.take n=p) (hqd:l.drop n=q) (hq0:q.isEmpty=false) (hg:(p.all fun o=>o.guard.isNone)=true) (ht:kj l.toArray p.length=true)
  (h:∀ E:XEng P cf p.toArray (fun s' ns=>chk p.toArray ns=true∧E0.run (.ops l.toArray q::k) s'),E.run p s []):er E0 (.region id l.toArray true) s k:=by
 have e0:p++q=l:=by rw [← htd,← hqd];exact List.take_append_drop n l
 have key:=x6 (P:=P) (cf:=cf) (id:=id) (l:=p) (q:=q) (s:=s) (k:=k) (Q:=Q) hm (by intro e;rw [e] at hq0;cases hq0) hg (by rw [e0];exact ht)
 rw [e0] at key
 refine key ?_
 have e:(fun s' ns=>chk p.toArray ns=true∧E0.run (.ops l.toArray q::k) s')=fun s' ns=>chk p.toArray ns=true∧run P cf (.ops l.toArray q::k) Q s':=by funext s' ns;rw [E0.run_eq]
 obtain ⟨E⟩:=vv P cf p.toArray (fun s' ns=>chk p.toArray ns=true∧E0.run (.ops l.toArray q::k) s')
 have:=h E
 rw [E.run_eq,e] at this
 exact this
end
end Go.Ab

namespace Go.Ab
section
variable {P:Program} {cf:Cf}
structure DI (B0:Base) (g:Nat) (ns:List Name) (B:Base) (ds:List Deferred):Prop where
 ci:∃ B1,CI B0 B1 []∧B.n=B1.n∧B.io=B1.io∧B.H0=B1.H0∧(∀ b,B.O0 b↔B1.O0 b)∧B.A=B1.A∧(∀ x∈B1.U0,x∈B.U0)∧∀ p,nm B1.U0 p→B.β0 p=B1.β0 p
 df:∃ caps:Array Value,ds=[{ target:=.fn (.func g) caps,args:=#[] }]∧caps.size=ns.length∧∀ i p,ns[i]?=some p→nm B.U0 p∧(caps.getD i undef).oneCell'=true∧∃ k,B.β0 p=some k∧k.o=0∧caps.getD i undef=.pointer (some ⟨k.b,0,none⟩)
theorem pO {u:List Nat} {Φ:Exit→Act→World→Prop}:∀ (k:List It),hold P { cf with U:=u } Φ k=hold P cf Φ k
 | []=>rfl
 | .code c::k=>by
   funext e a w
   cases e<;>simp only [hold,pO k]
 | .ops all r::k=>by
   funext e a w
   cases e<;>simp only [hold,pO k]
 | .blk i::k=>by
   funext e a w
   cases e<;>simp only [hold,pO k]
theorem D5 {B0:Base} {Φ:Exit→Act→World→Prop} {k:List It} {s:St} {all:Array Oper} {fv:Operand} {at':Array TypeId} {ty:TypeId} {pos:String} {af:Array Edge} {r:List Oper} {g:Nat} (ns:List Name) (hro:cf.ro=none)
  (hev:ev s fv=.clo g (ns.map fun p=>.bx p 0)) (hbx:∀ p∈ns,∃ cs,s.hp p=some (.box cs))
  (h:ARY P { cf with U:=s.used } Φ (DI B0 g ns) (.ops all r::k) s) :
  ARY P cf Φ (fun B ds=>CI B0 B ds∧ds=[]) (.ops all ({ dst:=none,op:=.defer { callee:=.value fv,args:=#[],argTypes:=at' },type:=ty,pos:=pos,after:=af,guard:=none }::r)::k) s:=by
 intro B hB ds β a w hds hI hs l hl
 obtain ⟨hI,rfl⟩:=hI
 cases l with
 | nil=>simp at hl
 | cons i l =>
   simp only [List.map_cons,List.cons.injEq] at hl
   obtain ⟨hi,hl⟩:=hl
   simp only [wpOpsIn,hi,Region.wanted,if_true]
   have hf:=hs.ev fv
   rw [hev] at hf
   obtain ⟨vs,hfv,hvs,hvr⟩:∃ vs:Array Value,a.eval fv=.func (.func g) #[] vs∧vs.size=ns.length∧∀ i p,ns[i]?=some p→VR w.heap (s.own B.A β) s.used s.hp β (vs.getD i undef) (.bx p 0):=by
    generalize a.eval fv=v at hf
    cases hf with
    | clo f vs cs h1 h2=>exact ⟨vs,rfl,by simpa using h1,fun i p hp=>h2 i _ (by rw [List.getElem?_map,hp];rfl)⟩
   refine ⟨fun _ _=>trivial,?_⟩
   have hrun:(execOp a.eval { dst:=none,op:=.defer { callee:=.value fv,args:=#[],argTypes:=at' },type:=ty,pos:=pos,after:=af,guard:=none }:Sem Next).run P w=.ok (.defer { target:=.fn (.func g) vs,args:=#[] }) w:=by
    simp only [execOp,resolve,hfv,Deferred.ofValue,Sem.run_bind,Sem.run_pure,Result.andThen_ok,Array.map_empty,Array.append_empty]
   rw [show (Fw cf.ro).round=none by rw [hro];rfl,Oper.semAt_none,hrun,Oper.uponIn_defer]
   let B':Base:={ n:=B.n,io:=B.io,G:=B.G,H0:=B.H0,O0:=B.O0,A:=B.A,U0:=s.used,β0:=β,hA:=B.hA,hG:=B.hG }
   have hs':Sim B' β s a.tmps w:=hs.mv rfl hs.io hs.size hs.frame (Nat.le_refl _) (fun _ _ _=>rfl) (fun _ _ h=>h) (fun p k hp hk=>(hs.blocks p k hp hk).2.2) (fun _ h=>h) (fun _ _=>rfl)
   rw [← pO (u:=s.used) k]
   refine h B' ⟨hB.1,rfl,hB.2.2⟩ _ β { a with defers:={ target:=.fn (.func g) vs,args:=#[] }::a.defers } w (by show _::a.defers=_;rw [hds]) ⟨⟨B,hI,rfl,rfl,rfl,fun _=>Iff.rfl,rfl,hs.us,hs.stay⟩,vs,rfl,hvs,fun i p hp=>?_⟩ hs' l hl
   have hv:=hvr i p hp
   obtain ⟨cs,hcs⟩:=hbx p (List.mem_of_getElem? hp)
   generalize hx:vs.getD i undef=x at hv
   cases hv with
   | bx _ _ _ hn h1 h2 =>
     obtain ⟨k,hk,h0,hv⟩:=h2 _ cs hcs
     exact ⟨hn,h1,k,hk,h0,hv⟩
theorem pL {B0:Base} {fn gfn:Func} {g:Nat} {gc:Code} {ns:List Name} {u:List Nat} {Q:AV→List (Name × Ob)→Prop} {s:St} {e:Exit} (he:e=.ret∨e=.normal) (hu:B0.U0=u)
  (hgf:P.funcs[g]?=some gfn) (hgb:gfn.body=some gc) (hnm:(gfn.name == "runtime.NumGoroutine")=false) (hgn:ns.length≤gfn.ntmps) (hns:∀ p∈ns,nmb s.used p=true)
  (hg:run P ⟨gfn.ntmps,none,cf.G,s.used⟩ [.code gc] (fun e s2=>(e=.ret∨e=.normal)∧LK s s2∧RX (fg P s2 gfn.results.toList) (fun _=>True)∧fq P fn.results.toList u Q .ret (s2.fra s.fr)) (s.fra (mk (aB 0 (ns.map fun p=>AV.bx p 0)) [] []).fr)) :
  ARX cf (ΦR P fn { B0 with n:=1 } Q) (DI B0 g ns) e s:=by
 intro B hB ds β a w hds hI hs
 obtain ⟨⟨B1,hc,i1,i2,i4,i5,i6,i7,i8⟩,caps,rfl,hcs,hcap⟩:=hI
 have hB1G:B1.G=B0.G:=hc.ext.G
 have:LeavesInM Fence.wide 0 P fn a.tmps (RH { B0 with n:=1 } Q) a.defers .returning w:=by
  rw [hds]
  refine ⟨by simp,.inr ⟨fun h=>by simp [Fence.wide] at h,_,_,g,#[]++caps,rfl,?_,fun _ _=>trivial,?_⟩⟩
  ·exact cC hgf hgb hnm _ _
  have hGg:∀ q∈B.G,w.heap[q.1]?=some q.2∧¬ bk s β q.1:=by
   intro q hq
   obtain ⟨g1,g2⟩:=B.hG q hq
   have hlt:=al g1
   refine ⟨(hs.frame _ hlt g2).trans g1,fun hb=>?_⟩
   rcases (hs.bu hb).2.2 with h | h
   ·omega
   ·exact g2 h
  let Bg:Base:={ n:=gfn.ntmps,io:=B.io,G:=B.G,H0:=w.heap,O0:=bk s β,A:=B.A,U0:=s.used,β0:=β,hA:=fun b hb=>Nat.lt_of_lt_of_le (B.hA b hb) hs.size,hG:=hGg }
  have hsg:Sim Bg β (s.fra (mk (aB 0 (ns.map fun p=>AV.bx p 0)) [] []).fr) ((#[]++caps)++Array.replicate (gfn.ntmps-(#[]++caps).size) undef) w:=by
   refine { tms:=by show (_:Array Value).size=gfn.ntmps;simp;omega,io:=hs.io,size:=Nat.le_refl _,frame:=fun _ _ _=>rfl,slots:=fun t=>?_,objs:=hs.objs,blocks:=fun p k hp hk=>⟨(hs.blocks p k hp hk).1,(hs.blocks p k hp hk).2.1,.inr ⟨p,k,hp,hk,rfl⟩⟩,inj:=hs.inj,us:=fun _ h=>h,stay:=fun _ _=>rfl }
   show VR w.heap (s.own B.A β) s.used s.hp β _ ((mk (aB 0 (ns.map fun p=>AV.bx p 0)) [] []).fr t)
   rw [cS,aN,if_pos (Nat.zero_le _),Nat.sub_zero,List.getElem?_map]
   cases hp:ns[t]? with
   | none=>exact .un _
   | some p =>
     obtain ⟨c1,c2,k,c3,c4,c5⟩:=hcap t p hp
     have hlt:t<caps.size:=by rw [hcs];exact (List.getElem?_eq_some_iff.1 hp).1
     have e:((#[]++caps)++Array.replicate (gfn.ntmps-(#[]++caps).size) undef).getD t undef=caps.getD t undef:=by
      simp [Array.getD_eq_getD_getElem?,Array.getElem?_append,hlt]
     rw [e]
     have hnb:=hns p (List.mem_of_getElem? hp)
     exact .bx _ _ _ (c1.mono hs.us) c2 fun _ cs _=>⟨k,(hs.stay p c1).trans c3,c4,c5⟩
  have hrun:=aP hg Bg ⟨rfl,rfl,hB.2.2⟩ [] β { tmps:=(#[]++caps)++Array.replicate (gfn.ntmps-(#[]++caps).size) undef,defers:=[] } w rfl hsg
  refine (callsDIn_of_wp (R:=fun e w'=>∃ v,e=.returned v∧LeavesInM Fence.wide 0 P fn a.tmps (RH { B0 with n:=1 } Q) [] .returning w') hgf hgb trivial (wpIn_mono (F:=Fence.wide) hrun fun e2 a2 w2 hq=>?_)).mono ?_
  ·obtain ⟨hd2,s2,β2,⟨he2,hlk,hres,hfq⟩,hs2⟩:=hq
   obtain ⟨_,v2,_,hr2,_⟩:=cz hs2 gfn hres
   have hown2:∀ b,bk s2 β2 b→w.heap.size≤b∨bk s β b:=fun b hb=>(hs2.bu hb).2.2
   have hust:∀ p,nm s.used p→β2 p=β p:=fun p hp=>hs2.stay p hp
   have hus2:∀ x∈s.used,x∈s2.used:=hs2.us
   have hsame:∀ b,b<w.heap.size→¬ bk s β b→w2.heap[b]?=w.heap[b]?:=fun b hb hn=>hs2.frame b hb hn
   have hz2:w.heap.size≤w2.heap.size:=hs2.size
   have hr:∀ v d,Rep w.heap (s.own B.A β) v d→Rep w2.heap (s2.own B1.A β2) v d:=fun v d hd=>hd.mono (fun b hb hlt=>hsame b hlt (fun h=>hb (.inr h))) (by
    rintro b hb (h1 | h1)
    ·rw [← i6] at h1;exact .inl h1
    ·rcases hown2 b h1 with h | h
     ·omega
     ·exact .inr h)
   have hs4:Sim B1 β2 (s2.fra s.fr) a.tmps w2:=by
    refine { tms:=hs.tms.trans i1,io:=hs2.io.trans i2,size:=?_,frame:=fun b hb ho=>?_,slots:=fun t=>?_,objs:=fun p o ho=>?_,blocks:=fun p k hp hk=>?_,inj:=hs2.inj,us:=fun x hx=>hus2 x (hs.us x (i7 x hx)),stay:=fun p hp=>?_ }
    ·rw [← i4];exact Nat.le_trans hs.size hz2
    ·rw [← i4] at hb ⊢
     have ho':¬ B.O0 b:=fun h=>ho ((i5 b).1 h)
     refine (hsame b (Nat.lt_of_lt_of_le hb hs.size) (fun h=>?_)).trans (hs.frame b hb ho')
     rcases (hs.bu h).2.2 with h | h
     ·omega
     ·exact ho' h
    ·exact (hs.slots t).mono hr hus2 (fun p hp o' ho=>by obtain ⟨o,h1,h2⟩:=hlk p o' hp ho;exact ⟨o,h1,h2,hust p hp⟩)
    ·have:=hs2.objs p o ho
     rw [← i6]
     exact this
    ·obtain ⟨b1,b2,b3⟩:=hs2.blocks p k hp hk
     refine ⟨b1,by rw [← i6];exact b2,?_⟩
     rw [← i4]
     rcases b3 with b3 | b3
     ·have h3:w.heap.size≤k.b:=b3
      have:=hs.size
      exact .inl (by omega)
     ·rcases (hs.bu b3).2.2 with h | h
      ·exact .inl h
      ·exact .inr ((i5 _).1 h)
    ·have hp':nm B.U0 p:=hp.mono i7
     exact (hust p (hp'.mono hs.us)).trans ((hs.stay p hp').trans (i8 p hp))
   have hlv:LeavesInM Fence.wide 0 P fn a.tmps (RH { B0 with n:=1 } Q) [] .returning w2:=by
    refine hc.back hs4 (fun w' hs'=>?_)
    obtain ⟨l,v,⟨r,hp',u',τ,hQ,hle⟩,hr,hv⟩:=cz hs' fn hfq
    obtain ⟨β3,hs3,_⟩:=(qz hs' hv).le (τ:=τ) (by show Le B0.U0 τ _ _;rw [hu];exact hle.le)
    exact ⟨v,hr,v,r,hp',u',β3,rfl,hQ,hs3⟩
   rcases he2 with rfl | rfl
   ·exact ⟨hd2,v2,hr2,v2,rfl,hlv⟩
   ·exact ⟨hd2,v2,hr2,v2,rfl,hlv⟩
  ·rintro e u' w' ⟨rfl,v,rfl,hl⟩
   exact hl
 rcases he with rfl | rfl<;>exact this
theorem ARX.le {Φ:Exit→Act→World→Prop} {I J:Base→List Deferred→Prop} {e:Exit} {s:St} (h:ARX cf Φ I e s) (hj:∀ B ds,J B ds→I B ds):ARX cf Φ J e s:=fun B hB ds β a w h1 h2 h3=>h B hB ds β a w h1 (hj B ds h2) h3
theorem vF {B0:Base} {fn:Func} {u:List Nat} {Q:AV→List (Name × Ob)→Prop} {s:St} {e:Exit} (he:e=.ret∨e=.normal) (hu:B0.U0=u) (h:fq P fn.results.toList u Q .ret s) :
 ARX cf (ΦR P fn { B0 with n:=1 } Q) (fun B ds=>CI B0 B ds∧ds=[]) e s:=(HF he hu h).le fun _ _ h=>h.1
theorem vO {G:List (Nat × Obj)} {f:FuncId} {fn:Func} {c:Code} {args:List AV} {hp:List (Name × Ob)} {u:List Nat} {Q:AV→List (Name × Ob)→Prop} (hf:P.funcs[f]?=some fn) (hb:fn.body=some c)
  (hnm:(fn.name == "runtime.NumGoroutine")=false) (hn:args.length≤fn.ntmps)
  (h:∀ B0:Base,B0.U0=u→ARY P ⟨fn.ntmps,none,G,u⟩ (ΦR P fn { B0 with n:=1 } Q) (fun B ds=>CI B0 B ds∧ds=[]) [.code c] (mk (aB 0 args) hp u)):HCall P G f args hp u Q:=by
 refine ⟨cC hf hb hnm,fun B β vs w h1 h2 h3 h4 hs=>?_⟩
 have hsz:vs.size=args.length:=hs.tms.trans h1
 have hs':Sim { B with n:=fn.ntmps } β (mk (aB 0 args) hp u) (vs++Array.replicate (fn.ntmps-vs.size) undef) w:=by
  refine { hs with tms:=by simp;omega,slots:=fun t=>?_ }
  have:=hs.slots t
  by_cases ht:t<vs.size
  ·have e:(vs++Array.replicate (fn.ntmps-vs.size) undef).getD t undef=vs.getD t undef:=by
    simp [Array.getD_eq_getD_getElem?,Array.getElem?_append,ht]
   rw [e];exact this
  ·have e:(mk (aB 0 args) hp u).fr t=.un:=by
    rw [cS,aN,if_pos (Nat.zero_le _),List.getElem?_eq_none (by omega)];rfl
   rw [e];exact .un _
 have hrun:=h { B with n:=fn.ntmps } h3 { B with n:=fn.ntmps } ⟨rfl,h3,h4⟩ [] β { tmps:=vs++Array.replicate (fn.ntmps-vs.size) undef,defers:=[] } w rfl ⟨⟨.refl _,[],rfl,List.nodup_nil,fun D hD=>by cases hD⟩,rfl⟩ hs'
 exact callsIn_of_wp_marks hf hb trivial hrun
end
end Go.Ab

namespace Go.Ab
structure Trk (W0:World) (C0 X0 C X:Nat→Prop) (W:World):Prop where
 io:wio W=wio W0
 size:W0.heap.size≤W.heap.size
 same:∀ b,b<W0.heap.size→¬ C0 b→¬ X0 b→W.heap[b]?=W0.heap[b]?
 c:∀ b,b<W0.heap.size→C b→C0 b
 x:∀ b,b<W0.heap.size→X b→X0 b
theorem Trk.stp {W0 W W':World} {C0 X0 C X X':Nat→Prop} (h:Trk W0 C0 X0 C X W) (g:Stp W X W' X'):Trk W0 C0 X0 C X' W' :=
 ⟨g.io.trans h.io,Nat.le_trans h.size g.size,fun b hb h1 h2=>(g.same b (Nat.lt_of_lt_of_le hb h.size) (fun hx=>h2 (h.x b hb hx))).trans (h.same b hb h1 h2),h.c,fun b hb hx=>by
  rcases (g.new b hx).1 with h1 | h1
  ·exact h.x b hb h1
  ·have:=h.size;omega⟩
def Itz.trk (z:Itz) (W0:World) (C0 X0:Nat→Prop):Itz :=
 { l:=z.l,w:=z.w,C0:=z.C0,J:=fun n C X W=>z.J n C X W∧Trk W0 C0 X0 C X W,Jx:=fun n C X W=>z.Jx n C X W∧Trk W0 C0 X0 C X W }
theorem Itz.Ok.trk {P:Program} {G:List (Nat × Obj)} {N:Nat} {xs:Nat→List D} {z:Itz} (h:z.Ok P G N xs) (W0:World) (C0 X0:Nat→Prop):(z.trk W0 C0 X0).Ok P G N xs:=by
 refine ⟨h.lt,fun n C X W X' W' hj hs=>⟨h.stab n C X W X' W' hj.1 hs,hj.2.stp hs⟩,fun n C X W X' W' hj hs=>⟨h.stabx n C X W X' W' hj.1 hs,hj.2.stp hs⟩,fun n C X W vs hn hj hv hr=>?_⟩
 refine (h.round n C X W vs hn hj.1 hv hr).mono ?_
 rintro e W' ⟨C',hc,hq⟩
 have ht:Trk W0 C0 X0 C' X W':=by
  obtain ⟨c1,c2,c3,c4,c5⟩:=hc
  refine ⟨c1.trans hj.2.io,Nat.le_trans hj.2.size c2,fun b hb h1 h2=>(c3 b (Nat.lt_of_lt_of_le hb hj.2.size) (fun hx=>h1 (hj.2.c b hb hx))).trans (hj.2.same b hb h1 h2),fun b hb hx=>?_,hj.2.x⟩
  rcases (c5 b hx).1 with g | g
  ·exact hj.2.c b hb g
  ·have:=hj.2.size;omega
 refine ⟨C',hc,?_⟩
 rcases hq with ⟨h1,h2⟩ | ⟨h1,h2⟩
 ·exact .inl ⟨h1,h2,ht⟩
 ·exact .inr ⟨h1,h2,ht⟩
section
variable {P:Program} {cf:Cf} {G:List (Nat × Obj)} {N:Nat} {xs:Nat→List D} {z:Itz} {k:List It} {s:St}
end
end Go.Ab

namespace Go.Proofs.YtejpnabbmgpmaaaGreatDoor
open Go.Ab
theorem Cd {G} (l:List Int) (hl:l.length≤1000000):HCall Tryz.prog G 134 [.d (.sl none (l.map i64))] [] [] (fun r hp'=>r=.vw [0] 0 l.length∧hp'=[([0],.arr none (l.map i64))]):=by
 refine HCall.thaw (Q:=fun r hp'=>(r=.d .nils∧hp'=[]∧l=[])∨(r=.vw [0] 0 l.length∧hp'=[([0],.arr none (l.map i64))])) ?_ 0 none (by simp) ?_
 ·refine ao Tryz.func134 rfl (by decide +kernel) (by simp [Tryz.ntmps134]) (veil fun E=>?_)
  simp only [go_sem]
  refine qO E (e:=3) (by simp only [go_sem]) (by simp only [go_sem]) rfl fun b hb=>?_
  simp only [go_sem]
  refine aG E (fun h=>?_) (fun h=>?_)<;>simp only [go_sem]
  ·have:l=[]:=by simpa using hb h
   subst this
   refine ⟨_,[],[],id,.inl ⟨rfl,rfl,rfl⟩,?_⟩
   simp only [go_sem]
  ·refine ⟨by omega,_,_,[0],tau [([0],[7])],.inr ⟨rfl,rfl⟩,?_⟩
   simp only [go_sem]
 ·rintro r hp' (⟨rfl,rfl,rfl⟩ | h)
  ·exact .inr ⟨rfl,rfl,rfl,rfl⟩
  ·exact .inl h
theorem zm {G} (l:List EF) (hl:l.length≤1000000):HCall Tryz.prog G 144 [.d (efD l)] [] [] (fun r hp'=>r=.vw [0] 0 l.length∧hp'=[([0],.arr (some 3) (l.map fD))]):=by
 refine HCall.thaw (Q:=fun r hp'=>(r=.d .nils∧hp'=[]∧l=[])∨(r=.vw [0] 0 l.length∧hp'=[([0],.arr (some 3) (l.map fD))])) ?_ 0 (some 3) (by simp) ?_
 ·unfold efD
  refine ao Tryz.func144 rfl (by decide +kernel) (by simp [Tryz.ntmps144]) (veil fun E=>?_)
  simp only [go_sem]
  refine qO E (e:=89) (by simp only [go_sem]) (by simp only [go_sem]) rfl fun b hb=>?_
  simp only [go_sem]
  refine aG E (fun h=>?_) (fun h=>?_)<;>simp only [go_sem]
  ·have:l=[]:=by simpa using hb h
   subst this
   refine ⟨_,[],[],id,.inl ⟨rfl,rfl,rfl⟩,?_⟩
   simp only [go_sem]
  ·refine ⟨by omega,_,_,[0],tau [([0],[7])],.inr ⟨rfl,rfl⟩,?_⟩
   simp only [go_sem]
 ·rintro r hp' (⟨rfl,rfl,rfl⟩ | h)
  ·exact .inr ⟨rfl,rfl,rfl,rfl⟩
  ·exact .inl h
theorem nZ {G} (n:EN) (hl:n.l.length≤1000000):HCall Tryz.prog G 106 [.d (enD n)] [] [] (fun r hp'=>r=.vw [0] 0 (an n).length∧hp'=[([0],.arr none ((an n).map i64))]):=by
 unfold enD efD
 refine ao Tryz.func106 rfl (by decide +kernel) (by simp [Tryz.ntmps106]) (veil fun E=>?_)
 simp only [go_sem]
 refine ab E (lO n.k) rfl rfl (by simp) ?_
 rintro _ rfl
 simp only [go_sem]
 have hk3:=cG n.k
 refine ⟨⟨by omega,by omega⟩,?_⟩
 refine jX E [16] none _ rfl (by simp only [go_sem];rfl) ?_
 simp only [go_sem]
 obtain ⟨K,hK⟩:∃ K,K=[n.a,n.b,n.c].take (aY n.k):=⟨_,rfl⟩
 have hKl:K.length=aY n.k:=by rw [hK];simp;omega
 have hKd:List.take (aY n.k) [i64 n.a,i64 n.b,i64 n.c]=K.map i64:=by rw [hK,List.map_take];rfl
 rw [Nat.sub_zero,hKd]
 refine ae E [.d (.sl none (K.map i64))] [] [] (Cd K (by omega)) rfl rfl ⟨by simp only [go_sem],by rw [aa];decide⟩ rfl (by simp only [go_sem]) (by simp only [go_sem]) ?_
 rintro _ _ ⟨rfl,rfl⟩
 simp only [go_sem]
 refine aG E (fun hp=>?_) (fun hp=>?_)<;>simp only [go_sem]
 ·refine aC E (X:={ i:Nat // i≤n.l.length }) (fun x=>[(4,.vw [99] 0 (K.length+x.1)),(24,.d (.sl (some 3) (n.l.map fD))),(25,.d (i64 n.l.length)),(26,.d (i64 x.1))]) (fun x=>[([99],.arr none ((K++(n.l.take x.1).map (·.to)).map i64))]) [99] (fun x=>n.l.length-x.1) ⟨0,Nat.zero_le _⟩ (tau [([99],[20,0])]) ?_ ?_
  ·simp only [go_sem]
   rw [List.append_nil]
  rintro ⟨i,hi⟩ E0
  refine aO E0 fun Q' hQ E'=>?_
  simp only at hi ⊢
  simp only [go_sem]
  refine ah E' (fun h1=>?_) (fun h1=>?_)<;>simp only [go_sem]
  ·have h1':i<n.l.length:=by omega
   have hx:(n.l.map fD).getD i .nilp=.agg [.str n.l[i].nm,.str n.l[i].var,i64 n.l[i].to]:=by simp [h1',fD]
   refine ⟨⟨by omega,by omega⟩,?_⟩
   rw [hx]
   simp only [go_sem]
   have htk:List.take (K.length+i) (List.map i64 (K++List.map (·.to) (List.take i n.l)))++[i64 n.l[i].to]=List.map i64 (K++List.map (·.to) (List.take (i+1) n.l)):=by
    rw [List.take_of_length_le (by simp;omega),List.take_succ_eq_append_getElem h1']
    simp only [List.map_append,List.map_cons,List.map_nil,List.append_assoc]
   rw [htk,ai ⟨by omega,by omega⟩,hQ]
   simp only [go_sem]
   refine ⟨by omega,⟨i+1,by omega⟩,by show n.l.length-(i+1)<_;omega,tau [([99],[34])],?_⟩
   simp only [go_sem]
   exact ⟨rfl,rfl⟩
  ·rw [hQ]
   simp only [go_sem]
   have hi2:i=n.l.length:=by omega
   subst hi2
   have hkk:K++List.map (·.to) (List.take n.l.length n.l)=an n:=by
    rw [List.take_length,hK]
    simp [an,hp]
   have hkl:(an n).length=K.length+n.l.length:=by rw [← hkk];simp
   rw [hkk,← hkl]
   refine ⟨_,_,[0],tau [([0],[99])],⟨rfl,rfl⟩,?_⟩
   simp only [go_sem]
 ·have hkk:K=an n:=by
   rw [hK]
   simp [an,hp]
  rw [hkk]
  refine ⟨_,_,[0],tau [([0],[20,0])],⟨rfl,rfl⟩,?_⟩
  simp only [go_sem]
end Go.Proofs.YtejpnabbmgpmaaaGreatDoor

namespace Go.Proofs.YtejpnabbmgpmaaaGreatDoor
open Go.Ab
theorem bX {ns:List EN} {i:Nat} (h:i<ns.length):ndE ns i=ns[i]:=by simp [ndE,h]
def fdE (l:List EF) (i:Nat):EF:=l.getD i ⟨[],[],0⟩
theorem lI {l:List EF} {i:Nat} (h:i<l.length):(l.map fD).getD i .nilp=.agg [.str (fdE l i).nm,.str (fdE l i).var,i64 (fdE l i).to]:=by simp [h,fD,fdE]
theorem bA {ns:List EN} {i:Nat} (h:i<ns.length):(ns.map enD).getD i .nilp=.agg [i64 (ndE ns i).k,i64 (ndE ns i).a,i64 (ndE ns i).b,i64 (ndE ns i).c,i64 (ndE ns i).n,.str (ndE ns i).name,.str (ndE ns i).s,.sl (some 3) ((ndE ns i).l.map fD),i64 (ndE ns i).pos]:=by simp [h,enD,efD,ndE]
end Go.Proofs.YtejpnabbmgpmaaaGreatDoor

