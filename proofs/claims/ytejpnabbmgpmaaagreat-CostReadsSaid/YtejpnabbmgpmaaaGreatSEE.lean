/-
  The generic layer, part 44: calls that look at arrays that the caller goes on owning: they are handed in as plain data, where what is handed back names none of them. (with the parts that follow it) (with the parts that follow it)
-/
import Derived.Test.YtejpnabbmgpmaaaGreatSED
import Derived.Maps.RangeRun
import Derived.RangeFuncRecord
import Derived.RangeFuncSeq
import Derived.RangeFuncLeaves
import Derived.Laws.CopyRow
import Derived.Laws.IdiomCopy
set_option linter.all false
namespace Go.Ab
mutual
def D.flat:D→Bool
 | .int _ _=>true
 | .bool _=>true
 | .str _=>true
 | .nilp=>true
 | .nils=>true
 | .nilm=>true
 | .nilf=>true
 | .nili=>true
 | .sl _ xs=>xs.isEmpty
 | .slx _ _=>false
 | .agg cs=>kM cs
 | .ptr _=>false
 | .clo _ cs=>kM cs
 | .ifc _ d=>d.flat
 | .mpd _ _ _ _=>false
 | .yl _=>true
def kM:List D→Bool
 | []=>true
 | d::r=>d.flat && kM r
end
mutual
def AV.flat:AV→Bool
 | .un=>true
 | .d x=>x.flat
 | .vw _ _ _=>true
 | .bx _ _=>true
 | .el _ _ _=>true
 | .mp _=>true
 | .it _=>true
 | .agg cs=>iX cs
 | .tup cs=>iX cs
 | .clo _ cs=>iX cs
def iX:List AV→Bool
 | []=>true
 | x::r=>x.flat && iX r
end
def uE:List (D × D)→Bool
 | []=>true
 | x::r=>x.1.flat && x.2.flat && uE r
def Ob.flat:Ob→Bool
 | .arrT _ _ xs=>kM xs
 | .boxT _ cs=>iX cs
 | .map es=>uE es
 | .siter _ _=>true
 | .miter _ _ _=>false
def my:List (Name × Ob)→Bool
 | []=>true
 | x::r=>x.2.flat && my r
theorem gW:∀ {l:List D},kM l=true→∀ (i:Nat) d,l[i]?=some d→d.flat=true
 | [],_,i,d,h=>by simp at h
 | x::r,hf,i,d,h=>by
   simp only [kM,Bool.and_eq_true] at hf
   cases i with
   | zero=>cases h;exact hf.1
   | succ i=>exact gW hf.2 i d (by simpa using h)
theorem fE:∀ {l:List AV},iX l=true→∀ (i:Nat) x,l[i]?=some x→x.flat=true
 | [],_,i,d,h=>by simp at h
 | x::r,hf,i,d,h=>by
   simp only [iX,Bool.and_eq_true] at hf
   cases i with
   | zero=>cases h;exact hf.1
   | succ i=>exact fE hf.2 i d (by simpa using h)
theorem qk:∀ {l:List (D × D)},uE l=true→∀ (i:Nat) x,l[i]?=some x→x.1.flat=true∧x.2.flat=true
 | [],_,i,d,h=>by simp at h
 | x::r,hf,i,d,h=>by
   simp only [uE,Bool.and_eq_true] at hf
   cases i with
   | zero=>cases h;exact hf.1
   | succ i=>exact qk hf.2 i d (by simpa using h)
theorem qj:∀ {l:List (Name × Ob)},my l=true→∀ q∈l,q.2.flat=true
 | [],_,q,h=>by simp at h
 | x::r,hf,q,h=>by
   simp only [my,Bool.and_eq_true] at hf
   rcases List.mem_cons.1 h with rfl | h
   ·exact hf.1
   ·exact qj hf.2 q h
theorem Rep.reown {H H':Array Obj} {own own':Nat→Prop} {v:Value} {d:D} (h:Rep H own v d):d.flat=true→Rep H' own' v d:=by
 induction h with
 | int k n=>exact fun _=>.int k n
 | bool b=>exact fun _=>.bool b
 | str l=>exact fun _=>.str l
 | nilp=>exact fun _=>.nilp
 | nils=>exact fun _=>.nils
 | nilm=>exact fun _=>.nilm
 | nilf=>exact fun _=>.nilf
 | nili=>exact fun _=>.nili
 | yl l=>exact fun _=>.yl l
 | agg vs cs hs hc _ ih=>exact fun hf=>.agg vs cs hs hc fun i d hi=>ih i d hi (gW hf i d hi)
 | sl0 a cap w=>exact fun _=>.sl0 a cap w
 | sl b o cap c e fz w xs hb hn hcap hz hw _ ih =>
   intro hf
   have:xs=[]:=by simpa [D.flat] using hf
   subst this
   exact .sl0 _ _ _
 | slx v w xs _ hc ih=>intro hf;cases hf
 | ptr b o c e fz d hb hn hz hsc _ ih=>intro hf;cases hf
 | clo f vs cs hs _ ih=>exact fun hf=>.clo f vs cs hs fun i d hi=>ih i d hi (gW hf i d hi)
 | ifc t v d _ ih=>exact fun hf=>.ifc t v d (ih hf)
 | mpd b clk ents bs ks vs hb hn hs hbs _ _ ih1 ih2=>intro hf;cases hf
section
variable {H:Array Obj} {own own':Nat→Prop} {used:List Nat} {hp:Name→Option Ob} {β:Name→Option Blk}
theorem VR.reown {v:Value} {x:AV} (h:VR H own used hp β v x):x.flat=true→VR H own' used hp β v x:=by
 induction h with
 | un v=>exact fun _=>.un v
 | d v x h=>exact fun hf=>.d v x (h.reown hf)
 | vw v p off len hu h1 h=>exact fun _=>.vw v p off len hu h1 h
 | bx v p c hu h1 h=>exact fun _=>.bx v p c hu h1 h
 | el v p i c hu h1 h=>exact fun _=>.el v p i c hu h1 h
 | mp v p hu h1 h=>exact fun _=>.mp v p hu h1 h
 | its v p hu h1 h h'=>exact fun _=>.its v p hu h1 h h'
 | agg vs cs hs hc _ ih=>exact fun hf=>.agg vs cs hs hc fun i x hi=>ih i x hi (fE hf i x hi)
 | tup vs cs hs _ ih=>exact fun hf=>.tup vs cs hs fun i x hi=>ih i x hi (fE hf i x hi)
 | clo f vs cs hs _ ih=>exact fun hf=>.clo f vs cs hs fun i x hi=>ih i x hi (fE hf i x hi)
theorem uZ {d:D} (h:d.flat=true):kM d.cells=true:=by
 cases d<;>first | exact h | (simp only [D.cells,kM,Bool.and_true];exact h)
theorem OR.reown {p:Name} {o:Ob} (h:OR H own used hp β p o) (hf:o.flat=true):OR H own' used hp β p o:=by
 cases o with
 | arrT ty w xs =>
   rcases h with h | ⟨k,c,e,hk,hc,hz,hl,hw,h⟩
   ·exact .inl h
   ·exact .inr ⟨k,c,e,hk,hc,hz,hl,hw,fun i x j d hi hj=>(h i x j d hi hj).reown (gW (uZ (gW hf i x hi)) j d hj)⟩
 | boxT ty cs =>
   obtain ⟨k,c,e,hk,ho,hc,hz,hl,h1,h⟩:=h
   exact ⟨k,c,e,hk,ho,hc,hz,hl,h1,fun j x hj=>(h j x hj).reown (fE hf j x hj)⟩
 | map es =>
   obtain ⟨k,ents,clock,hk,hc,hz,h⟩:=h
   refine ⟨k,ents,clock,hk,hc,hz,fun i x hi=>?_⟩
   obtain ⟨en,h1,h2,h3⟩:=h i x hi
   obtain ⟨g1,g2⟩:=qk hf i x hi
   exact ⟨en,h1,h2.reown g1,h3.reown g2⟩
 | siter s pos=>exact h
 | miter _ _ _=>cases hf
end
theorem Sim.reown {n:Nat} {io:Os × Array (Nat × ByteArray)} {G:List (Nat × Obj)} {H0:Array Obj} {O0 A A2:Nat→Prop} {U0:List Nat} {β0:Name→Option Blk} {hA:∀ b,A b→b<H0.size} {hA2:∀ b,A2 b→b<H0.size} {hG:∀ q∈G,H0[q.1]?=some q.2∧¬ O0 q.1}
  {β:Name→Option Blk} {fr:List (Nat × AV)} {hp:List (Name × Ob)} {u:List Nat} {tm:Array Value} {w:World}
  (h:Sim ⟨n,io,G,H0,O0,A,U0,β0,hA,hG⟩ β (Go.Ab.mk fr hp u) tm w) (hO:∀ b,A2 b→¬ O0 b) (hf:∀ t,(lkA AV.un fr t).flat=true) (hh:my hp=true):Sim ⟨n,io,G,H0,O0,A2,U0,β0,hA2,hG⟩ β (Go.Ab.mk fr hp u) tm w:=by
 refine { tms:=h.tms,io:=h.io,size:=h.size,frame:=h.frame,slots:=fun t=>(h.slots t).reown (hf t),objs:=fun p o ho=>?_,blocks:=fun p k hp hk=>?_,inj:=h.inj,us:=h.us,stay:=h.stay }
 ·obtain ⟨h1,h2⟩:=h.objs p o ho
  exact ⟨h1,h2.reown (qj hh _ (gL ho))⟩
 ·obtain ⟨h1,_,h3⟩:=h.blocks p k hp hk
  refine ⟨h1,fun ha=>?_,h3⟩
  rcases h3 with h3 | h3
  ·exact absurd (hA2 _ ha) (Nat.not_lt.2 h3)
  ·exact hO _ ha h3
def St.cP (s:St) (L:List (Name × W × List D)):St:=L.foldl (fun s q=>s.frz q.1 q.2.1 q.2.2) s
theorem zM (s:St):s.cP []=s:=rfl
theorem yD (s:St) (q:Name × W × List D) (L):s.cP (q::L)=(s.frz q.1 q.2.1 q.2.2).cP L:=rfl
theorem se:∀ (L:List (Name × W × List D)) (s:St) (p:Name) (o:Ob),(s.cP L).hp p=some o→s.hp p=some o
 | [],_,_,_,h=>h
 | q::L,s,p,o,h=>by
   have:=se L _ p o h
   have h2:aD s.hp q.1 none p=some o:=this
   unfold aD at h2
   split at h2
   ·cases h2
   ·exact h2
theorem nJ {B:Base} {β:Name→Option Blk} {tm:Array Value} {w:World}:∀ (L:List (Name × W × List D)) (s:St),Sim B β s tm w→Lok s L→Sim B β (s.cP L) tm w
 | [],_,h,_=>h
 | _::L,_,h,hl=>nJ L _ (h.frz hl.1) hl.2
theorem lN {P:Program} {B:Base} {β:Name→Option Blk} {s s':St} {tm tm':Array Value} {w:World} (h:Sim B β s tm w) (h':Sim B β s' tm' w) (hsub:∀ p o,s'.hp p=some o→s.hp p=some o) {f:FuncId} {cargs:List AV} {chp:List (Name × Ob)} {cu:List Nat} {Q0:AV→List (Name × Ob)→Prop} {σ:Name→Name} {d:Nat} (hd:d ∉ s.used)
  (hpass:fb σ cu s' chp) (hinj:mj σ chp) (hcu:eU cu cargs=true) {vs:Array Value} (hvs:vs.size=cargs.length) (hv:∀ (i:Nat) x,cargs[i]?=some x→VR w.heap (s'.own B.A β) s'.used s'.hp β (vs.getD i undef) (x.ren σ)) (hc:HCall P B.G f cargs chp cu Q0)
  (hflat:∀ r hp',Q0 r hp'→r.flat=true∧my hp'=true) :
  CallsIn Fence.wide 0 P f vs w fun e w'=>∃ v,e=.returned v∧∃ r hp',Q0 r hp'∧(iI chp hp'→∃ β2,Sim B β2 { aft s σ d chp hp' r with fr:=s.fr } tm w' ∧
   VR w'.heap ((aft s σ d chp hp' r).own B.A β2) (d::s.used) (aft s σ d chp hp' r).hp β2 v (r.ren (fc σ d chp))):=by
 obtain ⟨O0',hO⟩:∃ O0':Nat→Prop,∀ b,O0' b↔∃ p k,chp.any (fun q=>q.1 == p)=true∧β (σ p)=some k∧k.b=b:=⟨_,fun _=>Iff.rfl⟩
 obtain ⟨A',hA⟩:∃ A':Nat→Prop,∀ b,A' b↔s'.own B.A β b∧¬ O0' b:=⟨_,fun _=>Iff.rfl⟩
 obtain ⟨A2,hA2⟩:∃ A2:Nat→Prop,∀ b,A2 b↔s.own B.A β b∧¬ O0' b:=⟨_,fun _=>Iff.rfl⟩
 have hA':∀ b,A' b→b<w.heap.size:=fun b hb=>h'.qM ((hA b).1 hb).1
 have hA2':∀ b,A2 b→b<w.heap.size:=fun b hb=>h.qM ((hA2 b).1 hb).1
 have hpass0:fb σ cu s chp:=by
  clear hinj hO hcu hv hc
  induction chp with
  | nil=>trivial
  | cons q r ih=>exact ⟨⟨hsub _ _ hpass.1.1,hpass.1.2⟩,ih hpass.2⟩
 have hG':∀ q∈B.G,w.heap[q.1]?=some q.2∧¬ O0' q.1:=fun q hq=>by
  obtain ⟨g1,g2⟩:=B.hG q hq
  have hlt:=ar g1
  refine ⟨(h.frame _ hlt g2).trans g1,fun hb=>?_⟩
  obtain ⟨p,k,hp,hk,e⟩:=(hO _).1 hb
  obtain ⟨o,ho⟩:=nf hp
  obtain ⟨h1,_,_⟩:=ez hpass0 _ (lkS ho)
  obtain ⟨_,_,g3⟩:=h.blocks (σ p) k (by rw [h1];simp) hk
  rcases g3 with g3 | g3
  ·omega
  ·exact g2 (e ▸ g3)
 have hβc:∀ p,chp.any (fun q=>q.1 == p)=true→(fun p=>β (σ p)) p=β (σ p):=fun _ _=>rfl
 have live:∀ p o,lkA none (chp.map fun x=>(x.1,some x.2)) p=some o→s'.hp (σ p)=some (o.ren σ)∧o.inU cu=true∧nm cu p:=fun p o ho=>by
  obtain ⟨h1,h2,h3⟩:=ez hpass _ (lkS ho)
  exact ⟨h1,h2,gZ h3⟩
 have hown:∀ b,(mk (aG 0 cargs) chp cu).own A' (fun p=>β (σ p)) b→s'.own B.A β b:=by
  intro b hb
  rcases ta hb with hb | ⟨p,k,o,ho,hk,rfl⟩
  ·exact ((hA b).1 hb).1
  ·exact .inr ⟨σ p,k,by rw [(live p o ho).1];simp,hk,rfl⟩
 have hr:∀ v d,Rep w.heap (s'.own B.A β) v d→Rep w.heap ((mk (aG 0 cargs) chp cu).own A' (fun p=>β (σ p))) v d:=fun v d hd=>hd.mono (fun _ _ _=>rfl) (fun b _=>hown b)
 have hob:∀ p o,(mk (aG 0 cargs) chp cu).hp p=some o→s'.hp (σ p)=some (o.ren σ)∧(fun p=>β (σ p)) p=β (σ p):=fun p o ho=>⟨(live p o ho).1,rfl⟩
 have hsim:Sim { n:=cargs.length,io:=B.io,G:=B.G,H0:=w.heap,O0:=O0',A:=A',U0:=cu,β0:=fun p=>β (σ p),hA:=hA',hG:=hG' } (fun p=>β (σ p)) (mk (aG 0 cargs) chp cu) vs w:=by
  refine { tms:=hvs,io:=h.io,size:=Nat.le_refl _,frame:=fun _ _ _=>rfl,slots:=fun t=>?_,objs:=fun p o ho=>⟨(live p o ho).2.2,OR.ren hr hob rfl (live p o ho).2.1 (h'.objs _ _ (live p o ho).1).2⟩,blocks:=fun p k hp hk=>?_,inj:=fun p q k l hp hq hk hl e=>?_,us:=fun _ hx=>hx,stay:=fun _ _=>rfl }
  ·rw [eJ,bg,if_pos (Nat.zero_le _),Nat.sub_zero]
   cases ht:cargs[t]? with
   | none=>exact .un _
   | some x=>exact (hv t x ht).ren hr hob x rfl (fK hcu t x ht)
  ·cases ho:(mk (aG 0 cargs) chp cu).hp p with
   | none=>exact absurd ho hp
   | some o =>
     have hin:O0' k.b:=(hO _).2 ⟨p,k,List.any_eq_true.2 ⟨_,lkS ho,by simp⟩,hk,rfl⟩
     obtain ⟨g1,_,_⟩:=h'.blocks (σ p) k (by rw [(live p o ho).1];simp) hk
     exact ⟨g1,fun ha=>((hA _).1 ha).2 hin,.inr hin⟩
  ·cases ho:(mk (aG 0 cargs) chp cu).hp p with
   | none=>exact absurd ho hp
   | some o =>
     cases ho':(mk (aG 0 cargs) chp cu).hp q with
     | none=>exact absurd ho' hq
     | some o' =>
       have e2:=h'.inj (σ p) (σ q) k l (by rw [(live p o ho).1];simp) (by rw [(live q o' ho').1];simp) hk hl e
       exact jq hinj _ (lkS ho) _ (lkS ho') e2
 have hgo:=fun h1 h2 h3 h4=>hc.2 _ _ vs w h1 h2 h3 h4 hsim
 refine (hgo rfl rfl rfl rfl).mono ?_
 rintro e w' ⟨v,r,hp',u',β',rfl,hQ,hs⟩
 obtain ⟨f1,f2⟩:=hflat r hp' hQ
 have hs2:=hs.reown (A2:=A2) (hA2:=hA2') (fun b hb=>((hA2 b).1 hb).2) (fun t=>by
  simp only [lkA]
  split
  ·exact f1
  ·rfl) f2
 exact ⟨v,rfl,r,hp',hQ,fun hl=>v5 h hd hpass0 hinj hβc hO hA2 hA2' hG' hl hs2⟩
section
variable {P:Program} {cf:Cf}
theorem Ch {s:St} {k:List It} {Q:Exit→St→Prop} {dst:Option Nat} {fv:Operand} {args:Array Operand} {at':Array TypeId} {ty:TypeId} {pos:String} {af:Array Edge} {g:Option (Nat × Bool)}
  (L:List (Name × W × List D)) (hL:Lok s L) (d:Nat) (σ:Name→Name) (cargs:List AV) (chp:List (Name × Ob)) (cu:List Nat) (Q0:AV→List (Name × Ob)→Prop) {f:FuncId} {caps:List AV}
  (hev:ev (s.cP L) fv=.clo f caps) (hargs:args.toList.map (ev (s.cP L))++caps=e8 σ cargs) (hcu:eU cu cargs=true) (hd:d ∉ s.used) (hdst:∀ t∈dst,t<cf.n∧t=d)
  (hpass:fb σ cu (s.cP L) chp) (hinj:mj σ chp) (hc:HCall P cf.G f cargs chp cu Q0) (hflat:∀ r hp',Q0 r hp'→r.flat=true∧my hp'=true)
  (hk:∀ r hp',Q0 r hp'→iI chp hp'∧run P cf k Q (DX s σ d dst chp hp' r)) :
  AOk P cf { dst:=dst,op:=.call { callee:=.value fv,args:=args,argTypes:=at' },type:=ty,pos:=pos,after:=af,guard:=g } s k Q:=by
 intro B hB ds β a w hds h Q'
 refine ⟨fun _ _=>trivial,?_⟩
 have h':=nJ L s h hL
 have hf:=h'.ev fv
 rw [hev] at hf
 generalize hfv:a.eval fv=fval at hf
 cases hf with
 | clo _ cvs _ hcs hcv =>
 have hrun:∀ vs,vs=(args.toList.map a.eval).toArray++cvs→(execOp a.eval { dst:=dst,op:=.call { callee:=.value fv,args:=args,argTypes:=at' },type:=ty,pos:=pos,after:=af,guard:=g }).run P w=.ok (.enter f vs) w:=by
  intro vs hvs
  have e:(execOp a.eval { dst:=dst,op:=.call { callee:=.value fv,args:=args,argTypes:=at' },type:=ty,pos:=pos,after:=af,guard:=g }:Sem Next)=callFunc f (#[]++args.map a.eval++cvs):=by
   show (do let d ← (Deferred.ofValue (a.eval fv) (args.map a.eval));invoke d.target d.args:Sem Next)=_
   rw [hfv];rfl
  rw [e,← hc.1 vs w,hvs]
  congr 2
  apply Array.ext'
  simp
 rw [Oper.semAt_eq _ _ _ (by simp),hrun _ rfl,Oper.uponIn_enter]
 refine ⟨fun hdep=>by simp [eP] at hdep,?_⟩
 have hlen:cargs.length=args.size+caps.length:=by
  have:=congrArg List.length hargs
  rw [bC] at this
  simpa using this.symm
 have hvs:((args.toList.map a.eval).toArray++cvs).size=cargs.length:=by simp [hcs,hlen]
 have hv:∀ (i:Nat) x,cargs[i]?=some x→VR w.heap ((s.cP L).own B.A β) (s.cP L).used (s.cP L).hp β (((args.toList.map a.eval).toArray++cvs).getD i undef) (x.ren σ):=by
  intro i x hi
  have hx:(e8 σ cargs)[i]?=some (x.ren σ):=by rw [cW,hi];rfl
  rw [← hargs] at hx
  by_cases hlt:i<args.size
  ·have hx':(args.toList.map (ev (s.cP L)))[i]?=some (x.ren σ):=by rw [← hx,List.getElem?_append_left (by simpa using hlt)]
   have:=dI h' args.toList i _ hx'
   rw [show ((args.toList.map a.eval).toArray++cvs).getD i undef=(args.toList.map a.eval).toArray.getD i undef by simp [Array.getD_eq_getD_getElem?,Array.getElem?_append,hlt]]
   exact this
  ·have hx':caps[i-args.size]?=some (x.ren σ):=by rw [← hx,List.getElem?_append_right (by simpa using Nat.le_of_not_lt hlt)];simp
   have:=hcv _ _ hx'
   rw [show ((args.toList.map a.eval).toArray++cvs).getD i undef=cvs.getD (i-args.size) undef by simp [Array.getD_eq_getD_getElem?,Array.getElem?_append,hlt]]
   exact this
 have hcall:=lN (P:=P) h h' (fun p o ho=>se L s p o ho) (σ:=σ) hd hpass hinj hcu hvs hv (by rw [hB.2.2];exact hc) hflat
 have hcall':CallsIn (Fw cf.ro) (0-1) P f ((args.toList.map a.eval).toArray++cvs) w _:=hcall
 refine hcall'.mono ?_
 rintro e w' ⟨v,rfl,r,hp',hQ,hl⟩
 obtain ⟨hlk,hrun'⟩:=hk r hp' hQ
 obtain ⟨β2,hs2,hv2⟩:=hl hlk
 refine ⟨by cases dst<;>exact hds,DX s σ d dst chp hp' r,β2,aW hrun',?_⟩
 cases dst with
 | none=>exact hs2
 | some t =>
   obtain ⟨ht,rfl⟩:=hdst t rfl
   exact hs2.put (by rw [hB.1];exact ht) hv2
theorem uJ (l:List AV):e8 id l=l:=by
 induction l with
 | nil=>rfl
 | cons x r ih=>rw [e8,ih,AV.ek id (fun _=>rfl)]
section
variable {Q:Exit→St→Prop} {s:St} {k:List It}
theorem z6 (E:Eng P cf Q) {d:Nat} {fv:Operand} {args:Array Operand} {at':Array TypeId} {ty:TypeId} {pos:String} {af:Array Edge}
  {f:FuncId} {caps:List AV} (L:List (Name × W × List D)) (cargs:List AV) (chp:List (Name × Ob)) (cu:List Nat) {Q0:AV→List (Name × Ob)→Prop} (hc:HCall P cf.G f cargs chp cu Q0) (hflat:∀ r hp',Q0 r hp'→r.flat=true∧my hp'=true)
  (hL:Lok s L) (hev:ev (s.cP L) fv=.clo f caps) (hargs:args.toList.map (ev (s.cP L))++caps=cargs) (hd:d<cf.n∧d ∉ s.used) (hcu:eU cu cargs=true) (hpass:fb id cu (s.cP L) chp) (hinj:mj id chp)
  (hk:∀ r hp',Q0 r hp'→iI chp hp'∧E.run k (aft s id d chp hp' r)) :
  E.stp { dst:=some d,op:=.call { callee:=.value fv,args:=args,argTypes:=at' },type:=ty,pos:=pos,after:=af,guard:=none } s k .no:=by
 rw [aM]
 refine Ch L hL d id cargs chp cu Q0 hev ?_ hcu hd.2 (fun t ht=>?_) hpass hinj hc hflat fun r hp' hr=>?_
 ·rw [hargs,uJ]
 ·obtain rfl:=Option.some.inj ht
  exact ⟨hd.1,rfl⟩
 ·obtain ⟨h1,h2⟩:=hk r hp' hr
  exact ⟨h1,by rw [← E.run_eq];exact h2⟩
theorem yr {dst:Option Nat} {fv:Operand} {args:Array Operand} {at':Array TypeId} {ty:TypeId} {pos:String} {af:Array Edge} {g:Option (Nat × Bool)}
  (L:List (Name × W × List D)) (hL:Lok s L) {f:FuncId} {caps:List AV} {ds:List D} {Q0:AV→Prop} (hc:HP P cf.G f ds Q0) (hflat:∀ r,Q0 r→r.flat=true)
  (hev:ev (s.cP L) fv=.clo f caps) (hargs:args.toList.map (ev (s.cP L))++caps=ds.map .d) (hdst:∀ t∈dst,t<cf.n) (hk:∀ r,Q0 r→run P cf k Q (s.iK dst r)) :
  AOk P cf { dst:=dst,op:=.call { callee:=.value fv,args:=args,argTypes:=at' },type:=ty,pos:=pos,after:=af,guard:=g } s k Q:=by
 intro B hB ds' β a w hds h Q'
 obtain ⟨d,hd⟩:=lS s.used
 refine ⟨fun _ _=>trivial,?_⟩
 have h':=nJ L s h hL
 have hf:=h'.ev fv
 rw [hev] at hf
 generalize hfv:a.eval fv=fval at hf
 cases hf with
 | clo _ cvs _ hcs hcv =>
 have hrun:∀ vs,vs=(args.toList.map a.eval).toArray++cvs→(execOp a.eval { dst:=dst,op:=.call { callee:=.value fv,args:=args,argTypes:=at' },type:=ty,pos:=pos,after:=af,guard:=g }).run P w=.ok (.enter f vs) w:=by
  intro vs hvs
  have e:(execOp a.eval { dst:=dst,op:=.call { callee:=.value fv,args:=args,argTypes:=at' },type:=ty,pos:=pos,after:=af,guard:=g }:Sem Next)=callFunc f (#[]++args.map a.eval++cvs):=by
   show (do let d ← (Deferred.ofValue (a.eval fv) (args.map a.eval));invoke d.target d.args:Sem Next)=_
   rw [hfv];rfl
  rw [e,← hc.1 vs w,hvs]
  congr 2
  apply Array.ext'
  simp
 rw [Oper.semAt_eq _ _ _ (by simp),hrun _ rfl,Oper.uponIn_enter]
 refine ⟨fun hdep=>by simp [eP] at hdep,?_⟩
 have hlen:(ds.map AV.d).length=args.size+caps.length:=by
  have:=congrArg List.length hargs
  simpa using this.symm
 have hvs:((args.toList.map a.eval).toArray++cvs).size=(ds.map AV.d).length:=by simp [hcs] at hlen ⊢;omega
 have hv:∀ (i:Nat) x,(ds.map AV.d)[i]?=some x→VR w.heap ((s.cP L).own B.A β) (s.cP L).used (s.cP L).hp β (((args.toList.map a.eval).toArray++cvs).getD i undef) (x.ren id):=by
  intro i x hi
  rw [AV.ek id (fun _=>rfl)]
  have hx:=hi
  rw [← hargs] at hx
  by_cases hlt:i<args.size
  ·have hx':(args.toList.map (ev (s.cP L)))[i]?=some x:=by rw [← hx,List.getElem?_append_left (by simpa using hlt)]
   have:=dI h' args.toList i _ hx'
   rw [show ((args.toList.map a.eval).toArray++cvs).getD i undef=(args.toList.map a.eval).toArray.getD i undef by simp [Array.getD_eq_getD_getElem?,Array.getElem?_append,hlt]]
   exact this
  ·have hx':caps[i-args.size]?=some x:=by rw [← hx,List.getElem?_append_right (by simpa using Nat.le_of_not_lt hlt)];simp
   have:=hcv _ _ hx'
   rw [show ((args.toList.map a.eval).toArray++cvs).getD i undef=cvs.getD (i-args.size) undef by simp [Array.getD_eq_getD_getElem?,Array.getElem?_append,hlt]]
   exact this
 have hcall:=lN (P:=P) h h' (fun p o ho=>se L s p o ho) (Q0:=fun r hp'=>Q0 r∧r.inU []=true∧hp'=[]) (σ:=id) (d:=d) hd (chp:=[]) (cu:=[]) trivial trivial (qQ _ _) hvs hv (by rw [hB.2.2];exact hc) (fun r hp' hq=>⟨hflat r hq.1,by rw [hq.2.2];rfl⟩)
 have hcall':CallsIn (Fw cf.ro) (0-1) P f ((args.toList.map a.eval).toArray++cvs) w _:=hcall
 refine hcall'.mono ?_
 rintro e w' ⟨v,rfl,r,hp',⟨hQ,hru,rfl⟩,hl⟩
 obtain ⟨β2,hs2,hv2⟩:=hl trivial
 rw [AV.kO _ r hru] at hv2
 have hru':=AV.ll s.used r hru
 refine ⟨by cases dst<;>exact hds,s.iK dst r,?_⟩
 cases dst with
 | none =>
   obtain ⟨β3,h3⟩:=h.unuse hs2 rfl (t0:=0) (x0:=s.fr 0) (fun _=>.inr rfl) rfl (h.slots 0).inU
   exact ⟨β3,aW (hk r hQ),h3⟩
 | some t =>
   have h2:=hs2.put (t:=t) (by rw [hB.1];exact hdst t rfl) hv2
   obtain ⟨β3,h3⟩:=h.unuse h2 rfl (t0:=t) (x0:=r) (fun u=>by
    by_cases e:u=t
    ·exact .inl e
    ·exact .inr (by show dJ _ _ _ _=_;simp [dJ,e])) (by show dJ _ _ _ _=_;simp [dJ]) hru'
   exact ⟨β3,aW (hk r hQ),h3⟩
theorem mU (E:Eng P cf Q) {dst:Option Nat} {fv:Operand} {args:Array Operand} {at':Array TypeId} {ty:TypeId} {pos:String} {af:Array Edge}
  (L:List (Name × W × List D)) {f:FuncId} {caps:List AV} {ds:List D} {Q0:AV→Prop} (hc:HP P cf.G f ds Q0) (hflat:∀ r,Q0 r→r.flat=true) (hL:Lok s L)
  (hev:ev (s.cP L) fv=.clo f caps) (hargs:args.toList.map (ev (s.cP L))++caps=ds.map .d) (hdst:∀ t∈dst,t<cf.n) (hk:∀ r,Q0 r→E.run k (s.iK dst r)) :
  E.stp { dst:=dst,op:=.call { callee:=.value fv,args:=args,argTypes:=at' },type:=ty,pos:=pos,after:=af,guard:=none } s k .no:=by
 rw [aM]
 exact yr L hL hc hflat hev hargs hdst fun r hr=>by rw [← E.run_eq];exact hk r hr
section
variable {ops:Array Oper} {K:St→Ns→Prop} {r:List Oper} {ns:Ns}
end
end
attribute [go_sem] zM yD D.flat kM AV.flat iX my uE Ob.flat List.isEmpty_nil
end
end Go.Ab
namespace Go.Ab
def Ob.frz (p:Name) (w:W) (xs:List D):Ob→Ob
 | .boxT ty cs=>.boxT ty (Go.Ab.cP p w xs cs)
 | o=>o
theorem Ob.Ap (p:Name) (w:W) (xs:List D) (o:Ob):o.like (o.frz p w xs):=by
 cases o<;>simp [Ob.frz,Ob.like]
def St.fT (s:St) (p:Name) (w:W) (xs:List D):St:={ fr:=fun t=>(s.fr t).frz p w xs,hp:=fun q=>(aD s.hp p none q).map (Ob.frz p w xs),used:=s.used }
theorem Sim.fT {B:Base} {β:Name→Option Blk} {s:St} {tm:Array Value} {w:World} (h:Sim B β s tm w) {p:Name} {wf:W} {xs:List D} (hp:s.hp p=some (.arr wf xs)):Sim B β (s.fT p wf xs) tm w:=by
 have hsub:∀ q o',(s.fT p wf xs).hp q=some o'→q≠p∧∃ o,s.hp q=some o∧o'=o.frz p wf xs:=by
  intro q o' ho
  by_cases e:q=p
  ·subst e;simp [St.fT,aD] at ho
  ·simp only [St.fT,aD,if_neg e,Option.map_eq_some_iff] at ho
   obtain ⟨o,h1,h2⟩:=ho
   exact ⟨e,o,h1,h2.symm⟩
 have hne:∀ q,(s.fT p wf xs).hp q≠none→s.hp q≠none∧q≠p:=by
  intro q hq
  cases ho:(s.fT p wf xs).hp q with
  | none=>exact absurd ho hq
  | some o' =>
    obtain ⟨e,o,h1,_⟩:=hsub q o' ho
    exact ⟨by rw [h1];simp,e⟩
 have hr:∀ v d',Rep w.heap (s.own B.A β) v d'→Rep w.heap ((s.fT p wf xs).own B.A β) v d':=fun v d' hd=>hd.mono (fun _ _ _=>rfl) (by
  rintro b _ (hA | ⟨q,k,hq,hk,e⟩)
  ·exact .inl hA
  ·exact .inr ⟨q,k,(hne q hq).1,hk,e⟩)
 have hst:∀ q,nm s.used q→Stays s.hp (s.fT p wf xs).hp β β q:=fun q _ o' ho'=>by
  obtain ⟨_,o,h1,rfl⟩:=hsub q o' ho'
  exact ⟨o,h1,Ob.Ap p wf xs o,rfl⟩
 have hno:∀ k,β p=some k→¬ (s.fT p wf xs).own B.A β k.b:=by
  rintro k hk (hA | ⟨q,k',hq,hk',e⟩)
  ·exact (h.blocks p k (by rw [hp];simp) hk).2.1 hA
  ·exact (hne q hq).2 (h.inj q p k' k (hne q hq).1 (by rw [hp];simp) hk' hk e)
 have hvr:∀ {v:Value} {x:AV},VR w.heap (s.own B.A β) s.used s.hp β v x→VR w.heap ((s.fT p wf xs).own B.A β) s.used (s.fT p wf xs).hp β v (x.frz p wf xs):=fun hv=>hv.frz hr hst hp (h.objs p _ hp).2 hno
 refine { tms:=h.tms,io:=h.io,size:=h.size,frame:=h.frame,slots:=fun i=>hvr (h.slots i),objs:=fun q o' ho'=>?_,blocks:=fun q k hq hk=>h.blocks q k (hne q hq).1 hk,inj:=fun q q' k k' hq hq'=>h.inj q q' k k' (hne q hq).1 (hne q' hq').1,us:=h.us,stay:=h.stay }
 obtain ⟨_,o,h1,rfl⟩:=hsub q o' ho'
 obtain ⟨g1,g2⟩:=h.objs q o h1
 refine ⟨g1,?_⟩
 cases o with
 | boxT ty cs =>
   obtain ⟨k,c,e,a1,a2,a3,a4,a5,a6,a7⟩:=g2
   refine ⟨k,c,e,a1,a2,a3,a4,by rw [a5,eT],a6,fun j x hj=>?_⟩
   rw [iS,Option.map_eq_some_iff] at hj
   obtain ⟨y,hy,rfl⟩:=hj
   exact hvr (a7 j y hy)
 | _=>exact g2.mono hr (fun _ h=>h) hst rfl fun _ _=>rfl
theorem th (p:Name) (w:W) (xs:List D) (q:Name):∀ l:List (Name × Ob),(lkA none (l.map fun x=>(x.1,some x.2)) q).map (Ob.frz p w xs)=lkA none ((l.map fun x=>(x.1,x.2.frz p w xs)).map fun x=>(x.1,some x.2)) q
 | []=>rfl
 | x::r=>by
   simp only [lkA,List.map_cons]
   split
   ·rfl
   ·exact th p w xs q r
theorem xU (fr:List (Nat × AV)) (hp:List (Name × Ob)) (u:List Nat) (p:Name) (w:W) (xs:List D):(mk fr hp u).fT p w xs=mk (fr.map fun q=>(q.1,q.2.frz p w xs)) ((jX hp p).map fun q=>(q.1,q.2.frz p w xs)) u:=by
 unfold St.fT mk
 congr 1
 ·funext t
  exact rX p w xs t fr
 ·funext q
  rw [← th,ir,ik]
  rfl
attribute [go_sem] xU Ob.frz
section
variable {P:Program} {cf:Cf} {Q:Exit→St→Prop} {s:St} {k:List It}
theorem cJ (E:Eng P cf Q) {d:Option Nat} {op:Op} {ty:TypeId} {ps:String} {af:Array Edge} (p:Name) (w:W) (xs:List D) (hp:s.hp p=some (.arr w xs)) {s':St} (he:s.fT p w xs=s') (h:E.stp { dst:=d,op:=op,type:=ty,pos:=ps,after:=af,guard:=none } s' k (opR P.ti cf.n op d s')) :
  E.stp { dst:=d,op:=op,type:=ty,pos:=ps,after:=af,guard:=none } s k .no:=by
 subst he
 rw [aM]
 rw [E.stp_eq] at h
 have h1:=dF (o:={ dst:=d,op:=op,type:=ty,pos:=ps,after:=af,guard:=none }) rfl h
 intro B hB ds β a w' hds hs Q'
 exact h1 B hB ds β a w' hds (hs.fT hp) Q'
theorem jb (E:Eng P cf Q) {c:Code} (p:Name) (w:W) (xs:List D) (hp:s.hp p=some (.arr w xs)) (h:eV E c (s.fT p w xs) k):eV E c s k:=by
 intro B hB ds β a w' hds hs
 exact h B hB ds β a w' hds (hs.fT hp)
section
variable {ops:Array Oper} {K:St→Ns→Prop} {r:List Oper} {ns:Ns}
theorem Gu (E:XEng P cf ops K) {t:TypeId} {x y:Operand} {yt:TypeId} {dst:Nat} {ty:TypeId} {ps:String} {af:Array Edge} {g:Option (Nat × Bool)} (neg:Bool) {a0s bs:List D} {b:Bool} {fs:List (Nat × Nat)} (hst:P.fM t=true) (hk:(P.ti t).k=.struct fs) (hd:dst<cf.n)
  (hx:ev s x=.d (.agg a0s)) (hy:ev s y=.d (.agg bs)) (h:eqS P.ti fs a0s bs=some b) (hr:E.run r (s.put dst (.d (.bool (if neg then !b else b)))) (ns++[([],[],[])])) :
  E.stp { dst:=some dst,op:=.binOp (if neg then .neq else .eql) t x y yt,type:=ty,pos:=ps,after:=af,guard:=g } r s ns .no:=by
 refine oN E (x:=.d (.bool (if neg then !b else b))) [] (fun t ht=>by rw [Option.mem_def,Option.some.injEq] at ht;rw [← ht];exact hd) (fun s' _ he=>?_) hr
 exact Dg neg hst hk hd ((he x (by simp [Op.operands])).trans hx) ((he y (by simp [Op.operands])).trans hy) h (by rw [dW];rfl)
theorem H6 (E:XEng P cf ops K) {t:TypeId} {x y:Operand} {yt:TypeId} {dst:Nat} {ty:TypeId} {ps:String} {af:Array Edge} {g:Option (Nat × Bool)} {a0s bs:List D} {b:Bool} {fs:List (Nat × Nat)} (hst:P.fM t=true) (hk:(P.ti t).k=.struct fs) (hd:dst<cf.n)
 (hx:ev s x=.d (.agg a0s)) (hy:ev s y=.d (.agg bs)) (h:eqS P.ti fs a0s bs=some b) (hr:E.run r (s.put dst (.d (.bool (!b)))) (ns++[([],[],[])])) :
 E.stp { dst:=some dst,op:=.binOp .neq t x y yt,type:=ty,pos:=ps,after:=af,guard:=g } r s ns .no:=Gu E true hst hk hd hx hy h hr
end
end
end Go.Ab
namespace Go.Ab
open Go.ChangeMaps (setBlock)
mutual
def AV.frM (p:Name) (d:D):AV→AV
 | .un=>.un
 | .d x=>.d x
 | .vw q o l=>.vw q o l
 | .bx q c=>.bx q c
 | .el q i c=>.el q i c
 | .mp q=>if q=p then .d d else .mp q
 | .it q=>.it q
 | .agg cs=>fZ (lM p d cs)
 | .tup cs=>.tup (lM p d cs)
 | .clo f cs=>uh f (lM p d cs)
def lM (p:Name) (d:D):List AV→List AV
 | []=>[]
 | x::r=>x.frM p d::lM p d r
end
theorem eM (p:Name) (d:D):∀ l:List AV,(lM p d l).length=l.length
 | []=>rfl
 | _::r=>by simp [lM,eM p d r]
theorem iR (p:Name) (d:D):∀ (l:List AV) (i:Nat),(lM p d l)[i]?=(l[i]?).map (AV.frM p d)
 | [],i=>by simp [lM]
 | x::r,i=>by
   cases i with
   | zero=>simp [lM]
   | succ i=>simpa [lM] using iR p d r i
section
variable {H:Array Obj} {own own':Nat→Prop} {used:List Nat} {hp hp':Name→Option Ob} {β:Name→Option Blk}
theorem VR.frM {p:Name} {d:D} {es:List (D × D)} (hr:∀ v d,Rep H own v d→Rep H own' v d) (hst:∀ q,nm used q→Stays hp hp' β β q) (hp0:hp p=some (.map es)) (hd:∀ k,β p=some k→Rep H own' (.map (some k.b)) d)
  {v:Value} {x:AV} (h:VR H own used hp β v x):VR H own' used hp' β v (x.frM p d):=by
 induction h with
 | un v=>exact .un v
 | d v x h=>exact .d v x (hr v x h)
 | vw v q off len hn h1 h=>exact VR.mono hr (fun _ h=>h) hst (.vw v q off len hn h1 h)
 | bx v q c hn h1 h=>exact VR.mono hr (fun _ h=>h) hst (.bx v q c hn h1 h)
 | el v q i c hn h1 h=>exact VR.mono hr (fun _ h=>h) hst (.el v q i c hn h1 h)
 | mp v q hn h1 h =>
   unfold AV.frM
   split
   ·rename_i e
    subst e
    obtain ⟨k,hk,rfl⟩:=h _ hp0
    exact .d _ _ (hd k hk)
   ·exact VR.mono hr (fun _ h=>h) hst (.mp v q hn h1 h)
 | its v q hn h1 h h'=>exact VR.mono hr (fun _ h=>h) hst (.its v q hn h1 h h')
 | agg vs cs hs hc _ ih =>
   have:=fp (H:=H) (own:=own') (used:=used) (hp:=hp') (β:=β) (vs:=vs.toList) (cs:=lM p d cs) (by rw [eM];simpa using hs) (by simpa using hc) (fun i v x hv hx=>by
    rw [iR,Option.map_eq_some_iff] at hx
    obtain ⟨y,hy,rfl⟩:=hx
    have:=ih i y hy
    have e:vs.getD i undef=v:=by
     simp only [Array.getElem?_toList] at hv
     simp [Array.getD_eq_getD_getElem?,hv]
    rw [e] at this
    exact this)
   simpa [AV.frM] using this
 | tup vs cs hs _ ih =>
   refine .tup vs _ (by rw [eM];exact hs) (fun i x hi=>?_)
   rw [iR,Option.map_eq_some_iff] at hi
   obtain ⟨y,hy,rfl⟩:=hi
   exact ih i y hy
 | clo f vs cs hs _ ih =>
   refine qo (by rw [eM];exact hs) (fun i x hi=>?_)
   rw [iR,Option.map_eq_some_iff] at hi
   obtain ⟨y,hy,rfl⟩:=hi
   exact ih i y hy
end
def Ob.frM (p:Name) (d:D):Ob→Ob
 | .boxT ty cs=>.boxT ty (lM p d cs)
 | o=>o
theorem Ob.Cl (p:Name) (d:D) (o:Ob):o.like (o.frM p d):=by
 cases o<;>simp [Ob.frM,Ob.like]
def St.frM (s:St) (p:Name) (d:D):St:={ fr:=fun t=>(s.fr t).frM p d,hp:=fun q=>(aD s.hp p none q).map (Ob.frM p d),used:=s.used }
def mpD (clk:Nat) (bs:List Nat) (es:List (D × D)):D:=.mpd clk bs (es.map (·.1)) (es.map (·.2))
def Stamps (clk:Nat) (bs:List Nat) (es:List (D × D)):Prop:=bs.length=es.length∧bs.Nodup∧∀ b∈bs,b<clk
theorem Sim.frM {B:Base} {β:Name→Option Blk} {s:St} {tm:Array Value} {w:World} (h:Sim B β s tm w) {p:Name} {es:List (D × D)} (hp:s.hp p=some (.map es)):∃ clk bs,Stamps clk bs es∧Sim B β (s.frM p (mpD clk bs es)) tm w:=by
 obtain ⟨k0,ents,clk,hk0,hc0,⟨hsz,hb1,hb2⟩,hent⟩:=(h.objs p _ hp).2
 refine ⟨clk,ents.toList.map (·.born),⟨by simp [hsz],hb1,fun b hb=>?_⟩,?_⟩
 ·obtain ⟨e,he,rfl⟩:=List.mem_map.1 hb
  exact hb2 e he
 obtain ⟨d,hd0⟩:∃ d,d=mpD clk (ents.toList.map (·.born)) es:=⟨_,rfl⟩
 rw [← hd0]
 have hsub:∀ q o',(s.frM p d).hp q=some o'→q≠p∧∃ o,s.hp q=some o∧o'=o.frM p d:=by
  intro q o' ho
  by_cases e:q=p
  ·subst e;simp [St.frM,aD] at ho
  ·simp only [St.frM,aD,if_neg e,Option.map_eq_some_iff] at ho
   obtain ⟨o,h1,h2⟩:=ho
   exact ⟨e,o,h1,h2.symm⟩
 have hne:∀ q,(s.frM p d).hp q≠none→s.hp q≠none∧q≠p:=by
  intro q hq
  cases ho:(s.frM p d).hp q with
  | none=>exact absurd ho hq
  | some o' =>
    obtain ⟨e,o,h1,_⟩:=hsub q o' ho
    exact ⟨by rw [h1];simp,e⟩
 have hr:∀ v d',Rep w.heap (s.own B.A β) v d'→Rep w.heap ((s.frM p d).own B.A β) v d':=fun v d' hd=>hd.mono (fun _ _ _=>rfl) (by
  rintro b _ (hA | ⟨q,k,hq,hk,e⟩)
  ·exact .inl hA
  ·exact .inr ⟨q,k,(hne q hq).1,hk,e⟩)
 have hst:∀ q,nm s.used q→Stays s.hp (s.frM p d).hp β β q:=fun q _ o' ho'=>by
  obtain ⟨_,o,h1,rfl⟩:=hsub q o' ho'
  exact ⟨o,h1,Ob.Cl p d o,rfl⟩
 have hno:∀ k,β p=some k→¬ (s.frM p d).own B.A β k.b:=by
  rintro k hk (hA | ⟨q,k',hq,hk',e⟩)
  ·exact (h.blocks p k (by rw [hp];simp) hk).2.1 hA
  ·exact (hne q hq).2 (h.inj q p k' k (hne q hq).1 (by rw [hp];simp) hk' hk e)
 have hgd:∀ (i:Nat) (en:MapEntry),ents[i]?=some en→ents.getD i default=en:=fun i en h=>by simp [Array.getD_eq_getD_getElem?,h]
 have hdr:∀ k,β p=some k→Rep w.heap ((s.frM p d).own B.A β) (.map (some k.b)) d:=by
  intro k hk
  obtain rfl:=Option.some.inj (hk.symm.trans hk0)
  rw [hd0]
  refine .mpd k.b clk ents _ _ _ hc0 (by rw [← hd0];exact hno k hk) ⟨by simp [hsz],by simp⟩ rfl (fun i x hi=>?_) (fun i x hi=>?_)
  ·rw [List.getElem?_map,Option.map_eq_some_iff] at hi
   obtain ⟨y,hy,rfl⟩:=hi
   obtain ⟨en,h1,h2,_⟩:=hent i y hy
   rw [hgd i en h1,← hd0]
   exact hr _ _ h2
  ·rw [List.getElem?_map,Option.map_eq_some_iff] at hi
   obtain ⟨y,hy,rfl⟩:=hi
   obtain ⟨en,h1,_,h2⟩:=hent i y hy
   rw [hgd i en h1,← hd0]
   exact hr _ _ h2
 have hvr:∀ {v:Value} {x:AV},VR w.heap (s.own B.A β) s.used s.hp β v x→VR w.heap ((s.frM p d).own B.A β) s.used (s.frM p d).hp β v (x.frM p d):=fun hv=>hv.frM hr hst hp hdr
 refine { tms:=h.tms,io:=h.io,size:=h.size,frame:=h.frame,slots:=fun i=>hvr (h.slots i),objs:=fun q o' ho'=>?_,blocks:=fun q k hq hk=>h.blocks q k (hne q hq).1 hk,inj:=fun q q' k k' hq hq'=>h.inj q q' k k' (hne q hq).1 (hne q' hq').1,us:=h.us,stay:=h.stay }
 obtain ⟨_,o,h1,rfl⟩:=hsub q o' ho'
 obtain ⟨g1,g2⟩:=h.objs q o h1
 refine ⟨g1,?_⟩
 cases o with
 | boxT ty cs =>
   obtain ⟨k,c,e,a1,a2,a3,a4,a5,a6,a7⟩:=g2
   refine ⟨k,c,e,a1,a2,a3,a4,by rw [a5,eM],a6,fun j x hj=>?_⟩
   rw [iR,Option.map_eq_some_iff] at hj
   obtain ⟨y,hy,rfl⟩:=hj
   exact hvr (a7 j y hy)
 | _=>exact g2.mono hr (fun _ h=>h) hst rfl fun _ _=>rfl
attribute [go_sem] AV.frM lM Ob.frM
section
variable {P:Program} {cf:Cf} {Q:Exit→St→Prop} {s:St} {k:List It}
end
end Go.Ab

namespace Go.Ab
section
variable {P:Program} {cf:Cf}
theorem Sim.mv {B B':Base} {β:Name→Option Blk} {s:St} {tm:Array Value} {w w':World} (h:Sim B β s tm w) (hn:B'.n=B.n) (hio:wio w'=B'.io) (hsz:B'.H0.size≤w'.heap.size)
  (hfr:∀ b,b<B'.H0.size→¬ B'.O0 b→w'.heap[b]?=B'.H0[b]?) (hw:w.heap.size≤w'.heap.size) (hk:∀ b,b<w.heap.size→¬ B.A b→w'.heap[b]?=w.heap[b]?)
  (hA:∀ b,b<w.heap.size→B'.A b→B.A b) (hbl:∀ p k,s.hp p≠none→β p=some k→B'.H0.size≤k.b∨B'.O0 k.b)
  (hus:∀ x∈B'.U0,x∈s.used) (hst:∀ p,nm B'.U0 p→β p=B'.β0 p):Sim B' β s tm w':=by
 have hown:∀ b,b<w.heap.size→s.own B'.A β b→s.own B.A β b:=by
  rintro b hb (h1 | h1)
  ·exact .inl (hA b hb h1)
  ·exact .inr h1
 have hr:∀ v d,Rep w.heap (s.own B.A β) v d→Rep w'.heap (s.own B'.A β) v d:=fun v d hd=>hd.mono (fun b hb hlt=>hk b hlt (fun ha=>hb (.inl ha))) hown
 have hst':∀ p,nm s.used p→Stays s.hp s.hp β β p:=fun p _ o' ho=>⟨o',ho,Ob.cG _,rfl⟩
 refine { tms:=h.tms.trans hn.symm,io:=hio,size:=hsz,frame:=hfr,slots:=fun t=>(h.slots t).mono hr (fun _ h=>h) hst',objs:=fun p o ho=>⟨(h.objs p o ho).1,(h.objs p o ho).2.mono hr (fun _ h=>h) hst' rfl (fun k hk'=>?_)⟩,blocks:=fun p k hp hk'=>?_,inj:=h.inj,us:=hus,stay:=hst }
 ·obtain ⟨b1,b2,_⟩:=h.blocks p k (by rw [ho];simp) hk'
  exact hk k.b b1 b2
 ·obtain ⟨b1,b2,_⟩:=h.blocks p k hp hk'
  exact ⟨Nat.lt_of_lt_of_le b1 hw,fun ha=>b2 (hA _ b1 ha),hbl p k hp hk'⟩
def bx (s:St) (β:Name→Option Blk) (b:Nat):Prop:=∃ p k,s.hp p≠none∧β p=some k∧k.b=b
theorem Sim.bQ {B:Base} {β:Name→Option Blk} {s:St} {tm:Array Value} {w:World} (h:Sim B β s tm w) {b:Nat} (hb:bx s β b):b<w.heap.size∧¬ B.A b∧(B.H0.size≤b∨B.O0 b):=by
 obtain ⟨p,k,hp,hk,rfl⟩:=hb
 exact h.blocks p k hp hk
def ARY (P:Program) (cf:Cf) (Φ:Exit→Act→World→Prop) (I:Base→List Deferred→Prop) (k:List It) (s:St):Prop :=
 ∀ B,cf.fits B→∀ ds β a w,a.defers=ds→I B ds→Sim B β s a.tmps w→hold P cf Φ k .normal a w
def ARX (cf:Cf) (Φ:Exit→Act→World→Prop) (I:Base→List Deferred→Prop) (e:Exit) (s:St):Prop :=
 ∀ B,cf.fits B→∀ ds β a w,a.defers=ds→I B ds→Sim B β s a.tmps w→Φ e a w
def yq (P:Program) (cf:Cf) (Φ:Exit→Act→World→Prop) (I:Base→List Deferred→Prop) (k:List It) (e:Exit) (s:St):Prop :=
 match e with
 | .normal=>ARY P cf Φ I k s
 | .exit i=>(match fa i k with
   | some k'=>ARY P cf Φ I k' s
   | none=>ARX cf Φ I (.exit i) s)
 | .ret=>ARX cf Φ I .ret s
 | _=>False
variable {Φ:Exit→Act→World→Prop} {I:Base→List Deferred→Prop} {k:List It} {s:St} {B:Base} {ds:List Deferred} {e:Exit} {a:Act} {w:World}
theorem zh:yq P cf Φ I k .normal s=ARY P cf Φ I k s:=rfl
theorem Gw:yq P cf Φ I k .ret s=ARX cf Φ I .ret s:=rfl
theorem ud (i:Nat):yq P cf Φ I [] (.exit i) s=ARX cf Φ I (.exit i) s:=rfl
theorem q9 (i:Nat) (c:Code):yq P cf Φ I (.code c::k) (.exit i) s=yq P cf Φ I k (.exit i) s:=rfl
theorem tb (i:Nat) (all:Array Oper) (r:List Oper):yq P cf Φ I (.ops all r::k) (.exit i) s=yq P cf Φ I k (.exit i) s:=rfl
theorem vD (i:Nat):yq P cf Φ I (.blk i::k) (.exit i) s=ARY P cf Φ I k s:=by simp [yq,fa]
theorem fS {β:Name→Option Blk} (hB:cf.fits B) (hI:I B ds) (hd:a.defers=ds) (hq:yq P cf Φ I k e s) (hs:Sim B β s a.tmps w):hold P cf Φ k e a w:=by
 cases e with
 | normal=>exact hq B hB ds β a w hd hI hs
 | exit i =>
   simp only [yq] at hq
   split at hq
   ·rename_i k' hk';exact cE _ i k k' a w hk' (hq B hB ds β a w hd hI hs)
   ·rename_i hk';exact cF _ i k a w hk' (hq B hB ds β a w hd hI hs)
 | ret=>exact fW _ k a w (hq B hB ds β a w hd hI hs)
 | goto l=>exact hq.elim
 | panic c=>exact hq.elim
 | outgrown=>exact hq.elim
theorem xB (hB:cf.fits B) (hI:I B ds) (h:lift B ds (yq P cf Φ I k) e a w):hold P cf Φ k e a w:=by
 obtain ⟨hd,s',β',hq,hs⟩:=h
 exact fS hB hI hd hq hs
theorem Hj {c:Code} (h:run P cf [.code c] (yq P cf Φ I k) s):ARY P cf Φ I (.code c::k) s :=
 fun B hB ds β a w hds hI hs=>wpIn_mono (aW h B hB ds β a w hds hs) fun _ _ _ hq=>xB hB hI hq
theorem ao {c:Code} (h:∀ E:Eng P cf (yq P cf Φ I k),E.run [.code c] s):ARY P cf Φ I (.code c::k) s:=Hj (veil h)
theorem aA {x y:Code} (h:ARY P cf Φ I (.code x::.code y::k) s):ARY P cf Φ I (.code (.seq x y)::k) s :=
 fun B hB ds β a w hds hI hs=>wpIn_seq (wpIn_mono (h B hB ds β a w hds hI hs) (pO _ y k))
theorem im {i:Nat} {x:Code} (h:ARY P cf Φ I (.code x::.blk i::k) s):ARY P cf Φ I (.code (.block i x)::k) s :=
 fun B hB ds β a w hds hI hs=>wpIn_block (wpIn_mono (h B hB ds β a w hds hI hs) (nS _ i k))
theorem pJ {i:Nat} (h:ARY P cf Φ I k s):ARY P cf Φ I (.blk i::k) s:=fun B hB ds β a w hds hI hs=>h B hB ds β a w hds hI hs
theorem F1 (h:ARX cf Φ I .normal s):ARY P cf Φ I [] s:=fun B hB ds β a w hds hI hs=>h B hB ds β a w hds hI hs
theorem nV {i:Nat} {ops:List Oper} (h:ARY P cf Φ I (.ops ops.toArray ops::k) s):ARY P cf Φ I (.code (.region i ops.toArray false)::k) s:=by
 intro B hB ds β a w hds hI hs
 refine wpIn_region ?_
 refine h B hB ds β a w hds hI hs _ ?_
 apply List.ext_getElem?
 intro j
 simp only [List.getElem?_map,List.size_toArray,List.getElem?_toArray]
 by_cases hj:j<ops.length
 ·simp [hj]
 ·simp [hj]
theorem zL {all:Array Oper} (h:ARY P cf Φ I k s):ARY P cf Φ I (.ops all []::k) s:=by
 intro B hB ds β a w hds hI hs l hl
 cases l with
 | nil=>exact h B hB ds β a w hds hI hs
 | cons i l=>simp at hl
theorem ub {all:Array Oper} {o:Oper} {r:List Oper} (hg:o.guard=none) (h:(opR P.ti cf.n o.op o.dst s).run (fun s'=>ARY P cf Φ I (.ops all r::k) s') False):ARY P cf Φ I (.ops all (o::r)::k) s:=by
 intro B hB ds β a w hds hI hs l hl
 cases l with
 | nil=>simp at hl
 | cons i l =>
   simp only [List.map_cons,List.cons.injEq] at hl
   obtain ⟨hi,hl⟩:=hl
   have hw:Region.wanted o (yielded all a.tmps)=true:=by simp [Region.wanted,hg]
   simp only [wpOpsIn,hi,hw,if_true]
   rw [← hB.1] at h
   rcases fu hs h with hz | ⟨nx,v,w',s',β',hrun,hnx,hf,hs'⟩
   ·exact hz.elim
   ·have hnd:∀ c,o.op≠.defer c:=by
     intro c hc
     have:∃ d w2,(execOp a.eval o).run P w=.ok (.defer d) w2∨∃ h w2,(execOp a.eval o).run P w=.halt h w2:=by
      simp only [execOp,hc,Sem.run_bind]
      cases (resolve a.eval c o.type).run P w with
      | ok d w2=>exact ⟨d,w2,.inl rfl⟩
      | halt hh w2=>exact ⟨default,w2,.inr ⟨hh,w2,rfl⟩⟩
     obtain ⟨d,w2,h1 | ⟨hh,w3,h1⟩⟩:=this
     ·rw [hrun] at h1;cases h1;rcases hnx with h2 | ⟨h2,_⟩<;>cases h2
     ·rw [hrun] at h1;cases h1
    refine aK hnd hrun hnx (hf B hB ds β' _ w' ?_ hI hs' l hl)
    cases o.dst<;>exact hds
theorem E7 (s':St) (f:St→Prop) (z:Prop):(R.ok s').run f z=f s':=rfl
theorem zB (p:Prop) (x:R St) (f:St→Prop) (z:Prop):(R.need p x).run f z=(p∧x.run f z):=rfl
def lpY (P:Program) (cf:Cf) (Φ:Exit→Act→World→Prop) {X:Type} (S:X→St) (J:X→Base→List Deferred→Prop) (μ:X→Nat) (x:X) (k:List It) (e:Exit) (a:Act) (w:World):Prop :=
 match e with
 | .normal=>∃ y,μ y<μ x∧∃ B,cf.fits B∧J y B a.defers∧∃ β,Sim B β (S y) a.tmps w
 | e=>hold P cf Φ k e a w
theorem BJ {X:Type} (S:X→St) (J:X→Base→List Deferred→Prop) (μ:X→Nat) {c:Code} (x0:X) (h0:∃ τ,Le cf.U τ s (S x0)) (hI:∀ B ds,I B ds→J x0 B ds)
  (hr:∀ x,ARY P cf (lpY P cf Φ S J μ x k) (J x) [.code c] (S x)):ARY P cf Φ I (.code (.loop c)::k) s:=by
 have key:∀ N x,μ x<N→∀ (B:Base),cf.fits B→∀ ds β a w,a.defers=ds→J x B ds→Sim B β (S x) a.tmps w→Code.roundsIn (Fw cf.ro) 0 P c (hold P cf Φ k) N a w:=by
  intro N
  induction N with
  | zero=>intro x hx;omega
  | succ N ih =>
    intro x hx B hB ds β a w hds hJ h
    rw [roundsIn_succ]
    refine wpIn_mono (hr x B hB ds β a w hds hJ h) fun e a' w' hq=>?_
    cases e with
    | normal =>
      obtain ⟨y,hy,B',hB',hJ',β',hs'⟩:=hq
      exact ih y (by omega) B' hB' _ β' a' w' rfl hJ' hs'
    | exit i=>exact hq
    | ret=>exact hq
    | goto l=>exact hq
    | panic c=>exact hq
    | outgrown=>exact hq
 obtain ⟨τ,hle⟩:=h0
 intro B hB ds β a w hds hi h
 obtain ⟨β2,hs2,_⟩:=h.le (τ:=τ) (by rw [hB.2.1];exact hle)
 exact wpIn_loop_rounds (μ x0+1) (key _ x0 (Nat.lt_succ_self _) B hB ds β2 a w hds (hI _ _ hi) hs2)
theorem gl {X:Type} {S:X→St} {J:X→Base→List Deferred→Prop} {μ:X→Nat} {x:X} (y:X) (hy:μ y<μ x) (τ:Name→Name) (hle:Le cf.U τ s (S y)) (hI:∀ B ds,I B ds→J y B ds):ARY P cf (lpY P cf Φ S J μ x k) I [] s:=by
 intro B hB ds β a w hds hi h
 obtain ⟨β2,hs2,_⟩:=h.le (τ:=τ) (by rw [hB.2.1];exact hle)
 exact ⟨y,hy,B,hB,by rw [hds];exact hI _ _ hi,β2,hs2⟩
theorem mI {X:Type} {S:X→St} {J:X→Base→List Deferred→Prop} {μ:X→Nat} {x:X} {i:Nat} (h:yq P cf Φ I k (.exit i) s):ARX cf (lpY P cf Φ S J μ x k) I (.exit i) s :=
 fun _ hB _ _ _ _ hds hi hs=>fS hB hi hds h hs
theorem j8 {X:Type} {S:X→St} {J:X→Base→List Deferred→Prop} {μ:X→Nat} {x:X} (h:ARX cf Φ I .ret s):ARX cf (lpY P cf Φ S J μ x k) I .ret s :=
 fun B hB ds β a w hds hi hs=>fW _ k a w (h B hB ds β a w hds hi hs)
end
end Go.Ab
namespace Go.Ab
structure Stp (W:World) (X:Nat→Prop) (W':World) (X':Nat→Prop):Prop where
 size:W.heap.size≤W'.heap.size
 io:wio W'=wio W
 same:∀ b,b<W.heap.size→¬ X b→W'.heap[b]?=W.heap[b]?
 new:∀ b,X' b→(X b∨W.heap.size≤b)∧b<W'.heap.size
structure Itz where
 l:Nat
 w:World
 C0:Nat→Prop
 J:Nat→(Nat→Prop)→(Nat→Prop)→World→Prop
 Jx:Nat→(Nat→Prop)→(Nat→Prop)→World→Prop
structure Itz.Ok (P:Program) (G:List (Nat × Obj)) (N:Nat) (xs:Nat→List D) (z:Itz):Prop where
 lt:∀ b,z.C0 b→b<z.w.heap.size
 stab:∀ n C X W X' W',z.J n C X W→Stp W X W' X'→z.J n C X' W'
 stabx:∀ n C X W X' W',z.Jx n C X W→Stp W X W' X'→z.Jx n C X' W'
 round:∀ n C X W vs,n<N→z.J n C X W→vs.size=(xs n).length→(∀ i d,(xs n)[i]?=some d→Rep W.heap (fun b=>C b∨X b) (vs.getD i undef) d) →
  YieldAt Fence.wide 0 P z.l vs W fun e W'=>∃ C',(wio W'=wio W∧W.heap.size≤W'.heap.size∧(∀ b,b<W.heap.size→¬ C b→W'.heap[b]?=W.heap[b]?)∧(∀ q∈G,W'.heap[q.1]?=W.heap[q.1]?)∧∀ b,C' b→(C b∨W.heap.size≤b)∧b<W'.heap.size) ∧
   ((e=.returned (.bool true)∧z.J (n+1) C' X W')∨(e=.returned (.bool false)∧z.Jx (n+1) C' X W'))
def ItC (P:Program) (G:List (Nat × Obj)) (f:FuncId) (caps:List D) (N:Nat) (xs:Nat→List D):Prop :=
 (∀ vs w,(callFunc f vs).run P w=.ok (.enter f vs) w) ∧
 ∀ z:Itz,z.Ok P G N xs→∀ cvs:Array Value,cvs.size=caps.length→(∀ i d,caps[i]?=some d→Rep z.w.heap z.C0 (cvs.getD i undef) d)→z.J 0 z.C0 (fun _=>False) z.w→(∀ q∈G,z.w.heap[q.1]?=some q.2) →
  CallsIn Fence.wide 0 P f (#[.func (.yield z.l) #[] #[]]++cvs) z.w fun e W'=>(∃ v,e=.returned v)∧∃ C X,z.J N C X W'∨∃ n,z.Jx n C X W'
def IJ (z:Itz) (J:(Nat→Prop)→(Nat→Prop)→World→Prop) (B:Base) (ds:List Deferred):Prop :=
 ds=[]∧∃ C X W0,W0.heap=B.H0∧wio W0=B.io∧J C X W0∧(∀ b,B.A b↔C b)∧(∀ b,B.O0 b↔X b)∧(∀ b,X b→z.w.heap.size≤b)∧z.w.heap.size≤W0.heap.size
def II (z:Itz) (n:Nat):Base→List Deferred→Prop:=IJ z (z.J n)
def IX (z:Itz):Base→List Deferred→Prop:=IJ z fun C X W=>∃ n,z.Jx n C X W
def ΦI (z:Itz) (N:Nat) (e:Exit) (a:Act) (w:World):Prop:=(e=.normal∨e=.ret)∧a.defers=[]∧∃ C X,z.J N C X w∨∃ n,z.Jx n C X w
section
variable {P:Program} {cf:Cf} {G:List (Nat × Obj)} {N:Nat} {xs:Nat→List D} {z:Itz} {k:List It} {s:St}
theorem IJ.stp {J:(Nat→Prop)→(Nat→Prop)→World→Prop} {B:Base} {ds:List Deferred} {β:Name→Option Blk} {tm:Array Value} {w:World} (h:IJ z J B ds) (hs:Sim B β s tm w) :
  ∃ C X W0,W0.heap=B.H0∧J C X W0∧Stp W0 X w (bx s β)∧(∀ b,B.A b↔C b)∧(∀ b,bx s β b→z.w.heap.size≤b)∧z.w.heap.size≤w.heap.size:=by
 obtain ⟨_,C,X,W0,h1,h2,hJ,hA,hO,hX,hz⟩:=h
 have hsz:W0.heap.size=B.H0.size:=by rw [h1]
 refine ⟨C,X,W0,h1,hJ,⟨by rw [hsz];exact hs.size,by rw [h2];exact hs.io,fun b hb hx=>?_,fun b hb=>?_⟩,hA,fun b hb=>?_,?_⟩
 ·rw [h1];exact hs.frame b (by rw [← hsz];exact hb) (fun ho=>hx ((hO b).1 ho))
 ·obtain ⟨b1,_,b3⟩:=hs.bQ hb
  refine ⟨?_,b1⟩
  rcases b3 with b3 | b3
  ·exact .inr (by rw [hsz];exact b3)
  ·exact .inl ((hO b).1 b3)
 ·rcases (hs.bQ hb).2.2 with b3 | b3
  ·have:=hs.size;omega
  ·exact hX b ((hO b).1 b3)
 ·have:=hs.size;omega
theorem vW {z:Itz} (hz:z.Ok P G N xs) {e:Exit} (he:e=.normal∨e=.ret):ARX cf (ΦI z N) (II z N) e s:=by
 intro B hB ds β a w hds hi hs
 obtain ⟨C,X,W0,_,hJ,hst,_⟩:=IJ.stp hi hs
 exact ⟨he,hds.trans hi.1,C,_,.inl (hz.stab _ _ _ _ _ _ hJ hst)⟩
theorem Ag {z:Itz} (hz:z.Ok P G N xs) {e:Exit} (he:e=.normal∨e=.ret):ARX cf (ΦI z N) (IX z) e s:=by
 intro B hB ds β a w hds hi hs
 obtain ⟨C,X,W0,_,⟨n,hJ⟩,hst,_⟩:=IJ.stp hi hs
 exact ⟨he,hds.trans hi.1,C,_,.inr ⟨n,hz.stabx _ _ _ _ _ _ hJ hst⟩⟩
theorem FC (hz:z.Ok P cf.G N xs) {Φ:Exit→Act→World→Prop} {n t:Nat} {all:Array Oper} {fv:Operand} {args:Array Operand} {at':Array TypeId} {ty:TypeId} {pos:String} {af:Array Edge} {r:List Oper}
  (hn:n<N) (ht:t<cf.n) (hev:ev s fv=.d (.yl z.l)) (hargs:args.toList.map (ev s)=(xs n).map .d)
  (h1:ARY P cf Φ (II z (n+1)) (.ops all r::k) (s.put t (.d (.bool true)))) (h2:ARY P cf Φ (IX z) (.ops all r::k) (s.put t (.d (.bool false)))) :
  ARY P cf Φ (II z n) (.ops all ({ dst:=some t,op:=.call { callee:=.value fv,args:=args,argTypes:=at' },type:=ty,pos:=pos,after:=af,guard:=none }::r)::k) s:=by
 intro B hB ds β a w hds hI hs l hl
 cases l with
 | nil=>simp at hl
 | cons i l =>
   simp only [List.map_cons,List.cons.injEq] at hl
   obtain ⟨hi,hl⟩:=hl
   simp only [wpOpsIn,hi,Region.wanted,if_true]
   obtain ⟨C,X,W0,hW0,hJ,hst,hA,hX,hzw⟩:=IJ.stp hI hs
   have hJ':=hz.stab _ _ _ _ _ _ hJ hst
   have hf:=hs.ev fv
   rw [hev] at hf
   have hfv:a.eval fv=.func (.yield z.l) #[] #[]:=by
    have:=hf.toD
    generalize a.eval fv=v at this
    cases this;rfl
   have hlen:args.size=(xs n).length:=by simpa using congrArg List.length hargs
   have hrd:=hz.round n C (bx s β) w (args.map a.eval) hn hJ' (by simpa using hlen) (fun j d hj=>by
    have hx:(args.toList.map (ev s))[j]?=some (.d d):=by rw [hargs,List.getElem?_map,hj];rfl
    have:=(dI hs args.toList j _ hx).toD
    rw [show (args.map a.eval).getD j undef=(args.toList.map a.eval).toArray.getD j undef by simp [Array.getD_eq_getD_getElem?]]
    refine this.mono (fun _ _ _=>rfl) (fun b _ hb=>?_)
    rcases hb with hb | hb
    ·exact .inl ((hA b).2 hb)
    ·exact .inr hb)
   obtain ⟨fn,tmps,assign,body,hy,hrd⟩:=hrd
   refine ⟨fun _ _=>trivial,?_⟩
   have hrun:(execOp a.eval { dst:=some t,op:=.call { callee:=.value fv,args:=args,argTypes:=at' },type:=ty,pos:=pos,after:=af,guard:=none }:Sem Next).run P w=.ok (.round z.l fn tmps assign body) w:=by
    have e:(execOp a.eval { dst:=some t,op:=.call { callee:=.value fv,args:=args,argTypes:=at' },type:=ty,pos:=pos,after:=af,guard:=none }:Sem Next)=Instr.yield z.l (#[]++args.map a.eval++#[]):=by
     show (do let d ← (Deferred.ofValue (a.eval fv) (args.map a.eval));invoke d.target d.args:Sem Next)=_
     rw [hfv];rfl
    rw [e]
    simpa using hy
   rw [Oper.semAt_eq _ _ _ (by simp),hrun,Oper.uponIn_round]
   refine ⟨fun hdep=>by simp [eP] at hdep,?_⟩
   have hrd':RoundIn (Fw cf.ro) (0-1) P z.l fn tmps assign body w _:=hrd
   refine hrd'.mono ?_
   rintro e W' ⟨C',⟨c1,c2,c3,c4,c5⟩,hq⟩
   have hG':∀ q∈B.G,W'.heap[q.1]?=some q.2∧¬ bx s β q.1:=fun q hq=>by
    obtain ⟨g1,g2⟩:=B.hG q hq
    have hlt:=ar g1
    refine ⟨(c4 q (by rw [← hB.2.2];exact hq)).trans ((hs.frame _ hlt g2).trans g1),fun hb=>?_⟩
    rcases (hs.bQ hb).2.2 with g3 | g3
    ·omega
    ·exact g2 g3
   let B':Base:={ n:=B.n,io:=B.io,G:=B.G,H0:=W'.heap,O0:=bx s β,A:=C',U0:=B.U0,β0:=B.β0,hA:=fun b hb=>(c5 b hb).2,hG:=hG' }
   have hs':Sim B' β s a.tmps W':=by
    refine hs.mv rfl (c1.trans hs.io) (Nat.le_refl _) (fun _ _ _=>rfl) c2 (fun b hb hn=>c3 b hb (fun hc=>hn ((hA b).2 hc))) (fun b hb hc=>?_) (fun p k hp hk=>.inr ⟨p,k,hp,hk,rfl⟩) hs.us hs.stay
    rcases (c5 b hc).1 with h | h
    ·exact (hA b).2 h
    ·omega
   have hIJ:∀ J:(Nat→Prop)→(Nat→Prop)→World→Prop,J C' (bx s β) W'→IJ z J B' ds:=fun J hj=>⟨hI.1,C',_,W',rfl,c1.trans hs.io,hj,fun _=>Iff.rfl,fun _=>Iff.rfl,hX,Nat.le_trans hzw c2⟩
   rcases hq with ⟨rfl,hj⟩ | ⟨rfl,hj⟩
   ·exact h1 B' ⟨hB.1,hB.2.1,hB.2.2⟩ ds β (a.put (some t) (.bool true)) W' hds (hIJ _ hj) (hs'.put (by show t<B.n;rw [hB.1];exact ht) (.d _ _ (.bool _))) l hl
   ·exact h2 B' ⟨hB.1,hB.2.1,hB.2.2⟩ ds β (a.put (some t) (.bool false)) W' hds (hIJ _ ⟨_,hj⟩) (hs'.put (by show t<B.n;rw [hB.1];exact ht) (.d _ _ (.bool _))) l hl
theorem wJ {G:List (Nat × Obj)} {f:FuncId} {fn:Func} {c:Code} {caps:List D} (hf:P.funcs[f]?=some fn) (hb:fn.body=some c) (hnm:(fn.name == "runtime.NumGoroutine")=false) (hn:caps.length+1≤fn.ntmps) (hres:fn.results=#[])
  (h:∀ z:Itz,z.Ok P G N xs→ARY P ⟨fn.ntmps,none,G,[]⟩ (ΦI z N) (II z 0) [.code c] (mk (aG 0 (.d (.yl z.l)::caps.map .d)) [] [])):ItC P G f caps N xs:=by
 refine ⟨ew hf hb hnm,fun z hz cvs hsz hcv hJ hG=>?_⟩
 let B:Base:={ n:=fn.ntmps,io:=wio z.w,G:=G,H0:=z.w.heap,O0:=fun _=>False,A:=z.C0,U0:=[],β0:=fun _=>none,hA:=hz.lt,hG:=fun q hq=>⟨hG q hq,fun h=>h⟩ }
 have hsim:Sim B (fun _=>none) (mk (aG 0 (.d (.yl z.l)::caps.map .d)) [] []) ((#[Value.func (.yield z.l) #[] #[]]++cvs)++Array.replicate (fn.ntmps-(#[Value.func (.yield z.l) #[] #[]]++cvs).size) undef) z.w:=by
  have hown:∀ b,(mk (aG 0 (.d (.yl z.l)::caps.map .d)) [] []).own z.C0 (fun _=>none) b→z.C0 b:=by
   rintro b (hb | ⟨p,k,hp,_⟩)
   ·exact hb
   ·exact absurd rfl hp
  refine { tms:=by show (_:Array Value).size=fn.ntmps;simp;omega,io:=rfl,size:=Nat.le_refl _,frame:=fun _ _ _=>rfl,slots:=fun t=>?_,objs:=fun p o ho=>(by cases ho),blocks:=fun p k hp=>absurd rfl hp,inj:=fun p q k l hp=>absurd rfl hp,us:=fun _ hx=>hx,stay:=fun p hp=>(by obtain ⟨_,_,_,hx⟩:=hp;cases hx) }
  rw [eJ,bg,if_pos (Nat.zero_le _),Nat.sub_zero]
  cases t with
  | zero =>
    have e:((#[Value.func (.yield z.l) #[] #[]]++cvs)++Array.replicate (fn.ntmps-(#[Value.func (.yield z.l) #[] #[]]++cvs).size) undef).getD 0 undef=.func (.yield z.l) #[] #[]:=by
     simp [Array.getD_eq_getD_getElem?,Array.getElem?_append]
    rw [e]
    exact .d _ _ (.yl _)
  | succ t =>
    cases ht:(caps.map AV.d)[t]? with
    | none=>rw [List.getElem?_cons_succ,ht];exact .un _
    | some x =>
      rw [List.getElem?_cons_succ,ht]
      rw [List.getElem?_map,Option.map_eq_some_iff] at ht
      obtain ⟨d,hd,rfl⟩:=ht
      have hlt:t<cvs.size:=by rw [hsz];exact (List.getElem?_eq_some_iff.1 hd).1
      have e:((#[Value.func (.yield z.l) #[] #[]]++cvs)++Array.replicate (fn.ntmps-(#[Value.func (.yield z.l) #[] #[]]++cvs).size) undef).getD (t+1) undef=cvs.getD t undef:=by
       have h1:t+1<1+cvs.size:=by omega
       simp [Array.getD_eq_getD_getElem?,Array.getElem?_append,h1,hlt]
      rw [e]
      exact .d _ _ ((hcv t d hd).mono (fun _ _ _=>rfl) (fun b _=>hown b))
 have hrun:=h z hz B ⟨rfl,rfl,rfl⟩ [] (fun _=>none) { tmps:=(#[Value.func (.yield z.l) #[] #[]]++cvs)++Array.replicate (fn.ntmps-(#[Value.func (.yield z.l) #[] #[]]++cvs).size) undef,defers:=[] } z.w rfl
  ⟨rfl,z.C0,fun _=>False,z.w,rfl,rfl,hJ,fun _=>Iff.rfl,fun _=>Iff.rfl,fun b hb=>hb.elim,Nat.le_refl _⟩ hsim
 refine callsIn_of_wp hf hb trivial (wpIn_mono (F:=Fence.wide) hrun fun e a' w' hq=>?_)
 obtain ⟨he,hd,hq⟩:=hq
 have hr:(results fn a'.tmps).run P w'=.ok (.tuple #[]) w':=by
  simp [results,hres]
 rcases he with rfl | rfl
 ·exact ⟨hd,_,hr,⟨_,rfl⟩,hq⟩
 ·exact ⟨hd,_,hr,⟨_,rfl⟩,hq⟩
end
attribute [go_sem] zh Gw ud q9 tb vD E7 zB
end Go.Ab

namespace Go.Ab
structure BExt (B0 B:Base):Prop where
 n:B.n=B0.n
 io:B.io=B0.io
 G:B.G=B0.G
 U0:B.U0=B0.U0
 β0:B.β0=B0.β0
 size:B0.H0.size≤B.H0.size
 frame:∀ b,b<B0.H0.size→¬ B0.O0 b→B.H0[b]?=B0.H0[b]?
 O0:∀ b,b<B0.H0.size→B.O0 b→B0.O0 b
 A:∀ b,B0.A b→B.A b
theorem BExt.refl (B:Base):BExt B B:=⟨rfl,rfl,rfl,rfl,rfl,Nat.le_refl _,fun _ _ _=>rfl,fun _ _ h=>h,fun _ h=>h⟩
theorem BExt.trans {A B C:Base} (h:BExt A B) (g:BExt B C):BExt A C :=
 ⟨g.n.trans h.n,g.io.trans h.io,g.G.trans h.G,g.U0.trans h.U0,g.β0.trans h.β0,Nat.le_trans h.size g.size,
  fun b hb ho=>(g.frame b (Nat.lt_of_lt_of_le hb h.size) (fun hc=>ho (h.O0 b hb hc))).trans (h.frame b hb ho),fun b hb hc=>h.O0 b hb (g.O0 b (Nat.lt_of_lt_of_le hb h.size) hc),fun b hb=>g.A b (h.A b hb)⟩
def mkD (D:Nat):Deferred:={ target:=.collected D,args:=#[] }
structure CI (B0:Base) (B:Base) (ds:List Deferred):Prop where
 ext:BExt B0 B
 mark:∃ Ds:List Nat,ds=Ds.map mkD∧Ds.Nodup∧∀ D∈Ds,B.H0[D]?=some (.deferred (some []))∧B.A D∧B0.H0.size≤D∧¬ B.O0 D
def St.fra (s:St) (fr:Nat→AV):St:={ s with fr:=fr }
def LK (s0 s:St):Prop:=∀ p o',nm s0.used p→s.hp p=some o'→∃ o,s0.hp p=some o∧o.like o'
def pn (s:St):List Nat→List D→St
 | t::ts,d::ds=>pn (s.put t (.d d)) ts ds
 | _,_=>s
section
variable {P:Program} {cf:Cf}
theorem Sim.pn {B:Base} {β:Name→Option Blk} {w:World}:∀ (ts:List Nat) (ds:List D) (vs:List Value) (s:St) (tm:Array Value),Sim B β s tm w→(∀ t∈ts,t<B.n)→vs.length=ds.length →
  (∀ i d,ds[i]?=some d→Rep w.heap (s.own B.A β) (vs.getD i undef) d)→Sim B β (pn s ts ds) ((ts.zip vs).foldl (fun tm (q:Nat × Value)=>tm.setIfInBounds q.1 q.2) tm) w
 | [],ds,vs,s,tm,h,_,_,_=>by cases ds<;>exact h
 | _::_,[],[],s,tm,h,_,_,_=>h
 | t::ts,d::ds,v::vs,s,tm,h,ht,hl,hv=>by
   refine Sim.pn ts ds vs (s.put t (.d d)) _ (h.put (ht t List.mem_cons_self) (.d _ _ (hv 0 d rfl))) (fun x hx=>ht x (List.mem_cons_of_mem _ hx)) (by simpa using hl) (fun i d' hi=>?_)
   exact hv (i+1) d' hi
def rq (P:Program) (cf:Cf) (Φ:Exit→Act→World→Prop) (B0:Base) (k:List It) {X:Type} (Iv:X→St) (s0:St) (e:Exit) (s2:St):Prop :=
 match e with
 | .normal=>LK s0 s2∧∃ y τ,Le cf.U τ (s2.fra s0.fr) (Iv y)
 | .exit i=>LK s0 s2∧yq P cf Φ (CI B0) k (.exit i) (s2.fra s0.fr)
 | .ret=>LK s0 s2∧yq P cf Φ (CI B0) k .ret (s2.fra s0.fr)
 | _=>False
def SS (B:Base) (tm:Array Value) (D L:Nat) (C X:Nat→Prop) (W:World) (s:St):Prop :=
 ∃ β B',BExt B B'∧B'.H0=W.heap∧(∀ b,B'.O0 b↔bx s β b)∧(∀ b,B'.A b↔(B.A b∨X b∨b=D∨b=L))∧(∀ b,C b↔(B.A b∨b=D∨b=L∨bx s β b))∧Sim B' β s tm W
theorem SS.stp {B:Base} {tm:Array Value} {D L z0:Nat} {C X X':Nat→Prop} {W W':World} {s:St} (h:SS B tm D L C X W s) (hst:Stp W X W' X') (hX:∀ b,X b→z0≤b) (hz:B.H0.size≤z0) (hW:z0≤W.heap.size) (hD:D<W.heap.size) (hL:L<W.heap.size) :
  SS B tm D L C X' W' s:=by
 obtain ⟨β,B',hE,hH,hO,hA,hC,hs⟩:=h
 have hlt:∀ b,B.A b→b<W.heap.size:=fun b hb=>Nat.lt_of_lt_of_le (B.hA b hb) (by rw [← hH];exact hE.size)
 have hsame:∀ b,b<B.H0.size→W'.heap[b]?=W.heap[b]?:=fun b hb=>hst.same b (by omega) (fun hx=>by have:=hX b hx;omega)
 have hG:∀ q∈B'.G,W'.heap[q.1]?=some q.2∧¬ bx s β q.1:=fun q hq=>by
  have h0:=B.hG q (by rw [← hE.G];exact hq)
  have h1:=B'.hG q hq
  exact ⟨(hsame _ (ar h0.1)).trans (by rw [← hH];exact h1.1),fun hb=>h1.2 ((hO _).2 hb)⟩
 refine ⟨β,{ n:=B'.n,io:=B'.io,G:=B'.G,H0:=W'.heap,O0:=bx s β,A:=fun b=>B.A b∨X' b∨b=D∨b=L,U0:=B'.U0,β0:=B'.β0,hA:=?_,hG:=hG },?_,rfl,fun _=>Iff.rfl,fun _=>Iff.rfl,hC,?_⟩
 ·rintro b (hb | hb | rfl | rfl)
  ·exact Nat.lt_of_lt_of_le (hlt b hb) hst.size
  ·exact (hst.new b hb).2
  ·exact Nat.lt_of_lt_of_le hD hst.size
  ·exact Nat.lt_of_lt_of_le hL hst.size
 ·refine ⟨hE.n,hE.io,hE.G,hE.U0,hE.β0,Nat.le_trans hE.size (by rw [hH];exact hst.size),fun b hb ho=>?_,fun b hb ho=>hE.O0 b hb ((hO b).2 ho),fun b hb=>.inl hb⟩
  exact (hsame b hb).trans ((by rw [hH]:W.heap[b]?=B'.H0[b]?).trans (hE.frame b hb ho))
 ·refine hs.mv rfl (hst.io.trans hs.io) (Nat.le_refl _) (fun _ _ _=>rfl) hst.size (fun b hb hn=>hst.same b hb (fun hx=>hn ((hA b).2 (.inr (.inl hx))))) (fun b hb hc=>?_) (fun p k hp hk=>.inr ⟨p,k,hp,hk,rfl⟩) hs.us hs.stay
  rcases hc with hc | hc | hc | hc
  ·exact (hA b).2 (.inl hc)
  ·rcases (hst.new b hc).1 with h1 | h1
   ·exact (hA b).2 (.inr (.inl h1))
   ·omega
  ·exact (hA b).2 (.inr (.inr (.inl hc)))
  ·exact (hA b).2 (.inr (.inr (.inr hc)))
theorem SS.after {B B':Base} {tm:Array Value} {D L:Nat} {X:Nat→Prop} {W W2 W3 W4:World} {s0 s1 s2:St} {β' β1 β2:Name→Option Blk} {tm2:Array Value} {B2:Base}
  (hE:BExt B B') (hH:B'.H0=W.heap) (hO:∀ b,B'.O0 b↔bx s0 β' b) (hA:∀ b,B'.A b↔(B.A b∨X b∨b=D∨b=L)) (hs:Sim B' β' s0 tm W)
  (hn2:B2.n=B'.n) (hio2:B2.io=B'.io) (hG2:B2.G=B'.G) (hH2:B2.H0=W2.heap) (hO2:∀ b,B2.O0 b↔bx s1 β1 b) (hA2:B2.A=B'.A) (hU2:B2.U0=s0.used) (hβ2:B2.β0=β')
  (hsz:W.heap.size≤W2.heap.size) (h12:∀ b,b<W.heap.size→¬ bx s0 β' b→b≠L→W2.heap[b]?=W.heap[b]?) (hown1:∀ b,bx s1 β1 b→W.heap.size≤b∨bx s0 β' b)
  (hs2:Sim B2 β2 s2 tm2 W3) (hlk:LK s0 s2) (hLz:B.H0.size≤L) (h34:W3.heap.size=W4.heap.size) (hio4:wio W4=wio W3) (h4:∀ b,b≠L→W4.heap[b]?=W3.heap[b]?) :
  (∀ b,b<W.heap.size→¬ bx s0 β' b→b≠L→W4.heap[b]?=W.heap[b]?)∧W.heap.size≤W4.heap.size∧(∀ b,bx s2 β2 b→(W.heap.size≤b∨bx s0 β' b)∧b<W4.heap.size∧¬ B'.A b) ∧
   ∃ B4,BExt B B4∧B4.H0=W4.heap∧(∀ b,B4.O0 b↔bx s2 β2 b)∧(∀ b,B4.A b↔(B.A b∨X b∨b=D∨b=L))∧Sim B4 β2 (s2.fra s0.fr) tm W4:=by
 have hown2:∀ b,bx s2 β2 b→W.heap.size≤b∨bx s0 β' b:=fun b hb=>by
  rcases (hs2.bQ hb).2.2 with h | h
  ·rw [hH2] at h;exact .inl (Nat.le_trans hsz h)
  ·exact hown1 b ((hO2 b).1 h)
 have hz3:W2.heap.size≤W3.heap.size:=by have:=hs2.size;rw [hH2] at this;exact this
 have hsame:∀ b,b<W.heap.size→¬ bx s0 β' b→b≠L→W4.heap[b]?=W.heap[b]?:=fun b hb hnb hne=>by
  have h1:¬ bx s1 β1 b:=fun h=>by
   rcases hown1 b h with h | h
   ·omega
   ·exact hnb h
  refine (h4 b hne).trans ((hs2.frame b (by rw [hH2];omega) (fun h=>h1 ((hO2 b).1 h))).trans ?_)
  rw [hH2];exact h12 b hb hnb hne
 have hsz4:W.heap.size≤W4.heap.size:=by omega
 have hG4:∀ q∈B'.G,W4.heap[q.1]?=some q.2∧¬ bx s2 β2 q.1:=fun q hq=>by
  obtain ⟨g1,g2⟩:=B'.hG q hq
  have hlt:=ar g1
  have hlt':q.1<W.heap.size:=by rw [← hH];exact hlt
  have hq2:=B2.hG q (by rw [hG2];exact hq)
  have hno:¬ bx s2 β2 q.1:=fun hb=>by
   rcases hown2 _ hb with h | h
   ·omega
   ·exact g2 ((hO _).2 h)
  refine ⟨?_,hno⟩
  have h3:W3.heap[q.1]?=some q.2:=(hs2.frame _ (ar hq2.1) hq2.2).trans hq2.1
  have hb0:=ar (B.hG q (by rw [← hE.G];exact hq)).1
  exact (h4 _ (by omega)).trans h3
 have hltA:∀ b,B'.A b→b<W4.heap.size:=fun b hb=>Nat.lt_of_lt_of_le (B'.hA b hb) (by rw [hH];exact hsz4)
 refine ⟨hsame,hsz4,fun b hb=>⟨hown2 b hb,by have:=(hs2.bQ hb).1;omega,by have:=(hs2.bQ hb).2.1;rw [hA2] at this;exact this⟩,?_⟩
 let B4:Base:={ n:=B'.n,io:=B'.io,G:=B'.G,H0:=W4.heap,O0:=bx s2 β2,A:=B'.A,U0:=B'.U0,β0:=B'.β0,hA:=hltA,hG:=hG4 }
 have hu:∀ x∈s0.used,x∈s2.used:=fun x hx=>hs2.us x (by rw [hU2];exact hx)
 have hst:∀ p,nm s0.used p→β2 p=β' p:=fun p hp=>by rw [← hβ2];exact hs2.stay p (by rw [hU2];exact hp)
 have hs4:Sim B4 β2 s2 tm2 W4:=by
  refine hs2.mv hn2.symm (hio4.trans (hs2.io.trans hio2)) (Nat.le_refl _) (fun _ _ _=>rfl) (by omega) (fun b hb hn=>h4 b (fun e=>hn (by rw [hA2,hA];exact .inr (.inr (.inr e))))) (fun b _ hb=>by rw [hA2];exact hb) (fun p k hp hk=>.inr ⟨p,k,hp,hk,rfl⟩) (fun x hx=>hu x (hs.us x hx)) (fun p hp=>?_)
  have:nm s0.used p:=hp.mono hs.us
  exact (hst p this).trans (hs.stay p hp)
 have hown:∀ b,b<W.heap.size→s2.own B'.A β2 b→s0.own B'.A β' b:=by
  rintro b hb (h1 | h1)
  ·exact .inl h1
  ·rcases hown2 b h1 with h | h
   ·omega
   ·exact .inr h
 have hr:∀ v d,Rep W.heap (s0.own B'.A β') v d→Rep W4.heap (s2.own B'.A β2) v d:=fun v d hd=>hd.mono (fun b hb hlt=>hsame b hlt (fun h=>hb (.inr h)) (fun e=>hb (.inl ((hA b).2 (.inr (.inr (.inr e))))))) hown
 refine ⟨B4,⟨hE.n,hE.io,hE.G,hE.U0,hE.β0,Nat.le_trans hE.size (by rw [hH];exact hsz4),fun b hb ho=>?_,fun b hb ho=>?_,fun b hb=>(hA b).2 (.inl hb)⟩,rfl,fun _=>Iff.rfl,hA,?_⟩
 ·have hbW:b<W.heap.size:=by have:=hE.size;rw [hH] at this;omega
  refine (hsame b hbW (fun h=>ho (hE.O0 b hb ((hO b).2 h))) (by omega)).trans ?_
  rw [← hE.frame b hb ho,hH]
 ·rcases hown2 b ho with h | h
  ·have:=hE.size;rw [hH] at this;omega
  ·exact hE.O0 b hb ((hO b).2 h)
 ·exact { hs4 with tms:=hs.tms,slots:=fun t=>(hs.slots t).mono hr hu (fun p hp o' ho=>by obtain ⟨o,h1,h2⟩:=hlk p o' hp ho;exact ⟨o,h1,h2,hst p hp⟩) }
theorem SS.mk' {B B4:Base} {tm:Array Value} {D L:Nat} {X:Nat→Prop} {W4:World} {s5:St} {β5:Name→Option Blk} (hE:BExt B B4) (hH:B4.H0=W4.heap) (hsub:∀ b,bx s5 β5 b→B4.O0 b) (hA:∀ b,B4.A b↔(B.A b∨X b∨b=D∨b=L))
  (hs:Sim B4 β5 s5 tm W4):SS B tm D L (fun b=>B.A b∨b=D∨b=L∨bx s5 β5 b) X W4 s5:=by
 refine ⟨β5,{ n:=B4.n,io:=B4.io,G:=B4.G,H0:=W4.heap,O0:=bx s5 β5,A:=B4.A,U0:=B4.U0,β0:=B4.β0,hA:=fun b hb=>by rw [← hH];exact B4.hA b hb,hG:=fun q hq=>⟨by rw [← hH];exact (B4.hG q hq).1,fun hb=>(B4.hG q hq).2 (hsub _ hb)⟩ },
  ⟨hE.n,hE.io,hE.G,hE.U0,hE.β0,by show B.H0.size≤W4.heap.size;rw [← hH];exact hE.size,fun b hb ho=>?_,fun b hb ho=>hE.O0 b hb (hsub b ho),hE.A⟩,rfl,fun _=>Iff.rfl,hA,fun _=>Iff.rfl,?_⟩
 ·show W4.heap[b]?=_
  rw [← hH];exact hE.frame b hb ho
 ·exact hs.mv rfl hs.io (Nat.le_refl _) (fun _ _ _=>rfl) (Nat.le_refl _) (fun _ _ _=>rfl) (fun _ _ h=>h) (fun p k hp hk=>.inr ⟨p,k,hp,hk,rfl⟩) hs.us hs.stay
def xG (P:Program) (cf:Cf) (Φ:Exit→Act→World→Prop) (B0:Base) (k:List It) (c:Code) (s:St):Prop :=
 (∃ i,c=.exit i∧yq P cf Φ (CI B0) k (.exit i) s)∨(c=.ret∧yq P cf Φ (CI B0) k .ret s)
theorem yL (ps:List Nat) (vs tm:Array Value):(ps.toArray.zip vs).foldl (fun tmps (q:Nat × Value)=>tmps.setIfInBounds q.1 q.2) tm=(ps.zip vs.toList).foldl (fun tm (q:Nat × Value)=>tm.setIfInBounds q.1 q.2) tm:=by
 rw [← Array.foldl_toList,Array.toList_zip]
theorem AO {n0:Nat} {G0:List (Nat × Obj)} {U0:List Nat} {B0 B:Base} {ps:List Nat} {assign body:Code} {k:List It} {Φ:Exit→Act→World→Prop} {X:Type} {s0:St} {Iv:X→St} {fn:FuncId} {tm:Array Value} {D L:Nat} {C Xs:Nat→Prop} {W:World} {vs:Array Value}
  {xl:List Ab.D} (hB:(⟨n0,none,G0,U0⟩:Cf).fits B) (hps:∀ t∈ps,t<n0) (hxl:xl.length=ps.length)
  (hr:run P ⟨n0,some L,G0,s0.used⟩ [.code assign] (fun e s1=>e=.normal∧run P ⟨n0,some L,G0,s0.used⟩ [.code body] (rq P ⟨n0,none,G0,U0⟩ Φ B0 k Iv s0) s1) (Ab.pn s0 ps xl))
  (hL:W.heap[L]?=some (.loop { state:=.ready,pending:=none,fn,tmps:=tm,params:=ps.toArray,assign,body,defers:=D })) (hDL:D≠L) (hLz:B.H0.size≤L) (hDz:B.H0.size≤D) (hD:W.heap[D]?=some (.deferred (some [])))
  (hS:SS B tm D L C Xs W s0) (hvs:vs.size=xl.length) (hrep:∀ i d,xl[i]?=some d→Rep W.heap (fun b=>C b∨Xs b) (vs.getD i undef) d) :
  YieldAt Fence.wide 0 P L vs W fun e W'=>∃ C',(wio W'=wio W∧W.heap.size≤W'.heap.size∧(∀ b,b<W.heap.size→¬ C b→W'.heap[b]?=W.heap[b]?)∧(∀ q∈G0,W'.heap[q.1]?=W.heap[q.1]?)∧∀ b,C' b→(C b∨W.heap.size≤b)∧b<W'.heap.size)∧W'.heap[D]?=some (.deferred (some [])) ∧
   ((e=.returned (.bool true)∧W'.heap[L]?=some (.loop { state:=.ready,pending:=none,fn,tmps:=tm,params:=ps.toArray,assign,body,defers:=D })∧∃ y,SS B tm D L C' Xs W' (Iv y)) ∨
    (e=.returned (.bool false)∧∃ c s',W'.heap[L]?=some (.loop { state:=.done,pending:=some c,fn,tmps:=tm,params:=ps.toArray,assign,body,defers:=D })∧xG P ⟨n0,none,G0,U0⟩ Φ B0 k c s'∧SS B tm D L C' Xs W' s')):=by
 obtain ⟨β',B',hE,hH,hO,hA,hC,hsx⟩:=hS
 have hLlt:=ar hL
 have hDlt:=ar hD
 refine ⟨fn,_,assign,body,run_yield hL (by simp [hvs,hxl]),roundIn_of_wpIn trivial ?_⟩
 rw [yL]
 have hGn:∀ q∈B'.G,W.heap[q.1]?=some q.2∧¬ bx s0 β' q.1:=fun q hq=>⟨by rw [← hH];exact (B'.hG q hq).1,fun hb=>(B'.hG q hq).2 ((hO _).2 hb)⟩
 let Br1:Base:={ n:=B'.n,io:=B'.io,G:=B'.G,H0:=W.heap,O0:=bx s0 β',A:=B'.A,U0:=s0.used,β0:=β',hA:=fun b hb=>by rw [← hH];exact B'.hA b hb,hG:=hGn }
 have hs1:Sim Br1 β' s0 tm W:=hsx.mv rfl hsx.io (Nat.le_refl _) (fun _ _ _=>rfl) (Nat.le_refl _) (fun _ _ _=>rfl) (fun _ _ h=>h) (fun p k hp hk=>.inr ⟨p,k,hp,hk,rfl⟩) (fun _ h=>h) (fun _ _=>rfl)
 have hn1:B'.n=n0:=hE.n.trans hB.1
 have hG1:B'.G=G0:=hE.G.trans hB.2.2
 have hs1':=hs1.pn ps xl vs.toList s0 tm (fun t ht=>by show t<B'.n;rw [hn1];exact hps t ht) (by simpa using hvs) (fun i d hi=>by
  have:=hrep i d hi
  rw [show vs.toList.getD i undef=vs.getD i undef by simp [Array.getD_eq_getD_getElem?,List.getD_eq_getElem?_getD]]
  refine this.mono (fun _ _ _=>rfl) (fun b _ hb=>?_)
  rcases hb with hb | hb
  ·rcases (hA b).1 hb with h | h | h | h
   ·exact .inl ((hC b).2 (.inl h))
   ·exact .inr h
   ·exact .inl ((hC b).2 (.inr (.inl h)))
   ·exact .inl ((hC b).2 (.inr (.inr (.inl h))))
  ·exact .inl ((hC b).2 (.inr (.inr (.inr hb)))))
 have hrunA:=aW hr Br1 ⟨hn1,rfl,hG1⟩ [] β' { tmps:=(ps.zip vs.toList).foldl (fun tm (q:Nat × Value)=>tm.setIfInBounds q.1 q.2) tm,defers:=[] } W rfl hs1'
 refine wpIn_mono hrunA ?_
 rintro e a1 W1 ⟨hd1,s1,β1,⟨rfl,hrun⟩,hsA⟩
 have hnA:∀ b,B'.A b→¬ bx s0 β' b:=fun b hb ho=>(hsx.bQ ho).2.1 hb
 have hAL:B'.A L:=(hA L).2 (.inr (.inr (.inr rfl)))
 have hAD:B'.A D:=(hA D).2 (.inr (.inr (.inl rfl)))
 have hL1:=(hsA.frame L hLlt (hnA L hAL)).trans hL
 have hD1:=(hsA.frame D hDlt (hnA D hAD)).trans hD
 refine ⟨_,run_beginRound hL1 rfl,?_⟩
 obtain ⟨W2,hW2⟩:∃ W2,W1.putObj L (.loop { state:=.busy,pending:=none,fn,tmps:=tm,params:=ps.toArray,assign,body,defers:=D })=W2:=⟨_,rfl⟩
 show body.wpIn _ _ _ _ _ (W1.putObj L (.loop { state:=.busy,pending:=none,fn,tmps:=tm,params:=ps.toArray,assign,body,defers:=D }))
 rw [hW2]
 have hz12:W2.heap.size=W1.heap.size:=by rw [← hW2];simp
 have hzW1:W.heap.size≤W1.heap.size:=hsA.size
 have h12:∀ b,b≠L→W2.heap[b]?=W1.heap[b]?:=fun b hb=>by rw [← hW2];exact World.putObj_heap_other hb
 have hL2:W2.heap[L]?=some (.loop { state:=.busy,pending:=none,fn,tmps:=tm,params:=ps.toArray,assign,body,defers:=D }):=by rw [← hW2];exact World.putObj_heap_same (by omega)
 have hD2:=(h12 D hDL).trans hD1
 have hio2:wio W2=wio W1:=by rw [← hW2];rfl
 have hqlt:∀ q∈B'.G,q.1<B.H0.size:=fun q hq=>ar (B.hG q (by rw [← hE.G];exact hq)).1
 have hGB:∀ q∈B'.G,W2.heap[q.1]?=some q.2∧¬ bx s1 β1 q.1:=fun q hq=>by
  have h0:=hqlt q hq
  have h1:=hGn q hq
  refine ⟨(h12 _ (by omega)).trans ((hsA.frame _ (ar h1.1) h1.2).trans h1.1),fun hb=>?_⟩
  rcases (hsA.bQ hb).2.2 with h | h
  ·have:=ar h1.1
   change W.heap.size≤_ at h
   omega
  ·exact h1.2 h
 let Br2:Base:={ n:=B'.n,io:=B'.io,G:=B'.G,H0:=W2.heap,O0:=bx s1 β1,A:=B'.A,U0:=s0.used,β0:=β',hA:=fun b hb=>by have:=B'.hA b hb;rw [hH] at this;omega,hG:=hGB }
 have hsB:Sim Br2 β1 s1 a1.tmps W2:=hsA.mv rfl (hio2.trans hsA.io) (Nat.le_refl _) (fun _ _ _=>rfl) (by omega) (fun b hb hn=>h12 b (fun e=>hn (e ▸ hAL))) (fun _ _ h=>h) (fun p k hp hk=>.inr ⟨p,k,hp,hk,rfl⟩) hsA.us hsA.stay
 have hrunB:=aW hrun Br2 ⟨hn1,rfl,hG1⟩ [] β1 a1 W2 hd1 hsB
 refine wpIn_mono hrunB ?_
 rintro e a3 W3 ⟨hd3,s2,β2,hq,hs3⟩
 have hL3:=(hs3.frame L (ar hL2) (fun ho=>(hsA.bQ ho).2.1 hAL)).trans hL2
 have hD3:=(hs3.frame D (ar hD2) (fun ho=>(hsA.bQ ho).2.1 hAD)).trans hD2
 have hLlt3:=ar hL3
 have hrest:∀ (W4:World),LK s0 s2→W3.heap.size=W4.heap.size→wio W4=wio W3→(∀ b,b≠L→W4.heap[b]?=W3.heap[b]?) →
   (W4.heap[D]?=some (.deferred (some []))∧∃ B4,BExt B B4∧B4.H0=W4.heap∧(∀ b,B4.O0 b↔bx s2 β2 b)∧(∀ b,B4.A b↔(B.A b∨Xs b∨b=D∨b=L))∧Sim B4 β2 (s2.fra s0.fr) tm W4) ∧
    ∀ C':Nat→Prop,(∀ b,C' b→B.A b∨b=D∨b=L∨bx s2 β2 b)→(wio W4=wio W∧W.heap.size≤W4.heap.size∧(∀ b,b<W.heap.size→¬ C b→W4.heap[b]?=W.heap[b]?)∧(∀ q∈G0,W4.heap[q.1]?=W.heap[q.1]?)∧∀ b,C' b→(C b∨W.heap.size≤b)∧b<W4.heap.size):=by
  intro W4 hlk h34 hio4 h4
  obtain ⟨g1,g2,g3,B4,g4,g5,g6,g7,g8⟩:=SS.after (B2:=Br2) (W2:=W2) hE hH hO hA hsx rfl rfl rfl rfl (fun _=>Iff.rfl) rfl rfl rfl (by omega) (fun b hb hnb hne=>(h12 b hne).trans (hsA.frame b hb hnb)) (fun b hb=>(hsA.bQ hb).2.2) hs3 hlk hLz h34 hio4 h4
  refine ⟨⟨(h4 D hDL).trans hD3,B4,g4,g5,g6,g7,g8⟩,fun C' hC'=>⟨hio4.trans (hs3.io.trans hsx.io.symm),g2,fun b hb hn=>g1 b hb (fun h=>hn ((hC b).2 (.inr (.inr (.inr h))))) (fun h=>hn ((hC b).2 (.inr (.inr (.inl h))))),fun q hq=>?_,fun b hb=>?_⟩⟩
  ·have hq':q∈B'.G:=by rw [hG1];exact hq
   have h0:=hqlt q hq'
   exact g1 _ (ar (hGn q hq').1) (hGn q hq').2 (by omega)
  ·have hBA:∀ b,B.A b→b<W4.heap.size:=fun b hb=>by have:=B.hA b hb;have:=hE.size;rw [hH] at this;omega
   rcases hC' b hb with h | rfl | rfl | h
   ·exact ⟨.inl ((hC b).2 (.inl h)),hBA b h⟩
   ·exact ⟨.inl ((hC _).2 (.inr (.inl rfl))),by omega⟩
   ·exact ⟨.inl ((hC _).2 (.inr (.inr (.inl rfl)))),by omega⟩
   ·obtain ⟨h1,h2,_⟩:=g3 b h
    refine ⟨?_,h2⟩
    rcases h1 with h1 | h1
    ·exact .inr h1
    ·exact .inl ((hC b).2 (.inr (.inr (.inr h1))))
 have hjump:∀ (c:Code),LK s0 s2→xG P ⟨n0,none,G0,U0⟩ Φ B0 k c (s2.fra s0.fr)→∃ v W4,(Instr.endRound L (some c)).run P W3=.ok v W4∧∃ C',(wio W4=wio W∧W.heap.size≤W4.heap.size∧(∀ b,b<W.heap.size→¬ C b→W4.heap[b]?=W.heap[b]?)∧(∀ q∈G0,W4.heap[q.1]?=W.heap[q.1]?)∧∀ b,C' b→(C b∨W.heap.size≤b)∧b<W4.heap.size)∧W4.heap[D]?=some (.deferred (some [])) ∧
   ((Ending.returned v=.returned (.bool true)∧W4.heap[L]?=some (.loop { state:=.ready,pending:=none,fn,tmps:=tm,params:=ps.toArray,assign,body,defers:=D })∧∃ y,SS B tm D L C' Xs W4 (Iv y)) ∨
    (Ending.returned v=.returned (.bool false)∧∃ c s',W4.heap[L]?=some (.loop { state:=.done,pending:=some c,fn,tmps:=tm,params:=ps.toArray,assign,body,defers:=D })∧xG P ⟨n0,none,G0,U0⟩ Φ B0 k c s'∧SS B tm D L C' Xs W4 s')):=by
  intro c hlk hj
  obtain ⟨⟨r1,B4,r2,r3,r4,r5,r6⟩,r7⟩:=hrest (W3.putObj L (.loop { state:=.done,pending:=some c,fn,tmps:=tm,params:=ps.toArray,assign,body,defers:=D })) hlk (by simp) rfl (fun b hb=>World.putObj_heap_other hb)
  exact ⟨_,_,run_endRound (some c) hL3,_,r7 _ (fun b hb=>hb),r1,.inr ⟨rfl,c,_,World.putObj_heap_same hLlt3,hj,SS.mk' (s5:=s2.fra s0.fr) (β5:=β2) r2 r3 (fun b hb=>(r4 b).2 hb) r5 r6⟩⟩
 cases e with
 | normal =>
   obtain ⟨hlk,y,τ,hle⟩:=hq
   obtain ⟨⟨r1,B4,r2,r3,r4,r5,r6⟩,r7⟩:=hrest (W3.putObj L (.loop { state:=.ready,pending:=none,fn,tmps:=tm,params:=ps.toArray,assign,body,defers:=D })) hlk (by simp) rfl (fun b hb=>World.putObj_heap_other hb)
   obtain ⟨β5,hs5,hβ5⟩:=r6.le (τ:=τ) (by rw [r2.U0,hB.2.1];exact hle)
   have hsub:∀ b,bx (Iv y) β5 b→bx s2 β2 b:=by
    rintro b ⟨p,k,hp,hk,rfl⟩
    cases ho:(Iv y).hp p with
    | none=>exact absurd ho hp
    | some o =>
      refine ⟨τ p,k,?_,by rw [← hβ5 p hp];exact hk,rfl⟩
      have:=(hle.hp p o ho).1
      intro h
      have h':(s2.fra s0.fr).hp (τ p)=none:=h
      rw [h'] at this;cases this
   exact ⟨_,_,run_endRound none hL3,_,r7 (fun b=>B.A b∨b=D∨b=L∨bx (Iv y) β5 b) (fun b hb=>Or.imp id (Or.imp id (Or.imp id (hsub b))) hb),r1,.inl ⟨rfl,World.putObj_heap_same hLlt3,y,SS.mk' r2 r3 (fun b hb=>(r4 b).2 (hsub b hb)) r5 hs5⟩⟩
 | exit i=>exact hjump (.exit i) hq.1 (.inl ⟨i,rfl,hq.2⟩)
 | ret=>exact hjump .ret hq.1 (.inr ⟨rfl,hq.2⟩)
 | goto l=>exact hq.elim
 | panic c=>exact hq.elim
 | outgrown=>exact hq.elim
end
end Go.Ab

namespace Go.Ab
open Go.RowKit
section
variable {P:Program} {cf:Cf}
def asg (P:Program) (cf:Cf) (body:Code) (Q:Exit→St→Prop) (e:Exit) (s1:St):Prop:=e=.normal∧run P cf [.code body] Q s1
theorem EV {P:Program} {cf:Cf} {body:Code} {Q:Exit→St→Prop} {s1:St} (h:∀ E:Eng P cf Q,E.run [.code body] s1):asg P cf body Q .normal s1:=⟨rfl,veil h⟩
theorem ra {B0:Base} (hro:cf.ro=none) {f:FuncId} {caps:List D} {N:Nat} {xs:Nat→List D} (hit:ItC P cf.G f caps N xs) {g:Operand} {ps:List Nat} {assign body:Code} {k:List It} {s:St} {Φ:Exit→Act→World→Prop}
  (hev:ev s g=.d (.clo f caps)) {X:Type} (Iv:Nat→X→St) (hps:∀ t∈ps,t<cf.n) (hxs:∀ n,n<N→(xs n).length=ps.length) (h0:∃ x τ,Le cf.U τ s (Iv 0 x))
  (hr:∀ n x,n<N→∀ l,run P ⟨cf.n,some l,cf.G,(Iv n x).used⟩ [.code assign] (asg P ⟨cf.n,some l,cf.G,(Iv n x).used⟩ body (rq P cf Φ B0 k (Iv (n+1)) (Iv n x))) (pn (Iv n x) ps (xs n)))
  (hd:∀ x,ARY P cf Φ (CI B0) k (Iv N x)):ARY P cf Φ (CI B0) (.code (.rangeFunc g ps.toArray assign body)::k) s:=by
 obtain ⟨n0,ro,G0,U0⟩:=cf
 simp only at hro
 subst hro
 intro B hB ds β a w hds hCI hs
 refine wpIn_rangeFunc fun fn _=>?_
 have hg:=hs.ev g
 rw [hev] at hg
 obtain ⟨cvs,hsz,hcv,hval⟩:∃ cvs:Array Value,cvs.size=caps.length∧(∀ i d,caps[i]?=some d→Rep w.heap (s.own B.A β) (cvs.getD i undef) d)∧a.eval g=.func (.func f) #[] cvs:=by
  have:=hg.toD
  generalize a.eval g=v at this
  cases this with
  | clo _ vs _ h1 h2=>exact ⟨vs,h1,h2,rfl⟩
 obtain ⟨W1,hW1⟩:∃ W1,(w.alloc (.deferred (some []))).alloc (.loop { state:=.ready,pending:=none,fn,tmps:=a.tmps,params:=ps.toArray,assign,body,defers:=w.heap.size })=W1:=⟨_,rfl⟩
 have hz1:W1.heap.size=w.heap.size+2:=by rw [← hW1];simp
 have hL1:W1.heap[w.heap.size+1]?=some (.loop { state:=.ready,pending:=none,fn,tmps:=a.tmps,params:=ps.toArray,assign,body,defers:=w.heap.size }):=by
  rw [← hW1]
  have:=World.alloc_heap_new (w.alloc (.deferred (some []))) (.loop { state:=.ready,pending:=none,fn,tmps:=a.tmps,params:=ps.toArray,assign,body,defers:=w.heap.size })
  rwa [World.size_alloc] at this
 have hD1:W1.heap[w.heap.size]?=some (.deferred (some [])):=by
  rw [← hW1];exact (Below.heap_alloc _ _ _ (by simp)).trans (World.alloc_heap_new w _)
 have hold:∀ b,b<w.heap.size→W1.heap[b]?=w.heap[b]?:=fun b hb=>by
  rw [← hW1];exact (Below.heap_alloc _ _ _ (by simp;omega)).trans (Below.heap_alloc _ _ _ hb)
 have hio1:wio W1=wio w:=by rw [← hW1];rfl
 obtain ⟨x0,τ,hle⟩:=h0
 obtain ⟨β0,hs0,hβ0⟩:=hs.le (τ:=τ) (by rw [hB.2.1];exact hle)
 have hBz:B.H0.size≤w.heap.size:=hs.size
 have hown0:∀ b,bx (Iv 0 x0) β0 b→s.own B.A β b:=by
  rintro b ⟨p,k,hp,hk,rfl⟩
  cases ho:(Iv 0 x0).hp p with
  | none=>exact absurd ho hp
  | some o =>
    refine .inr ⟨τ p,k,?_,by rw [← hβ0 p hp];exact hk,rfl⟩
    rw [(hle.hp p o ho).1];simp
 let D:=w.heap.size
 let L:=w.heap.size+1
 let RB:LoopState→Option Code→(Nat→Prop)→World→Prop:=fun st pe X W =>
  W.heap[L]?=some (.loop { state:=st,pending:=pe,fn,tmps:=a.tmps,params:=ps.toArray,assign,body,defers:=D })∧W.heap[D]?=some (.deferred (some []))∧w.heap.size+2≤W.heap.size∧∀ b,X b→w.heap.size+2≤b∧b<W.heap.size
 obtain ⟨z,hzl,hzw,hzC,hzJ,hzX⟩:∃ z:Itz,z.l=L∧z.w=W1∧(z.C0=fun b=>B.A b∨b=D∨b=L∨bx (Iv 0 x0) β0 b)∧(z.J=fun n C X W=>RB .ready none X W∧∃ x,SS B a.tmps D L C X W (Iv n x)) ∧
  (z.Jx=fun _ C X W=>∃ c s',RB .done (some c) X W∧xG P ⟨n0,none,G0,U0⟩ Φ B0 k c s'∧SS B a.tmps D L C X W s'):=⟨⟨L,W1,_,_,_⟩,rfl,rfl,rfl,rfl,rfl⟩
 have hRB:∀ st pe X W X' W',RB st pe X W→Stp W X W' X'→RB st pe X' W':=fun st pe X W X' W' ⟨h1,h2,h3,h4⟩ hst=>by
  refine ⟨(hst.same L (ar h1) (fun hx=>by have:=(h4 _ hx).1;show False;simp only [L] at this;omega)).trans h1,(hst.same D (ar h2) (fun hx=>by have:=(h4 _ hx).1;show False;simp only [D] at this;omega)).trans h2,Nat.le_trans h3 hst.size,fun b hb=>⟨?_,(hst.new b hb).2⟩⟩
  rcases (hst.new b hb).1 with h | h
  ·exact (h4 b h).1
  ·exact Nat.le_trans h3 h
 have hz:z.Ok P G0 N xs:=by
  refine ⟨?_,?_,?_,?_⟩<;>simp only [hzl,hzw,hzC,hzJ,hzX]
  ·rintro b (h | rfl | rfl | h)
   ·have:=B.hA b h;show b<W1.heap.size;omega
   ·show w.heap.size<W1.heap.size;omega
   ·show w.heap.size+1<W1.heap.size;omega
   ·have:=hs.qM (hown0 b h);show b<W1.heap.size;omega
  ·rintro n C X W X' W' ⟨h1,x,h2⟩ hst
   exact ⟨hRB _ _ _ _ _ _ h1 hst,x,h2.stp hst (fun b hb=>(h1.2.2.2 b hb).1) (by omega) h1.2.2.1 (ar h1.2.1) (ar h1.1)⟩
  ·rintro n C X W X' W' ⟨c,s',h1,hj,h2⟩ hst
   exact ⟨c,s',hRB _ _ _ _ _ _ h1 hst,hj,h2.stp hst (fun b hb=>(h1.2.2.2 b hb).1) (by omega) h1.2.2.1 (ar h1.2.1) (ar h1.1)⟩
  ·rintro n C X W vs hn ⟨h1,x,h2⟩ hvs hrep
   obtain ⟨fn',t',as',bd',hy,hrd⟩:=AO (B0:=B0) (k:=k) (Iv:=Iv (n+1)) (D:=D) (L:=L) hB hps (hxs n hn) (hr n x hn L) h1.1 (by simp only [D,L];omega) (by simp only [L];omega) (by simp only [D];omega) h1.2.1 h2 hvs hrep
   refine ⟨fn',t',as',bd',hy,hrd.mono ?_⟩
   rintro e W' ⟨C',hc,hD',hq⟩
   have hX:∀ b,X b→w.heap.size+2≤b∧b<W'.heap.size:=fun b hb=>⟨(h1.2.2.2 b hb).1,Nat.lt_of_lt_of_le (h1.2.2.2 b hb).2 hc.2.1⟩
   refine ⟨C',hc,?_⟩
   rcases hq with ⟨rfl,hl,y,hS⟩ | ⟨rfl,c,s',hl,hj,hS⟩
   ·exact .inl ⟨rfl,⟨hl,hD',Nat.le_trans h1.2.2.1 hc.2.1,hX⟩,y,hS⟩
   ·exact .inr ⟨rfl,c,s',⟨hl,hD',Nat.le_trans h1.2.2.1 hc.2.1,hX⟩,hj,hS⟩
 have hJ0:z.J 0 z.C0 (fun _=>False) z.w:=by
  simp only [hzw,hzC,hzJ]
  refine ⟨⟨hL1,hD1,by show _≤W1.heap.size;omega,fun b hb=>hb.elim⟩,x0,?_⟩
  have hG:∀ q∈B.G,W1.heap[q.1]?=some q.2∧¬ bx (Iv 0 x0) β0 q.1:=fun q hq=>by
   obtain ⟨g1,g2⟩:=B.hG q hq
   have hlt:=ar g1
   refine ⟨(hold _ (by omega)).trans ((hs.frame _ hlt g2).trans g1),fun hb=>?_⟩
   rcases (hs0.bQ hb).2.2 with h | h
   ·omega
   ·exact g2 h
  have hA1:∀ b,(B.A b∨False∨b=D∨b=L)→b<W1.heap.size:=by
   rintro b (h | h | rfl | rfl)
   ·have:=B.hA b h;omega
   ·exact h.elim
   ·show w.heap.size<_;omega
   ·show w.heap.size+1<_;omega
  let B1:Base:={ n:=B.n,io:=B.io,G:=B.G,H0:=W1.heap,O0:=bx (Iv 0 x0) β0,A:=fun b=>B.A b∨False∨b=D∨b=L,U0:=B.U0,β0:=B.β0,hG:=hG,hA:=hA1 }
  refine SS.mk' (B4:=B1) (β5:=β0) ⟨rfl,rfl,rfl,rfl,rfl,by show B.H0.size≤W1.heap.size;omega,fun b hb ho=>(hold b (by omega)).trans (hs.frame b hb ho),fun b hb ho=>?_,fun b hb=>.inl hb⟩ rfl (fun b hb=>hb) (fun b=>Iff.rfl) ?_
  ·rcases (hs0.bQ ho).2.2 with h | h
   ·omega
   ·exact h
  ·refine hs0.mv rfl (hio1.trans hs.io) (Nat.le_refl _) (fun _ _ _=>rfl) (by omega) (fun b hb _=>hold b hb) (fun b hb hc=>?_) (fun p k hp hk=>.inr ⟨p,k,hp,hk,rfl⟩) hs0.us hs0.stay
   rcases hc with h | h | h | h
   ·exact h
   ·exact h.elim
   ·simp only [D] at h;omega
   ·simp only [L] at h;omega
 have hcaps:∀ i d,caps[i]?=some d→Rep z.w.heap z.C0 (cvs.getD i undef) d:=fun i d hi=>(by rw [hzw,hzC];exact (hcv i d hi).mono (fun b _ hlt=>hold b hlt) (fun b hb hc=>by
  rcases hc with h | h | h | h
  ·exact .inl h
  ·simp only [D] at h;omega
  ·simp only [L] at h;omega
  ·exact hown0 b h))
 have hGz:∀ q∈G0,z.w.heap[q.1]?=some q.2:=fun q hq=>by
  obtain ⟨g1,g2⟩:=B.hG q (by rw [hB.2.2];exact hq)
  have hlt:=ar g1
  rw [hzw];exact (hold _ (by omega)).trans ((hs.frame _ hlt g2).trans g1)
 have hcall:=hit.2 z hz cvs hsz hcaps hJ0 hGz
 rw [hzl,hzw] at hcall
 simp only [hzJ,hzX] at hcall
 refine ⟨L,[mkD D],W1,{ target:=.fn (.func f) cvs,args:=#[.func (.yield L) #[] #[]] },W1,f,#[.func (.yield L) #[] #[]]++cvs,W1,?_,?_,fun _ _=>trivial,?_,fun hdep=>by simp [eP] at hdep,?_⟩
 ·rw [← hW1];exact run_enterLoop_outer _ _ _ _ _
 ·simp only [resolve,hval]
  simp [go_sem]
 ·simp [invoke,go_sem,hit.1]
 have hcall':CallsIn (Fw none) (0-1) P f (#[.func (.yield L) #[] #[]]++cvs) W1 _:=hcall
 refine hcall'.mono ?_
 rintro e W2 ⟨⟨v,rfl⟩,C,X',hq⟩
 have key:∀ st pe s',RB st pe X' W2→SS B a.tmps D L C X' W2 s'→∃ W4 B5 β5,W4=W2.putObj L (.loop { state:=.exhausted,pending:=pe,fn,tmps:=a.tmps,params:=ps.toArray,assign,body,defers:=D })∧CI B0 B5 ([mkD D]++a.defers)∧(⟨n0,none,G0,U0⟩:Cf).fits B5∧Sim B5 β5 s' a.tmps W4:=by
  rintro st pe s' ⟨h1,h2,h3,h4⟩ ⟨β',B',hE,hH,hO,hA,hC,hsx⟩
  have hoth:∀ b,b≠L→(W2.putObj L (.loop { state:=.exhausted,pending:=pe,fn,tmps:=a.tmps,params:=ps.toArray,assign,body,defers:=D })).heap[b]?=W2.heap[b]?:=fun b hb=>World.putObj_heap_other hb
  have hlt:∀ b,b<B.H0.size→b≠L:=fun b hb=>by simp only [L];omega
  have hsz4:(W2.putObj L (.loop { state:=.exhausted,pending:=pe,fn,tmps:=a.tmps,params:=ps.toArray,assign,body,defers:=D })).heap.size=W2.heap.size:=by simp
  generalize hW4:W2.putObj L (.loop { state:=.exhausted,pending:=pe,fn,tmps:=a.tmps,params:=ps.toArray,assign,body,defers:=D })=W4 at hoth hsz4
  have hio4:wio W4=wio W2:=by rw [← hW4];rfl
  have hG5:∀ q∈B'.G,W4.heap[q.1]?=some q.2∧¬ bx s' β' q.1:=fun q hq=>by
   have g0:=ar (B.hG q (by rw [← hE.G];exact hq)).1
   have g1:=B'.hG q hq
   exact ⟨(hoth _ (hlt _ g0)).trans (by rw [← hH];exact g1.1),fun hb=>g1.2 ((hO _).2 hb)⟩
  let B5:Base:={ n:=B'.n,io:=B'.io,G:=B'.G,H0:=W4.heap,O0:=bx s' β',A:=B'.A,U0:=B'.U0,β0:=B'.β0,hA:=fun b hb=>by have:=B'.hA b hb;rw [hH] at this;omega,hG:=hG5 }
  have hE5:BExt B B5:=by
   refine ⟨hE.n,hE.io,hE.G,hE.U0,hE.β0,by show B.H0.size≤W4.heap.size;omega,fun b hb ho=>?_,fun b hb ho=>hE.O0 b hb ((hO b).2 ho),hE.A⟩
   show W4.heap[b]?=_
   rw [hoth b (hlt b hb),← hH];exact hE.frame b hb ho
  refine ⟨W4,B5,β',rfl,⟨hCI.ext.trans hE5,?_⟩,⟨hE5.n.trans hB.1,hE5.U0.trans hB.2.1,hE5.G.trans hB.2.2⟩,?_⟩
  ·obtain ⟨Ds,e1,e2,e3⟩:=hCI.mark
   have hAD:B'.A D:=(hA D).2 (.inr (.inr (.inl rfl)))
   refine ⟨D::Ds,by rw [hds,e1];rfl,List.nodup_cons.2 ⟨fun hm=>?_,e2⟩,fun D' hD'=>?_⟩
   ·have:=ar (e3 D hm).1
    simp only [D] at this;omega
   ·rcases List.mem_cons.1 hD' with rfl | hm
    ·refine ⟨(hoth D (by simp only [D,L];omega)).trans h2,hAD,Nat.le_trans hCI.ext.size hBz,fun ho=>(hsx.bQ ho).2.1 hAD⟩
    ·obtain ⟨f1,f2,f3,f4⟩:=e3 D' hm
     have hl:=ar f1
     exact ⟨(hE5.frame D' hl f4).trans f1,hE5.A D' f2,f3,fun ho=>f4 (hE5.O0 D' hl ho)⟩
  ·exact hsx.mv rfl (hio4.trans hsx.io) (Nat.le_refl _) (fun _ _ _=>rfl) (by omega) (fun b hb hn=>hoth b (fun e=>hn (e ▸ (hA L).2 (.inr (.inr (.inr rfl)))))) (fun b _ h=>h) (fun p k hp hk=>.inr ⟨p,k,hp,hk,rfl⟩) hsx.us hsx.stay
 rcases hq with ⟨h1,x,hS⟩ | ⟨n,c,s',h1,hj,hS⟩
 ·obtain ⟨W4,B5,β5,e4,hc5,hf5,hs5⟩:=key _ _ _ h1 hS
  refine ⟨none,W4,?_,?_⟩
  ·rw [e4];exact run_endLoop h1.1 (by simp)
  ·exact hd x B5 hf5 _ β5 { a with defers:=[mkD D]++a.defers } W4 rfl hc5 hs5
 ·obtain ⟨W4,B5,β5,e4,hc5,hf5,hs5⟩:=key _ _ _ h1 hS
  refine ⟨some c,W4,?_,?_⟩
  ·rw [e4];exact run_endLoop h1.1 (by simp)
  ·rcases hj with ⟨i,rfl,hy⟩ | ⟨rfl,hy⟩
   ·exact wpIn_exit (fS (a:={ a with defers:=[mkD D]++a.defers }) hf5 hc5 rfl hy hs5)
   ·exact wpIn_ret (fS (a:={ a with defers:=[mkD D]++a.defers }) hf5 hc5 rfl hy hs5)
def RH (B0:Base) (Q:AV→List (Name × Ob)→Prop) (e:Ending) (w:World):Prop:=∃ v r hp' u' β',e=.returned v∧Q r hp'∧Sim { B0 with n:=1 } β' (mk [(0,r)] hp' u') #[v] w
def ΦR (P:Program) (fn:Func) (B0:Base) (Q:AV→List (Name × Ob)→Prop):Exit→Act→World→Prop:=bodyPostM Fence.wide 0 P fn (RH B0 Q)
theorem marks {fn:Func} {tmps:Array Value} {R:Ending→World→Prop}:∀ (Ds:List Nat) (w:World),Ds.Nodup→(∀ D∈Ds,w.heap[D]?=some (.deferred (some []))) →
  (∀ w',w'.heap.size=w.heap.size→wio w'=wio w→(∀ b,b ∉ Ds→w'.heap[b]?=w.heap[b]?)→∃ v,(results fn tmps).run P w'=.ok v w'∧R (.returned v) w')→LeavesInM Fence.wide 0 P fn tmps R (Ds.map mkD) .returning w
 | [],w,_,_,h=>h w rfl rfl (fun _ _=>rfl)
 | D::Ds,w,hn,hd,h=>by
   obtain ⟨h1,h2⟩:=List.nodup_cons.1 hn
   have hD:=hd D List.mem_cons_self
   refine ⟨by simp,.inl ⟨D,_,rfl,run_takeDeferred hD,marks Ds _ h2 (fun D' hD'=>?_) (fun w' z1 z2 z3=>?_)⟩⟩
   ·have hne:D'≠D:=fun e=>h1 (e ▸ hD')
    exact (World.putObj_heap_other hne).trans (hd D' (List.mem_cons_of_mem _ hD'))
   ·refine h w' (by rw [z1];simp) (z2.trans rfl) (fun b hb=>?_)
    rw [z3 b (fun hm=>hb (List.mem_cons_of_mem _ hm))]
    have hne:b≠D:=fun e=>hb (e ▸ List.mem_cons_self)
    exact World.putObj_heap_other hne
theorem CI.back {B0 B:Base} {ds:List Deferred} {β:Name→Option Blk} {s:St} {tm:Array Value} {w:World} (h:CI B0 B ds) (hs:Sim B β s tm w) {fn:Func} {R:Ending→World→Prop}
  (hR:∀ w',Sim B0 β s tm w'→∃ v,(results fn tm).run P w'=.ok v w'∧R (.returned v) w'):LeavesInM Fence.wide 0 P fn tm R ds .returning w:=by
 obtain ⟨Ds,rfl,hn,hd⟩:=h.mark
 refine marks Ds w hn (fun D hD=>?_) (fun w' z1 z2 z3=>hR w' ?_)
 ·obtain ⟨f1,f2,f3,f4⟩:=hd D hD
  exact (hs.frame D (ar f1) f4).trans f1
 ·have hz:=h.ext.size
  have hz2:=hs.size
  refine hs.mv h.ext.n.symm (z2.trans (hs.io.trans h.ext.io)) (by omega) (fun b hb ho=>?_) (by omega) (fun b hb hna=>z3 b (fun hm=>hna (hd b hm).2.1)) (fun b _ hb=>h.ext.A b hb) (fun p k hp hk=>?_) (by rw [← h.ext.U0];exact hs.us) (by rw [← h.ext.U0,← h.ext.β0];exact hs.stay)
  ·rw [z3 b (fun hm=>by have:=(hd b hm).2.2.1;omega),hs.frame b (by omega) (fun hc=>ho (h.ext.O0 b hb hc))]
   exact h.ext.frame b hb ho
  ·rcases (hs.blocks p k hp hk).2.2 with g | g
   ·exact .inl (by omega)
   ·rcases Nat.lt_or_ge k.b B0.H0.size with hlt | hge
    ·exact .inr (h.ext.O0 _ hlt g)
    ·exact .inl hge
theorem sv {B:Base} {β:Name→Option Blk} {s:St} {tm:Array Value} {w:World} {v:Value} {x:AV} (hsim:Sim B β s tm w) (hv:VR w.heap (s.own B.A β) s.used s.hp β v x):Sim { B with n:=1 } β (oH s x) #[v] w:=by
 refine { tms:=rfl,io:=hsim.io,size:=hsim.size,frame:=hsim.frame,slots:=fun t=>?_,objs:=hsim.objs,blocks:=hsim.blocks,inj:=hsim.inj,us:=hsim.us,stay:=hsim.stay }
 show VR w.heap (s.own B.A β) s.used s.hp β _ (if t=0 then x else .un)
 by_cases ht:t=0
 ·subst ht;rw [if_pos rfl];exact hv
 ·rw [if_neg ht];exact .un _
theorem tT {B0:Base} {fn:Func} {u:List Nat} {Q:AV→List (Name × Ob)→Prop} {s:St} {e:Exit} (he:e=.ret∨e=.normal) (hu:B0.U0=u) (h:fq P fn.results.toList u Q .ret s):ARX cf (ΦR P fn { B0 with n:=1 } Q) (CI B0) e s:=by
 intro B hB ds β a w hds hc hs
 have:LeavesInM Fence.wide 0 P fn a.tmps (RH { B0 with n:=1 } Q) a.defers .returning w:=by
  rw [hds]
  refine hc.back hs (fun w' hs'=>?_)
  obtain ⟨l,v,⟨r,hp',u',τ,hQ,hle⟩,hr,hv⟩:=dL hs' fn h
  obtain ⟨β2,hs2,_⟩:=(sv hs' hv).le (τ:=τ) (by show Le B0.U0 τ _ _;rw [hu];exact hle.le)
  exact ⟨v,hr,v,r,hp',u',β2,rfl,hQ,hs2⟩
 rcases he with rfl | rfl<;>exact this
theorem eW {B0:Base} {fn:Func} {Q:AV→Prop} {s:St} {e:Exit} (he:e=.ret∨e=.normal) (hu:B0.U0=[]) (h:pz P fn.results.toList Q .ret s):ARX cf (ΦR P fn { B0 with n:=1 } fun r hp'=>Q r∧r.inU []=true∧hp'=[]) (CI B0) e s:=by
 intro B hB ds β a w hds hc hs
 have:LeavesInM Fence.wide 0 P fn a.tmps (RH { B0 with n:=1 } fun r hp'=>Q r∧r.inU []=true∧hp'=[]) a.defers .returning w:=by
  rw [hds]
  refine hc.back hs (fun w' hs'=>?_)
  obtain ⟨l,v,⟨L,hL,hin,hQ⟩,hr,hv⟩:=dL hs' fn h
  obtain ⟨s2,hs2,hfr⟩:=nC L _ (sv hs' hv) (rY (dn l) L s _ rfl hL)
  have hle:LeL ([]:List Nat) id s2 [(0,frzs L (dn l))] [] []:=by
   refine ⟨⟨⟨?_,hin⟩,trivial⟩,trivial,trivial,rfl,trivial⟩
   rw [AV.ek id (fun _=>rfl),hfr 0]
   rfl
  obtain ⟨β2,hs3,_⟩:=hs2.le (τ:=id) (by show Le B0.U0 id _ _;rw [hu];exact hle.le)
  exact ⟨v,hr,v,_,_,_,β2,rfl,⟨hQ,hin,rfl⟩,hs3⟩
 rcases he with rfl | rfl<;>exact this
theorem gf {G:List (Nat × Obj)} {f:FuncId} {fn:Func} {c:Code} {args:List AV} {hp:List (Name × Ob)} {u:List Nat} {Q:AV→List (Name × Ob)→Prop} (hf:P.funcs[f]?=some fn) (hb:fn.body=some c)
  (hnm:(fn.name == "runtime.NumGoroutine")=false) (hn:args.length≤fn.ntmps)
  (h:∀ B0:Base,B0.U0=u→ARY P ⟨fn.ntmps,none,G,u⟩ (ΦR P fn { B0 with n:=1 } Q) (CI B0) [.code c] (mk (aG 0 args) hp u)):HCall P G f args hp u Q:=by
 refine ⟨ew hf hb hnm,fun B β vs w h1 h2 h3 h4 hs=>?_⟩
 have hsz:vs.size=args.length:=hs.tms.trans h1
 have hs':Sim { B with n:=fn.ntmps } β (mk (aG 0 args) hp u) (vs++Array.replicate (fn.ntmps-vs.size) undef) w:=by
  refine { hs with tms:=by simp;omega,slots:=fun t=>?_ }
  have:=hs.slots t
  by_cases ht:t<vs.size
  ·have e:(vs++Array.replicate (fn.ntmps-vs.size) undef).getD t undef=vs.getD t undef:=by
    simp [Array.getD_eq_getD_getElem?,Array.getElem?_append,ht]
   rw [e];exact this
  ·have e:(mk (aG 0 args) hp u).fr t=.un:=by
    rw [eJ,bg,if_pos (Nat.zero_le _),List.getElem?_eq_none (by omega)];rfl
   rw [e];exact .un _
 have hrun:=h { B with n:=fn.ntmps } h3 { B with n:=fn.ntmps } ⟨rfl,h3,h4⟩ [] β { tmps:=vs++Array.replicate (fn.ntmps-vs.size) undef,defers:=[] } w rfl ⟨.refl _,[],rfl,List.nodup_nil,fun D hD=>by cases hD⟩ hs'
 exact callsIn_of_wp_marks hf hb trivial hrun
theorem qs {s0:St} {fr:List (Nat × AV)} {hp:List (Name × Ob)} {u:List Nat} (h:∀ q∈hp,nmb s0.used q.1=true→∃ o,s0.hp q.1=some o∧o.like q.2):LK s0 (mk fr hp u):=by
 intro p o' hn ho
 refine h _ (gL ho) ?_
 obtain ⟨a,t,rfl,ha⟩:=hn
 simpa [nmb] using ha
theorem jr (fr fr':List (Nat × AV)) (hp:List (Name × Ob)) (u u':List Nat) (hp':List (Name × Ob)):(mk fr hp u).fra (mk fr' hp' u').fr=mk fr' hp u:=rfl
end
end Go.Ab

namespace Go.Ab
section
variable {P:Program}
theorem HCall.fB {G:List (Nat × Obj)} {f:FuncId} {args:List AV} {hp:List (Name × Ob)} {u:List Nat} {Q Q':AV→List (Name × Ob)→Prop} (h:HCall P G f args hp u Q) (p:Name) (x:D)
  (hQ:∀ r hp',Q r hp'→(mk [] hp' []).hp p=some (.box (x.cells.map .d))∧(x.cells.all D.scal)=true∧Q' (r.frB p x) ((jX hp' p).map fun q=>(q.1,q.2.frB p x))):HCall P G f args hp u Q':=by
 refine ⟨h.1,fun B β vs W h1 h2 h3 h4 h5=>?_⟩
 refine (h.2 B β vs W h1 h2 h3 h4 h5).mono ?_
 rintro e w' ⟨v,r,hp',u',β',he,hq,hs⟩
 obtain ⟨g1,g2,g3⟩:=hQ r hp' hq
 have:=hs.frB (p:=p) (d:=x) g1 (List.all_eq_true.1 g2)
 rw [AZ] at this
 exact ⟨v,_,_,_,β',he,g3,this⟩
theorem HCall.fA {G:List (Nat × Obj)} {f:FuncId} {args:List AV} {hp:List (Name × Ob)} {u:List Nat} {Q Q':AV→List (Name × Ob)→Prop} (h:HCall P G f args hp u Q) (p:Name)
  (hQ:∀ r hp',Q r hp'→∃ w xs,(mk [] hp' []).hp p=some (.arr w xs)∧Q' (r.frz p w xs) ((jX hp' p).map fun q=>(q.1,q.2.frz p w xs))):HCall P G f args hp u Q':=by
 refine ⟨h.1,fun B β vs W h1 h2 h3 h4 h5=>?_⟩
 refine (h.2 B β vs W h1 h2 h3 h4 h5).mono ?_
 rintro e w' ⟨v,r,hp',u',β',he,hq,hs⟩
 obtain ⟨w,xs,g1,g3⟩:=hQ r hp' hq
 have:=hs.fT (p:=p) g1
 rw [xU] at this
 exact ⟨v,_,_,_,β',he,g3,this⟩
end
section
variable {P:Program} {cf:Cf} {Q:Exit→St→Prop} {s:St} {k:List It}
theorem aS (E:Eng P cf Q) {d:Nat} {fv:Operand} {args:Array Operand} {at':Array TypeId} {ty:TypeId} {pos:String} {af:Array Edge}
  {f:FuncId} {caps:List AV} (σ:Name→Name) (cargs:List AV) (chp:List (Name × Ob)) (cu:List Nat) {Q0:AV→List (Name × Ob)→Prop} (hc:HCall P cf.G f cargs chp cu Q0)
  (hev:ev s fv=.clo f caps) (hargs:args.toList.map (ev s)++caps=e8 σ cargs) (hd:d<cf.n∧d ∉ s.used) (hcu:eU cu cargs=true) (hpass:fb σ cu s chp) (hinj:mj σ chp)
  (hk:∀ r hp',Q0 r hp'→iI chp hp'∧E.run k (aft s σ d chp hp' r)) :
  E.stp { dst:=some d,op:=.call { callee:=.value fv,args:=args,argTypes:=at' },type:=ty,pos:=pos,after:=af,guard:=none } s k .no:=by
 rw [aM]
 refine q7 d σ cargs chp cu Q0 hev hargs hcu hd.2 (fun t ht=>?_) hpass hinj hc fun r hp' hr=>?_
 ·obtain rfl:=Option.some.inj ht
  exact ⟨hd.1,rfl⟩
 ·obtain ⟨h1,h2⟩:=hk r hp' hr
  exact ⟨h1,by rw [← E.run_eq];exact h2⟩
theorem xd (E:Eng P cf Q) {d:Option Nat} {op:Op} {ty:TypeId} {ps:String} {af:Array Edge} (p:Name) (j n:Nat) (w:W) (cs:List AV) (hp:s.hp p=some (.box cs)) (hj:cs[j]?=some (.d .nils)) (hn:n ∉ s.used) {s':St} (he:(s.add n (.arr w [])).set p (some (.box (cs.set j (.vw [n] 0 0))))=s')
  (h:E.stp { dst:=d,op:=op,type:=ty,pos:=ps,after:=af,guard:=none } s' k (opR P.ti cf.n op d s')):E.stp { dst:=d,op:=op,type:=ty,pos:=ps,after:=af,guard:=none } s k .no:=by
 subst he
 rw [aM]
 rw [E.stp_eq] at h
 have h0:=dF (o:={ dst:=d,op:=op,type:=ty,pos:=ps,after:=af,guard:=none }) rfl h
 intro B hB ds β a w' hds hs
 have h1:=hs.gi hn none w
 have hpn:p≠[n]:=iD (hs.objs p _ hp).1 hn
 refine h0 B hB ds _ a w' hds (h1.rebox (cs:=cs) (by simpa [St.add,aD,hpn] using hp) (by simp) fun v i x x' hx hx' hv=>?_)
 by_cases e:j=i
 ·subst e
  rw [hj] at hx
  cases hx
  rw [List.getElem?_set] at hx'
  simp at hx'
  obtain ⟨_,rfl⟩:=hx'
  exact kV (w:=w) ⟨n,[],rfl,List.mem_cons_self⟩ (by simp [St.add,aD]) hv
 ·rw [List.getElem?_set_ne e,hx] at hx'
  cases hx'
  exact hv
end
section
variable {P:Program} {cf:Cf} {Q:Exit→St→Prop} {s:St} {k:List It} {κ:Type} [DecidableEq κ] {ke:κ→D} {kv:κ→Value}
end
section
variable {P:Program} {cf:Cf} {ops:Array Oper} {K:St→Ns→Prop} {s:St} {r:List Oper} {ns:Ns}
end
section
variable {P:Program} {cf:Cf} {Φ:Exit→Act→World→Prop} {I:Base→List Deferred→Prop} {k:List It} {s:St}
theorem rA (p:Name) (j n:Nat) (w:W) (cs:List AV) (hp:s.hp p=some (.box cs)) (hj:cs[j]?=some (.d .nils)) (hn:n ∉ s.used) (h:ARY P cf Φ I k ((s.add n (.arr w [])).set p (some (.box (cs.set j (.vw [n] 0 0)))))):ARY P cf Φ I k s:=by
 intro B hB ds β a w' hds hi hs
 have h1:=hs.gi hn none w
 have hpn:p≠[n]:=iD (hs.objs p _ hp).1 hn
 refine h B hB ds _ a w' hds hi (h1.rebox (cs:=cs) (by simpa [St.add,aD,hpn] using hp) (by simp) fun v i x x' hx hx' hv=>?_)
 by_cases e:j=i
 ·subst e
  rw [hj] at hx
  cases hx
  rw [List.getElem?_set] at hx'
  simp at hx'
  obtain ⟨_,rfl⟩:=hx'
  exact kV (w:=w) ⟨n,[],rfl,List.mem_cons_self⟩ (by simp [St.add,aD]) hv
 ·rw [List.getElem?_set_ne e,hx] at hx'
  cases hx'
  exact hv
def lkO:Option Ob→Ob→Prop
 | some o,o'=>o.like o'
 | none,_=>False
theorem CB (o o':Ob):lkO (some o) o'=o.like o':=rfl
def LKL (s0:St):List (Name × Ob)→Prop
 | []=>True
 | q::r=>(nmb s0.used q.1=true→lkO (s0.hp q.1) q.2)∧LKL s0 r
theorem gY {s0:St}:∀ {l:List (Name × Ob)},LKL s0 l→∀ q∈l,nmb s0.used q.1=true→∃ o,s0.hp q.1=some o∧o.like q.2
 | [],_,q,h,_=>by cases h
 | _::r,h,q,hq,hn=>by
   rcases List.mem_cons.1 hq with rfl | hq
   ·have:=h.1 hn
    cases ho:s0.hp q.1 with
    | none=>rw [ho] at this;exact this.elim
    | some o=>rw [ho] at this;exact ⟨o,rfl,this⟩
   ·exact gY h.2 q hq hn
theorem FZ {B0:Base} {X:Type} {Iv:X→St} {fr0 fr:List (Nat × AV)} {hp0 hp:List (Name × Ob)} {u0 u:List Nat} {fr':List (Nat × AV)} {hp':List (Name × Ob)} {u':List Nat} (hl:LKL (mk fr0 hp0 u0) hp) (y:X) (τ:Name→Name) (hy:Iv y=mk fr' hp' u') (hle:LeL cf.U τ (mk fr0 hp u) fr' hp' u') :
 rq P cf Φ B0 k Iv (mk fr0 hp0 u0) .normal (mk fr hp u):=⟨qs (gY hl),y,τ,by rw [hy];exact hle.le⟩
theorem yA (s:St) (t:Nat) (ts:List Nat) (d:D) (ds:List D):pn s (t::ts) (d::ds)=pn (s.put t (.d d)) ts ds:=rfl
theorem zT (s:St) (ds:List D):pn s [] ds=s:=by cases ds<;>rfl
theorem yd (a b:Nat) (l m:List Nat):((a::l) == (b::m))=(a == b && l == m):=rfl
theorem Dr:(([]:List Nat) == [])=true:=rfl
theorem Fs (b:Nat) (m:List Nat):(([]:List Nat) == b::m)=false:=rfl
theorem Df (b:Nat) (m:List Nat):(b::m == ([]:List Nat))=false:=rfl
attribute [go_sem] yd Dr Fs Df Bool.false_and Bool.and_false Bool.true_and Bool.and_true Bool.or_self Bool.and_self z5 LKL CB yA zT
end
section
variable {P:Program} {cf:Cf} {ops:Array Oper} {K:St→Ns→Prop} {s:St} {r:List Oper} {ns:Ns}
end
end Go.Ab

namespace Go.Ab
section
variable {P:Program} {cf:Cf} {ops opsP:Array Oper}
theorem Bp {ro:Option Nat} {Q:Exit→Act→World→Prop} {m:Nat} (haft:∀ i o,ops[i]?=some o→∀ e∈o.after,Region.binds .any e=true→e.on<i) (htl:∀ j i,m≤j→j<ops.size→i<j→Anc ops j i) :
  ∀ (d j fuel:Nat) (listed:Array Bool) (a:Act) (w:World),j+d=ops.size→m≤j→d≤fuel→Up ops listed (List.range j)→wpOpsIn (Fw ro) 0 P ops Q (List.range' j d) a w→wpAnyIn (Fw ro) 0 P .any ops Q fuel listed a w:=by
 intro d
 induction d with
 | zero =>
   intro j fuel listed a w hj hmj hf hu h
   have hr:Region.ready .any ops listed=[]:=by
    apply List.eq_nil_iff_forall_not_mem.2
    intro i hi
    obtain ⟨h0,o,ho,_⟩:=mem_ready.1 hi
    have hlt:i<ops.size:=by
     rcases Nat.lt_or_ge i ops.size with hlt | hge
     ·exact hlt
     ·rw [Array.getElem?_eq_none hge] at ho;cases ho
    have h3:=(hu.mem i hlt).2 (List.mem_range.2 (by omega))
    simp [h3] at h0
   cases fuel with
   | zero=>exact ⟨hr,h⟩
   | succ fuel=>exact ⟨fun _=>h,fun i hi=>by rw [hr] at hi;cases hi⟩
 | succ d ih =>
   intro j fuel listed a w hj hmj hf hu h
   cases fuel with
   | zero=>omega
   | succ fuel =>
     have hjl:j<ops.size:=by omega
     obtain ⟨o,ho⟩:∃ o,ops[j]?=some o:=⟨ops[j],by simp⟩
     have hjr:j∈Region.ready .any ops listed:=by
      rw [mem_ready]
      refine ⟨?_,o,ho,fun e he hb=>?_⟩
      ·have:=hu.mem j hjl
       have hl:j<listed.size:=by rw [hu.size];exact hjl
       cases hv:listed[j] with
       | true =>
         have:=List.mem_range.1 (this.1 (by simp [hl,hv]))
         omega
       | false=>simp [hl,hv]
      ·have h2:=haft j o ho e he hb
       have h3:=(hu.mem e.on (by omega)).2 (List.mem_range.2 h2)
       simp [h3]
     refine ⟨fun hr=>(by rw [hr] at hjr;cases hjr),fun i hi=>?_⟩
     obtain ⟨h0,oi,hoi,hw⟩:=mem_ready.1 hi
     have hlt:i<ops.size:=by
      rcases Nat.lt_or_ge i ops.size with hlt | hge
      ·exact hlt
      ·rw [Array.getElem?_eq_none hge] at hoi;cases hoi
     have hij:i=j:=by
      rcases Nat.lt_trichotomy i j with g | g | g
      ·have h3:=(hu.mem i hlt).2 (List.mem_range.2 g)
       simp [h3] at h0
      ·exact g
      ·have hwL:∀ e∈oi.after,Region.binds .any e=true→e.on∈List.range j:=fun e he hb=>by
        have h1:=hw e he hb
        have h2:=haft i oi hoi e he hb
        refine (hu.mem e.on (by omega)).1 ?_
        have hl:e.on<listed.size:=by rw [hu.size];omega
        simp [hl] at h1
        simp [hl,h1]
       have:=List.mem_range.1 (lH hu hoi hwL (htl i j (by omega) hlt g))
       omega
     subst hij
     rw [List.range'_succ,wpOpsIn_cons] at h
     refine wpOpIn_mono (fun a' w' h'=>ih (i+1) fuel _ a' w' (by omega) (by omega) (by omega) ?_ h') h
     refine ⟨by simpa using hu.size,fun x hx=>?_,fun x hx=>by have:=List.mem_range.1 hx;omega,fun x hx o' ho' e he hb=>?_⟩
     ·have hl:i<listed.size:=by rw [hu.size];exact hlt
      by_cases hij:i=x
      ·subst hij;simp [hl]
      ·rw [Array.getElem?_setIfInBounds_ne hij,hu.mem x hx,List.mem_range,List.mem_range]
       omega
     ·have h2:=haft x o' ho' e he hb
      have:=List.mem_range.1 hx
      exact List.mem_range.2 (by omega)
variable {ns:Ns} {xs:Nat→AV} {fs:Nat→Fp} {s:St}
theorem HF (hq:chk opsP ns=true) (hns:∀ i,i<opsP.size→ns.getD i ([],[],[])=fpN (fs i)) {B:Base} (hB:cf.fits B) {ds:List Deferred} {Q:Exit→Act→World→Prop}
  (hlt0:opsP.size<ops.size) (hpre:∀ i,i<opsP.size→ops[i]?=opsP[i]?) (hgd:∀ (i:Nat) (o:Oper),opsP[i]?=some o→o.guard=none)
  (haft:∀ i o,ops[i]?=some o→∀ e∈o.after,Region.binds .any e=true→e.on<i) (htl:∀ j i,opsP.size≤j→j<ops.size→i<j→Anc ops j i)
  (hall:∀ j o,opsP[j]?=some o→n6 P cf opsP j o (fe opsP xs fs (List.range' 0 (j-0)) s) (xs j) (fs j))
  (hK:∀ β a w,a.defers=ds→Sim B β (fe opsP xs fs (List.range' 0 opsP.size) s) a.tmps w→wpOpsIn (Fw cf.ro) 0 P ops Q (List.range' opsP.size (ops.size-opsP.size)) a w) :
  ∀ (fuel:Nat) (listed listedP:Array Bool) (L:List Nat) (s':St) (β:Name→Option Blk) (a:Act) (w:World),Up ops listed L→Up opsP listedP L→L.Nodup→ops.size≤fuel+L.length→a.defers=ds→OKE opsP xs fs s L s'→Sim B β s' a.tmps w →
   wpAnyIn (Fw cf.ro) 0 P .any ops Q fuel listed a w:=by
 intro fuel
 induction fuel with
 | zero =>
   intro listed listedP L s' β a w hu huP hnd hn hds hL hs
   have:=jH opsP.size L hnd huP.lt
   omega
 | succ fuel ih =>
   intro listed listedP L s' β a w hu huP hnd hn hds hL hs
   have full:(∀ j,j<opsP.size→j∈L)→wpAnyIn (Fw cf.ro) 0 P .any ops Q (fuel+1) listed a w:=by
    intro hfull
    obtain ⟨⟨e1,e2⟩,e3⟩:=qm hq hL huP.lt hfull
    have h1:=hK β a w hds (hs.reuse e1.symm e2.symm e3)
    have hmem:∀ j,j∈L↔j<opsP.size:=fun j=>⟨huP.lt j,hfull j⟩
    have hlen:=jH opsP.size L hnd huP.lt
    refine Bp haft htl (ops.size-opsP.size) opsP.size (fuel+1) listed a w (by omega) (Nat.le_refl _) (by omega) ?_ h1
    exact ⟨hu.size,fun j hj=>by rw [hu.mem j hj,hmem,List.mem_range],fun j hj=>by have:=List.mem_range.1 hj;omega,fun j hj o ho e he hb=>by
     have:=haft j o ho e he hb
     have:=List.mem_range.1 hj
     exact List.mem_range.2 (by omega)⟩
   by_cases hfull:∀ j,j<opsP.size→j∈L
   ·exact full hfull
   have hmiss:∃ j,j<opsP.size∧j ∉ L:=by
    apply Decidable.byContradiction
    intro h
    exact hfull fun j hj=>Decidable.byContradiction fun hn=>h ⟨j,hj,hn⟩
   obtain ⟨j0,hj0,hj0L⟩:=hmiss
   refine ⟨fun hr=>?_,fun i hi=>?_⟩
   ·exfalso
    have key:∀ j,j<opsP.size→j∈L:=by
     intro j
     induction j using Nat.strongRecOn with
     | ind j ih2 =>
       intro hlt
       apply Decidable.byContradiction
       intro hn2
       have hjo:j<ops.size:=by omega
       obtain ⟨o,ho⟩:∃ o,ops[j]?=some o:=⟨ops[j],by simp⟩
       have:j∈Region.ready .any ops listed:=by
        rw [mem_ready]
        refine ⟨?_,o,ho,fun e he hb=>?_⟩
        ·have:=hu.mem j hjo
         have hl:j<listed.size:=by rw [hu.size];exact hjo
         cases hv:listed[j] with
         | true=>exact absurd (this.1 (by simp [hl,hv])) hn2
         | false=>simp [hl,hv]
        ·have h2:=haft j o ho e he hb
         have h3:=(hu.mem e.on (by omega)).2 (ih2 e.on h2 (by omega))
         simp [h3]
       rw [hr] at this;cases this
    exact hj0L (key j0 hj0)
   ·obtain ⟨h0,o,ho,hw⟩:=mem_ready.1 hi
    have hlt:i<ops.size:=by
     rcases Nat.lt_or_ge i ops.size with hlt | hge
     ·exact hlt
     ·rw [Array.getElem?_eq_none hge] at ho;cases ho
    have hiL:i ∉ L:=fun h=>by
     have h3:=(hu.mem i hlt).2 h
     simp [h3] at h0
    have hwL:∀ e∈o.after,Region.binds .any e=true→e.on∈L:=fun e he hb=>by
     have h1:=hw e he hb
     have h2:=haft i o ho e he hb
     refine (hu.mem e.on (by omega)).1 ?_
     have hl:e.on<listed.size:=by rw [hu.size];omega
     simp [hl] at h1
     simp [hl,h1]
    have hiP:i<opsP.size:=by
     apply Decidable.byContradiction
     intro hge
     exact hj0L (lH hu ho hwL (htl i j0 (by omega) hlt (by omega)))
    have hoP:opsP[i]?=some o:=by rw [← hpre i hiP];exact ho
    have hd:dr opsP i=o.dst:=by simp [dr,hoP]
    have hg:=hgd i o hoP
    have hconv:∀ K a w,wpOpIn (Fw cf.ro) 0 P opsP Q i K a w→wpOpIn (Fw cf.ro) 0 P ops Q i K a w:=fun K a w h=>by
     simp only [wpOpIn,hoP,ho,Region.wanted,hg,if_true] at h ⊢
     exact h
    refine hconv _ _ _ (wpOpIn_mono (fun a' w' ⟨hd',β',hs'⟩=>ih (listed.setIfInBounds i true) (listedP.setIfInBounds i true) (L++[i]) _ β' a' w' ?_ ?_ ?_ ?_ hd' (hd ▸ hL.snoc ?_) hs') ((hall i o hoP).2 _ (pM hq hns huP hL hoP hiL hwL (hall i o hoP).1) B hB ds β a w hds hs Q))
    ·refine ⟨by simpa using hu.size,fun j hj=>?_,fun j hj=>?_,fun j hj o' ho' e he hb=>?_⟩
     ·have hl:j<listed.size:=by rw [hu.size];exact hj
      by_cases hij:i=j
      ·subst hij;simp [hl]
      ·rw [Array.getElem?_setIfInBounds_ne hij,hu.mem j hj]
       simp [Ne.symm hij]
     ·rcases List.mem_append.1 hj with hj | hj
      ·exact hu.lt j hj
      ·rw [List.mem_singleton.1 hj];exact hlt
     ·rcases List.mem_append.1 hj with hj | hj
      ·exact List.mem_append_left _ (hu.closed j hj o' ho' e he hb)
      ·rw [List.mem_singleton.1 hj,ho] at ho'
       cases ho'
       exact List.mem_append_left _ (hwL e he hb)
    ·refine ⟨by simpa using huP.size,fun j hj=>?_,fun j hj=>?_,fun j hj o' ho' e he hb=>?_⟩
     ·have hl:j<listedP.size:=by rw [huP.size];exact hj
      by_cases hij:i=j
      ·subst hij;simp [hl]
      ·rw [Array.getElem?_setIfInBounds_ne hij,huP.mem j hj]
       simp [Ne.symm hij]
     ·rcases List.mem_append.1 hj with hj | hj
      ·exact huP.lt j hj
      ·rw [List.mem_singleton.1 hj];exact hiP
     ·rcases List.mem_append.1 hj with hj | hj
      ·exact List.mem_append_left _ (huP.closed j hj o' ho' e he hb)
      ·rw [List.mem_singleton.1 hj,hoP] at ho'
       cases ho'
       exact List.mem_append_left _ (hwL e he hb)
    ·rw [List.nodup_append]
     exact ⟨hnd,by simp,fun x hx y hy=>by rw [List.mem_singleton.1 hy];rintro rfl;exact hiL hx⟩
    ·simp only [List.length_append,List.length_singleton];omega
    ·intro k hk p o1 o2 h1 h2
     have hne:i≠k:=fun e=>hiL (e ▸ hk)
     rcases vh hq hns hiP (huP.lt k hk) hne h1 (.inr ⟨o2,h2⟩) with ⟨h3,_⟩ | ⟨_,h4⟩
     ·omega
     ·exact absurd (ic huP h4 hk) hiL
def mr (ops:Array Oper) (m:Nat):Bool :=
 let A:=ancs [] ops.toList
 ((List.range ops.size).all fun i=>match ops[i]? with
   | some o=>o.after.toList.all fun e=>!Region.binds .any e || decide (e.on<i)
   | none=>true) &&
 (List.range ops.size).all fun j=>decide (j<m) || (List.range j).all fun i=>(A.getD j []).contains i
theorem vL {m:Nat} (h:mr ops m=true):∀ i o,ops[i]?=some o→∀ e∈o.after,Region.binds .any e=true→e.on<i:=by
 intro i o ho e he hb
 have hi:i<ops.size:=by
  rcases Nat.lt_or_ge i ops.size with hlt | hge
  ·exact hlt
  ·rw [Array.getElem?_eq_none hge] at ho;cases ho
 simp only [mr,Bool.and_eq_true] at h
 have h2:=List.all_eq_true.1 h.1 i (List.mem_range.2 hi)
 simp only [ho] at h2
 have h3:=List.all_eq_true.1 h2 e (Array.mem_toList_iff.2 he)
 simpa [hb] using h3
theorem vA {m:Nat} (h:mr ops m=true):∀ j i,m≤j→j<ops.size→i<j→Anc ops j i:=by
 intro j i hm hj hi
 simp only [mr,Bool.and_eq_true] at h
 have h2:=List.all_eq_true.1 h.2 j (List.mem_range.2 hj)
 simp only [Bool.or_eq_true,decide_eq_true_eq] at h2
 have h3:=h2.resolve_left (by omega)
 have h4:=List.all_eq_true.1 h3 i (List.mem_range.2 hi)
 exact j4 (ops:=ops) ops.toList [] (fun j=>by simp) (fun i k hk=>by simp at hk) _ _ (by simpa using h4)
theorem yy {id:Nat} {l q:List Oper} {s:St} {k:List It} {Q:Exit→St→Prop} (hm:P.follows .mixedOrders=true) (hq0:q≠[]) (hg:(l.all fun o=>o.guard.isNone)=true) (ht:mr (l++q).toArray l.length=true)
  (h:xrun P cf l.toArray (fun s' ns=>chk l.toArray ns=true∧run P cf (.ops (l++q).toArray q::k) Q s') l s []):ACk P cf (.region id (l++q).toArray true) s k Q:=by
 obtain ⟨xs,fs,⟨hq,hK⟩,hall⟩:=kj (ops:=l.toArray) l 0 s [] (fun j=>by simp) h
 intro B hB ds β a w hds hs
 refine wpIn_region_any hm ?_
 have hns:∀ i,i<l.toArray.size→(([]:Ns)++(List.range' 0 l.length).map fun j=>fpN (fs j)).getD i ([],[],[])=fpN (fs i):=by
  intro i hi
  have hi:i<l.length:=by simpa using hi
  simp [hi]
 have hql:0<q.length:=List.length_pos_iff.2 hq0
 refine HF (ops:=(l++q).toArray) (opsP:=l.toArray) hq hns hB (ds:=ds) (by simp;omega) (fun i hi=>?_) (fun i o ho=>?_) (vL ht) (by simpa using vA ht) (fun j o ho=>hall j o (Nat.zero_le _) ho) (fun β a w hds hs=>?_) _ _ (Array.replicate l.toArray.size false) [] s β a _ ?_ ?_ List.nodup_nil (by simp) hds (.nil _ _ _) (hs.mX rfl rfl)
 ·have hi:i<l.length:=by simpa using hi
  simp [List.getElem?_append_left,hi]
 ·have hi:i<l.length:=by
   have:=(Array.getElem?_eq_some_iff.1 ho).1
   simpa using this
  have hm2:o∈l:=by
   have:l[i]?=some o:=by simpa using ho
   exact List.mem_of_getElem? this
  have:=List.all_eq_true.1 hg o hm2
  simpa using this
 ·refine aW hK B hB ds β a w hds (by simpa using hs) _ ?_
  apply List.ext_getElem?
  intro j
  simp only [List.getElem?_map,List.size_toArray,List.length_append]
  by_cases hj:j<q.length
  ·rw [List.getElem?_range' (by omega)]
   simp [hj]
  ·simp [hj]
 ·refine ⟨by simp,fun j hj=>?_,by simp,by simp⟩
  have hj:j<l.length+q.length:=by simpa using hj
  simp [hj]
 ·refine ⟨by simp,fun j hj=>?_,by simp,by simp⟩
  have hj:j<l.length:=by simpa using hj
  simp [hj]
theorem kn (n:Nat) {id:Nat} {l p q:List Oper} {s:St} {k:List It} {Q:Exit→St→Prop} (hm:P.follows .mixedOrders=true) (E0:Eng P cf Q) (htd:l.take n=p) (hqd:l.drop n=q) (hq0:q.isEmpty=false) (hg:(p.all fun o=>o.guard.isNone)=true) (ht:mr l.toArray p.length=true)
  (h:∀ E:XEng P cf p.toArray (fun s' ns=>chk p.toArray ns=true∧E0.run (.ops l.toArray q::k) s'),E.run p s []):eV E0 (.region id l.toArray true) s k:=by
 have e0:p++q=l:=by rw [← htd,← hqd];exact List.take_append_drop n l
 have key:=yy (P:=P) (cf:=cf) (id:=id) (l:=p) (q:=q) (s:=s) (k:=k) (Q:=Q) hm (by intro e;rw [e] at hq0;cases hq0) hg (by rw [e0];exact ht)
 rw [e0] at key
 refine key ?_
 have e:(fun s' ns=>chk p.toArray ns=true∧E0.run (.ops l.toArray q::k) s')=fun s' ns=>chk p.toArray ns=true∧run P cf (.ops l.toArray q::k) Q s':=by funext s' ns;rw [E0.run_eq]
 obtain ⟨E⟩:=xr P cf p.toArray (fun s' ns=>chk p.toArray ns=true∧E0.run (.ops l.toArray q::k) s')
 have:=h E
 rw [E.run_eq,e] at this
 exact this
end
end Go.Ab

namespace Go.Ab
section
variable {P:Program} {cf:Cf} {Q:Exit→St→Prop} {s:St} {k:List It} {B:Base} {β:Name→Option Blk} {tm:Array Value} {w:World}
theorem Sim.H4 (h:Sim B β s tm w) {p:Name} {t d:Nat} {ds:List D} (hd:d ∉ s.used) (hp:s.hp p=some (.box (ds.map .d))) (hsc:∀ x∈ds,x.scal=true) (h0:0<ds.length) (ht:s.fr t=.bx p 0) :
  ∃ β',Sim B β' (((s.set p none).add d (.arr none ds)).put t (.el [d] 0 0)) tm w:=by
 obtain ⟨k,c,e,hk,hk0,hc,hz,hl,h1,hcs⟩:=(h.objs p _ hp).2
 have hsl:=h.slots t
 rw [ht] at hsl
 have hv:tm.getD t undef=.pointer (some ⟨k.b,0,none⟩):=by
  generalize tm.getD t undef=v at hsl
  cases hsl with
  | bx _ _ _ _ _ hx =>
    obtain ⟨k',hk',_,rfl⟩:=hx _ _ hp
    rw [hk] at hk';cases hk'
    rfl
 have hlen:c.size=ds.length:=by rw [hl];simp
 have hs:=h.renew hd hp hk none none ds 0 (w':=w) rfl rfl (fun _ _=>rfl) (fun _=>⟨c,e,hc,hz,by simp only [wd];omega,fun x hx=>hsc x hx,fun i x j y hi hj=>by
  have hx:=hsc x (List.mem_of_getElem? hi)
  have hxy:j=0∧y=x:=by
   cases x<;>simp [D.scal] at hx<;>(cases j<;>simp [D.cells] at hj<;>simp [hj])
  obtain ⟨rfl,rfl⟩:=hxy
  have:=(hcs i (.d y) (by rw [List.getElem?_map,hi];rfl)).toD
  simpa [wd] using this⟩)
 refine ⟨_,hs.setv ?_⟩
 rw [hv]
 refine .el _ _ _ _ ⟨d,[],rfl,List.mem_cons_self⟩ rfl fun ty' wf xs hx=>?_
 have:(some (Ob.arr none ds))=some (.arrT ty' wf xs):=by rw [← hx];simp [St.add,St.set,aD]
 cases this
 exact ⟨h0,⟨k.b,0,k.z⟩,by simp [aD],by simp⟩
theorem IU (E:Eng P cf Q) {c:Code} (p:Name) (t d:Nat) (ds:List D) (hd:d ∉ s.used) (hp:s.hp p=some (.box (ds.map .d))) (hsc:(ds.all D.scal)=true) (h0:0<ds.length) (ht:s.fr t=.bx p 0)
  (h:eV E c (((s.set p none).add d (.arr none ds)).put t (.el [d] 0 0)) k):eV E c s k:=by
 intro B hB ds' β a w' hds hs
 obtain ⟨β',hs'⟩:=hs.H4 hd hp (List.all_eq_true.1 hsc) h0 ht
 exact h B hB ds' β' a w' hds hs'
def ki (zs xs:List D) (off len:Nat):List D:=zs.take off++(xs.take (Nat.min xs.length len)++zs.drop (off+Nat.min xs.length len))
theorem uD {zs xs:List D} {off len:Nat} (h:off+len≤zs.length):(ki zs xs off len).length=zs.length:=by
 have h1:Nat.min xs.length len≤len:=Nat.min_le_right _ _
 have h2:Nat.min xs.length len≤xs.length:=Nat.min_le_left _ _
 unfold ki
 obtain ⟨m,hm⟩:∃ m,m=Nat.min xs.length len:=⟨_,rfl⟩
 rw [← hm] at h1 h2 ⊢
 simp only [List.length_append,List.length_take,List.length_drop]
 omega
theorem BK {zs xs:List D} {off len m:Nat} (hm:Nat.min xs.length len=m) (h:off+len≤zs.length) (i:Nat):(ki zs xs off len)[i]?=if i<off then zs[i]? else if i<off+m then xs[i-off]? else zs[i]?:=by
 have h1:Nat.min xs.length len≤len:=Nat.min_le_right _ _
 have h2:Nat.min xs.length len≤xs.length:=Nat.min_le_left _ _
 unfold ki
 rw [hm] at h1 h2 ⊢
 by_cases c1:i<off
 ·rw [if_pos c1,List.getElem?_append_left (by simp;omega),List.getElem?_take_of_lt c1]
 rw [if_neg c1,List.getElem?_append_right (by simp;omega),List.length_take,Nat.min_eq_left (by omega)]
 by_cases c2:i<off+m
 ·rw [if_pos c2,List.getElem?_append_left (by simp;omega),List.getElem?_take_of_lt (by omega)]
 ·rw [if_neg c2,List.getElem?_append_right (by simp;omega),List.length_take,Nat.min_eq_left h2,List.getElem?_drop]
  congr 1;omega
theorem FG {c1 c:Array Value} {o q m:Nat} (hq:q+m≤c1.size) (ho:o+m≤c.size) (i:Nat):(c1.toList.take q++(c.extract o (o+m)).toList++c1.toList.drop (q+m)).toArray.getD i undef=if i<q then c1.getD i undef else if i<q+m then c.getD (o+(i-q)) undef else c1.getD i undef:=by
 have hcl:(c.extract o (o+m)).toList.length=m:=by simp;omega
 rw [Array.getD_eq_getD_getElem?,List.getElem?_toArray]
 by_cases h1:i<q
 ·rw [if_pos h1,List.append_assoc,List.getElem?_append_left (by simp;omega),List.getElem?_take_of_lt h1]
  simp [Array.getD_eq_getD_getElem?]
 rw [if_neg h1]
 by_cases h2:i<q+m
 ·rw [if_pos h2,List.getElem?_append_left (by rw [List.length_append,hcl,List.length_take];simp;omega),List.getElem?_append_right (by simp;omega),List.length_take,Array.length_toList,Nat.min_eq_left (by omega)]
  rw [Array.getElem?_toList,Array.getElem?_extract,if_pos (by omega)]
  simp [Array.getD_eq_getD_getElem?]
 ·rw [if_neg h2,List.getElem?_append_right (by rw [List.length_append,hcl,List.length_take];simp;omega),List.length_append,hcl,List.length_take,Array.length_toList,Nat.min_eq_left (by omega),List.getElem?_drop]
  rw [show q+m+(i-(q+m))=i by omega]
  simp [Array.getD_eq_getD_getElem?]
theorem Gv (E:Eng P cf Q) {x y:Operand} {d:Nat} {dT sT e0:Nat} {ty:TypeId} {pos:String} {af:Array Edge} {p:Name} {off len:Nat} {zs xs:List D} (hd:d<cf.n) (hk:(P.ti dT).k=.slice e0) (hw:(P.ti e0).isW none=true)
  (hx:ev s x=.vw p off len) (hp:s.hp p=some (.arr none zs)) (hy:ev s y=.d (.sl none xs)) (h:E.run k ((s.set p (some (.arr none (ki zs xs off len)))).put d (.d (.int .i64 (Nat.min xs.length len:Nat))))) :
  E.stp { dst:=some d,op:=.call { callee:=.builtin .copy,args:=#[x,y],argTypes:=#[dT,sT] },type:=ty,pos:=pos,after:=af,guard:=none } s k .no:=by
 rw [aM]
 rw [E.run_eq] at h
 intro B hB ds β a w hds hs Q'
 obtain ⟨hg,hwd,_⟩:=cy hw
 have hu:=bW hk
 have hsz:(P.info? e0).map (·.size)=some 1:=by
  obtain ⟨i,_,hi,_,_,hsz,_⟩:=dA hg
  rw [hi]
  simp only [Option.map_some,Option.some.injEq]
  rw [← hsz,← hwd];rfl
 have hvx:=hs.ev x
 rw [hx] at hvx
 have hvy:=(hs.ev y)
 rw [hy] at hvy
 obtain ⟨ay,capy,hay,_,hcy⟩:=hvy.toD.rk
 generalize hax:a.eval x=vx at hvx
 cases hvx with
 | vw _ _ _ _ hn h1' hx' =>
 obtain ⟨hle,a0,cap,rfl,hx''⟩:=hx' _ _ _ hp
 have hexec:∀ v w',(Builtin.copy_ #[dT,sT] ty #[.slice a0 len cap,.slice ay xs.length capy]).run P w=.ok v w'→(execOp a.eval { dst:=some d,op:=.call { callee:=.builtin .copy,args:=#[x,y],argTypes:=#[dT,sT] },type:=ty,pos:=pos,after:=af,guard:=none }).run P w=.ok (.value v) w':=by
  intro v w' hr
  simp [execOp,resolve,invoke,builtin,hax,hay,hr,Result.andThen]
 by_cases hn0:Nat.min xs.length len=0
 ·have hr:=run_copy_none (P:=P) w dT sT ty e0 a0 ay len cap xs.length capy hu hsz hn0
  have hzs:ki zs xs off len=zs:=by simp [ki,hn0]
  have hself:s.set p (some (.arr none (ki zs xs off len)))=s:=by
   rw [hzs]
   cases s
   simp only [St.set,St.mk.injEq,true_and,and_true]
   funext q
   by_cases e:q=p
   ·subst e;simp [aD];exact hp.symm
   ·simp [aD,e]
  rw [hself,hn0] at h
  exact aK (v:=goInt 0) (by simp) (hexec _ _ hr) (.inl rfl) ⟨hds,_,β,aW h,hs.put (by rw [hB.1];exact hd) (.d _ _ (.int _ _))⟩
 ·have hne:xs≠[]:=by rintro rfl;exact hn0 (Nat.min_eq_left (Nat.zero_le _))
  obtain ⟨b,o,c,e,fz,rfl,hb,hbn,hzz,hok,hrep⟩:=hcy hne
  have hle2:Nat.min xs.length len≤len:=Nat.min_le_right _ _
  have hle3:Nat.min xs.length len≤xs.length:=Nat.min_le_left _ _
  rcases hx'' with ⟨hl0,_⟩ | ⟨k0,hk0,rfl,hcap,hkz⟩
  ·omega
  rcases (hs.objs p _ hp).2 with ⟨hq,_⟩ | ⟨k1,c1,e1,hk1,hc1,hz1,hl1,hw1,hcs1⟩
  ·rw [hk0] at hq;cases hq
  rw [hk0] at hk1;cases hk1
  simp only [wd,Nat.mul_one] at hzz hkz hl1
  generalize hm:Nat.min xs.length len=m at *
  have hcl:(c.extract o (o+m)).toList.length=m:=by simp;omega
  have hget:∀ j,j<m→(c.extract o (o+m)).toList[j]?=some (c.getD (o+j) undef):=fun j hj=>by
   have h2:o+j<c.size:=by omega
   rw [Array.getElem?_toList,Array.getElem?_extract,if_pos (by omega)]
   simp [Array.getD_eq_getD_getElem?,h2]
  have hel:∀ j,j<m→∃ x,xs[j]?=some x∧x.scal=true∧Rep w.heap (s.own B.A β) (c.getD (o+j) undef) x:=fun j hj=>by
   have h2:j<xs.length:=by omega
   refine ⟨xs[j],by simp [h2],hok _ (List.getElem_mem h2),?_⟩
   have h3:(xs[j]).scal=true:=hok _ (List.getElem_mem h2)
   have:=hrep j xs[j] 0 xs[j] (by simp [h2]) (by cases hq:xs[j]<;>rw [hq] at h3<;>simp [D.scal] at h3<;>rfl)
   simpa [wd] using this
  have hr:=run_copy_row (P:=P) w dT sT ty e0 k0.b (k0.o+off*wd none) len cap ⟨b,o,none⟩ xs.length capy c1 e1 (c.extract o (o+m)).toList hu hsz hc1 (by rw [hcl,← hm]) (fun j v hv=>by
   have hj:j<m:=by have:=(List.getElem?_eq_some_iff.1 hv).1;rw [hcl] at this;exact this
   rw [hget j hj] at hv
   have h2:o+j<c.size:=by omega
   rw [bN]
   simp [World.cell?,hb,h2,Array.getD_eq_getD_getElem?] at hv ⊢
   exact hv) (by rw [hcl];simp only [wd,Nat.mul_one];omega) (fun v hv=>by
   obtain ⟨j,hj⟩:=List.mem_iff_getElem?.1 hv
   have hj':j<m:=by have:=(List.getElem?_eq_some_iff.1 hj).1;rw [hcl] at this;exact this
   rw [hget j hj'] at hj
   obtain ⟨x,_,hx1,hx2⟩:=hel j hj'
   cases hj
   exact hx2.m6 hx1)
  rw [hcl] at hr
  obtain ⟨hsim,_⟩:=hs.modify (p:=p) (ob':=.arr none (ki zs xs off len)) hp ⟨⟨rfl,rfl⟩,by rw [uD hle];exact Nat.le_refl _⟩ (w':=w.setRow k0.b (List.take (k0.o+off*wd none) c1.toList++(c.extract o (o+m)).toList++List.drop (k0.o+off*wd none+m) c1.toList).toArray) rfl (by simp) (fun b hb=>setRow_other w k0.b b _ (hb k0 hk0)) (fun _ hrr=>.inr ⟨k0,_,e1,hk0,setRow_heap w k0.b c1 _ e1 (0,0) hc1,(by simp only [List.size_toArray,List.length_append,hcl,List.length_take,List.length_drop,Array.length_toList,wd,Nat.mul_one];omega),(by rw [uD hle];simpa [wd] using hl1),(fun x hx=>by
   unfold ki at hx
   rcases List.mem_append.1 hx with hx | hx
   ·exact hw1 _ (List.mem_of_mem_take hx)
   rcases List.mem_append.1 hx with hx | hx
   ·exact hok _ (List.mem_of_mem_take hx)
   ·exact hw1 _ (List.mem_of_mem_drop hx)),fun i x j d hi hj=>by
   have hsx:x.scal=true:=by
    unfold ki at hi
    have hx:=List.mem_of_getElem? hi
    rcases List.mem_append.1 hx with hx | hx
    ·exact hw1 _ (List.mem_of_mem_take hx)
    rcases List.mem_append.1 hx with hx | hx
    ·exact hok _ (List.mem_of_mem_take hx)
    ·exact hw1 _ (List.mem_of_mem_drop hx)
   have hxy:j=0∧d=x:=by
    cases x<;>simp [D.scal] at hsx<;>(cases j<;>simp [D.cells] at hj<;>simp [hj])
   obtain ⟨rfl,rfl⟩:=hxy
   have hwd1:off*wd none=off:=by simp [wd]
   rw [show k0.o+i*wd none+0=k0.o+i by simp [wd],FG (by omega) (by omega)]
   rw [BK hm hle] at hi
   have old:∀ x,zs[i]?=some x→x.scal=true→Rep _ _ (c1.getD (k0.o+i) undef) x:=fun x hz hsx=>by
    have:=hcs1 i x 0 x hz (by cases x<;>simp [D.scal] at hsx<;>rfl)
    rw [show k0.o+i*wd none+0=k0.o+i by simp [wd]] at this
    exact hrr _ _ this
   by_cases g1:i<off
   ·rw [if_pos g1] at hi
    rw [if_pos (by omega)]
    exact old _ hi hsx
   rw [if_neg g1] at hi
   rw [if_neg (by omega)]
   by_cases g2:i<off+m
   ·rw [if_pos g2] at hi
    rw [if_pos (by omega)]
    obtain ⟨y,hy1,_,hy2⟩:=hel (i-off) (by omega)
    rw [hi] at hy1
    cases hy1
    rw [show k0.o+i-(k0.o+off*wd none)=i-off by omega]
    exact hrr _ _ hy2
   ·rw [if_neg g2] at hi
    rw [if_neg (by omega)]
    exact old _ hi hsx⟩)
  exact aK (v:=goInt m) (by simp) (hexec _ _ hr) (.inl rfl) ⟨hds,_,β,aW h,hsim.put (by rw [hB.1];exact hd) (.d _ _ (.int _ _))⟩
end
section
variable {P:Program} {cf:Cf} {Q:Exit→St→Prop} {s:St} {k:List It}
theorem DS (E:Eng P cf Q) {o:Oper} (t:Nat) (wf:W) (ht:s.fr t=.d .nils) (h:E.stp o (s.put t (.d (.sl wf []))) k .no):E.stp o s k .no:=by
 rw [aM] at h ⊢
 intro B hB ds β a w hds hs Q'
 refine h B hB ds β a w hds (hs.setv ?_) Q'
 have hv:=hs.slots t
 rw [ht] at hv
 rw [hv.nils]
 exact .d _ _ (.sl0 _ _ _)
end
theorem HCall.sub {P:Program} {G:List (Nat × Obj)} {f:FuncId} {args args':List AV} {hp:List (Name × Ob)} {u:List Nat} {Q:AV→List (Name × Ob)→Prop} (hl:args.length=args'.length)
  (hr:∀ (i:Nat) x y,args[i]?=some x→args'[i]?=some y→x=y∨∃ wf,x=.d .nils∧y=.d (.sl wf [])) (h:HCall P G f args' hp u Q):HCall P G f args hp u Q:=by
 refine ⟨h.1,fun B β vs w h1 h2 h3 h4 h5=>h.2 B β vs w (h1.trans hl) h2 h3 h4 { tms:=h5.tms,io:=h5.io,size:=h5.size,frame:=h5.frame,slots:=fun t=>?_,objs:=h5.objs,blocks:=h5.blocks,inj:=h5.inj,us:=h5.us,stay:=h5.stay }⟩
 have hv:=h5.slots t
 rw [eJ,bg,if_pos (Nat.zero_le _),Nat.sub_zero] at hv ⊢
 show VR w.heap ((mk (aG 0 args) hp u).own B.A β) u _ β _ _
 cases hx:args[t]? with
 | none =>
   rw [List.getElem?_eq_none (by rw [← hl];exact List.getElem?_eq_none_iff.1 hx)]
   exact .un _
 | some x =>
   have hlt:=(List.getElem?_eq_some_iff.1 hx).1
   have hy:args'[t]?=some args'[t]:=List.getElem?_eq_getElem (by omega)
   rw [hx] at hv
   rw [hy]
   rcases hr t _ _ hx hy with e | ⟨wf,e1,e2⟩
   ·rw [← e];exact hv
   ·rw [e1] at hv
    rw [e2]
    have:=VR.nils hv
    rw [this]
    exact .d _ _ (.sl0 _ _ _)
theorem HP.sub {P:Program} {G:List (Nat × Obj)} {f:FuncId} {args args':List D} {Q:AV→Prop} (hl:args.length=args'.length)
  (hr:∀ (i:Nat) x y,args[i]?=some x→args'[i]?=some y→x=y∨∃ wf,x=.nils∧y=.sl wf []) (h:HP P G f args' Q):HP P G f args Q:=by
 refine HCall.sub (by simpa using hl) (fun i x y hx hy=>?_) h
 rw [List.getElem?_map] at hx hy
 obtain ⟨a,ha,rfl⟩:=Option.map_eq_some_iff.1 hx
 obtain ⟨b,hb,rfl⟩:=Option.map_eq_some_iff.1 hy
 rcases hr i a b ha hb with e | ⟨wf,e1,e2⟩
 ·exact .inl (by rw [e])
 ·exact .inr ⟨wf,by rw [e1],by rw [e2]⟩
theorem FN (tf:Nat→TI) (dd:Option Nat) (s:St) (x y t):opE tf (.call { callee:=.builtin .min,args:=#[x,y],argTypes:=t }) dd s=(opV tf (.call { callee:=.builtin .min,args:=#[x,y],argTypes:=t }) s).bind fun x=>.ok (x,ef0):=fo rfl
theorem EC (tf:Nat→TI) (dd:Option Nat) (s:St) (x y t):opE tf (.call { callee:=.builtin .max,args:=#[x,y],argTypes:=t }) dd s=(opV tf (.call { callee:=.builtin .max,args:=#[x,y],argTypes:=t }) s).bind fun x=>.ok (x,ef0):=fo rfl
attribute [go_sem] FN EC
end Go.Ab

