/-
  The generic layer, part 62: a function that ranges over a function: the statement's rule, and how such a function is left. (with the parts that follow it) (with the parts that follow it)
-/
import Derived.Test.YtpmniabdmbmafaaGreatDoorSSG
import Derived.RangeFuncLeaves
import Derived.Laws.CopyRow
import Derived.Laws.IdiomCopy
import Derived.Lib.Builder
import Derived.LaidEqlPtr
import Derived.Laws.Pointers
import Derived.Laws.Externs
import Derived.Lib.UnsafeStr
set_option linter.all false
set_option maxHeartbeats 16000000
namespace Go.Ab
structure ov(B0 B:Base):Prop where
 n:B.n=B0.n
 io:B.io=B0.io
 G:B.G=B0.G
 U0:B.U0=B0.U0
 β0:B.β0=B0.β0
 size:B0.H0.size<=B.H0.size
 frame:∀b,b<B0.H0.size->¬B0.O0 b->B.H0[b]?=B0.H0[b]?
 O0:∀b,b<B0.H0.size->B.O0 b->B0.O0 b
 A:∀b,B0.A b->B.A b
theorem ov.refl(B:Base):ov B B:=⟨rfl,rfl,rfl,rfl,rfl,ain _,fun _ _ _=>rfl,fun _ _ h=>h,fun _ h=>h⟩
theorem ov.trans{A B C:Base}(h:ov A B)(g:ov B C):ov A C :=
 ⟨g.n.trans h.n,g.io.trans h.io,g.G.trans h.G,g.U0.trans h.U0,g.β0.trans h.β0,aix h.size g.size,
  fun b hb ho=>(g.frame b (aiK hb h.size) (fun hc=>ho (h.O0 b hb hc))).trans (h.frame b hb ho),fun b hb hc=>h.O0 b hb (g.O0 b (aiK hb h.size) hc),fun b hb=>g.A b (h.A b hb)⟩
def wu(D:Nat):Deferred:={ target:=.collected D,args:=#[] }
structure CI(B0:Base)(B:Base)(ds:List Deferred):Prop where
 ext:ov B0 B
 mark:∃Ds:List Nat,ds=Ds.map wu∧Ds.Nodup∧∀D∈Ds,B.H0[D]?=some (.deferred (some []))∧B.A D∧B0.H0.size<=D∧¬B.O0 D
def St.uS(s:St)(fr:Nat->AV):St:={ s with fr:=fr }
def LK(s0 s:St):Prop:=∀p o',nm s0.used p->s.hp p=some o'->∃o,s0.hp p=some o∧o.like o'
def ry(s:St):List Nat->List D->St
 |t::ts,d::ds=>ry (s.put t (.d d)) ts ds
 |_,_=>s
section
variable {P:Program}{cf:Cf}
theorem aj.ry{B:Base}{β:Name->Option aU}{w:World}:∀(ts:List Nat) (ds:List D) (vs:List Value) (s:St) (tm:Array Value),aj B β s tm w->(∀t∈ts,t<B.n)->vs.length=ds.length ->
  (∀i d,ds[i]?=some d->au w.heap (s.own B.A β) (vs.getD i undef) d)->aj B β (ry s ts ds) ((ts.zip vs).foldl (fun tm (q:Nat×Value)=>tm.setIfInBounds q.1 q.2) tm) w
 |[],ds,vs,s,tm,h,_,_,_=>by cases ds<;>exact h
 |_::_,[],[],s,tm,h,_,_,_=>h
 |t::ts,d::ds,v::vs,s,tm,h,ht,hl,hv=>by
   refine aj.ry ts ds vs (s.put t (.d d)) _ (h.put (ht t ah0) (.d _ _ (hv 0 d rfl))) (fun x hx=>ht x (ah8 _ hx)) (by simpa using hl) (fun i d' hi=>?_);exact hv (i+1) d' hi
def rq(P:Program)(cf:Cf)(Φ:Exit->Act->World->Prop)(B0:Base)(k:List It){X:Type}(Iv:X->St)(s0:St)(e:Exit)(s2:St):Prop :=
 match e with
 |.normal=>LK s0 s2∧∃y τ,Le cf.U τ (s2.uS s0.fr) (Iv y)
 |.exit i=>LK s0 s2∧yq P cf Φ (CI B0) k (.exit i) (s2.uS s0.fr)
 |.ret=>LK s0 s2∧yq P cf Φ (CI B0) k .ret (s2.uS s0.fr)
 |_=>False
def SS(B:Base)(tm:Array Value)(D L:Nat)(C X:Nat->Prop)(W:World)(s:St):Prop :=
 ∃β B',ov B B'∧B'.H0=W.heap∧(∀b,B'.O0 b↔dh s β b)∧(∀b,B'.A b↔(B.A b∨X b∨b=D∨b=L))∧(∀b,C b↔(B.A b∨b=D∨b=L∨dh s β b))∧aj B' β s tm W
theorem SS.aX{B:Base}{tm:Array Value}{D L z0:Nat}{C X X':Nat->Prop}{W W':World}{s:St}(h:SS B tm D L C X W s)(ah:A1 W X W' X')(hX:∀b,X b->z0<=b)(hz:B.H0.size<=z0)(hW:z0<=W.heap.size)(hD:D<W.heap.size)(hL:L<W.heap.size) :
  SS B tm D L C X' W' s:=by
 obtain⟨β,B',hE,hH,hO,hA,hC,hs⟩:=h;have hlt:∀b,B.A b->b<W.heap.size:=fun b hb=>aiK (B.hA b hb) (by rw[<-hH];exact hE.size);have uT:∀b,b<B.H0.size->W'.heap[b]?=W.heap[b]?:=fun b hb=>ah.same b (by omega) (fun hx=>by have:=hX b hx;omega)
 have hG:∀q∈B'.G,W'.heap[q.1]?=some q.2∧¬dh s β q.1:=fun q hq=>by
  have h0:=B.hG q (by rw[<-hE.G];exact hq);have h1:=B'.hG q hq;exact⟨(uT _ (dK h0.1)).trans (by rw[<-hH];exact h1.1),fun hb=>h1.2 ((hO _).2 hb)⟩
 refine⟨β,{ n:=B'.n,io:=B'.io,G:=B'.G,H0:=W'.heap,O0:=dh s β,A:=fun b=>B.A b∨X' b∨b=D∨b=L,U0:=B'.U0,β0:=B'.β0,hA:=?_,hG:=hG },?_,rfl,fun _=>Iff.rfl,fun _=>Iff.rfl,hC,?_⟩
 .rintro b (hb|hb|rfl|rfl)
  .exact aiK (hlt b hb) ah.size
  .exact(ah.new b hb).2
  .exact aiK hD ah.size
  .exact aiK hL ah.size
 .refine⟨hE.n,hE.io,hE.G,hE.U0,hE.β0,aix hE.size (by rw[hH];exact ah.size),fun b hb ho=>?_,fun b hb ho=>hE.O0 b hb ((hO b).2 ho),fun b hb=>.inl hb⟩;exact(uT b hb).trans ((by rw[hH]:W.heap[b]?=B'.H0[b]?).trans (hE.frame b hb ho))
 .refine hs.mv rfl (ah.io.trans hs.io) (ain _) (fun _ _ _=>rfl) ah.size (fun b hb hn=>ah.same b hb (fun hx=>hn ((hA b).2 (.inr (.inl hx))))) (fun b hb hc=>?_) (fun p k hp hk=>.inr ⟨p,k,hp,hk,rfl⟩) hs.us hs.stay;obtain hc|hc|hc|hc:=hc
  .exact(hA b).2 (.inl hc)
  .rcases(ah.new b hc).1 with h1|h1
   .exact(hA b).2 (.inr (.inl h1))
   .omega
  .exact(hA b).2 (.inr (.inr (.inl hc)))
  .exact(hA b).2 (.inr (.inr (.inr hc)))
theorem SS.after{B B':Base}{tm:Array Value}{D L:Nat}{X:Nat->Prop}{W W2 W3 W4:World}{s0 s1 s2:St}{β' β1 β2:Name->Option aU}{NG:Array Value}{B2:Base}
  (hE:ov B B') (hH:B'.H0=W.heap) (hO:∀b,B'.O0 b↔dh s0 β' b) (hA:∀b,B'.A b↔(B.A b∨X b∨b=D∨b=L)) (hs:aj B' β' s0 tm W)
  (xX:B2.n=B'.n) (HJ:B2.io=B'.io) (hG2:B2.G=B'.G) (Dp:B2.H0=W2.heap) (HK:∀b,B2.O0 b↔dh s1 β1 b) (hA2:B2.A=B'.A) (kG:B2.U0=s0.used) (hβ2:B2.β0=β')
  (bh:W.heap.size<=W2.heap.size) (wv:∀b,b<W.heap.size->¬dh s0 β' b->b≠L->W2.heap[b]?=W.heap[b]?) (NH:∀b,dh s1 β1 b->W.heap.size<=b∨dh s0 β' b)
  (br:aj B2 β2 s2 NG W3) (lW:LK s0 s2) (NI:B.H0.size<=L) (NJ:W3.heap.size=W4.heap.size) (yr:dy W4=dy W3) (h4:∀b,b≠L->W4.heap[b]?=W3.heap[b]?) :
  (∀b,b<W.heap.size->¬dh s0 β' b->b≠L->W4.heap[b]?=W.heap[b]?)∧W.heap.size<=W4.heap.size∧(∀b,dh s2 β2 b->(W.heap.size<=b∨dh s0 β' b)∧b<W4.heap.size∧¬B'.A b) ∧
   ∃B4,ov B B4∧B4.H0=W4.heap∧(∀b,B4.O0 b↔dh s2 β2 b)∧(∀b,B4.A b↔(B.A b∨X b∨b=D∨b=L))∧aj B4 β2 (s2.uS s0.fr) tm W4:=by
 have xU:∀b,dh s2 β2 b->W.heap.size<=b∨dh s0 β' b:=fun b hb=>by
  rcases(br.nr hb).2.2 with h|h
  .rw[Dp]at h;exact .inl (aix bh h)
  .exact NH b ((HK b).1 h)
 have NK:W2.heap.size<=W3.heap.size:=by have:=br.size;rw[Dp]at this;exact this
 have uT:∀b,b<W.heap.size->¬dh s0 β' b->b≠L->W4.heap[b]?=W.heap[b]?:=fun b hb Dq aJ=>by
  have h1:¬dh s1 β1 b:=fun h=>by
   rcases NH b h with h|h
   .omega
   .exact Dq h
  refine(h4 b aJ).trans ((br.frame b (by rw[Dp];omega) (fun h=>h1 ((HK b).1 h))).trans ?_);rw[Dp];exact wv b hb Dq aJ
 have A3:W.heap.size<=W4.heap.size:=by omega
 have hG4:∀q∈B'.G,W4.heap[q.1]?=some q.2∧¬dh s2 β2 q.1:=fun q hq=>by
  obtain⟨g1,g2⟩:=B'.hG q hq;have hlt:=dK g1;have ye:q.1<W.heap.size:=by rw[<-hH];exact hlt
  have uU:=B2.hG q (by rw[hG2];exact hq)
  have bH:¬dh s2 β2 q.1:=fun hb=>by
   rcases xU _ hb with h|h
   .omega
   .exact g2 ((hO _).2 h)
  refine⟨?_,bH⟩;have h3:W3.heap[q.1]?=some q.2:=(br.frame _ (dK uU.1) uU.2).trans uU.1;have hb0:=dK (B.hG q (by rw[<-hE.G];exact hq)).1;exact(h4 _ (by omega)).trans h3
 have aar:∀b,B'.A b->b<W4.heap.size:=fun b hb=>aiK (B'.hA b hb) (by rw[hH];exact A3);refine⟨uT,A3,fun b hb=>⟨xU b hb,by have:=(br.nr hb).1;omega,by have:=(br.nr hb).2.1;rw[hA2]at this;exact this⟩,?_⟩
 let B4:Base:={ n:=B'.n,io:=B'.io,G:=B'.G,H0:=W4.heap,O0:=dh s2 β2,A:=B'.A,U0:=B'.U0,β0:=B'.β0,hA:=aar,hG:=hG4 }
 have hu:∀x∈s0.used,x∈s2.used:=fun x hx=>br.us x (by rw[kG];exact hx);have ah:∀p,nm s0.used p->β2 p=β' p:=fun p hp=>by rw[<-hβ2];exact br.stay p (by rw[kG];exact hp)
 have Dr:aj B4 β2 s2 NG W4:=by
  refine br.mv xX.symm (yr.trans (br.io.trans HJ)) (ain _) (fun _ _ _=>rfl) (by omega) (fun b hb hn=>h4 b (fun e=>hn (by rw[hA2,hA];exact .inr (.inr (.inr e))))) (fun b _ hb=>by rw[hA2];exact hb) (fun p k hp hk=>.inr ⟨p,k,hp,hk,rfl⟩) (fun x hx=>hu x (hs.us x hx)) (fun p hp=>?_);have:nm s0.used p:=hp.mono hs.us;exact(ah p this).trans (hs.stay p hp)
 have dS:∀b,b<W.heap.size->s2.own B'.A β2 b->s0.own B'.A β' b:=by
  rintro b hb (h1|h1)
  .exact .inl h1
  .rcases xU b h1 with h|h
   .omega
   .exact .inr h
 have hr:∀v d,au W.heap (s0.own B'.A β') v d->au W4.heap (s2.own B'.A β2) v d:=fun v d hd=>hd.mono (fun b hb hlt=>uT b hlt (fun h=>hb (.inr h)) (fun e=>hb (.inl ((hA b).2 (.inr (.inr (.inr e))))))) dS;refine⟨B4,⟨hE.n,hE.io,hE.G,hE.U0,hE.β0,aix hE.size (by rw[hH];exact A3),fun b hb ho=>?_,fun b hb ho=>?_,fun b hb=>(hA b).2 (.inl hb)⟩,rfl,fun _=>Iff.rfl,hA,?_⟩
 .have hbW:b<W.heap.size:=by have:=hE.size;rw[hH]at this;omega
  refine(uT b hbW (fun h=>ho (hE.O0 b hb ((hO b).2 h))) (by omega)).trans ?_;rw[<-hE.frame b hb ho,hH]
 .rcases xU b ho with h|h
  .have:=hE.size;rw[hH]at this;omega
  .exact hE.O0 b hb ((hO b).2 h)
 .exact { Dr with bE:=hs.bE,slots:=fun t=>(hs.slots t).mono hr hu (fun p hp o' ho=>by obtain⟨o,h1,h2⟩:=lW p o' hp ho;exact⟨o,h1,h2,ah p hp⟩) }
theorem SS.mk'{B B4:Base}{tm:Array Value}{D L:Nat}{X:Nat->Prop}{W4:World}{s5:St}{β5:Name->Option aU}(hE:ov B B4)(hH:B4.H0=W4.heap)(dL:∀b,dh s5 β5 b->B4.O0 b)(hA:∀b,B4.A b↔(B.A b∨X b∨b=D∨b=L))
  (hs:aj B4 β5 s5 tm W4):SS B tm D L (fun b=>B.A b∨b=D∨b=L∨dh s5 β5 b) X W4 s5:=by
 refine⟨β5,{ n:=B4.n,io:=B4.io,G:=B4.G,H0:=W4.heap,O0:=dh s5 β5,A:=B4.A,U0:=B4.U0,β0:=B4.β0,hA:=fun b hb=>by rw[<-hH];exact B4.hA b hb,hG:=fun q hq=>⟨by rw[<-hH];exact(B4.hG q hq).1,fun hb=>(B4.hG q hq).2 (dL _ hb)⟩ },
  ⟨hE.n,hE.io,hE.G,hE.U0,hE.β0,by show B.H0.size<=W4.heap.size;rw[<-hH];exact hE.size,fun b hb ho=>?_,fun b hb ho=>hE.O0 b hb (dL b ho),hE.A⟩,rfl,fun _=>Iff.rfl,hA,fun _=>Iff.rfl,?_⟩
 .show W4.heap[b]?=_;rw[<-hH];exact hE.frame b hb ho
 .exact hs.mv rfl hs.io (ain _) (fun _ _ _=>rfl) (ain _) (fun _ _ _=>rfl) (fun _ _ h=>h) (fun p k hp hk=>.inr ⟨p,k,hp,hk,rfl⟩) hs.us hs.stay
def Dt(P:Program)(cf:Cf)(Φ:Exit->Act->World->Prop)(B0:Base)(k:List It)(c:Code)(s:St):Prop :=
 (∃i,c=.exit i∧yq P cf Φ (CI B0) k (.exit i) s)∨(c=.ret∧yq P cf Φ (CI B0) k .ret s)
theorem aas(ps:List Nat)(vs tm:Array Value):(ps.toArray.zip vs).foldl (fun tmps (q:Nat×Value)=>tmps.setIfInBounds q.1 q.2) tm=(ps.zip vs.toList).foldl (fun tm (q:Nat×Value)=>tm.setIfInBounds q.1 q.2) tm:=by
 rw[<-Array.foldl_toList,Array.toList_zip]
theorem aat{n0:Nat}{G0:List (Nat×Obj)}{U0:List Nat}{B0 B:Base}{ps:List Nat}{assign body:Code}{k:List It}{Φ:Exit->Act->World->Prop}{X:Type}{s0:St}{Iv:X->St}{fn:FuncId}{tm:Array Value}{D L:Nat}{C Xs:Nat->Prop}{W:World}{vs:Array Value}
  {xl:List Ab.D} (hB:(⟨n0,none,G0,U0⟩:Cf).fits B) (HL:∀t∈ps,t<n0) (oW:xl.length=ps.length)
  (hr:run P ⟨n0,some L,G0,s0.used⟩ [.code assign] (fun e s1=>e=.normal∧run P ⟨n0,some L,G0,s0.used⟩ [.code body] (rq P ⟨n0,none,G0,U0⟩ Φ B0 k Iv s0) s1) (Ab.ry s0 ps xl))
  (hL:W.heap[L]?=some (.loop { state:=.ready,pending:=none,fn,tmps:=tm,params:=ps.toArray,assign,body,defers:=D })) (NL:D≠L) (NI:B.H0.size<=L) (hDz:B.H0.size<=D) (hD:W.heap[D]?=some (.deferred (some [])))
  (hS:SS B tm D L C Xs W s0) (eJ:vs.size=xl.length) (cD:∀i d,xl[i]?=some d->au W.heap (fun b=>C b∨Xs b) (vs.getD i undef) d) :
  YieldAt Fence.wide 0 P L vs W fun e W'=>∃C',(dy W'=dy W∧W.heap.size<=W'.heap.size∧(∀b,b<W.heap.size->¬C b->W'.heap[b]?=W.heap[b]?)∧(∀q∈G0,W'.heap[q.1]?=W.heap[q.1]?)∧∀b,C' b->(C b∨W.heap.size<=b)∧b<W'.heap.size)∧W'.heap[D]?=some (.deferred (some [])) ∧
   ((e=.returned (.bool true)∧W'.heap[L]?=some (.loop { state:=.ready,pending:=none,fn,tmps:=tm,params:=ps.toArray,assign,body,defers:=D })∧∃y,SS B tm D L C' Xs W' (Iv y)) ∨
    (e=.returned (.bool false)∧∃c s',W'.heap[L]?=some (.loop { state:=.done,pending:=some c,fn,tmps:=tm,params:=ps.toArray,assign,body,defers:=D })∧Dt P ⟨n0,none,G0,U0⟩ Φ B0 k c s'∧SS B tm D L C' Xs W' s')):=by
 obtain⟨β',B',hE,hH,hO,hA,hC,fC⟩:=hS;have aau:=dK hL;have aav:=dK hD;refine⟨fn,_,assign,body,run_yield hL (by simp[eJ,oW]),roundIn_of_wpIn trivial ?_⟩;rw[aas];have Du:∀q∈B'.G,W.heap[q.1]?=some q.2∧¬dh s0 β' q.1:=fun q hq=>⟨by rw[<-hH];exact(B'.hG q hq).1,fun hb=>(B'.hG q hq).2 ((hO _).2 hb)⟩
 let NM:Base:={ n:=B'.n,io:=B'.io,G:=B'.G,H0:=W.heap,O0:=dh s0 β',A:=B'.A,U0:=s0.used,β0:=β',hA:=fun b hb=>by rw[<-hH];exact B'.hA b hb,hG:=Du }
 have nT:aj NM β' s0 tm W:=fC.mv rfl fC.io (ain _) (fun _ _ _=>rfl) (ain _) (fun _ _ _=>rfl) (fun _ _ h=>h) (fun p k hp hk=>.inr ⟨p,k,hp,hk,rfl⟩) (fun _ h=>h) (fun _ _=>rfl);have HM:B'.n=n0:=hE.n.trans hB.1;have HN:B'.G=G0:=hE.G.trans hB.2.2
 have aaw:=nT.ry ps xl vs.toList s0 tm (fun t ht=>by show t<B'.n;rw[HM];exact HL t ht) (by simpa using eJ) (fun i d hi=>by
  have:=cD i d hi;rw[show vs.toList.getD i undef=vs.getD i undef by simp[ahY,ahX]];refine this.mono (fun _ _ _=>rfl) (fun b _ hb=>?_);obtain hb|hb:=hb
  .rcases(hA b).1 hb with h|h|h|h
   .exact .inl ((hC b).2 (.inl h))
   .exact .inr h
   .exact .inl ((hC b).2 (.inr (.inl h)))
   .exact .inl ((hC b).2 (.inr (.inr (.inl h))))
  .exact .inl ((hC b).2 (.inr (.inr (.inr hb)))))
 have aax:=eT hr NM ⟨HM,rfl,HN⟩ [] β' { tmps:=(ps.zip vs.toList).foldl (fun tm (q:Nat×Value)=>tm.setIfInBounds q.1 q.2) tm,defers:=[] } W rfl aaw;refine wpIn_mono aax ?_;rintro e a1 W1 ⟨rz,s1,β1,⟨rfl,aK⟩,ow⟩;have NN:∀b,B'.A b->¬dh s0 β' b:=fun b hb ho=>(fC.nr ho).2.1 hb;have HO:B'.A L:=(hA L).2 (.inr (.inr (.inr rfl)));have A4:B'.A D:=(hA D).2 (.inr (.inr (.inl rfl)));have HQ:=(ow.frame L aau (NN L HO)).trans hL;have HR:=(ow.frame D aav (NN D A4)).trans hD;refine⟨_,run_beginRound HQ rfl,?_⟩;obtain⟨W2,A5⟩:∃W2,W1.putObj L (.loop { state:=.busy,pending:=none,fn,tmps:=tm,params:=ps.toArray,assign,body,defers:=D })=W2:=⟨_,rfl⟩
 show body.wpIn _ _ _ _ _ (W1.putObj L (.loop { state:=.busy,pending:=none,fn,tmps:=tm,params:=ps.toArray,assign,body,defers:=D }));rw[A5];have ahD:W2.heap.size=W1.heap.size:=by rw[<-A5];simp
 have ahE:W.heap.size<=W1.heap.size:=ow.size;have wv:∀b,b≠L->W2.heap[b]?=W1.heap[b]?:=fun b hb=>by rw[<-A5];exact World.putObj_heap_other hb
 have NP:W2.heap[L]?=some (.loop { state:=.busy,pending:=none,fn,tmps:=tm,params:=ps.toArray,assign,body,defers:=D }):=by rw[<-A5];exact World.putObj_heap_same (by omega)
 have NQ:=(wv D NL).trans HR;have HJ:dy W2=dy W1:=by rw[<-A5];rfl
 have NR:∀q∈B'.G,q.1<B.H0.size:=fun q hq=>dK (B.hG q (by rw[<-hE.G];exact hq)).1
 have hGB:∀q∈B'.G,W2.heap[q.1]?=some q.2∧¬dh s1 β1 q.1:=fun q hq=>by
  have h0:=NR q hq;have h1:=Du q hq;refine⟨(wv _ (by omega)).trans ((ow.frame _ (dK h1.1) h1.2).trans h1.1),fun hb=>?_⟩;rcases(ow.nr hb).2.2 with h|h
  .have:=dK h1.1;change W.heap.size<=_ at h;omega
  .exact h1.2 h
 let HS:Base:={ n:=B'.n,io:=B'.io,G:=B'.G,H0:=W2.heap,O0:=dh s1 β1,A:=B'.A,U0:=s0.used,β0:=β',hA:=fun b hb=>by have:=B'.hA b hb;rw[hH]at this;omega,hG:=hGB }
 have hsB:aj HS β1 s1 a1.tmps W2:=ow.mv rfl (HJ.trans ow.io) (ain _) (fun _ _ _=>rfl) (by omega) (fun b hb hn=>wv b (fun e=>hn (e▸HO))) (fun _ _ h=>h) (fun p k hp hk=>.inr ⟨p,k,hp,hk,rfl⟩) ow.us ow.stay;have aay:=eT aK HS ⟨HM,rfl,HN⟩ [] β1 a1 W2 rz hsB;refine wpIn_mono aay ?_;rintro e a3 W3 ⟨hd3,s2,β2,hq,gQ⟩;have HT:=(gQ.frame L (dK NP) (fun ho=>(ow.nr ho).2.1 HO)).trans NP;have hD3:=(gQ.frame D (dK NQ) (fun ho=>(ow.nr ho).2.1 A4)).trans NQ;have NS:=dK HT
 have NT:∀(W4:World),LK s0 s2->W3.heap.size=W4.heap.size->dy W4=dy W3->(∀b,b≠L->W4.heap[b]?=W3.heap[b]?) ->
   (W4.heap[D]?=some (.deferred (some []))∧∃B4,ov B B4∧B4.H0=W4.heap∧(∀b,B4.O0 b↔dh s2 β2 b)∧(∀b,B4.A b↔(B.A b∨Xs b∨b=D∨b=L))∧aj B4 β2 (s2.uS s0.fr) tm W4) ∧
    ∀C':Nat->Prop,(∀b,C' b->B.A b∨b=D∨b=L∨dh s2 β2 b)->(dy W4=dy W∧W.heap.size<=W4.heap.size∧(∀b,b<W.heap.size->¬C b->W4.heap[b]?=W.heap[b]?)∧(∀q∈G0,W4.heap[q.1]?=W.heap[q.1]?)∧∀b,C' b->(C b∨W.heap.size<=b)∧b<W4.heap.size):=by
  intro W4 lW NJ yr h4;obtain⟨g1,g2,g3,B4,g4,g5,g6,g7,g8⟩:=SS.after (B2:=HS) (W2:=W2) hE hH hO hA fC rfl rfl rfl rfl (fun _=>Iff.rfl) rfl rfl rfl (by omega) (fun b hb Dq aJ=>(wv b aJ).trans (ow.frame b hb Dq)) (fun b hb=>(ow.nr hb).2.2) gQ lW NI NJ yr h4;refine⟨⟨(h4 D NL).trans hD3,B4,g4,g5,g6,g7,g8⟩,fun C' uV=>⟨yr.trans (gQ.io.trans fC.io.symm),g2,fun b hb hn=>g1 b hb (fun h=>hn ((hC b).2 (.inr (.inr (.inr h))))) (fun h=>hn ((hC b).2 (.inr (.inr (.inl h))))),fun q hq=>?_,fun b hb=>?_⟩⟩
  .have cg:q∈B'.G:=by rw[HN];exact hq
   have h0:=NR q cg;exact g1 _ (dK (Du q cg).1) (Du q cg).2 (by omega)
  .have hBA:∀b,B.A b->b<W4.heap.size:=fun b hb=>by have:=B.hA b hb;have:=hE.size;rw[hH]at this;omega
   rcases uV b hb with h|rfl|rfl|h
   .exact⟨.inl ((hC b).2 (.inl h)),hBA b h⟩
   .exact⟨.inl ((hC _).2 (.inr (.inl rfl))),by omega⟩
   .exact⟨.inl ((hC _).2 (.inr (.inr (.inl rfl)))),by omega⟩
   .obtain⟨h1,h2,_⟩:=g3 b h;refine⟨?_,h2⟩;obtain h1|h1:=h1
    .exact .inr h1
    .exact .inl ((hC b).2 (.inr (.inr (.inr h1))))
 have NU:∀(c:Code),LK s0 s2->Dt P ⟨n0,none,G0,U0⟩ Φ B0 k c (s2.uS s0.fr)->∃v W4,(Instr.endRound L (some c)).run P W3=.ok v W4∧∃C',(dy W4=dy W∧W.heap.size<=W4.heap.size∧(∀b,b<W.heap.size->¬C b->W4.heap[b]?=W.heap[b]?)∧(∀q∈G0,W4.heap[q.1]?=W.heap[q.1]?)∧∀b,C' b->(C b∨W.heap.size<=b)∧b<W4.heap.size)∧W4.heap[D]?=some (.deferred (some [])) ∧
   ((Ending.returned v=.returned (.bool true)∧W4.heap[L]?=some (.loop { state:=.ready,pending:=none,fn,tmps:=tm,params:=ps.toArray,assign,body,defers:=D })∧∃y,SS B tm D L C' Xs W4 (Iv y)) ∨
    (Ending.returned v=.returned (.bool false)∧∃c s',W4.heap[L]?=some (.loop { state:=.done,pending:=some c,fn,tmps:=tm,params:=ps.toArray,assign,body,defers:=D })∧Dt P ⟨n0,none,G0,U0⟩ Φ B0 k c s'∧SS B tm D L C' Xs W4 s')):=by
  intro c lW hj;obtain⟨⟨r1,B4,r2,r3,r4,r5,r6⟩,r7⟩:=NT (W3.putObj L (.loop { state:=.done,pending:=some c,fn,tmps:=tm,params:=ps.toArray,assign,body,defers:=D })) lW (by simp) rfl (fun b hb=>World.putObj_heap_other hb);exact⟨_,_,run_endRound (some c) HT,_,r7 _ (fun b hb=>hb),r1,.inr ⟨rfl,c,_,World.putObj_heap_same NS,hj,SS.mk' (s5:=s2.uS s0.fr) (β5:=β2) r2 r3 (fun b hb=>(r4 b).2 hb) r5 r6⟩⟩
 cases e with
 |normal =>
   obtain⟨lW,y,τ,hle⟩:=hq;obtain⟨⟨r1,B4,r2,r3,r4,r5,r6⟩,r7⟩:=NT (W3.putObj L (.loop { state:=.ready,pending:=none,fn,tmps:=tm,params:=ps.toArray,assign,body,defers:=D })) lW (by simp) rfl (fun b hb=>World.putObj_heap_other hb);obtain⟨β5,yu,hβ5⟩:=r6.le (τ:=τ) (by rw[r2.U0,hB.2.1];exact hle)
   have dL:∀b,dh (Iv y) β5 b->dh s2 β2 b:=by
    rintro b ⟨p,k,hp,hk,rfl⟩
    cases ho:(Iv y).hp p with
    |none=>exact absurd ho hp
    |some o =>
      refine⟨τ p,k,?_,by rw[<-hβ5 p hp];exact hk,rfl⟩;have:=(hle.hp p o ho).1;intro h;have h':(s2.uS s0.fr).hp (τ p)=none:=h;rw[h']at this;cases this
   exact⟨_,_,run_endRound none HT,_,r7 (fun b=>B.A b∨b=D∨b=L∨dh (Iv y) β5 b) (fun b hb=>Or.imp id (Or.imp id (Or.imp id (dL b))) hb),r1,.inl ⟨rfl,World.putObj_heap_same NS,y,SS.mk' r2 r3 (fun b hb=>(r4 b).2 (dL b hb)) r5 yu⟩⟩
 |exit i=>exact NU (.exit i) hq.1 (.inl ⟨i,rfl,hq.2⟩)
 |ret=>exact NU .ret hq.1 (.inr ⟨rfl,hq.2⟩)
 |goto l=>exact hq.elim
 |panic c=>exact hq.elim
 |outgrown=>exact hq.elim
end
end Go.Ab

namespace Go.Ab
open Go.RowKit
section
variable {P:Program}{cf:Cf}
def NV(P:Program)(cf:Cf)(body:Code)(Q:Exit->St->Prop)(e:Exit)(s1:St):Prop:=e=.normal∧run P cf [.code body] Q s1
theorem aaz{P:Program}{cf:Cf}{body:Code}{Q:Exit->St->Prop}{s1:St}(h:∀E:bB P cf Q,E.run [.code body] s1):NV P cf body Q .normal s1:=⟨rfl,aT h⟩
theorem aaA{B0:Base}(Dv:cf.ro=none){f:FuncId}{aR:List D}{N:Nat}{xs:Nat->List D}(hit:HI P cf.G f aR N xs){g:Operand}{ps:List Nat}{assign body:Code}{k:List It}{s:St}{Φ:Exit->Act->World->Prop}
  (bd:ev s g=.d (.aW f aR)) {X:Type} (Iv:Nat->X->St) (HL:∀t∈ps,t<cf.n) (qi:∀n,n<N->(xs n).length=ps.length) (h0:∃x τ,Le cf.U τ s (Iv 0 x))
  (hr:∀n x,n<N->∀l,run P ⟨cf.n,some l,cf.G,(Iv n x).used⟩ [.code assign] (NV P ⟨cf.n,some l,cf.G,(Iv n x).used⟩ body (rq P cf Φ B0 k (Iv (n+1)) (Iv n x))) (ry (Iv n x) ps (xs n)))
  (hd:∀x,ef P cf Φ (CI B0) k (Iv N x)):ef P cf Φ (CI B0) (.code (.rangeFunc g ps.toArray assign body)::k) s:=by
 obtain⟨n0,ro,G0,U0⟩:=cf;simp only at Dv;subst Dv;intro B hB ds β a w ak HU hs;refine wpIn_rangeFunc fun fn _=>?_;have hg:=hs.ev g;rw[bd]at hg
 obtain⟨cvs,bh,jV,hval⟩:∃cvs:Array Value,cvs.size=aR.length∧(∀i d,aR[i]?=some d->au w.heap (s.own B.A β) (cvs.getD i undef) d)∧a.eval g=.func (.func f) #[] cvs:=by
  have:=hg.cU;generalize a.eval g=v at this
  cases this with
  |aW _ vs _ h1 h2=>exact⟨vs,h1,h2,rfl⟩
 obtain⟨W1,ox⟩:∃W1,(w.alloc (.deferred (some []))).alloc (.loop { state:=.ready,pending:=none,fn,tmps:=a.tmps,params:=ps.toArray,assign,body,defers:=w.heap.size })=W1:=⟨_,rfl⟩
 have um:W1.heap.size=w.heap.size+2:=by rw[<-ox];simp
 have HQ:W1.heap[w.heap.size+1]?=some (.loop { state:=.ready,pending:=none,fn,tmps:=a.tmps,params:=ps.toArray,assign,body,defers:=w.heap.size }):=by
  rw[<-ox];have:=World.alloc_heap_new (w.alloc (.deferred (some []))) (.loop { state:=.ready,pending:=none,fn,tmps:=a.tmps,params:=ps.toArray,assign,body,defers:=w.heap.size })
  rwa [World.size_alloc]at this
 have HR:W1.heap[w.heap.size]?=some (.deferred (some [])):=by
  rw[<-ox];exact(Below.heap_alloc _ _ _ (by simp)).trans (World.alloc_heap_new w _)
 have hold:∀b,b<w.heap.size->W1.heap[b]?=w.heap[b]?:=fun b hb=>by
  rw[<-ox];exact(Below.heap_alloc _ _ _ (by simp;omega)).trans (Below.heap_alloc _ _ _ hb)
 have aaB:dy W1=dy w:=by rw[<-ox];rfl
 obtain⟨x0,τ,hle⟩:=h0;obtain⟨β0,l8,hβ0⟩:=hs.le (τ:=τ) (by rw[hB.2.1];exact hle);have hBz:B.H0.size<=w.heap.size:=hs.size
 have NW:∀b,dh (Iv 0 x0) β0 b->s.own B.A β b:=by
  rintro b ⟨p,k,hp,hk,rfl⟩
  cases ho:(Iv 0 x0).hp p with
  |none=>exact absurd ho hp
  |some o =>
    refine .inr ⟨τ p,k,?_,by rw[<-hβ0 p hp];exact hk,rfl⟩;rw[(hle.hp p o ho).1];simp
 let D:=w.heap.size
 let L:=w.heap.size+1
 let RB:LoopState->Option Code->(Nat->Prop)->World->Prop:=fun st pe X W =>
  W.heap[L]?=some (.loop { state:=st,pending:=pe,fn,tmps:=a.tmps,params:=ps.toArray,assign,body,defers:=D })∧W.heap[D]?=some (.deferred (some []))∧w.heap.size+2<=W.heap.size∧∀b,X b->w.heap.size+2<=b∧b<W.heap.size
 obtain⟨z,qa,wq,HV,HW,NY⟩:∃z:pb,z.l=L∧z.w=W1∧(z.C0=fun b=>B.A b∨b=D∨b=L∨dh (Iv 0 x0) β0 b)∧(z.J=fun n C X W=>RB .ready none X W∧∃x,SS B a.tmps D L C X W (Iv n x)) ∧
  (z.Jx=fun _ C X W=>∃c s',RB .done (some c) X W∧Dt P ⟨n0,none,G0,U0⟩ Φ B0 k c s'∧SS B a.tmps D L C X W s'):=⟨⟨L,W1,_,_,_⟩,rfl,rfl,rfl,rfl,rfl⟩
 have NZ:∀st pe X W X' W',RB st pe X W->A1 W X W' X'->RB st pe X' W':=fun st pe X W X' W' ⟨h1,h2,h3,h4⟩ ah=>by
  refine⟨(ah.same L (dK h1) (fun hx=>by have:=(h4 _ hx).1;show False;simp only[L]at this;omega)).trans h1,(ah.same D (dK h2) (fun hx=>by have:=(h4 _ hx).1;show False;simp only[D]at this;omega)).trans h2,aix h3 ah.size,fun b hb=>⟨?_,(ah.new b hb).2⟩⟩;rcases(ah.new b hb).1 with h|h
  .exact(h4 b h).1
  .exact aix h3 h
 have hz:z.Ok P G0 N xs:=by
  refine⟨?_,?_,?_,?_⟩<;>simp only[qa,wq,HV,HW,NY]
  .rintro b (h|rfl|rfl|h)
   .have:=B.hA b h;show b<W1.heap.size;omega
   .show w.heap.size<W1.heap.size;omega
   .show w.heap.size+1<W1.heap.size;omega
   .have:=hs.Cg (NW b h);show b<W1.heap.size;omega
  .rintro n C X W X' W' ⟨h1,x,h2⟩ ah;exact⟨NZ _ _ _ _ _ _ h1 ah,x,h2.aX ah (fun b hb=>(h1.2.2.2 b hb).1) (by omega) h1.2.2.1 (dK h1.2.1) (dK h1.1)⟩
  .rintro n C X W X' W' ⟨c,s',h1,hj,h2⟩ ah;exact⟨c,s',NZ _ _ _ _ _ _ h1 ah,hj,h2.aX ah (fun b hb=>(h1.2.2.2 b hb).1) (by omega) h1.2.2.1 (dK h1.2.1) (dK h1.1)⟩
  .rintro n C X W vs hn ⟨h1,x,h2⟩ eJ cD;obtain⟨fn',t',as',bd',hy,uR⟩:=aat (B0:=B0) (k:=k) (Iv:=Iv (n+1)) (D:=D) (L:=L) hB HL (qi n hn) (hr n x hn L) h1.1 (by simp only[D,L];omega) (by simp only[L];omega) (by simp only[D];omega) h1.2.1 h2 eJ cD;refine⟨fn',t',as',bd',hy,uR.mono ?_⟩;rintro e W' ⟨C',hc,wx,hq⟩;have hX:∀b,X b->w.heap.size+2<=b∧b<W'.heap.size:=fun b hb=>⟨(h1.2.2.2 b hb).1,aiK (h1.2.2.2 b hb).2 hc.2.1⟩
   refine⟨C',hc,?_⟩;obtain⟨rfl,hl,y,hS⟩|⟨rfl,c,s',hl,hj,hS⟩:=hq
   .exact .inl ⟨rfl,⟨hl,wx,aix h1.2.2.1 hc.2.1,hX⟩,y,hS⟩
   .exact .inr ⟨rfl,c,s',⟨hl,wx,aix h1.2.2.1 hc.2.1,hX⟩,hj,hS⟩
 have hJ0:z.J 0 z.C0 (fun _=>False) z.w:=by
  simp only[wq,HV,HW];refine⟨⟨HQ,HR,by show _<=W1.heap.size;omega,fun b hb=>hb.elim⟩,x0,?_⟩
  have hG:∀q∈B.G,W1.heap[q.1]?=some q.2∧¬dh (Iv 0 x0) β0 q.1:=fun q hq=>by
   obtain⟨g1,g2⟩:=B.hG q hq;have hlt:=dK g1;refine⟨(hold _ (by omega)).trans ((hs.frame _ hlt g2).trans g1),fun hb=>?_⟩;rcases(l8.nr hb).2.2 with h|h
   .omega
   .exact g2 h
  have hA1:∀b,(B.A b∨False∨b=D∨b=L)->b<W1.heap.size:=by
   rintro b (h|h|rfl|rfl)
   .have:=B.hA b h;omega
   .exact h.elim
   .show w.heap.size<_;omega
   .show w.heap.size+1<_;omega
  let B1:Base:={ n:=B.n,io:=B.io,G:=B.G,H0:=W1.heap,O0:=dh (Iv 0 x0) β0,A:=fun b=>B.A b∨False∨b=D∨b=L,U0:=B.U0,β0:=B.β0,hG:=hG,hA:=hA1 }
  refine SS.mk' (B4:=B1) (β5:=β0) ⟨rfl,rfl,rfl,rfl,rfl,by show B.H0.size<=W1.heap.size;omega,fun b hb ho=>(hold b (by omega)).trans (hs.frame b hb ho),fun b hb ho=>?_,fun b hb=>.inl hb⟩ rfl (fun b hb=>hb) (fun b=>Iff.rfl) ?_
  .rcases(l8.nr ho).2.2 with h|h
   .omega
   .exact h
  .refine l8.mv rfl (aaB.trans hs.io) (ain _) (fun _ _ _=>rfl) (by omega) (fun b hb _=>hold b hb) (fun b hb hc=>?_) (fun p k hp hk=>.inr ⟨p,k,hp,hk,rfl⟩) l8.us l8.stay;obtain h|h|h|h:=hc
   .exact h
   .exact h.elim
   .simp only[D]at h;omega
   .simp only[L]at h;omega
 have aaC:∀i d,aR[i]?=some d->au z.w.heap z.C0 (cvs.getD i undef) d:=fun i d hi=>(by rw[wq,HV];exact(jV i d hi).mono (fun b _ hlt=>hold b hlt) (fun b hb hc=>by
  obtain h|h|h|h:=hc
  .exact .inl h
  .simp only[D]at h;omega
  .simp only[L]at h;omega
  .exact NW b h))
 have hGz:∀q∈G0,z.w.heap[q.1]?=some q.2:=fun q hq=>by
  obtain⟨g1,g2⟩:=B.hG q (by rw[hB.2.2];exact hq);have hlt:=dK g1;rw[wq];exact(hold _ (by omega)).trans ((hs.frame _ hlt g2).trans g1)
 have nZ:=hit.2 z hz cvs bh aaC hJ0 hGz;rw[qa,wq]at nZ;simp only[HW,NY]at nZ;refine⟨L,[wu D],W1,{ target:=.fn (.func f) cvs,args:=#[.func (.yield L) #[] #[]] },W1,f,#[.func (.yield L) #[] #[]]++cvs,W1,?_,?_,fun _ _=>trivial,?_,fun nY=>by simp[vO]at nY,?_⟩
 .rw[<-ox];exact run_enterLoop_outer _ _ _ _ _
 .simp only[resolve,hval];simp[go_sem]
 .simp[invoke,go_sem,hit.1]
 have qe:CallsIn (Fw none) (0-1) P f (#[.func (.yield L) #[] #[]]++cvs) W1 _:=nZ;refine qe.mono ?_;rintro e W2 ⟨⟨v,rfl⟩,C,X',hq⟩
 have key:∀st pe s',RB st pe X' W2->SS B a.tmps D L C X' W2 s'->∃W4 B5 β5,W4=W2.putObj L (.loop { state:=.exhausted,pending:=pe,fn,tmps:=a.tmps,params:=ps.toArray,assign,body,defers:=D })∧CI B0 B5 ([wu D]++a.defers)∧(⟨n0,none,G0,U0⟩:Cf).fits B5∧aj B5 β5 s' a.tmps W4:=by
  rintro st pe s' ⟨h1,h2,h3,h4⟩ ⟨β',B',hE,hH,hO,hA,hC,fC⟩;have A6:∀b,b≠L->(W2.putObj L (.loop { state:=.exhausted,pending:=pe,fn,tmps:=a.tmps,params:=ps.toArray,assign,body,defers:=D })).heap[b]?=W2.heap[b]?:=fun b hb=>World.putObj_heap_other hb;have hlt:∀b,b<B.H0.size->b≠L:=fun b hb=>by simp only[L];omega
  have A3:(W2.putObj L (.loop { state:=.exhausted,pending:=pe,fn,tmps:=a.tmps,params:=ps.toArray,assign,body,defers:=D })).heap.size=W2.heap.size:=by simp
  generalize hW4:W2.putObj L (.loop { state:=.exhausted,pending:=pe,fn,tmps:=a.tmps,params:=ps.toArray,assign,body,defers:=D })=W4 at A6 A3;have yr:dy W4=dy W2:=by rw[<-hW4];rfl
  have hG5:∀q∈B'.G,W4.heap[q.1]?=some q.2∧¬dh s' β' q.1:=fun q hq=>by
   have g0:=dK (B.hG q (by rw[<-hE.G];exact hq)).1;have g1:=B'.hG q hq;exact⟨(A6 _ (hlt _ g0)).trans (by rw[<-hH];exact g1.1),fun hb=>g1.2 ((hO _).2 hb)⟩
  let B5:Base:={ n:=B'.n,io:=B'.io,G:=B'.G,H0:=W4.heap,O0:=dh s' β',A:=B'.A,U0:=B'.U0,β0:=B'.β0,hA:=fun b hb=>by have:=B'.hA b hb;rw[hH]at this;omega,hG:=hG5 }
  have wy:ov B B5:=by
   refine⟨hE.n,hE.io,hE.G,hE.U0,hE.β0,by show B.H0.size<=W4.heap.size;omega,fun b hb ho=>?_,fun b hb ho=>hE.O0 b hb ((hO b).2 ho),hE.A⟩;show W4.heap[b]?=_;rw[A6 b (hlt b hb),<-hH];exact hE.frame b hb ho
  refine⟨W4,B5,β',rfl,⟨HU.ext.trans wy,?_⟩,⟨wy.n.trans hB.1,wy.U0.trans hB.2.1,wy.G.trans hB.2.2⟩,?_⟩
  .obtain⟨Ds,e1,e2,e3⟩:=HU.mark;have A4:B'.A D:=(hA D).2 (.inr (.inr (.inl rfl)));refine⟨D::Ds,by rw[ak,e1];rfl,ai3.2 ⟨fun hm=>?_,e2⟩,fun D' wx=>?_⟩
   .have:=dK (e3 D hm).1;simp only[D]at this;omega
   .rcases ah6.1 wx with rfl|hm
    .refine⟨(A6 D (by simp only[D,L];omega)).trans h2,A4,aix HU.ext.size hBz,fun ho=>(fC.nr ho).2.1 A4⟩
    .obtain⟨f1,f2,f3,f4⟩:=e3 D' hm;have hl:=dK f1;exact⟨(wy.frame D' hl f4).trans f1,wy.A D' f2,f3,fun ho=>f4 (wy.O0 D' hl ho)⟩
  .exact fC.mv rfl (yr.trans fC.io) (ain _) (fun _ _ _=>rfl) (by omega) (fun b hb hn=>A6 b (fun e=>hn (e▸(hA L).2 (.inr (.inr (.inr rfl)))))) (fun b _ h=>h) (fun p k hp hk=>.inr ⟨p,k,hp,hk,rfl⟩) fC.us fC.stay
 obtain⟨h1,x,hS⟩|⟨n,c,s',h1,hj,hS⟩:=hq
 .obtain⟨W4,B5,β5,e4,Dw,Dx,yu⟩:=key _ _ _ h1 hS;refine⟨none,W4,?_,?_⟩
  .rw[e4];exact run_endLoop h1.1 (by simp)
  .exact hd x B5 Dx _ β5 { a with defers:=[wu D]++a.defers } W4 rfl Dw yu
 .obtain⟨W4,B5,β5,e4,Dw,Dx,yu⟩:=key _ _ _ h1 hS;refine⟨some c,W4,?_,?_⟩
  .rw[e4];exact run_endLoop h1.1 (by simp)
  .rcases hj with⟨i,rfl,hy⟩|⟨rfl,hy⟩
   .exact wpIn_exit (wm (a:={ a with defers:=[wu D]++a.defers }) Dx Dw rfl hy yu)
   .exact wpIn_ret (wm (a:={ a with defers:=[wu D]++a.defers }) Dx Dw rfl hy yu)
def RH(B0:Base)(Q:AV->List (Name×Ob)->Prop)(e:Ending)(w:World):Prop:=∃v r ae u' β',e=.returned v∧Q r ae∧aj { B0 with n:=1 } β' (mk [(0,r)] ae u') #[v] w
def ΦR(P:Program)(fn:Func)(B0:Base)(Q:AV->List (Name×Ob)->Prop):Exit->Act->World->Prop:=bodyPostM Fence.wide 0 P fn (RH B0 Q)
theorem marks{fn:Func}{tmps:Array Value}{R:Ending->World->Prop}:∀(Ds:List Nat) (w:World),Ds.Nodup->(∀D∈Ds,w.heap[D]?=some (.deferred (some []))) ->
  (∀w',w'.heap.size=w.heap.size->dy w'=dy w->(∀b,b∉Ds->w'.heap[b]?=w.heap[b]?)->∃v,(results fn tmps).run P w'=.ok v w'∧R (.returned v) w')->LeavesInM Fence.wide 0 P fn tmps R (Ds.map wu) .returning w
 |[],w,_,_,h=>h w rfl rfl (fun _ _=>rfl)
 |D::Ds,w,hn,hd,h=>by
   obtain⟨h1,h2⟩:=ai3.1 hn;have hD:=hd D ah0;refine⟨by simp,.inl ⟨D,_,rfl,run_takeDeferred hD,marks Ds _ h2 (fun D' wx=>?_) (fun w' z1 z2 z3=>?_)⟩⟩
   .have aJ:D'≠D:=fun e=>h1 (e▸wx);exact(World.putObj_heap_other aJ).trans (hd D' (ah8 _ wx))
   .refine h w' (by rw[z1];simp) (z2.trans rfl) (fun b hb=>?_);rw[z3 b (fun hm=>hb (ah8 _ hm))];have aJ:b≠D:=fun e=>hb (e▸ah0);exact World.putObj_heap_other aJ
theorem CI.back{B0 B:Base}{ds:List Deferred}{β:Name->Option aU}{s:St}{tm:Array Value}{w:World}(h:CI B0 B ds)(hs:aj B β s tm w){fn:Func}{R:Ending->World->Prop}
  (hR:∀w',aj B0 β s tm w'->∃v,(results fn tm).run P w'=.ok v w'∧R (.returned v) w'):LeavesInM Fence.wide 0 P fn tm R ds .returning w:=by
 obtain⟨Ds,rfl,hn,hd⟩:=h.mark;refine marks Ds w hn (fun D hD=>?_) (fun w' z1 z2 z3=>hR w' ?_)
 .obtain⟨f1,f2,f3,f4⟩:=hd D hD;exact(hs.frame D (dK f1) f4).trans f1
 .have hz:=h.ext.size;have pd:=hs.size;refine hs.mv h.ext.n.symm (z2.trans (hs.io.trans h.ext.io)) (by omega) (fun b hb ho=>?_) (by omega) (fun b hb F8=>z3 b (fun hm=>F8 (hd b hm).2.1)) (fun b _ hb=>h.ext.A b hb) (fun p k hp hk=>?_) (by rw[<-h.ext.U0];exact hs.us) (by rw[<-h.ext.U0,<-h.ext.β0];exact hs.stay)
  .rw[z3 b (fun hm=>by have:=(hd b hm).2.2.1;omega),hs.frame b (by omega) (fun hc=>ho (h.ext.O0 b hb hc))];exact h.ext.frame b hb ho
  .rcases(hs.blocks p k hp hk).2.2 with g|g
   .exact .inl (by omega)
   .rcases aiG k.b B0.H0.size with hlt|cy
    .exact .inr (h.ext.O0 _ hlt g)
    .exact .inl cy
theorem aaD{B:Base}{β:Name->Option aU}{s:St}{tm:Array Value}{w:World}{v:Value}{x:AV}(bm:aj B β s tm w)(hv:VR w.heap (s.own B.A β) s.used s.hp β v x):aj { B with n:=1 } β (oR s x) #[v] w:=by
 refine { bE:=rfl,io:=bm.io,size:=bm.size,frame:=bm.frame,slots:=fun t=>?_,aO:=bm.aO,blocks:=bm.blocks,inj:=bm.inj,us:=bm.us,stay:=bm.stay };show VR w.heap (s.own B.A β) s.used s.hp β _ (if t=0 then x else .un);by_cases ht:t=0
 .subst ht;rw[if_pos rfl];exact hv
 .rw[if_neg ht];exact .un _
theorem N0{B0:Base}{fn:Func}{Q:AV->Prop}{s:St}{e:Exit}(he:e=.ret∨e=.normal)(hu:B0.U0=[])(h:pz P fn.results.toList Q .ret s):o9 cf (ΦR P fn { B0 with n:=1 } fun r ae=>Q r∧r.bn []=true∧ae=[]) (CI B0) e s:=by
 intro B hB ds β a w ak hc hs
 have:LeavesInM Fence.wide 0 P fn a.tmps (RH { B0 with n:=1 } fun r ae=>Q r∧r.bn []=true∧ae=[]) a.defers .returning w:=by
  rw[ak];refine hc.back hs (fun w' bc=>?_);obtain⟨l,v,⟨L,hL,de,hQ⟩,hr,hv⟩:=Gb bc fn h;obtain⟨s2,br,lS⟩:=GQ L _ (aaD bc hv) (GR (eK l) L s _ rfl hL)
  have hle:cF ([]:List Nat) id s2 [(0,l4 L (eK l))] [] []:=by
   refine⟨⟨⟨?_,de⟩,trivial⟩,trivial,trivial,rfl,trivial⟩;rw[AV.lX id (fun _=>rfl),lS 0];rfl
  obtain⟨β2,gQ,_⟩:=br.le (τ:=id) (by show Le B0.U0 id _ _;rw[hu];exact hle.le);exact⟨v,hr,v,_,_,_,β2,rfl,⟨hQ,de,rfl⟩,gQ⟩
 rcases he with rfl|rfl<;>exact this
theorem N1{G:List (Nat×Obj)}{f:FuncId}{fn:Func}{c:Code}{args:List AV}{hp:List (Name×Ob)}{u:List Nat}{Q:AV->List (Name×Ob)->Prop}(hf:P.funcs[f]?=some fn)(hb:fn.body=some c)
  (eI:(fn.name == "runtime.NumGoroutine")=false) (hn:args.length<=fn.ntmps)
  (h:∀B0:Base,B0.U0=u->ef P ⟨fn.ntmps,none,G,u⟩ (ΦR P fn { B0 with n:=1 } Q) (CI B0) [.code c] (mk (dM 0 args) hp u)):bA P G f args hp u Q:=by
 refine⟨ra hf hb eI,fun B β vs w h1 h2 h3 h4 hs=>?_⟩;have bh:vs.size=args.length:=hs.bE.trans h1
 have bc:aj { B with n:=fn.ntmps } β (mk (dM 0 args) hp u) (vs++Array.replicate (fn.ntmps-vs.size) undef) w:=by
  refine { hs with bE:=by simp;omega,slots:=fun t=>?_ };have:=hs.slots t;by_cases ht:t<vs.size
  .have e:(vs++Array.replicate (fn.ntmps-vs.size) undef).getD t undef=vs.getD t undef:=by
    simp[ahY,aiN,ht]
   rw[e];exact this
  .have e:(mk (dM 0 args) hp u).fr t=.un:=by
    rw[kV,qc,if_pos (aie _),aiE (by omega)];rfl
   rw[e];exact .un _
 have aK:=h { B with n:=fn.ntmps } h3 { B with n:=fn.ntmps } ⟨rfl,h3,h4⟩ [] β { tmps:=vs++Array.replicate (fn.ntmps-vs.size) undef,defers:=[] } w rfl ⟨.refl _,[],rfl,akk,fun D hD=>by cases hD⟩ bc;exact callsIn_of_wp_marks hf hb trivial aK
theorem aaE{s0:St}{fr:List (Nat×AV)}{hp:List (Name×Ob)}{u:List Nat}(h:∀q∈hp,bX s0.used q.1=true->∃o,s0.hp q.1=some o∧o.like q.2):LK s0 (mk fr hp u):=by
 intro p o' hn ho;refine h _ (zT ho) ?_;obtain⟨a,t,rfl,ha⟩:=hn;simpa[bX]using ha
end
end Go.Ab

namespace Go.Ab
section
variable {P:Program}
theorem bA.fB{G:List (Nat×Obj)}{f:FuncId}{args:List AV}{hp:List (Name×Ob)}{u:List Nat}{Q Q':AV->List (Name×Ob)->Prop}(h:bA P G f args hp u Q)(p:Name)(x:D)
  (hQ:∀r ae,Q r ae->(mk [] ae []).hp p=some (.box (x.cells.map .d))∧(x.cells.all D.ct)=true∧Q' (r.cj p x) ((jb ae p).map fun q=>(q.1,q.2.cj p x))):bA P G f args hp u Q':=by
 refine⟨h.1,fun B β vs W h1 h2 h3 h4 h5=>?_⟩;refine(h.2 B β vs W h1 h2 h3 h4 h5).mono ?_;rintro e w' ⟨v,r,ae,u',β',he,hq,hs⟩;obtain⟨g1,g2,g3⟩:=hQ r ae hq;have:=hs.cj (p:=p) (d:=x) g1 (aio.1 g2);rw[MR]at this;exact⟨v,_,_,_,β',he,g3,this⟩
theorem bA.fA{G:List (Nat×Obj)}{f:FuncId}{args:List AV}{hp:List (Name×Ob)}{u:List Nat}{Q Q':AV->List (Name×Ob)->Prop}(h:bA P G f args hp u Q)(p:Name)
  (hQ:∀r ae,Q r ae->∃w xs,(mk [] ae []).hp p=some (.arr w xs)∧Q' (r.cY p w xs) ((jb ae p).map fun q=>(q.1,q.2.cY p w xs))):bA P G f args hp u Q':=by
 refine⟨h.1,fun B β vs W h1 h2 h3 h4 h5=>?_⟩;refine(h.2 B β vs W h1 h2 h3 h4 h5).mono ?_;rintro e w' ⟨v,r,ae,u',β',he,hq,hs⟩;obtain⟨w,xs,g1,g3⟩:=hQ r ae hq;have:=hs.fW (p:=p) g1;rw[Nv]at this;exact⟨v,_,_,_,β',he,g3,this⟩
theorem bA.aaF{G:List (Nat×Obj)}{f:FuncId}{ds:List D}{Q:AV->List (Name×Ob)->Prop}{Q':AV->Prop}(h:bA P G f (ds.map .d) [] [] Q)(hQ:∀r ae,Q r ae->(Q' r∧r.bn []=true)∧ae=[]):HP P G f ds Q' :=
 h.mono fun r ae hq=>⟨(hQ r ae hq).1.1,(hQ r ae hq).1.2,(hQ r ae hq).2⟩
end
section
variable {P:Program}{cf:Cf}{Q:Exit->St->Prop}{s:St}{k:List It}
theorem jh(E:bB P cf Q){d:Nat}{fv:Operand}{args:Array Operand}{at':Array TypeId}{ty:TypeId}{pos:String}{af:Array Edge}
  {f:FuncId} {aR:List AV} (σ:Name->Name) (cW:List AV) (chp:List (Name×Ob)) (cu:List Nat) {Q0:AV->List (Name×Ob)->Prop} (hc:bA P cf.G f cW chp cu Q0)
  (bd:ev s fv=.aW f aR) (dC:args.toList.map (ev s)++aR=bZ σ cW) (hd:d<cf.n∧d∉s.used) (oS:dU cu cW=true) (jZ:lU σ cu s chp) (lV:nW σ chp)
  (hk:∀r ae,Q0 r ae->nX chp ae∧E.run k (ja s σ d chp ae r)) :
  E.aX { dst:=some d,op:=.call { callee:=.value fv,args:=args,argTypes:=at' },type:=ty,pos:=pos,after:=af,guard:=none } s k .no:=by
 rw[gx];refine Gi d σ cW chp cu Q0 bd dC oS hd.2 (fun t ht=>?_) jZ lV hc fun r ae hr=>?_
 .obtain rfl:=ais ht;exact⟨hd.1,rfl⟩
 .obtain⟨h1,h2⟩:=hk r ae hr;exact⟨h1,by rw[<-E.run_eq];exact h2⟩
theorem Dy(E:bB P cf Q){d:Option Nat}{op:Op}{ty:TypeId}{ps:String}{af:Array Edge}(p:Name)(j n:Nat)(w:W)(cs:List AV)(hp:s.hp p=some (.box cs))(hj:cs[j]?=some (.d .ai))(hn:n∉s.used){s':St}(he:(s.add n (.arr w [])).set p (some (.box (cs.set j (.vw [n] 0 0))))=s')
  (h:E.aX { dst:=d,op:=op,type:=ty,pos:=ps,after:=af,guard:=none } s' k (cR P.ti cf.n op d s')):E.aX { dst:=d,op:=op,type:=ty,pos:=ps,after:=af,guard:=none } s k .no:=by
 subst he;rw[gx];rw[E.eE]at h;have h0:=sG (o:={ dst:=d,op:=op,type:=ty,pos:=ps,after:=af,guard:=none }) rfl h;intro B hB ds β a w' ak hs;have h1:=hs.qY hn none w;have kx:p≠[n]:=ku (hs.aO p _ hp).1 hn;refine h0 B hB ds _ a w' ak (h1.Dj (cs:=cs) (by simpa[St.add,aP,kx]using hp) (by simp) fun v i x x' hx aV hv=>?_);by_cases e:j=i
 .subst e;rw[hj]at hx;cases hx;rw[ajm]at aV;simp at aV;obtain⟨_,rfl⟩:=aV;exact wc (w:=w) ⟨n,[],rfl,ah0⟩ (by simp[St.add,aP]) hv
 .rw[aiy e,hx]at aV;cases aV;exact hv
end
section
variable {P:Program}{cf:Cf}{Q:Exit->St->Prop}{s:St}{k:List It}{κ:Type}[DecidableEq κ]{ke:κ->D}{kv:κ->Value}
theorem aaG{xt kt et:Nat}{x y:Operand}{co:Bool}{dst:Option Nat}{ty:TypeId}{pos:String}{af:Array Edge}{gg:Option (Nat×Bool)}(aZ:Nat)(bs:List Nat)(ms:List (κ×D))(key:κ)(z:D)(hm:(P.ti xt).k=.map kt et)(K:j3 P kt ke kv)(hz:qf P et=some z)
  (hx:ev s x=.d (wj aZ bs (bT ke ms))) (hy:ev s y=.d (ke key)) (dD:∀t∈dst,t<cf.n) (hk:run P cf k Q (s.jt dst (vW z co (fP ms key)))) :
  fS P cf { dst:=dst,op:=.lookup xt x y co,type:=ty,pos:=pos,after:=af,guard:=gg } s k Q:=by
 intro B hB ds β a w ak h Q';have hv:=h.ev x;rw[hx]at hv;have hv:=hv.cU;have jN:=h.ev y;rw[hy]at jN;have jN:=K.val jN.cU;generalize hval:a.eval x=v at hv;unfold wj at hv
 cases hv with
 |nM b _ aS _ _ _ hh bH bh kT nt hvv =>
 have gR:∀(i:Nat) (q:D×D),(bT ke ms)[i]?=some q->∃en:MapEntry,aS[i]?=some en∧au w.heap (s.own B.A β) en.key q.1∧au w.heap (s.own B.A β) en.val q.2:=by
  intro i q hi;have hlt:i<(bT ke ms).length:=(ah3.1 hi).1;have ye:i<aS.size:=by have:=bh.1;simp at this;omega
  refine⟨aS[i],by simp[ye],?_,?_⟩
  .have:=nt i q.1 (by rw[aii,hi];rfl);simpa[ahY,ye]using this
  .have:=hvv i q.2 (by rw[aii,hi];rfl);simpa[ahY,ye]using this
 obtain⟨zv,yd,qg⟩:=CT hz;have qg:=qg w.heap (s.own B.A β);have gS:=GV K (by have:=bh.1;simpa using this) gR;have hf:=K.find key aS.toList _ w gS
 have key1:∃r,VR w.heap (s.own B.A β) s.used s.hp β r (vW z co (fP ms key))∧(execOp a.eval { dst:=dst,op:=.lookup xt x y co,type:=ty,pos:=pos,after:=af,guard:=gg }).run P w=.ok (.value r) w:=by
  cases hi:eU (ms.map (·.1)) key with
  |none =>
    obtain⟨h1,_⟩:=CQ (d:=z) hi;rw[hi]at hf;refine⟨if co then .tuple #[zv,.bool false]else zv,?_,?_⟩
    .rw[h1];cases co
     .exact .d _ _ qg
     .refine .aA _ _ rfl fun i y hi=>?_
      match i,hi with
      |0,hi=>obtain rfl:=ais hi;exact .d _ _ qg
      |1,hi=>obtain rfl:=ais hi;exact .d _ _ (.bool _)
    .simp only[execOp,hval,jN,Instr.lookup,Sem.run_bind,run_underlying (p6 hm),Result.andThen_ok,MapKept.run_getObj_map hh,K.fk,Sem.run_pure];rw[hf];simp[yd]
  |some i =>
    obtain⟨e,h0,h1,_⟩:=CS (d:=z) hi;rw[hi]at hf;obtain⟨en,he,_,cD⟩:=gR i (ke key,e) (by simp[bT,h0]);have iK:aS.toList[i]?=some en:=by simpa using he
    refine⟨if co then .tuple #[en.val,.bool true]else en.val,?_,?_⟩
    .rw[h1];cases co
     .exact .d _ _ cD
     .refine .aA _ _ rfl fun i y hi=>?_
      match i,hi with
      |0,hi=>obtain rfl:=ais hi;exact .d _ _ cD
      |1,hi=>obtain rfl:=ais hi;exact .d _ _ (.bool _)
    .simp only[execOp,hval,jN,Instr.lookup,Sem.run_bind,run_underlying (p6 hm),Result.andThen_ok,MapKept.run_getObj_map hh,K.fk,Sem.run_pure];rw[hf];simp[he]
 obtain⟨r,sF,xV⟩:=key1;refine iZ (by simp) xV (.inl rfl) ⟨by cases dst<;>exact ak,_,β,eT hk,?_⟩
 cases dst with
 |none=>exact h
 |some t=>exact h.put (by rw[hB.1];exact dD t rfl) sF
theorem HX(E:bB P cf Q){xt kt et:Nat}{x y:Operand}{co:Bool}{dst:Option Nat}{ty:TypeId}{pos:String}{af:Array Edge}(aZ:Nat)(bs:List Nat)(ms:List (κ×D))(key:κ)(z:D)(hm:(P.ti xt).k=.map kt et)(K:j3 P kt ke kv)(hz:qf P et=some z)
  (hx:ev s x=.d (wj aZ bs (bT ke ms))) (hy:ev s y=.d (ke key)) (dD:∀t∈dst,t<cf.n) (hk:E.run k (s.jt dst (vW z co (fP ms key)))) :
  E.aX { dst:=dst,op:=.lookup xt x y co,type:=ty,pos:=pos,after:=af,guard:=none } s k .no:=by
 rw[gx];rw[E.run_eq]at hk;exact aaG aZ bs ms key z hm K hz hx hy dD hk
end
section
variable {P:Program}{cf:Cf}{Φ:Exit->Act->World->Prop}{I:Base->List Deferred->Prop}{k:List It}{s:St}
theorem aaH(p:Name)(j n:Nat)(w:W)(cs:List AV)(hp:s.hp p=some (.box cs))(hj:cs[j]?=some (.d .ai))(hn:n∉s.used)(h:ef P cf Φ I k ((s.add n (.arr w [])).set p (some (.box (cs.set j (.vw [n] 0 0)))))):ef P cf Φ I k s:=by
 intro B hB ds β a w' ak hi hs;have h1:=hs.qY hn none w;have kx:p≠[n]:=ku (hs.aO p _ hp).1 hn;refine h B hB ds _ a w' ak hi (h1.Dj (cs:=cs) (by simpa[St.add,aP,kx]using hp) (by simp) fun v i x x' hx aV hv=>?_);by_cases e:j=i
 .subst e;rw[hj]at hx;cases hx;rw[ajm]at aV;simp at aV;obtain⟨_,rfl⟩:=aV;exact wc (w:=w) ⟨n,[],rfl,ah0⟩ (by simp[St.add,aP]) hv
 .rw[aiy e,hx]at aV;cases aV;exact hv
theorem N2(p:Name)(x:D)(hp:s.hp p=some (.box (x.cells.map .d)))(ez:(x.cells.all D.ct)=true)(h:ef P cf Φ I k (s.cj p x)):ef P cf Φ I k s :=
 fun B hB ds β a w' ak hi hs=>h B hB ds β a w' ak hi (hs.cj hp (aio.1 ez))
def N3:Option Ob->Ob->Prop
 |some o,o'=>o.like o'
 |none,_=>False
theorem aaI(o o':Ob):N3 (some o) o'=o.like o':=rfl
def Dz(s0:St):List (Name×Ob)->Prop
 |[]=>True
 |q::r=>(bX s0.used q.1=true->N3 (s0.hp q.1) q.2)∧Dz s0 r
theorem N4{s0:St}:∀{l:List (Name×Ob)},Dz s0 l->∀q∈l,bX s0.used q.1=true->∃o,s0.hp q.1=some o∧o.like q.2
 |[],_,q,h,_=>by cases h
 |_::r,h,q,hq,hn=>by
   rcases ah6.1 hq with rfl|hq
   .have:=h.1 hn
    cases ho:s0.hp q.1 with
    |none=>rw[ho]at this;exact this.elim
    |some o=>rw[ho]at this;exact⟨o,rfl,this⟩
   .exact N4 h.2 q hq hn
theorem N5{B0:Base}{X:Type}{Iv:X->St}{jy fr:List (Nat×AV)}{jW hp:List (Name×Ob)}{u0 u:List Nat}{N6:List (Nat×AV)}{ae:List (Name×Ob)}{u':List Nat}(hl:Dz (mk jy jW u0) hp)(y:X)(τ:Name->Name)(hy:Iv y=mk N6 ae u')(hle:cF cf.U τ (mk jy hp u) N6 ae u') :
 rq P cf Φ B0 k Iv (mk jy jW u0) .normal (mk fr hp u):=⟨aaE (N4 hl),y,τ,by rw[hy];exact hle.le⟩
theorem aaJ(s:St)(t:Nat)(ts:List Nat)(d:D)(ds:List D):ry s (t::ts) (d::ds)=ry (s.put t (.d d)) ts ds:=rfl
theorem aaK(s:St)(ds:List D):ry s [] ds=s:=by cases ds<;>rfl
theorem aaL(a b:Nat)(l m:List Nat):((a::l) == (b::m))=(a == b&&l == m):=rfl
theorem aaM:(([]:List Nat) == [])=true:=rfl
theorem aaN(b:Nat)(m:List Nat):(([]:List Nat) == b::m)=false:=rfl
theorem aaO(b:Nat)(m:List Nat):(b::m == ([]:List Nat))=false:=rfl
attribute [go_sem] aaL aaM aaN aaO Bool.false_and Bool.and_false Bool.true_and Bool.and_true Bool.or_self Bool.and_self zo Dz aaI aaJ aaK
end
end Go.Ab

namespace Go.Ab
section
variable {P:Program}{cf:Cf}{ops opsP:Array Oper}
theorem aaP{ro:Option Nat}{Q:Exit->Act->World->Prop}{m:Nat}(uW:∀i o,ops[i]?=some o->∀e∈o.after,Region.binds .any e=true->e.on<i)(sN:∀j i,m<=j->j<ops.size->i<j->o0 ops j i) :
  ∀(d j fuel:Nat) (listed:Array Bool) (a:Act) (w:World),j+d=ops.size->m<=j->d<=fuel->Up ops listed (List.range j)->wpOpsIn (Fw ro) 0 P ops Q (List.range' j d) a w->wpAnyIn (Fw ro) 0 P .any ops Q fuel listed a w:=by
 intro d
 induction d with
 |zero =>
   intro j fuel listed a w hj hmj hf hu h
   have hr:Region.ready .any ops listed=[]:=by
    apply ajZ.2;intro i hi;obtain⟨h0,o,ho,_⟩:=mem_ready.1 hi
    have hlt:i<ops.size:=by
     rcases aiG i ops.size with hlt|cy
     .exact hlt
     .rw[aiM cy]at ho;cases ho
    have h3:=(hu.mem i hlt).2 (aiq.2 (by omega));simp[h3]at h0
   cases fuel with
   |zero=>exact⟨hr,h⟩
   |succ fuel=>exact⟨fun _=>h,fun i hi=>by rw[hr]at hi;cases hi⟩
 |succ d ih =>
   intro j fuel listed a w hj hmj hf hu h
   cases fuel with
   |zero=>omega
   |succ fuel =>
     have fU:j<ops.size:=by omega
     obtain⟨o,ho⟩:∃o,ops[j]?=some o:=⟨ops[j],by simp⟩
     have N7:j∈Region.ready .any ops listed:=by
      rw[mem_ready];refine⟨?_,o,ho,fun e he hb=>?_⟩
      .have:=hu.mem j fU;have hl:j<listed.size:=by rw[hu.size];exact fU
       cases hv:listed[j]with
       |true =>
         have:=aiq.1 (this.1 (by simp[hl,hv]));omega
       |false=>simp[hl,hv]
      .have h2:=uW j o ho e he hb;have h3:=(hu.mem e.on (by omega)).2 (aiq.2 h2);simp[h3]
     refine⟨fun hr=>(by rw[hr]at N7;cases N7),fun i hi=>?_⟩;obtain⟨h0,oi,DA,hw⟩:=mem_ready.1 hi
     have hlt:i<ops.size:=by
      rcases aiG i ops.size with hlt|cy
      .exact hlt
      .rw[aiM cy]at DA;cases DA
     have dW:i=j:=by
      rcases Nat.lt_trichotomy i j with g|g|g
      .have h3:=(hu.mem i hlt).2 (aiq.2 g);simp[h3]at h0
      .exact g
      .have oU:∀e∈oi.after,Region.binds .any e=true->e.on∈List.range j:=fun e he hb=>by
        have h1:=hw e he hb;have h2:=uW i oi DA e he hb;refine(hu.mem e.on (by omega)).1 ?_;have hl:e.on<listed.size:=by rw[hu.size];omega
        simp[hl]at h1;simp[hl,h1]
       have:=aiq.1 (Hf hu DA oU (sN i j (by omega) hlt g));omega
     subst dW;rw[List.range'_succ,wpOpsIn_cons]at h;refine wpOpIn_mono (fun a' w' h'=>ih (i+1) fuel _ a' w' (by omega) (by omega) (by omega) ?_ h') h;refine⟨by simpa using hu.size,fun x hx=>?_,fun x hx=>by have:=aiq.1 hx;omega,fun x hx o' aM e he hb=>?_⟩
     .have hl:i<listed.size:=by rw[hu.size];exact hlt
      by_cases dW:i=x
      .subst dW;simp[hl]
      .rw[ajw dW,hu.mem x hx,aiq,aiq];omega
     .have h2:=uW x o' aM e he hb;have:=aiq.1 hx;exact aiq.2 (by omega)
variable {ns:Ns}{xs:Nat->AV}{fs:Nat->Fp}{s:St}
theorem aaQ(hq:fk opsP ns=true)(iY:∀i,i<opsP.size->ns.getD i ([],[],[])=iL (fs i)){B:Base}(hB:cf.fits B){ds:List Deferred}{Q:Exit->Act->World->Prop}
  (ahF:opsP.size<ops.size) (vI:∀i,i<opsP.size->ops[i]?=opsP[i]?) (o8:∀(i:Nat) (o:Oper),opsP[i]?=some o->o.guard=none)
  (uW:∀i o,ops[i]?=some o->∀e∈o.after,Region.binds .any e=true->e.on<i) (sN:∀j i,opsP.size<=j->j<ops.size->i<j->o0 ops j i)
  (hall:∀j o,opsP[j]?=some o->v8 P cf opsP j o (iq opsP xs fs (List.range' 0 (j-0)) s) (xs j) (fs j))
  (hK:∀β a w,a.defers=ds->aj B β (iq opsP xs fs (List.range' 0 opsP.size) s) a.tmps w->wpOpsIn (Fw cf.ro) 0 P ops Q (List.range' opsP.size (ops.size-opsP.size)) a w) :
  ∀(fuel:Nat) (listed A7:Array Bool) (L:List Nat) (s':St) (β:Name->Option aU) (a:Act) (w:World),Up ops listed L->Up opsP A7 L->L.Nodup->ops.size<=fuel+L.length->a.defers=ds->qm opsP xs fs s L s'->aj B β s' a.tmps w ->
   wpAnyIn (Fw cf.ro) 0 P .any ops Q fuel listed a w:=by
 intro fuel
 induction fuel with
 |zero =>
   intro listed A7 L s' β a w hu oy hnd hn ak hL hs;have:=Ai opsP.size L hnd oy.lt;omega
 |succ fuel ih =>
   intro listed A7 L s' β a w hu oy hnd hn ak hL hs
   have full:(∀j,j<opsP.size->j∈L)->wpAnyIn (Fw cf.ro) 0 P .any ops Q (fuel+1) listed a w:=by
    intro vU;obtain⟨⟨e1,e2⟩,e3⟩:=MJ hq hL oy.lt vU;have h1:=hK β a w ak (hs.reuse e1.symm e2.symm e3);have sq:∀j,j∈L↔j<opsP.size:=fun j=>⟨oy.lt j,vU j⟩
    have hlen:=Ai opsP.size L hnd oy.lt;refine aaP uW sN (ops.size-opsP.size) opsP.size (fuel+1) listed a w (by omega) (ain _) (by omega) ?_ h1
    exact⟨hu.size,fun j hj=>by rw[hu.mem j hj,sq,aiq],fun j hj=>by have:=aiq.1 hj;omega,fun j hj o ho e he hb=>by
     have:=uW j o ho e he hb;have:=aiq.1 hj
     exact aiq.2 (by omega)⟩
   by_cases vU:∀j,j<opsP.size->j∈L
   .exact full vU
   have aaR:∃j,j<opsP.size∧j∉L:=by
    apply aja;intro h;exact vU fun j hj=>aja fun hn=>h ⟨j,hj,hn⟩
   obtain⟨j0,l0,N8⟩:=aaR;refine⟨fun hr=>?_,fun i hi=>?_⟩
   .exfalso
    have key:∀j,j<opsP.size->j∈L:=by
     intro j
     induction j using Nat.strongRecOn with
     |ind j oN =>
       intro hlt;apply aja;intro xX;have N9:j<ops.size:=by omega
       obtain⟨o,ho⟩:∃o,ops[j]?=some o:=⟨ops[j],by simp⟩
       have:j∈Region.ready .any ops listed:=by
        rw[mem_ready];refine⟨?_,o,ho,fun e he hb=>?_⟩
        .have:=hu.mem j N9;have hl:j<listed.size:=by rw[hu.size];exact N9
         cases hv:listed[j]with
         |true=>exact absurd (this.1 (by simp[hl,hv])) xX
         |false=>simp[hl,hv]
        .have h2:=uW j o ho e he hb;have h3:=(hu.mem e.on (by omega)).2 (oN e.on h2 (by omega));simp[h3]
       rw[hr]at this;cases this
    exact N8 (key j0 l0)
   .obtain⟨h0,o,ho,hw⟩:=mem_ready.1 hi
    have hlt:i<ops.size:=by
     rcases aiG i ops.size with hlt|cy
     .exact hlt
     .rw[aiM cy]at ho;cases ho
    have oT:i∉L:=fun h=>by
     have h3:=(hu.mem i hlt).2 h;simp[h3]at h0
    have oU:∀e∈o.after,Region.binds .any e=true->e.on∈L:=fun e he hb=>by
     have h1:=hw e he hb;have h2:=uW i o ho e he hb;refine(hu.mem e.on (by omega)).1 ?_;have hl:e.on<listed.size:=by rw[hu.size];omega
     simp[hl]at h1;simp[hl,h1]
    have HY:i<opsP.size:=by
     apply aja;intro cy;exact N8 (Hf hu ho oU (sN i j0 (by omega) hlt (by omega)))
    have wz:opsP[i]?=some o:=by rw[<-vI i HY];exact ho
    have hd:dV opsP i=o.dst:=by simp[dV,wz]
    have hg:=o8 i o wz
    have aaS:∀K a w,wpOpIn (Fw cf.ro) 0 P opsP Q i K a w->wpOpIn (Fw cf.ro) 0 P ops Q i K a w:=fun K a w h=>by
     simp only[wpOpIn,wz,ho,Region.wanted,hg,if_true]at h ⊢;exact h
    refine aaS _ _ _ (wpOpIn_mono (fun a' w' ⟨dB,β',bc⟩=>ih (listed.setIfInBounds i true) (A7.setIfInBounds i true) (L++[i]) _ β' a' w' ?_ ?_ ?_ ?_ dB (hd▸hL.snoc ?_) bc) ((hall i o wz).2 _ (MI hq iY oy hL wz oT oU (hall i o wz).1) B hB ds β a w ak hs Q))
    .refine⟨by simpa using hu.size,fun j hj=>?_,fun j hj=>?_,fun j hj o' aM e he hb=>?_⟩
     .have hl:j<listed.size:=by rw[hu.size];exact hj
      by_cases dW:i=j
      .subst dW;simp[hl]
      .rw[ajw dW,hu.mem j hj];simp[Ne.symm dW]
     .rcases ah1.1 hj with hj|hj
      .exact hu.lt j hj
      .rw[ahZ.1 hj];exact hlt
     .rcases ah1.1 hj with hj|hj
      .exact aif _ (hu.closed j hj o' aM e he hb)
      .rw[ahZ.1 hj,ho]at aM;cases aM;exact aif _ (oU e he hb)
    .refine⟨by simpa using oy.size,fun j hj=>?_,fun j hj=>?_,fun j hj o' aM e he hb=>?_⟩
     .have hl:j<A7.size:=by rw[oy.size];exact hj
      by_cases dW:i=j
      .subst dW;simp[hl]
      .rw[ajw dW,oy.mem j hj];simp[Ne.symm dW]
     .rcases ah1.1 hj with hj|hj
      .exact oy.lt j hj
      .rw[ahZ.1 hj];exact HY
     .rcases ah1.1 hj with hj|hj
      .exact aif _ (oy.closed j hj o' aM e he hb)
      .rw[ahZ.1 hj,wz]at aM;cases aM;exact aif _ (oU e he hb)
    .rw[aiZ];exact⟨hnd,by simp,fun x hx y hy=>by rw[ahZ.1 hy];rintro rfl;exact oT hx⟩
    .simp only[ah7,List.length_singleton];omega
    .intro k hk p o1 o2 h1 h2;have aJ:i≠k:=fun e=>oT (e▸hk);rcases Hh hq iY HY (oy.lt k hk) aJ h1 (.inr ⟨o2,h2⟩)with⟨h3,_⟩|⟨_,h4⟩
     .omega
     .exact absurd (C5 oy h4 hk) oT
def yw(ops:Array Oper)(m:Nat):Bool :=
 let A:=yi [] ops.toList
 ((List.range ops.size).all fun i=>match ops[i]? with
   |some o=>o.after.toList.all fun e=>!Region.binds .any e||decide (e.on<i)
   |none=>true) &&
 (List.range ops.size).all fun j=>decide (j<m)||(List.range j).all fun i=>(A.getD j []).contains i
theorem aaT{m:Nat}(h:yw ops m=true):∀i o,ops[i]?=some o->∀e∈o.after,Region.binds .any e=true->e.on<i:=by
 intro i o ho e he hb
 have hi:i<ops.size:=by
  rcases aiG i ops.size with hlt|cy
  .exact hlt
  .rw[aiM cy]at ho;cases ho
 simp only[yw,aia]at h;have h2:=aio.1 h.1 i (aiq.2 hi);simp only[ho]at h2;have h3:=aio.1 h2 e (aj9.2 he);simpa[hb]using h3
theorem aaU{m:Nat}(h:yw ops m=true):∀j i,m<=j->j<ops.size->i<j->o0 ops j i:=by
 intro j i hm hj hi;simp only[yw,aia]at h;have h2:=aio.1 h.2 j (aiq.2 hj);simp only[aiL,decide_eq_true_eq]at h2;have h3:=h2.resolve_left (by omega);have h4:=aio.1 h3 i (aiq.2 hi);exact He (ops:=ops) ops.toList [] (fun j=>by simp) (fun i k hk=>by simp at hk) _ _ (by simpa using h4)
theorem aaV{id:Nat}{l q:List Oper}{s:St}{k:List It}{Q:Exit->St->Prop}(hm:P.follows .mixedOrders=true)(sO:q≠[])(hg:(l.all fun o=>o.guard.isNone)=true)(ht:yw (l++q).toArray l.length=true)
  (h:il P cf l.toArray (fun s' ns=>fk l.toArray ns=true∧run P cf (.ops (l++q).toArray q::k) Q s') l s []):p4 P cf (.region id (l++q).toArray true) s k Q:=by
 obtain⟨xs,fs,⟨hq,hK⟩,hall⟩:=Hg (ops:=l.toArray) l 0 s [] (fun j=>by simp) h;intro B hB ds β a w ak hs;refine wpIn_region_any hm ?_
 have iY:∀i,i<l.toArray.size->(([]:Ns)++(List.range' 0 l.length).map fun j=>iL (fs j)).getD i ([],[],[])=iL (fs i):=by
  intro i hi;have hi:i<l.length:=by simpa using hi
  simp[hi]
 have hql:0<q.length:=ajO.2 sO;refine aaQ (ops:=(l++q).toArray) (opsP:=l.toArray) hq iY hB (ds:=ds) (by simp;omega) (fun i hi=>?_) (fun i o ho=>?_) (aaT ht) (by simpa using aaU ht) (fun j o ho=>hall j o (aie _) ho) (fun β a w ak hs=>?_) _ _ (Array.replicate l.toArray.size false) [] s β a _ ?_ ?_ akk (by simp) ak (.nil _ _ _) (hs.xy rfl rfl)
 .have hi:i<l.length:=by simpa using hi
  simp[aih,hi]
 .have hi:i<l.length:=by
   have:=(ajH.1 ho).1;simpa using this
  have hm2:o∈l:=by
   have:l[i]?=some o:=by simpa using ho
   exact aiz this
  have:=aio.1 hg o hm2;simpa using this
 .refine eT hK B hB ds β a w ak (by simpa using hs) _ ?_;apply aiY;intro j;simp only[aii,ajK,ah7];by_cases hj:j<q.length
  .rw[List.getElem?_range' (by omega)];simp[hj]
  .simp[hj]
 .refine⟨by simp,fun j hj=>?_,by simp,by simp⟩;have hj:j<l.length+q.length:=by simpa using hj
  simp[hj]
 .refine⟨by simp,fun j hj=>?_,by simp,by simp⟩;have hj:j<l.length:=by simpa using hj
  simp[hj]
theorem Oa(n:Nat){id:Nat}{l p q:List Oper}{s:St}{k:List It}{Q:Exit->St->Prop}(hm:P.follows .mixedOrders=true)(E0:bB P cf Q)(mD:l.take n=p)(zJ:l.drop n=q)(sO:q.isEmpty=false)(hg:(p.all fun o=>o.guard.isNone)=true)(ht:yw l.toArray p.length=true)
  (h:∀E:lg P cf p.toArray (fun s' ns=>fk p.toArray ns=true∧E0.run (.ops l.toArray q::k) s'),E.run p s []):gw E0 (.region id l.toArray true) s k:=by
 have e0:p++q=l:=by rw[<-mD,<-zJ];exact ajJ n l
 have key:=aaV (P:=P) (cf:=cf) (id:=id) (l:=p) (q:=q) (s:=s) (k:=k) (Q:=Q) hm (by intro e;rw[e]at sO;cases sO) hg (by rw[e0];exact ht);rw[e0]at key;refine key ?_;have e:(fun s' ns=>fk p.toArray ns=true∧E0.run (.ops l.toArray q::k) s')=fun s' ns=>fk p.toArray ns=true∧run P cf (.ops l.toArray q::k) Q s':=by funext s' ns;rw[E0.run_eq]
 obtain⟨E⟩:=MK P cf p.toArray (fun s' ns=>fk p.toArray ns=true∧E0.run (.ops l.toArray q::k) s');have:=h E;rw[E.run_eq,e]at this;exact this
end
end Go.Ab

namespace Go.Ab
end Go.Ab

namespace Go.Ab
section
variable {P:Program}{cf:Cf}{Q:Exit->St->Prop}{s:St}{k:List It}{B:Base}{β:Name->Option aU}{tm:Array Value}{w:World}
theorem aj.aaW(h:aj B β s tm w){p:Name}{ob:Ob}{k:aU}(hp:s.hp p=some ob)(hk:β p=some k){w':World}(ic:dy w'=dy w)(bh:w'.heap.size=w.heap.size)(hw:∀b,b≠k.b->w'.heap[b]?=w.heap[b]?):aj B β (s.set p none) tm w':=by
 have dL:∀q o,(s.set p none).hp q=some o->q≠p∧s.hp q=some o:=by
  intro q o ho;by_cases e:q=p
  .subst e;simp[St.set,aP]at ho
  .exact⟨e,by simpa[St.set,aP,e]using ho⟩
 have aJ:∀q,(s.set p none).hp q≠none->s.hp q≠none:=by
  intro q hq e
  cases ho:(s.set p none).hp q with
  |none=>exact hq ho
  |some o=>rw[(dL q o ho).2]at e;cases e
 have hr:∀v d,au w.heap (s.own B.A β) v d->au w'.heap ((s.set p none).own B.A β) v d:=fun v d hd=>hd.mono (fun b hb _=>hw b fun e=>hb (.inr ⟨p,k,by rw[hp];simp,hk,e.symm⟩)) (by
  rintro b _ (hA|⟨q,k,hq,hk,e⟩)
  .exact .inl hA
  .exact .inr ⟨q,k,aJ q hq,hk,e⟩)
 have ah:∀q,nm s.used q->iG s.hp (s.set p none).hp β β q:=fun q _ o' aM=>⟨o',(dL q o' aM).2,Ob.mS _,rfl⟩
 refine { bE:=h.bE,io:=ic.trans h.io,size:=by rw[bh];exact h.size,frame:=fun b hb hn=>?_,slots:=fun i=>(h.slots i).mono hr (fun _ h=>h) ah,aO:=?_,blocks:=fun q k hq hk=>(by rw[bh];exact h.blocks q k (aJ q hq) hk), inj:=fun q q' k l hq cg hk hl e=>h.inj q q' k l (aJ q hq) (aJ q' cg) hk hl e,us:=h.us,stay:=h.stay }
 .rw[hw b ?_]
  .exact h.frame b hb hn
  .intro e;obtain⟨_,_,h3⟩:=h.blocks p k (by rw[hp];simp) hk;obtain h3|h3:=h3
   .omega
   .exact hn (e▸h3)
 .intro q o ho;obtain⟨hqp,aM⟩:=dL q o ho;obtain⟨h1,h2⟩:=h.aO q o aM;exact⟨h1,h2.mono hr (fun _ h=>h) ah rfl fun l hl=>hw l.b fun e=>hqp (h.inj q p l k (by rw[aM];simp) (by rw[hp];simp) hl hk e)⟩
end
section
variable {P:Program}{cf:Cf}{Q:Exit->St->Prop}{s:St}{k:List It}
theorem wB{o:Oper}{d:Nat}{x:AV}(hd:o.dst=some d)(vM:d<cf.n)(hnd:∀c,o.op≠.defer c)
  (aK:∀(B:Base) (β:Name->Option aU) (a:Act) (w:World),aj B β s a.tmps w->∃v,(execOp a.eval o).run P w=.ok (.value v) w∧VR w.heap (s.own B.A β) s.used s.hp β v x) (h:run P cf k Q (s.put d x)):fS P cf o s k Q:=by
 intro B hB ds β a w ak hs Q';obtain⟨v,h1,h2⟩:=aK B β a w hs;refine iZ (v:=v) hnd h1 (.inl rfl) ?_;rw[hd];exact⟨ak,_,β,eT h,hs.put (by rw[hB.1];exact vM) h2⟩
theorem wC(E:bB P cf Q){o:Oper}{d:Nat}{x:AV}(hd:o.dst=some d)(vM:d<cf.n)(hnd:∀c,o.op≠.defer c)
  (aK:∀(B:Base) (β:Name->Option aU) (a:Act) (w:World),aj B β s a.tmps w->∃v,(execOp a.eval o).run P w=.ok (.value v) w∧VR w.heap (s.own B.A β) s.used s.hp β v x) (h:E.run k (s.put d x)):E.aX o s k .no:=by
 rw[gx];rw[E.run_eq]at h;exact wB hd vM hnd aK h
theorem DB{t e:Nat}(h:(P.ti t).k=.ptr e):P.underlying t=some (.pointer e):=by
 obtain⟨i,d,_,hd,hk,_⟩:=oO (P:=P) (t:=t) (by rw[h];rfl);rw[h]at hk;cases d<;>simp[tk]at hk;rw[hd,hk]
def A8(hp:Name->Option Ob):AV->Option Bool
 |.d .aY=>some true
 |.d (.ptr _)=>some false
 |.bx p _=>match hp p with
   |some (.bz _ _)=>some false
   |_=>none
 |_=>none
theorem aaX{H:Array Obj}{own:Nat->Prop}{used:List Nat}{hp:Name->Option Ob}{β:Name->Option aU}{v:Value}{x:AV}{b:Bool}(h:VR H own used hp β v x)(hn:A8 hp x=some b):∃ad,v=.pointer ad∧ad.isNone=b:=by
 cases x with
 |d z =>
   cases z<;>simp[A8]at hn
   .subst hn;have:=h.cU;cases this;exact⟨none,rfl,rfl⟩
   .subst hn;have:=h.cU;cases this;exact⟨_,rfl,rfl⟩
 |bx p c =>
   simp only[A8]at hn;split at hn
   .rename_i ty cs ho;cases hn
    cases h with
    |bx _ _ _ _ _ hx =>
      obtain⟨k,_,_,rfl⟩:=hx _ _ ho;exact⟨_,rfl,rfl⟩
   .cases hn
 |_=>simp[A8]at hn
theorem DC(E:bB P cf Q){t e:TypeId}{x:Operand}{yt:TypeId}{dst:Nat}{ty:TypeId}{ps:String}{af:Array Edge}(b:Bool)(hk:(P.ti t).k=.ptr e)(hd:dst<cf.n)(hx:A8 s.hp (ev s x)=some b)(h:E.run k (s.put dst (.d (.bool b)))) :
  E.aX { dst:=some dst,op:=.binOp .eql t x (.const (.pointer none)) yt,type:=ty,pos:=ps,after:=af,guard:=none } s k .no:=by
 refine wC E rfl hd (by simp) (fun B β a w hs=>⟨.bool b,?_,.d _ _ (.bool _)⟩) h;obtain⟨ad,hv,rfl⟩:=aaX (hs.ev x) hx;have hu:=DB hk;refine Hp ?_ ?_
 .rw[hv];rfl
 .rw[hv];exact run_eql_pointer_nil w t ad (by rw[hu];simp[Program.pointee,hu])
theorem run_neq_ptr_same{tp te:TypeId}{j:TypeInfo}(w:World)(a:Addr)(hp:P.underlying tp=some (.pointer te))(hte:P.info? te=some j):(binOp .neq tp (.pointer (some a)) (.pointer (some a))).run P w=.ok (.bool false) w:=by
 have h:∀d:Nat,(Op.equalIn (d+1) tp (.pointer (some a)) (.pointer (some a))).run P w=.ok true w:=fun d=>by
  simp[Op.equalIn,run_underlying hp,sizeOf,typeInfo,hte,run_sameAddr_same]
 simp only[binOp];simp[Op.equal,Op.maxDepth,h 9999]
theorem Oc(E:bB P cf Q){t e:TypeId}{x y:Operand}{yt:TypeId}{dst:Nat}{ty:TypeId}{ps:String}{af:Array Edge}(p:Name)(c:Nat)(hk:(P.ti t).k=.ptr e)(he:(P.info? e).isSome=true)(hd:dst<cf.n)(hx:ev s x=.bx p c)(hy:ev s y=.bx p c)(hp:(match s.hp p with | some (.bz _ _)=>true | _=>false)=true)
  (h:E.run k (s.put dst (.d (.bool false)))):E.aX { dst:=some dst,op:=.binOp .neq t x y yt,type:=ty,pos:=ps,after:=af,guard:=none } s k .no:=by
 refine wC E rfl hd (by simp) (fun B β a w hs=>⟨.bool false,?_,.d _ _ (.bool _)⟩) h;split at hp
 rotate_left
 .cases hp
 rename_i ty' cs ho
 obtain⟨k,nt⟩:∃k:aU,∀v,VR w.heap (s.own B.A β) s.used s.hp β v (.bx p c)->v=.pointer (some ⟨k.b,c,none⟩):=by
  obtain⟨k,_,_,hk,_⟩:=(hs.aO p _ ho).2;refine⟨k,fun v hv=>?_⟩
  cases hv with
  |bx _ _ _ _ _ hx =>
    obtain⟨k',az,_,rfl⟩:=hx _ _ ho;rw[hk]at az;cases az;rfl
 have h1:=nt _ (hx▸hs.ev x);have h2:=nt _ (hy▸hs.ev y);obtain⟨j,hj⟩:=ake.1 he;refine Hp ?_ ?_
 .rw[h1,h2];rfl
 .rw[h1,h2];exact run_neq_ptr_same w _ (DB hk) hj
theorem Od{B:Base}{β:Name->Option aU}{tm:Array Value}{w:World}(hs:aj B β s tm w){p:Name}{t:Nat}{cs:List AV}(hp:s.hp p=some (.bz (some t) cs)):∃k:aU,(∀v c,VR w.heap (s.own B.A β) s.used s.hp β v (.bx p c)->v=.pointer (some ⟨k.b,c,none⟩))∧w.shape? k.b=some (t,cs.length):=by
 obtain⟨k,c,e,hk,_,hc,_,hl,_⟩:=(hs.aO p _ hp).2;refine⟨k,fun v c hv=>?_,by simp[World.shape?,hc,hl]⟩
 cases hv with
 |bx _ _ _ _ _ hx =>
   obtain⟨k',az,_,rfl⟩:=hx _ _ hp;rw[hk]at az;cases az;rfl
theorem Oe(E:bB P cf Q){a' b' e:TypeId}{x:Operand}{dst:Nat}{ty:TypeId}{ps:String}{af:Array Edge}(p:Name)(c t:Nat)(cs:List AV)(hk:(P.ti a').k=.ptr e)(hu:P.underlying b'=some .unsafePointer)(he:(P.info? e).any (fun j=>j.size != 0)=true)(hd:dst<cf.n)(hx:ev s x=.bx p c)
  (hp:s.hp p=some (.bz (some t) cs)) (hc:c<cs.length) (h:E.run k (s.put dst (.bx p c))):E.aX { dst:=some dst,op:=.convert a' b' x,type:=ty,pos:=ps,after:=af,guard:=none } s k .no:=by
 refine wC E (x:=.bx p c) rfl hd (by simp) (fun B β a w hs=>⟨a.eval x,?_,hx▸hs.ev x⟩) h;obtain⟨k,nt,mE⟩:=Od hs hp;have h1:=nt _ _ (hx▸hs.ev x);rw[Option.any_eq_true]at he;obtain⟨j,hj,l0⟩:=he;have:=Lib.run_to_unsafe (P:=P) w (src:=a') (dst:=b') (⟨k.b,c,none⟩:Addr) (DB hk) hu hj (by simpa using l0) mE hc;simp[execOp,h1,this]
theorem Og(E:bB P cf Q){a' b' e:TypeId}{x:Operand}{dst:Nat}{ty:TypeId}{ps:String}{af:Array Edge}(p:Name)(c t:Nat)(cs:List AV)(hk:(P.ti b').k=.ptr e)(hu:P.underlying a'=some .unsafePointer)(he:(P.info? e).isSome=true)(hd:dst<cf.n)(hx:ev s x=.bx p c)
  (hp:s.hp p=some (.bz (some t) cs)) (m:Nat) (hm:cs.length=m) (hl:liesAt P P.depth t (m / P.cellsOf t) c e 1=true) (h:E.run k (s.put dst (.bx p c))):E.aX { dst:=some dst,op:=.convert a' b' x,type:=ty,pos:=ps,after:=af,guard:=none } s k .no:=by
 refine wC E (x:=.bx p c) rfl hd (by simp) (fun B β a w hs=>⟨a.eval x,?_,hx▸hs.ev x⟩) h;obtain⟨k,nt,mE⟩:=Od hs hp;have h1:=nt _ _ (hx▸hs.ev x);obtain⟨j,hj⟩:=ake.1 he;rw[hm]at mE;have:=Lib.run_from_unsafe (P:=P) w (src:=a') (dst:=b') (⟨k.b,c,none⟩:Addr) hu (DB hk) hj mE hl;simp[execOp,h1,this]
theorem Oh(E:bB P cf Q){fv x:Operand}{at':Array TypeId}{dst:Nat}{ty:TypeId}{ps:String}{af:Array Edge}(f:FuncId)(y:AV)(hr:∀v w,(callFunc f #[v]).run P w=.ok (.value v) w)(hd:dst<cf.n)(hf:ev s fv=.aW f [])(hx:ev s x=y)(h:E.run k (s.put dst y)) :
  E.aX { dst:=some dst,op:=.call { callee:=.value fv,args:=#[x],argTypes:=at' },type:=ty,pos:=ps,after:=af,guard:=none } s k .no:=by
 refine wC E (x:=y) rfl hd (by simp) (fun B β a w hs=>⟨a.eval x,?_,hx▸hs.ev x⟩) h;have oa:=hs.ev fv;rw[hf]at oa;generalize k9:a.eval fv=xZ at oa
 cases oa with
 |aW _ cvs _ hcs jV =>
 have mV:cvs=#[]:=ajx (by simpa using hcs);subst mV
 have e:(execOp a.eval { dst:=some dst,op:=.call { callee:=.value fv,args:=#[x],argTypes:=at' },type:=ty,pos:=ps,after:=af,guard:=none }:Sem Next)=callFunc f (#[]++#[x].map a.eval++#[]):=by
  show(do let d <-(Deferred.ofValue (a.eval fv) (#[x].map a.eval));invoke d.target d.args:Sem Next)=_;rw[k9];rfl
 rw[e];simpa using hr (a.eval x) w
end
end Go.Ab

namespace Go.Ab
theorem aaY{P:Program}{e:TypeId}(hc:P.cellsOf e=1)(count o n:Nat)(hn:o+n<=count):liesAt P P.depth e count o e n=true:=by
 have hd:P.depth=(2*(P.types.size+Made.depth)+1)+1:=rfl;rw[hd];simp only[liesAt,aiL];left;rw[hd];simp[rowAt,hc,hn,sameLayout,Nat.mod_one]
theorem aaZ{P:Program}(w:World)(pt it ty e:TypeId)(hp:P.underlying pt=some (.pointer e))(hc:P.cellsOf e=1)(g o cells:Nat)(mE:w.shape? g=some (e,cells))(l:List UInt8)(h0:l≠[])(hn:o+l.length<=cells)(Oi:l.length<=9223372036854775807)
  (hcell:∀j x,l[j]?=some x->w.cell? ((⟨g,o,none⟩:Addr).add j)=some (.int .u8 x.toNat)) :
  (Builtin.unsafeString_ #[pt,it] ty #[.pointer (some ⟨g,o,none⟩),.int .i64 l.length]).run P w=.ok (.string ⟨l.toArray⟩) (w.freeze ⟨g,o,none⟩ l.length):=by
 have hl:l.length≠0:=by simpa using h0
 have A9:=Lib.run_loadBytes (P:=P) w l ⟨g,o,none⟩ .empty hcell;have aa0:=aaY (P:=P) hc (cells / P.cellsOf e) o l.length (by rw[hc];simpa using hn);have F6:¬(9223372036854775807:Int)<(l.length:Int):=by omega
 obtain⟨z1,z2,z3,HZ⟩:∃z1 z2 z3,Builtin.unsafeString_ #[pt,it] ty #[.pointer (some ⟨g,o,none⟩),.int .i64 l.length] =
  (do
   let n <-asInt (.int .i64 l.length)
   if n<0 then runtimePanic (.error z1)
   if n > IntKind.i64.max then unsupported (.unsafePointer z2)
   if n=0 then pure (.string .empty)
   else if<-variablesAt ⟨g,o,none⟩ (<-elemOf pt) n.toNat then do
    let s <-loadBytes ⟨g,o,none⟩ .empty n.toNat
    freeze ⟨g,o,none⟩ n.toNat
    pure (.string s)
   else unsupported (.unsafePointer z3)) :=⟨_,_,_,rfl⟩
 rw[HZ];have aa1:IntKind.i64.max=9223372036854775807:=rfl;have aa2:¬(l.length:Int)<0:=by omega
 simp[asInt,asIntOf,aa1,F6,aa2,hl,variablesAt,mE,elemOf,run_underlying hp,aa0,A9]
def kH(c:UInt8):D:=.int .u8 (c.toNat:Nat)
section
variable {P:Program}{cf:Cf}{Q:Exit->St->Prop}{s:St}{k:List It}
theorem aa3{d:Nat}{x:Operand}{at':Array TypeId}{ty:TypeId}{pos:String}{af:Array Edge}{g:Option (Nat×Bool)}(hd:d<cf.n)(hx:ev s x=.d .ai)(h:run P cf k Q (s.put d (.d .aY))) :
  fS P cf { dst:=some d,op:=.call { callee:=.builtin .unsafeSliceData,args:=#[x],argTypes:=at' },type:=ty,pos:=pos,after:=af,guard:=g } s k Q:=by
 refine wB rfl hd (by simp) (fun B β a w hs=>⟨.pointer none,?_,.d _ _ .aY⟩) h;have hv:=hs.ev x;rw[hx]at hv;have hv:=hv.ai;simp[execOp,resolve,invoke,builtin,hv,Lib.run_unsafeSliceData_nil]
theorem aa4{d:Nat}{x:Operand}{at':Array TypeId}{ty:TypeId}{pos:String}{af:Array Edge}{g:Option (Nat×Bool)}(p:Name)(tg:Option Nat)(w0:W)(xs:List D)(l:Nat)(hd:d<cf.n)(hx:ev s x=.vw p 0 l)(hp:s.hp p=some (.bu tg w0 xs))(hl:0<l)(h:run P cf k Q (s.put d (.el p 0 0))) :
  fS P cf { dst:=some d,op:=.call { callee:=.builtin .unsafeSliceData,args:=#[x],argTypes:=at' },type:=ty,pos:=pos,after:=af,guard:=g } s k Q:=by
 refine wB rfl hd (by simp) (fun B β a w hs=>?_) h;have hv:=hs.ev x;rw[hx]at hv;generalize oz:a.eval x=vx at hv
 cases hv with
 |vw _ _ _ _ hn h1 aV =>
   obtain⟨hle,a0,cap,rfl,hc⟩:=aV _ _ _ hp;obtain⟨h0,_⟩|⟨k,hk,rfl,fL,hz⟩:=hc
   .omega
   .refine⟨.pointer (some ⟨k.b,k.o+0*wd w0,none⟩),?_,.el _ _ _ _ hn rfl fun ty' w' xs' ae=>?_⟩
    .obtain⟨oo,H2⟩:∃oo,k.o+0*wd w0=oo:=⟨_,rfl⟩
     rw[H2]at oz ⊢;have:=Lib.run_unsafeSliceData_row (P:=P) w at' ty ⟨k.b,oo,none⟩ l cap (by omega);simp[execOp,resolve,invoke,builtin,oz,this]
    .rw[hp]at ae;cases ae;exact⟨by omega,k,hk,rfl⟩
theorem aa5(E:bB P cf Q){d pt it:Nat}{x y:Operand}{ty:TypeId}{pos:String}{af:Array Edge}(hd:d<cf.n)(hx:ev s x=.d .aY)(hy:ev s y=.d (.int .i64 0))(h:E.run k (s.put d (.d (.str [])))) :
  E.aX { dst:=some d,op:=.call { callee:=.builtin .unsafeString,args:=#[x,y],argTypes:=#[pt,it] },type:=ty,pos:=pos,after:=af,guard:=none } s k .no:=by
 rw[gx];rw[E.run_eq]at h;refine wB rfl hd (by simp) (fun B β a w hs=>⟨.string .empty,?_,.d _ _ (.str [])⟩) h;have hv:=hs.ev x;rw[hx]at hv;have hv:=hv.cU;have hw:=hs.ev y;rw[hy]at hw;have hw:=hw.int;generalize oz:a.eval x=vx at hv;cases hv;have:=Lib.run_unsafeString_none (P:=P) w pt it ty none;simp[execOp,resolve,invoke,builtin,oz,hw,this]
theorem aa6(E:bB P cf Q){d pt it e:Nat}{x y:Operand}{ty:TypeId}{pos:String}{af:Array Edge}(p:Name)(l:List UInt8)(hd:d<cf.n)(Ba:P.underlying pt=some (.pointer e))(hc:P.cellsOf e=1)(h0:l≠[])(Oi:l.length<=9223372036854775807)
  (hx:ev s x=.el p 0 0) (hp:s.hp p=some (.bu (some e) none (l.map kH))) (hy:ev s y=.d (.int .i64 l.length)) (h:E.run k ((s.set p none).put d (.d (.str l)))) :
  E.aX { dst:=some d,op:=.call { callee:=.builtin .unsafeString,args:=#[x,y],argTypes:=#[pt,it] },type:=ty,pos:=pos,after:=af,guard:=none } s k .no:=by
 rw[gx];rw[E.run_eq]at h;intro B hB ds β a w ak hs Q';have hv:=hs.ev x;rw[hx]at hv;have hw:=hs.ev y;rw[hy]at hw;have hw:=hw.int;generalize oz:a.eval x=vx at hv
 cases hv with
 |el _ _ _ _ hn h1 aV =>
 obtain⟨hlt,k0,hk,rfl⟩:=aV _ _ _ hp;rcases(hs.aO p _ hp).2 with⟨_,p7⟩|⟨k1,c,e',kX,hh,hz,hl,aF,cD⟩
 .simp at p7;exact absurd p7 h0
 rw[hk]at kX;cases kX;simp only[wd,akn,aik]at hl;have mE:w.shape? k0.b=some (e,c.size):=by simp[World.shape?,hh]
 have hcell:∀j x,l[j]?=some x->w.cell? ((⟨k0.b,k0.o+0*wd none+0,none⟩:Addr).add j)=some (.int .u8 x.toNat):=fun j x hj=>by
  have fU:=(ah3.1 hj).1;have h2:=cD j (kH x) 0 (kH x) (by simp[hj]) rfl;have h3:k0.o+j<c.size:=by omega
  rw[show k0.o+j*wd none+0=k0.o+j by simp[wd]]at h2;simp only[ahY,aiH h3,Option.getD_some]at h2
  have h4:c[k0.o+j]=.int .u8 x.toNat:=by
   generalize c[k0.o+j]=v at h2;cases h2;rfl
  rw[lQ];simp[World.cell?,hh,wd,h3,h4]
 have aK:=aaZ (P:=P) w pt it ty e Ba hc k0.b (k0.o+0*wd none+0) c.size mE l h0 (by simp[wd];omega) Oi hcell;obtain⟨oo,H2⟩:∃oo,k0.o+0*wd none+0=oo:=⟨_,rfl⟩
 rw[H2]at aK oz;refine iZ (v:=.string ⟨l.toArray⟩) (w':=w.freeze ⟨k0.b,oo,none⟩ l.length) (by simp) (by simp[execOp,resolve,invoke,builtin,oz,hw,aK]) (.inl rfl) ⟨ak,_,β,eT h,?_⟩;refine aj.put (hs.aaW hp hk (w':=w.freeze ⟨k0.b,oo,none⟩ l.length) ?_ ?_ fun b hb=>?_) (by rw[hB.1];exact hd) (.d _ _ (.str l))
 .unfold World.freeze;split<;>rfl
 .unfold World.freeze;split<;>simp
 .unfold World.freeze;split
  .rfl
  .simp only[ajg];rw[if_neg (fun e=>hb e.symm)]
section
variable {ops:Array Oper}{K:St->Ns->Prop}{r:List Oper}{ns:Ns}
theorem eg(E:lg P cf ops K){d:Nat}{x:Operand}{ty:TypeId}{pos:String}{af:Array Edge}(p:Name)(c:Nat)(ty':Option Nat)(cs:List AV)(hd:d<cf.n)(hx:ev s x=.bx p c)(hp:s.hp p=some (.bz ty' cs))(h:E.run r (s.put d (.bx p c)) (ns++[([p],[],[])])) :
  E.aX { dst:=some d,op:=.nilCheck x,type:=ty,pos:=pos,after:=af,guard:=none } r s ns .no:=by
 refine wb E (x:=.bx p c) [p] (fun t ht=>by rw[Option.mem_def,aiv]at ht;rw[<-ht];exact hd) (fun s' hh he=>?_) h;have h1:ev s' x=.bx p c:=(he x (by simp[Op.operands])).trans hx;have h2:s'.hp p=some (.bz ty' cs):=(hh p (by simp)).trans hp;refine sG (o:={ dst:=some d,op:=.nilCheck x,type:=ty,pos:=pos,after:=af,guard:=none }) rfl ?_
 have h3:cR P.ti cf.n (.nilCheck x) (some d) s'=.ok (s'.put d (.bx p c)):=by
  unfold cR zo;simp only[h1,h2];simp[R.bind,c9,hd]
 unfold aX;simp only[h3,R.run];rw[mU];rfl
theorem aa7(E:lg P cf ops K){d:Nat}{x:Operand}{at':Array TypeId}{ty:TypeId}{pos:String}{af:Array Edge}{g:Option (Nat×Bool)}(hd:d<cf.n)(hx:ev s x=.d .ai)(h:E.run r (s.put d (.d .aY)) (ns++[([],[],[])])) :
  E.aX { dst:=some d,op:=.call { callee:=.builtin .unsafeSliceData,args:=#[x],argTypes:=at' },type:=ty,pos:=pos,after:=af,guard:=g } r s ns .no:=by
 refine wb E (x:=.d .aY) [] (fun t ht=>by rw[Option.mem_def,aiv]at ht;rw[<-ht];exact hd) (fun s' _ he=>?_) h;exact aa3 hd ((he x (by simp[Op.operands,Call.operands])).trans hx) (by rw[mU];rfl)
theorem aa8(E:lg P cf ops K){d:Nat}{x:Operand}{at':Array TypeId}{ty:TypeId}{pos:String}{af:Array Edge}{g:Option (Nat×Bool)}(p:Name)(tg:Option Nat)(w0:W)(xs:List D)(l:Nat)(hd:d<cf.n)(hx:ev s x=.vw p 0 l)(hp:s.hp p=some (.bu tg w0 xs))(hl:0<l)
  (h:E.run r (s.put d (.el p 0 0)) (ns++[([p],[],[])])) :
  E.aX { dst:=some d,op:=.call { callee:=.builtin .unsafeSliceData,args:=#[x],argTypes:=at' },type:=ty,pos:=pos,after:=af,guard:=g } r s ns .no:=by
 refine wb E (x:=.el p 0 0) [p] (fun t ht=>by rw[Option.mem_def,aiv]at ht;rw[<-ht];exact hd) (fun s' hh he=>?_) h;exact aa4 p tg w0 xs l hd ((he x (by simp[Op.operands,Call.operands])).trans hx) ((hh p (by simp)).trans hp) hl (by rw[mU];rfl)
end
end
theorem aa9(tf:Nat->TI)(dd:Option Nat)(s:St)(x:Operand):cZ tf (.nilCheck x) dd s=.no:=rfl
attribute [go_sem] aa9
end Go.Ab

namespace Go.Ab
end Go.Ab

namespace Go.Ab
theorem Oj(p:Name):∀(a b:List (Name×Option Ob)),wl (a++b) p=match wl b p with|some v=>some v|none=>wl a p
 |[],b=>by cases h:wl b p<;>simp[wl,h]
 |q::r,b=>by
   rw[List.cons_append,wl,Oj p r b];cases wl b p<;>simp[wl]
theorem Ol(p:Name)(z:Option Ob):∀l:List (Name×Option Ob),(wl l.reverse p).getD z=aE z l p
 |[]=>rfl
 |q::r=>by
   rw[List.reverse_cons,Oj,lP];by_cases h:p=q.1
   .simp[wl,h]
   .simp only[wl,if_neg h];exact Ol p z r
attribute [go_sem] List.reverse_cons List.reverse_nil
theorem H3{α β:Type}[DecidableEq α](z:β)(i:α):∀a b:List (α×β),aE z (a++b) i=aE (aE z b i) a i
 |[],_=>rfl
 |q::r,b=>by rw[List.cons_append,lP,lP,H3 z i r b]
section
variable {P:Program}{cf:Cf}{ops:Array Oper}{K:St->Ns->Prop}{r:List Oper}{s:St}{ns:Ns}
theorem abb{H:Array Obj}{own:Nat->Prop}{v:Value}{wf:W}{l:List D}(h:au H own v (.sl wf l)):v.oneCell'=true:=by
 generalize hz:D.sl wf l=d at h;cases h<;>first|rfl|cases hz
theorem abd{H:Array Obj}{own:Nat->Prop}{us:List Nat}{hp:Name->Option Ob}{β:Name->Option aU}{v:Value}{wf:W}{l:List D}(h:VR H own us hp β v (.d (.sl wf l))):v.oneCell'=true:=by
 cases h with
 |d _ _ h=>exact abb h
theorem yx(E:lg P cf ops K){t:Nat}(u:Nat)(p:Name)(wf:W)(xs:List D){off len:Nat}{fv:Operand}{args:Array Operand}{at':Array TypeId}{ty:TypeId}{pos:String}{af:Array Edge}{gg:Option (Nat×Bool)}
  {f:FuncId} {aR:List AV} {ds:List D} {x:AV} (hc:HP P cf.G f ds (fun r=>r=x)) (k9:∀s,ev s fv=.aW f aR) (hp:s.hp p=some (.arr wf xs)) (bd:s.fr u=.vw p off len) (hu:(t == u)=false) (de:Operand.tmp u∈args)
  (dC:args.toList.map (ev (s.put u (.d (.sl wf ((xs.drop off).take len)))))++aR=ds.map .d) (dD:t<cf.n) (hk:E.run r ((s.set p none).put t x) (ns++[([p],[p],[])])) :
  E.aX { dst:=some t,op:=.call { callee:=.value fv,args:=args,argTypes:=at' },type:=ty,pos:=pos,after:=af,guard:=gg } r s ns .no:=by
 have H4:¬t=u:=by simpa using hu
 have eD:∀s:St,(s.set p none).put t x=s.go (some t) x ⟨[(p,none)],[]⟩:=fun s=>by unfold St.go;rw[Av];rfl
 rw[E.eE];refine⟨x,([p],⟨[(p,none)],[]⟩),fun s' _ hh he=>?_,fun y hy=>(by cases hy),dD,?_⟩
 .have hm:∀y,y∈args->ev s' y=ev s y:=fun y hy=>he y (by
   simp only[Op.operands,Call.operands]
   simp_all)
  have ae:s'.hp p=some (.arr wf xs):=(hh p (by simp)).trans hp;have Aw:s'.fr u=.vw p off len:=(hm (.tmp u) de).trans bd;obtain⟨y,hy⟩:∃y,y=AV.d (.sl wf ((xs.drop off).take len)):=⟨_,rfl⟩
  rw[<-hy]at dC
  have abe:args.toList.map (ev ((s'.set p none).put u y))++aR=ds.map .d:=by
   rw[<-dC];congr 1;refine aiQ fun z hz=>?_;have h0:=hm z (by simpa using hz)
   cases z with
   |tmp i =>
     by_cases e:i=u
     .subst e;show((s'.set p none).put i _).fr i=(s.put i _).fr i;simp[St.put,eC]
     .have p7:s'.fr i=s.fr i:=h0;show((s'.set p none).put u _).fr i=(s.put u _).fr i;simp[St.put,St.set,eC,e,p7]
   |_=>rfl
  have h1:=CG (k:=[]) (Q:=fun _ s2=>s2=((s'.set p none).put u y).put t x) (dst:=some t) (fv:=fv) (args:=args) (at':=at') (ty:=ty) (pos:=pos) (af:=af) (g:=gg) hc
   (k9 _) abe (fun y hy=>by rw[Option.mem_def,aiv]at hy;rw[<-hy];exact dD) (fun r hr=>by subst hr;rw[mU];rfl)
  intro B hB gm β a w ak hs Q';have l8:=hs.drop p
  have nT:aj B β ((s'.set p none).put u y) a.tmps w:=l8.sD (by
   have:=(hs.cY ae).slots u;rw[show(s'.cY p wf xs).fr u=(s'.fr u).cY p wf xs from rfl,Aw,AV.cY,if_pos rfl,<-hy]at this
   exact this)
  refine Oper.wpIn_mono ?_ (h1 B hB gm β a w ak nT Q');rintro a' w' ⟨dB,s2,β',aK,br⟩;obtain⟨_,s3,β3,rfl,gQ⟩:=aK B hB gm β' a' w' dB br;refine⟨dB,β3,?_⟩;rw[<-eD];have hv:=gQ.slots u;have e1:(((s'.set p none).put u y).put t x).fr u=y:=by simp[St.put,eC,Ne.symm H4,fun h:u=t=>H4 h.symm]
  rw[e1,hy]at hv;have eI:=(hs.aO p _ ae).1
  have e2:((s'.set p none).put t x)=(((s'.set p none).put u y).put t x).put u (.vw p off len):=by
   refine Au (fun _=>rfl) rfl fun i=>?_;simp only[St.put,St.set,eC];by_cases h1:i=u
   .subst h1;have h3:¬i=t:=fun h=>H4 h.symm;simp[h3,Aw]
   .simp[h1]
  have h5:=gQ.sD (t:=u) (x:=.vw p off len) (.vw _ _ _ _ eI (by
   exact abd hv) (fun ty w xs h=>by
    have h:aP s'.hp p none p=some _:=h
    simp[aP]at h))
  rw[e2];exact h5
 .rw[<-E.run_eq,<-eD];exact hk
end
end Go.Ab

namespace Go.Ab
section
variable {P:Program}{cf:Cf}{ops:Array Oper}{K:St->Ns->Prop}{r:List Oper}{s:St}{ns:Ns}
theorem H5(E:lg P cf ops K){d t e n:Nat}{x y:Operand}{ty:TypeId}{pos:String}{af:Array Edge}{z:D}(ht:(P.ti t).k=.slice e)(hz:(P.ti e).zero=some z)(hw:((P.ti e).fM (P.ti e).w&&pZ (P.ti e).w z)=true)
  (hx:ev s x=.d (.int .i64 n)) (hy:ev s y=.d (.int .i64 n)) (hb:(n:Int)*(P.ti e).by'<=140737488355328∧(n:Int)<=140737488355328) (hd:d<cf.n∧d∉s.used)
  (hk:E.run r ((s.add d (.arr (P.ti e).w (List.replicate n z))).put d (.vw [d] 0 n)) (ns++[([],[[d]],[d])])) :
  E.aX { dst:=some d,op:=.makeSlice t x y,type:=ty,pos:=pos,after:=af,guard:=none } r s ns .no:=by
 have eD:∀s':St,(s'.add d (.arr (P.ti e).w (List.replicate n z))).put d (.vw [d] 0 n)=s'.go (some d) (.vw [d] 0 n) ⟨[([d],some (.arr (P.ti e).w (List.replicate n z)))],[d]⟩:=fun s'=>by unfold St.go;rw[v7];rfl
 rw[E.eE];refine⟨.vw [d] 0 n,([],⟨[([d],some (.arr (P.ti e).w (List.replicate n z)))],[d]⟩),fun s' hu hh he B hB gm β a w ak hs Q'=>?_,fun q hq=>?_,hd.1,?_⟩
 .have h1:ev s' x=.d (.int .i64 n):=(he x (by simp[Op.operands])).trans hx;have h2:ev s' y=.d (.int .i64 n):=(he y (by simp[Op.operands])).trans hy
  have aF:fS P cf { dst:=some d,op:=.makeSlice t x y,type:=ty,pos:=pos,after:=af,guard:=none } s' [] (fun _ s2=>s2=(s'.add d (.arr (P.ti e).w (List.replicate n z))).put d (.vw [d] 0 n)):=by
   refine sG (o:={ dst:=some d,op:=.makeSlice t x y,type:=ty,pos:=pos,after:=af,guard:=none }) rfl ?_
   have h3:cR P.ti cf.n (.makeSlice t x y) (some d) s'=.need (0<=(n:Int)∧(n:Int)<=n∧(n:Int)*(P.ti e).by'<=140737488355328∧(n:Int)<=140737488355328) (.ok ((s'.add d (.arr (P.ti e).w (List.replicate n z))).put d (.vw [d] 0 n))):=by
    unfold cR zy jI;simp only[h1,h2,ht,hz,hw];have vN:d<cf.n∧d∉s'.used:=⟨hd.1,hu d (by simp)⟩
    simp[vN.1,vN.2]
   show aX P cf (cR P.ti cf.n (.makeSlice t x y) (some d) s') _ s' [] _;rw[h3,FK,Ck,mU];exact⟨⟨by omega,Int.le_refl _,hb⟩,rfl⟩
  refine Oper.wpIn_mono ?_ (aF B hB gm β a w ak hs Q');rintro a' w' ⟨dB,s2,β',aK,br⟩;obtain⟨_,s3,β3,rfl,gQ⟩:=aK B hB gm β' a' w' dB br;exact⟨dB,β3,by rw[<-eD];exact gQ⟩
 .obtain rfl:=ahZ.1 hq;exact hd.2
 .rw[<-E.run_eq,<-eD];exact hk
end
end Go.Ab

namespace Go.Ab
end Go.Ab

namespace Go.Ab
end Go.Ab

namespace Go.Ab
section
variable {P:Program}{cf:Cf}{Q:Exit->St->Prop}{s:St}{k:List It}
theorem yy(E:bB P cf Q){d:Nat}{x:Operand}{ty:TypeId}{pos:String}{af:Array Edge}{v:D}(hd:d<cf.n)(hx:ev s x=.d (.ptr v))(h:E.run k (s.put d (.d (.ptr v)))) :
  E.aX { dst:=some d,op:=.nilCheck x,type:=ty,pos:=pos,after:=af,guard:=none } s k .no:=by
 refine wC E (x:=.d (.ptr v)) rfl hd (by simp) (fun B β a w hs=>⟨a.eval x,?_,hx▸hs.ev x⟩) h;have hv:=hs.ev x;rw[hx]at hv;have hr:=hv.cU
 have he:∀y,a.eval x=y->(∃ad,y=.pointer (some ad))->(execOp a.eval { dst:=some d,op:=.nilCheck x,type:=ty,pos:=pos,after:=af,guard:=none }).run P w=.ok (.value y) w:=by
  rintro y hy ⟨ad,rfl⟩;simp[execOp,hy]
 refine he _ rfl ?_;generalize a.eval x=y at hr;cases hr;exact⟨_,rfl⟩
end
end Go.Ab

namespace Go.Ab
inductive Fz where
 |A (p:Name) (w:W) (xs:List D)
 |B (p:Name) (d:D)
def Fz.nm:Fz->Name
 |.A p _ _=>p
 |.B p _=>p
def St.fz(s:St):Fz->St
 |.A p w xs=>s.fW p w xs
 |.B p d=>s.cj p d
def Fz.ok(s:St):Fz->Prop
 |.A p w xs=>s.hp p=some (.arr w xs)
 |.B p d=>s.hp p=some (.box (d.cells.map .d))∧(d.cells.all D.ct)=true
def St.nw(s:St):List Fz->St
 |[]=>s
 |q::L=>(s.fz q).nw L
def sP(s:St):List Fz->Prop
 |[]=>True
 |q::L=>q.ok s∧sP (s.fz q) L
theorem abf(s:St):s.nw []=s:=rfl
theorem abg(s:St)(p:Name)(w:W)(xs:List D)(L:List Fz):s.nw (.A p w xs::L)=(s.fW p w xs).nw L:=rfl
theorem abh(s:St)(p:Name)(d:D)(L:List Fz):s.nw (.B p d::L)=(s.cj p d).nw L:=rfl
theorem abj(s:St):sP s []=True:=rfl
theorem Om(s:St)(p:Name)(w:W)(xs:List D)(L:List Fz):sP s (.A p w xs::L)=(s.hp p=some (.arr w xs)∧sP (s.fW p w xs) L):=rfl
theorem On(s:St)(p:Name)(d:D)(L:List Fz):sP s (.B p d::L)=((s.hp p=some (.box (d.cells.map .d))∧(d.cells.all D.ct)=true)∧sP (s.cj p d) L):=rfl
theorem H6{B:Base}{β:Name->Option aU}{tm:Array Value}{w:World}:∀(L:List Fz) (s:St),aj B β s tm w->sP s L->aj B β (s.nw L) tm w
 |[],_,h,_=>h
 |.A p wf xs::L,s,h,hl=>by
   rw[Om]at hl;exact H6 L _ (h.fW hl.1) hl.2
 |.B p d::L,s,h,hl=>by
   rw[On]at hl;exact H6 L _ (h.cj hl.1.1 fun x hx=>by simpa using aio.1 hl.1.2 x hx) hl.2
def St.rA(s:St):St:={ s with hp:=fun _=>none }
theorem DE(s:St)(x:Operand):ev s.rA x=ev s x:=by cases x<;>rfl
theorem aj.rA{B:Base}{β:Name->Option aU}{s:St}{tm:Array Value}{w:World}(h:aj B β s tm w):aj B β s.rA tm w:=by
 have hr:∀v d,au w.heap (s.own B.A β) v d->au w.heap (s.rA.own B.A β) v d:=fun v d hd=>hd.mono (fun _ _ _=>rfl) (by
  rintro b _ (hA|⟨q,k,hq,_⟩)
  .exact .inl hA
  .exact absurd rfl hq)
 exact { bE:=h.bE,io:=h.io,size:=h.size,frame:=h.frame,slots:=fun i=>VR.mono hr (fun _ h=>h) (fun q _ o' aM=>(by cases aM)) (h.slots i),aO:=fun q o' aM=>(by cases aM),blocks:=fun q k hq _=>absurd rfl hq,inj:=fun q q' k k' hq _=>absurd rfl hq,us:=h.us,stay:=h.stay }
section
variable {P:Program}{cf:Cf}{Q:Exit->St->Prop}{s:St}{k:List It}
theorem abk{dst:Option Nat}{fv:Operand}{args:Array Operand}{at':Array TypeId}{ty:TypeId}{pos:String}{af:Array Edge}{g:Option (Nat×Bool)}
  (L:List Fz) (hL:sP s L) {f:FuncId} {aR:List AV} {ds:List D} {Q0:AV->Prop} (hc:HP P cf.G f ds Q0) (ot:∀r,Q0 r->r.flat=true)
  (bd:ev (s.nw L) fv=.aW f aR) (dC:args.toList.map (ev (s.nw L))++aR=ds.map .d) (dD:∀t∈dst,t<cf.n) (hk:∀r,Q0 r->run P cf k Q (s.jt dst r)) :
  fS P cf { dst:=dst,op:=.call { callee:=.value fv,args:=args,argTypes:=at' },type:=ty,pos:=pos,after:=af,guard:=g } s k Q:=by
 intro B hB gm β a w ak h Q';obtain⟨d,hd⟩:=Gj s.used;refine⟨fun _ _=>trivial,?_⟩;have h':=(H6 L s h hL).rA;rw[<-DE]at bd;rw[show args.toList.map (ev (s.nw L))=args.toList.map (ev (s.nw L).rA)from aiQ fun y _=>(DE _ y).symm]at dC;obtain⟨s',bc⟩:∃s',s'=(s.nw L).rA:=⟨_,rfl⟩
 have bH:∀p,s'.hp p=none:=fun p=>by rw[bc];rfl
 rw[<-bc]at h' bd dC;have hf:=h'.ev fv;rw[bd]at hf;generalize k9:a.eval fv=xZ at hf
 cases hf with
 |aW _ cvs _ hcs jV =>
 have aK:∀vs,vs=(args.toList.map a.eval).toArray++cvs->(execOp a.eval { dst:=dst,op:=.call { callee:=.value fv,args:=args,argTypes:=at' },type:=ty,pos:=pos,after:=af,guard:=g }).run P w=.ok (.enter f vs) w:=by
  intro vs eJ
  have e:(execOp a.eval { dst:=dst,op:=.call { callee:=.value fv,args:=args,argTypes:=at' },type:=ty,pos:=pos,after:=af,guard:=g }:Sem Next)=callFunc f (#[]++args.map a.eval++cvs):=by
   show(do let d <-(Deferred.ofValue (a.eval fv) (args.map a.eval));invoke d.target d.args:Sem Next)=_;rw[k9];rfl
  rw[e,<-hc.1 vs w,eJ];congr 2;apply akj;simp
 rw[Oper.semAt_eq _ _ _ (by simp),aK _ rfl,Oper.uponIn_enter];refine⟨fun nY=>by simp[vO]at nY,?_⟩
 have hlen:(ds.map AV.d).length=args.size+aR.length:=by
  have:=congrArg List.length dC;simpa using this.symm
 have eJ:((args.toList.map a.eval).toArray++cvs).size=(ds.map AV.d).length:=by simp[hcs]at hlen ⊢;omega
 have hv:∀(i:Nat) x,(ds.map AV.d)[i]?=some x->VR w.heap (s'.own B.A β) s'.used s'.hp β (((args.toList.map a.eval).toArray++cvs).getD i undef) (x.ren id):=by
  intro i x hi;rw[AV.lX id (fun _=>rfl)];have hx:=hi;rw[<-dC]at hx;by_cases hlt:i<args.size
  .have aV:(args.toList.map (ev s'))[i]?=some x:=by rw[<-hx,aih (by simpa using hlt)]
   have:=xY h' args.toList i _ aV;rw[show((args.toList.map a.eval).toArray++cvs).getD i undef=(args.toList.map a.eval).toArray.getD i undef by simp[ahY,aiN,hlt]];exact this
  .have aV:aR[i-args.size]?=some x:=by rw[<-hx,aim (by simpa using aju hlt)];simp
   have:=jV _ _ aV;rw[show((args.toList.map a.eval).toArray++cvs).getD i undef=cvs.getD (i-args.size) undef by simp[ahY,aiN,hlt]];exact this
 have nZ:=HE (P:=P) h h' (fun p o ho=>by rw[bH p]at ho;cases ho) (Q0:=fun r ae=>Q0 r∧r.bn []=true∧ae=[]) (σ:=id) (d:=d) hd (chp:=[]) (cu:=[]) trivial trivial (zW _ _) eJ hv (by rw[hB.2.2];exact hc) (fun r ae hq=>⟨ot r hq.1,by rw[hq.2.2];rfl⟩);have qe:CallsIn (Fw cf.ro) (0-1) P f ((args.toList.map a.eval).toArray++cvs) w _:=nZ;refine qe.mono ?_;rintro e w' ⟨v,rfl,r,ae,⟨hQ,ux,rfl⟩,hl⟩;obtain⟨β2,br,mA⟩:=hl trivial;rw[AV.CC _ r ux]at mA;have zX:=AV.CA s.used r ux;refine⟨by cases dst<;>exact ak,s.jt dst r,?_⟩
 cases dst with
 |none =>
   obtain⟨β3,h3⟩:=h.x5 br rfl (t0:=0) (x0:=s.fr 0) (fun _=>.inr rfl) rfl (h.slots 0).bn;exact⟨β3,eT (hk r hQ),h3⟩
 |some t =>
   have h2:=br.put (t:=t) (by rw[hB.1];exact dD t rfl) mA
   obtain⟨β3,h3⟩:=h.x5 h2 rfl (t0:=t) (x0:=r) (fun u=>by
    by_cases e:u=t
    .exact .inl e
    .exact .inr (by show eC _ _ _ _=_;simp[eC,e])) (by show eC _ _ _ _=_;simp[eC]) zX
   exact⟨β3,eT (hk r hQ),h3⟩
theorem abl(E:bB P cf Q){dst:Option Nat}{fv:Operand}{args:Array Operand}{at':Array TypeId}{ty:TypeId}{pos:String}{af:Array Edge}
  (L:List Fz) {f:FuncId} {aR:List AV} {ds:List D} {Q0:AV->Prop} (hc:HP P cf.G f ds Q0) (ot:∀r,Q0 r->r.flat=true) (hL:sP s L)
  (bd:ev (s.nw L) fv=.aW f aR) (dC:args.toList.map (ev (s.nw L))++aR=ds.map .d) (dD:∀t∈dst,t<cf.n) (hk:∀r,Q0 r->E.run k (s.jt dst r)) :
  E.aX { dst:=dst,op:=.call { callee:=.value fv,args:=args,argTypes:=at' },type:=ty,pos:=pos,after:=af,guard:=none } s k .no:=by
 rw[gx];exact abk L hL hc ot bd dC dD fun r hr=>by rw[<-E.run_eq];exact hk r hr
end
attribute [go_sem] abf abg abh abj Om On Fz.nm
end Go.Ab
namespace Go.Ab
variable {P:Program}{cf:Cf}{Φ:Exit->Act->World->Prop}{I:Base->List Deferred->Prop}{k:List It}{s:St}
def DF(P:Program)(cf:Cf)(Φ:Exit->Act->World->Prop)(I:Base->List Deferred->Prop)(k:List It){X:Type}(S:X->St)(e:Exit)(s:St):Prop :=
 match e with
 |.normal=>∃x τ,Le cf.U τ s (S x)
 |e=>yq P cf Φ I k e s
theorem abm{X:Type}(S:X->St):DF P cf Φ I k S .ret s=o9 cf Φ I .ret s:=rfl
theorem abn{X:Type}(S:X->St){c:Code}(h1:∀E:bB P cf (DF P cf Φ I k S),E.run [.code c] s)(h2:∀x,ef P cf Φ I k (S x)):ef P cf Φ I (.code c::k) s :=
 fun B hB ds β a w ak hI hs=>wpIn_mono (eT (aT h1) B hB ds β a w ak hs) fun e a' w' hq=>by
  obtain⟨hd,s',β',hq,bc⟩:=hq
  cases e with
  |normal =>
    obtain⟨x,τ,hle⟩:=hq;obtain⟨β2,br,_⟩:=bc.le (τ:=τ) (by rw[hB.2.1];exact hle);exact wm (s:=S x) (e:=.normal) hB hI hd (h2 x) br
  |ret=>exact wm (e:=.ret) hB hI hd hq bc
  |exit i=>exact wm (e:=.exit i) hB hI hd hq bc
  |goto l=>exact hq.elim
  |panic c=>exact hq.elim
  |outgrown=>exact hq.elim
theorem wE(fr:List (Nat×AV))(hp:List (Name×Ob))(u:List Nat){c:Code}(h1:∀E:bB P cf (DF P cf Φ I k fun _:Unit=>mk fr hp u),E.run [.code c] s)(h2:ef P cf Φ I k (mk fr hp u)):ef P cf Φ I (.code c::k) s:=abn _ h1 fun _=>h2
theorem ny{fr:List (Nat×AV)}{hp:List (Name×Ob)}{u:List Nat}(τ:Name->Name)(h:cF cf.U τ s fr hp u):DF P cf Φ I k (fun _:Unit=>mk fr hp u) .normal s:=⟨(),τ,h.le⟩
attribute [go_sem] abm
end Go.Ab

namespace Go.Ab
section
variable {P:Program}{cf:Cf}{ops:Array Oper}{K:St->Ns->Prop}{r:List Oper}{s:St}{ns:Ns}
theorem abo(E:lg P cf ops K){d t:Nat}{x:Operand}{ty:TypeId}{pos:String}{af:Array Edge}{cs:List AV}(hx:iW (ev s x)=some cs)(hd:d<cf.n∧d∉s.used)
  (hk:E.run r ((s.add d (.box cs)).put d (.bx [d] 0)) (ns++[([],[[d]],[d])])) :
  E.aX { dst:=some d,op:=.box t x,type:=ty,pos:=pos,after:=af,guard:=none } r s ns .no:=by
 have eD:∀s':St,(s'.add d (.box cs)).put d (.bx [d] 0)=s'.go (some d) (.bx [d] 0) ⟨[([d],some (.box cs))],[d]⟩:=fun s'=>by unfold St.go;rw[v7];rfl
 rw[E.eE];refine⟨.bx [d] 0,([],⟨[([d],some (.box cs))],[d]⟩),fun s' hu hh he B hB gm β a w ak hs Q'=>?_,fun q hq=>?_,hd.1,?_⟩
 .have h1:iW (ev s' x)=some cs:=by rw[he x (by simp[Op.operands])];exact hx
  have aF:fS P cf { dst:=some d,op:=.box t x,type:=ty,pos:=pos,after:=af,guard:=none } s' [] (fun _ s2=>s2=(s'.add d (.box cs)).put d (.bx [d] 0)):=by
   refine sG (o:={ dst:=some d,op:=.box t x,type:=ty,pos:=pos,after:=af,guard:=none }) rfl ?_
   have h3:cR P.ti cf.n (.box t x) (some d) s'=.ok ((s'.add d (.box cs)).put d (.bx [d] 0)):=by
    unfold cR jI;simp only[h1];have vN:d<cf.n∧d∉s'.used:=⟨hd.1,hu d (by simp)⟩
    simp[vN.1,vN.2]
   show aX P cf (cR P.ti cf.n (.box t x) (some d) s') _ s' [] _;rw[h3,Ck,mU]
  refine Oper.wpIn_mono ?_ (aF B hB gm β a w ak hs Q');rintro a' w' ⟨dB,s2,β',aK,br⟩;obtain⟨_,s3,β3,rfl,gQ⟩:=aK B hB gm β' a' w' dB br;exact⟨dB,β3,by rw[<-eD];exact gQ⟩
 .obtain rfl:=ahZ.1 hq;exact hd.2
 .rw[<-E.run_eq,<-eD];exact hk
end
end Go.Ab

