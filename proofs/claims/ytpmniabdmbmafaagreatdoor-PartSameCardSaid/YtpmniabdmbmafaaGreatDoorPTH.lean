/-
  The generic layer, part 60: ranges over functions: code in which a round is called, or that ranges over a function, walked piece by piece at the machine's side; an iterator's contract. (with the parts that follow it) (with the parts that follow it)
-/
import Derived.Test.YtpmniabdmbmafaaGreatDoorPTG
import Derived.RangeFuncRecord
import Derived.RangeFuncSeq
import Derived.RangeFuncLeaves
import Derived.Laws.CopyRow
import Derived.Laws.IdiomCopy
import Derived.Lib.Builder
import Derived.LaidEqlPtr
import Derived.Laws.Pointers
import Derived.Laws.Externs
set_option linter.all false
set_option maxHeartbeats 16000000
namespace Go.Ab
section
variable {P:Program}{cf:Cf}
theorem aj.mv{B B':Base}{β:Name->Option a8}{s:St}{tm:Array Value}{w w':World}(h:aj B β s tm w)(hn:B'.n=B.n)(eP:dH w'=B'.io)(bj:B'.H0.size<=w'.heap.size)
  (oD:∀b,b<B'.H0.size->¬B'.O0 b->w'.heap[b]?=B'.H0[b]?) (hw:w.heap.size<=w'.heap.size) (hk:∀b,b<w.heap.size->¬B.A b->w'.heap[b]?=w.heap[b]?)
  (hA:∀b,b<w.heap.size->B'.A b->B.A b) (CF:∀p k,s.hp p≠none->β p=some k->B'.H0.size<=k.b∨B'.O0 k.b)
  (rO:∀x∈B'.U0,x∈s.used) (ag:∀p,nm B'.U0 p->β p=B'.β0 p):aj B' β s tm w':=by
 have eH:∀b,b<w.heap.size->s.own B'.A β b->s.own B.A β b:=by
  rintro b hb (h1|h1)
  .exact .inl (hA b hb h1)
  .exact .inr h1
 have hr:∀v d,au w.heap (s.own B.A β) v d->au w'.heap (s.own B'.A β) v d:=fun v d hd=>hd.mono (fun b hb hlt=>hk b hlt (fun ha=>hb (.inl ha))) eH;have CG:∀p,nm s.used p->iQ s.hp s.hp β β p:=fun p _ o' ho=>⟨o',ho,Ob.k4 _,rfl⟩
 refine { bG:=h.bG.trans hn.symm,io:=eP,size:=bj,frame:=oD,slots:=fun t=>(h.slots t).mono hr (fun _ h=>h) CG,aJ:=fun p o ho=>⟨(h.aJ p o ho).1,(h.aJ p o ho).2.mono hr (fun _ h=>h) CG rfl (fun k aC=>?_)⟩,blocks:=fun p k hp aC=>?_,inj:=h.inj,us:=rO,stay:=ag }
 .obtain⟨b1,b2,_⟩:=h.blocks p k (by rw[ho];simp) aC;exact hk k.b b1 b2
 .obtain⟨b1,b2,_⟩:=h.blocks p k hp aC;exact⟨alV b1 hw,fun ha=>b2 (hA _ b1 ha),CF p k hp aC⟩
def dC(s:St)(β:Name->Option a8)(b:Nat):Prop:=∃p k,s.hp p≠none∧β p=some k∧k.b=b
theorem aj.oS{B:Base}{β:Name->Option a8}{s:St}{tm:Array Value}{w:World}(h:aj B β s tm w){b:Nat}(hb:dC s β b):b<w.heap.size∧¬B.A b∧(B.H0.size<=b∨B.O0 b):=by
 obtain⟨p,k,hp,hk,rfl⟩:=hb;exact h.blocks p k hp hk
def dW(P:Program)(cf:Cf)(Φ:Exit->Act->World->Prop)(I:Base->List Deferred->Prop)(k:List It)(s:St):Prop :=
 ∀B,cf.fits B->∀ds β a w,a.defers=ds->I B ds->aj B β s a.tmps w->hold P cf Φ k .normal a w
def q5(cf:Cf)(Φ:Exit->Act->World->Prop)(I:Base->List Deferred->Prop)(e:Exit)(s:St):Prop :=
 ∀B,cf.fits B->∀ds β a w,a.defers=ds->I B ds->aj B β s a.tmps w->Φ e a w
def yq(P:Program)(cf:Cf)(Φ:Exit->Act->World->Prop)(I:Base->List Deferred->Prop)(k:List It)(e:Exit)(s:St):Prop :=
 match e with
 |.normal=>dW P cf Φ I k s
 |.exit i=>(match nq i k with
   |some k'=>dW P cf Φ I k' s
   |none=>q5 cf Φ I (.exit i) s)
 |.ret=>q5 cf Φ I .ret s
 |_=>False
variable {Φ:Exit->Act->World->Prop}{I:Base->List Deferred->Prop}{k:List It}{s:St}{B:Base}{ds:List Deferred}{e:Exit}{a:Act}{w:World}
theorem acY:yq P cf Φ I k .normal s=dW P cf Φ I k s:=rfl
theorem acZ:yq P cf Φ I k .ret s=q5 cf Φ I .ret s:=rfl
theorem ac0(i:Nat):yq P cf Φ I [] (.exit i) s=q5 cf Φ I (.exit i) s:=rfl
theorem ac1(i:Nat)(c:Code):yq P cf Φ I (.code c::k) (.exit i) s=yq P cf Φ I k (.exit i) s:=rfl
theorem ac3(i:Nat)(all:Array Oper)(r:List Oper):yq P cf Φ I (.ops all r::k) (.exit i) s=yq P cf Φ I k (.exit i) s:=rfl
theorem ac4(i:Nat):yq P cf Φ I (.ef i::k) (.exit i) s=dW P cf Φ I k s:=by simp[yq,nq]
theorem xP{β:Name->Option a8}(hB:cf.fits B)(hI:I B ds)(hd:a.defers=ds)(hq:yq P cf Φ I k e s)(hs:aj B β s a.tmps w):hold P cf Φ k e a w:=by
 cases e with
 |normal=>exact hq B hB ds β a w hd hI hs
 |exit i =>
   simp only[yq]at hq;split at hq
   .rename_i k' aC;exact y4 _ i k k' a w aC (hq B hB ds β a w hd hI hs)
   .rename_i aC;exact y3 _ i k a w aC (hq B hB ds β a w hd hI hs)
 |ret=>exact xx _ k a w (hq B hB ds β a w hd hI hs)
 |goto l=>exact hq.elim
 |panic c=>exact hq.elim
 |outgrown=>exact hq.elim
theorem ac5(hB:cf.fits B)(hI:I B ds)(h:lift B ds (yq P cf Φ I k) e a w):hold P cf Φ k e a w:=by
 obtain⟨hd,s',β',hq,hs⟩:=h;exact xP hB hI hd hq hs
theorem ac6{c:Code}(h:run P cf [.code c] (yq P cf Φ I k) s):dW P cf Φ I (.code c::k) s :=
 fun B hB ds β a w ai hI hs=>wpIn_mono (eB h B hB ds β a w ai hs) fun _ _ _ hq=>ac5 hB hI hq
theorem fp{c:Code}(h:∀E:bu P cf (yq P cf Φ I k),E.run [.code c] s):dW P cf Φ I (.code c::k) s:=ac6 (aS h)
theorem eD{x y:Code}(h:dW P cf Φ I (.code x::.code y::k) s):dW P cf Φ I (.code (.seq x y)::k) s :=
 fun B hB ds β a w ai hI hs=>wpIn_seq (wpIn_mono (h B hB ds β a w ai hI hs) (NM _ y k))
theorem zE{i:Nat}{x:Code}(h:dW P cf Φ I (.code x::.ef i::k) s):dW P cf Φ I (.code (.block i x)::k) s :=
 fun B hB ds β a w ai hI hs=>wpIn_block (wpIn_mono (h B hB ds β a w ai hI hs) (NN _ i k))
theorem Fu{i:Nat}(h:dW P cf Φ I k s):dW P cf Φ I (.ef i::k) s:=fun B hB ds β a w ai hI hs=>h B hB ds β a w ai hI hs
theorem Qk(h:q5 cf Φ I .normal s):dW P cf Φ I [] s:=fun B hB ds β a w ai hI hs=>h B hB ds β a w ai hI hs
theorem Ql{i:Nat}{ops:List Oper}(h:dW P cf Φ I (.ops ops.toArray ops::k) s):dW P cf Φ I (.code (.region i ops.toArray false)::k) s:=by
 intro B hB ds β a w ai hI hs;refine wpIn_region ?_;refine h B hB ds β a w ai hI hs _ ?_;apply amg;intro j;simp only[ala,amI,amm];by_cases hj:j<ops.length
 .simp[hj]
 .simp[hj]
theorem Fv{all:Array Oper}(h:dW P cf Φ I k s):dW P cf Φ I (.ops all []::k) s:=by
 intro B hB ds β a w ai hI hs l hl
 cases l with
 |nil=>exact h B hB ds β a w ai hI hs
 |cons i l=>simp at hl
theorem wo{all:Array Oper}{o:Oper}{r:List Oper}(hg:o.guard=none)(h:(cV P.ti cf.n o.op o.dst s).run (fun s'=>dW P cf Φ I (.ops all r::k) s') False):dW P cf Φ I (.ops all (o::r)::k) s:=by
 intro B hB ds β a w ai hI hs l hl
 cases l with
 |nil=>simp at hl
 |cons i l =>
   simp only[alf,al3]at hl;obtain⟨hi,hl⟩:=hl;have hw:Region.wanted o (yielded all a.tmps)=true:=by simp[Region.wanted,hg]
   simp only[wpOpsIn,hi,hw,if_true];rw[<-hB.1]at h;rcases y2 hs h with hz|⟨nx,v,w',s',β',aF,dy,hf,bm⟩
   .exact hz.elim
   .have hnd:∀c,o.op≠.defer c:=by
     intro c hc
     have:∃d w2,(execOp a.eval o).run P w=.ok (.defer d) w2∨∃h w2,(execOp a.eval o).run P w=.halt h w2:=by
      simp only[execOp,hc,Sem.run_bind]
      cases (resolve a.eval c o.type).run P w with
      |ok d w2=>exact⟨d,w2,.inl rfl⟩
      |halt hh w2=>exact⟨default,w2,.inr ⟨hh,w2,rfl⟩⟩
     obtain⟨d,w2,h1|⟨hh,w3,h1⟩⟩:=this
     .rw[aF]at h1;cases h1;rcases dy with h2|⟨h2,_⟩<;>cases h2
     .rw[aF]at h1;cases h1
    refine fR hnd aF dy (hf B hB ds β' _ w' ?_ hI bm l hl);cases o.dst<;>exact ai
theorem ac7(s':St)(f:St->Prop)(z:Prop):(R.ok s').run f z=f s':=rfl
theorem ac8(p:Prop)(x:R St)(f:St->Prop)(z:Prop):(R.need p x).run f z=(p∧x.run f z):=rfl
def zF(P:Program)(cf:Cf)(Φ:Exit->Act->World->Prop){X:Type}(S:X->St)(J:X->Base->List Deferred->Prop)(μ:X->Nat)(x:X)(k:List It)(e:Exit)(a:Act)(w:World):Prop :=
 match e with
 |.normal=>∃y,μ y<μ x∧∃B,cf.fits B∧J y B a.defers∧∃β,aj B β (S y) a.tmps w
 |e=>hold P cf Φ k e a w
theorem Qm{X:Type}(S:X->St)(J:X->Base->List Deferred->Prop)(μ:X->Nat){c:Code}(x0:X)(h0:∃τ,Le cf.U τ s (S x0))(hI:∀B ds,I B ds->J x0 B ds)
  (hr:∀x,dW P cf (zF P cf Φ S J μ x k) (J x) [.code c] (S x)):dW P cf Φ I (.code (.loop c)::k) s:=by
 have key:∀N x,μ x<N->∀(B:Base),cf.fits B->∀ds β a w,a.defers=ds->J x B ds->aj B β (S x) a.tmps w->Code.roundsIn (Fw cf.ro) 0 P c (hold P cf Φ k) N a w:=by
  intro N
  induction N with
  |zero=>intro x hx;omega
  |succ N ih =>
    intro x hx B hB ds β a w ai hJ h;rw[roundsIn_succ];refine wpIn_mono (hr x B hB ds β a w ai hJ h) fun e a' w' hq=>?_
    cases e with
    |normal =>
      obtain⟨y,hy,B',CH,J5,β',bm⟩:=hq;exact ih y (by omega) B' CH _ β' a' w' rfl J5 bm
    |exit i=>exact hq
    |ret=>exact hq
    |goto l=>exact hq
    |panic c=>exact hq
    |outgrown=>exact hq
 obtain⟨τ,hle⟩:=h0;intro B hB ds β a w ai hi h;obtain⟨β2,br,_⟩:=h.le (τ:=τ) (by rw[hB.2.1];exact hle);exact wpIn_loop_rounds (μ x0+1) (key _ x0 (anD _) B hB ds β2 a w ai (hI _ _ hi) br)
theorem J6{X:Type}{S:X->St}{J:X->Base->List Deferred->Prop}{μ:X->Nat}{x:X}(y:X)(hy:μ y<μ x)(τ:Name->Name)(hle:Le cf.U τ s (S y))(hI:∀B ds,I B ds->J y B ds):dW P cf (zF P cf Φ S J μ x k) I [] s:=by
 intro B hB ds β a w ai hi h;obtain⟨β2,br,_⟩:=h.le (τ:=τ) (by rw[hB.2.1];exact hle);exact⟨y,hy,B,hB,by rw[ai];exact hI _ _ hi,β2,br⟩
theorem Qn{X:Type}{S:X->St}{J:X->Base->List Deferred->Prop}{μ:X->Nat}{x:X}{i:Nat}(h:yq P cf Φ I k (.exit i) s):q5 cf (zF P cf Φ S J μ x k) I (.exit i) s :=
 fun _ hB _ _ _ _ ai hi hs=>xP hB hi ai h hs
theorem Qo{X:Type}{S:X->St}{J:X->Base->List Deferred->Prop}{μ:X->Nat}{x:X}(h:q5 cf Φ I .ret s):q5 cf (zF P cf Φ S J μ x k) I .ret s :=
 fun B hB ds β a w ai hi hs=>xx _ k a w (h B hB ds β a w ai hi hs)
end
end Go.Ab
namespace Go.Ab
structure CJ(W:World)(X:Nat->Prop)(W':World)(X':Nat->Prop):Prop where
 size:W.heap.size<=W'.heap.size
 io:dH W'=dH W
 same:∀b,b<W.heap.size->¬X b->W'.heap[b]?=W.heap[b]?
 new:∀b,X' b->(X b∨W.heap.size<=b)∧b<W'.heap.size
structure q6 where
 l:Nat
 w:World
 C0:Nat->Prop
 J:Nat->(Nat->Prop)->(Nat->Prop)->World->Prop
 Jx:Nat->(Nat->Prop)->(Nat->Prop)->World->Prop
structure q6.Ok(P:Program)(G:List (Nat×Obj))(N:Nat)(xs:Nat->List D)(z:q6):Prop where
 lt:∀b,z.C0 b->b<z.w.heap.size
 Qp:∀n C X W X' W',z.J n C X W->CJ W X W' X'->z.J n C X' W'
 ac9:∀n C X W X' W',z.Jx n C X W->CJ W X W' X'->z.Jx n C X' W'
 round:∀n C X W vs,n<N->z.J n C X W->vs.size=(xs n).length->(∀i d,(xs n)[i]?=some d->au W.heap (fun b=>C b∨X b) (vs.getD i undef) d) ->
  YieldAt Fence.wide 0 P z.l vs W fun e W'=>∃C',(dH W'=dH W∧W.heap.size<=W'.heap.size∧(∀b,b<W.heap.size->¬C b->W'.heap[b]?=W.heap[b]?)∧(∀q∈G,W'.heap[q.1]?=W.heap[q.1]?)∧∀b,C' b->(C b∨W.heap.size<=b)∧b<W'.heap.size) ∧
   ((e=.returned (.bool true)∧z.J (n+1) C' X W')∨(e=.returned (.bool false)∧z.Jx (n+1) C' X W'))
def Fx(P:Program)(G:List (Nat×Obj))(f:FuncId)(aG:List D)(N:Nat)(xs:Nat->List D):Prop :=
 (∀vs w,(callFunc f vs).run P w=.ok (.enter f vs) w) ∧
 ∀z:q6,z.Ok P G N xs->∀cvs:Array Value,cvs.size=aG.length->(∀i d,aG[i]?=some d->au z.w.heap z.C0 (cvs.getD i undef) d)->z.J 0 z.C0 (fun _=>False) z.w->(∀q∈G,z.w.heap[q.1]?=some q.2) ->
  CallsIn Fence.wide 0 P f (#[.func (.yield z.l) #[] #[]]++cvs) z.w fun e W'=>(∃v,e=.returned v)∧∃C X,z.J N C X W'∨∃n,z.Jx n C X W'
def IJ(z:q6)(J:(Nat->Prop)->(Nat->Prop)->World->Prop)(B:Base)(ds:List Deferred):Prop :=
 ds=[]∧∃C X W0,W0.heap=B.H0∧dH W0=B.io∧J C X W0∧(∀b,B.A b↔C b)∧(∀b,B.O0 b↔X b)∧(∀b,X b->z.w.heap.size<=b)∧z.w.heap.size<=W0.heap.size
def II(z:q6)(n:Nat):Base->List Deferred->Prop:=IJ z (z.J n)
def IX(z:q6):Base->List Deferred->Prop:=IJ z fun C X W=>∃n,z.Jx n C X W
def ΦI(z:q6)(N:Nat)(e:Exit)(a:Act)(w:World):Prop:=(e=.normal∨e=.ret)∧a.defers=[]∧∃C X,z.J N C X w∨∃n,z.Jx n C X w
section
variable {P:Program}{cf:Cf}{G:List (Nat×Obj)}{N:Nat}{xs:Nat->List D}{z:q6}{k:List It}{s:St}
theorem IJ.bc{J:(Nat->Prop)->(Nat->Prop)->World->Prop}{B:Base}{ds:List Deferred}{β:Name->Option a8}{tm:Array Value}{w:World}(h:IJ z J B ds)(hs:aj B β s tm w) :
  ∃C X W0,W0.heap=B.H0∧J C X W0∧CJ W0 X w (dC s β)∧(∀b,B.A b↔C b)∧(∀b,dC s β b->z.w.heap.size<=b)∧z.w.heap.size<=w.heap.size:=by
 obtain⟨_,C,X,W0,h1,h2,hJ,hA,hO,hX,hz⟩:=h;have bj:W0.heap.size=B.H0.size:=by rw[h1]
 refine⟨C,X,W0,h1,hJ,⟨by rw[bj];exact hs.size,by rw[h2];exact hs.io,fun b hb hx=>?_,fun b hb=>?_⟩,hA,fun b hb=>?_,?_⟩
 .rw[h1];exact hs.frame b (by rw[<-bj];exact hb) (fun ho=>hx ((hO b).1 ho))
 .obtain⟨b1,_,b3⟩:=hs.oS hb;refine⟨?_,b1⟩;obtain b3|b3:=b3
  .exact .inr (by rw[bj];exact b3)
  .exact .inl ((hO b).1 b3)
 .rcases(hs.oS hb).2.2 with b3|b3
  .have:=hs.size;omega
  .exact hX b ((hO b).1 b3)
 .have:=hs.size;omega
theorem Qq{z:q6}(hz:z.Ok P G N xs){e:Exit}(he:e=.normal∨e=.ret):q5 cf (ΦI z N) (II z N) e s:=by
 intro B hB ds β a w ai hi hs;obtain⟨C,X,W0,_,hJ,ag,_⟩:=IJ.bc hi hs;exact⟨he,ai.trans hi.1,C,_,.inl (hz.Qp _ _ _ _ _ _ hJ ag)⟩
theorem Qr{z:q6}(hz:z.Ok P G N xs){e:Exit}(he:e=.normal∨e=.ret):q5 cf (ΦI z N) (IX z) e s:=by
 intro B hB ds β a w ai hi hs;obtain⟨C,X,W0,_,⟨n,hJ⟩,ag,_⟩:=IJ.bc hi hs;exact⟨he,ai.trans hi.1,C,_,.inr ⟨n,hz.ac9 _ _ _ _ _ _ hJ ag⟩⟩
theorem Qs(hz:z.Ok P cf.G N xs){Φ:Exit->Act->World->Prop}{n t:Nat}{all:Array Oper}{fv:Operand}{args:Array Operand}{at':Array TypeId}{ty:TypeId}{pos:String}{af:Array Edge}{r:List Oper}
  (hn:n<N) (ht:t<cf.n) (bp:ev s fv=.d (.yl z.l)) (dE:args.toList.map (ev s)=(xs n).map .d)
  (h1:dW P cf Φ (II z (n+1)) (.ops all r::k) (s.put t (.d (.bool true)))) (h2:dW P cf Φ (IX z) (.ops all r::k) (s.put t (.d (.bool false)))) :
  dW P cf Φ (II z n) (.ops all ({ dst:=some t,op:=.call { callee:=.value fv,args:=args,argTypes:=at' },type:=ty,pos:=pos,after:=af,guard:=none }::r)::k) s:=by
 intro B hB ds β a w ai hI hs l hl
 cases l with
 |nil=>simp at hl
 |cons i l =>
   simp only[alf,al3]at hl;obtain⟨hi,hl⟩:=hl;simp only[wpOpsIn,hi,Region.wanted,if_true];obtain⟨C,X,W0,hW0,hJ,ag,hA,hX,xQ⟩:=IJ.bc hI hs;have J5:=hz.Qp _ _ _ _ _ _ hJ ag;have hf:=hs.ev fv;rw[bp]at hf
   have nF:a.eval fv=.func (.yield z.l) #[] #[]:=by
    have:=hf.cA;generalize a.eval fv=v at this;cases this;rfl
   have hlen:args.size=(xs n).length:=by simpa using congrArg List.length dE
   have CK:=hz.round n C (dC s β) w (args.map a.eval) hn J5 (by simpa using hlen) (fun j d hj=>by
    have hx:(args.toList.map (ev s))[j]?=some (.d d):=by rw[dE,ala,hj];rfl
    have:=(za hs args.toList j _ hx).cA;rw[show(args.map a.eval).getD j undef=(args.toList.map a.eval).toArray.getD j undef by simp[akZ]];refine this.mono (fun _ _ _=>rfl) (fun b _ hb=>?_);obtain hb|hb:=hb
    .exact .inl ((hA b).2 hb)
    .exact .inr hb)
   obtain⟨fn,tmps,assign,body,hy,CK⟩:=CK;refine⟨fun _ _=>trivial,?_⟩
   have aF:(execOp a.eval { dst:=some t,op:=.call { callee:=.value fv,args:=args,argTypes:=at' },type:=ty,pos:=pos,after:=af,guard:=none }:Sem Next).run P w=.ok (.round z.l fn tmps assign body) w:=by
    have e:(execOp a.eval { dst:=some t,op:=.call { callee:=.value fv,args:=args,argTypes:=at' },type:=ty,pos:=pos,after:=af,guard:=none }:Sem Next)=Instr.yield z.l (#[]++args.map a.eval++#[]):=by
     show(do let d <-(Deferred.ofValue (a.eval fv) (args.map a.eval));invoke d.target d.args:Sem Next)=_;rw[nF];rfl
    rw[e];simpa using hy
   rw[Oper.semAt_eq _ _ _ (by simp),aF,Oper.uponIn_round];refine⟨fun pQ=>by simp[xw]at pQ,?_⟩;have ada:RoundIn (Fw cf.ro) (0-1) P z.l fn tmps assign body w _:=CK;refine ada.mono ?_;rintro e W' ⟨C',⟨c1,c2,c3,c4,c5⟩,hq⟩
   have uw:∀q∈B.G,W'.heap[q.1]?=some q.2∧¬dC s β q.1:=fun q hq=>by
    obtain⟨g1,g2⟩:=B.hG q hq;have hlt:=dI g1;refine⟨(c4 q (by rw[<-hB.2.2];exact hq)).trans ((hs.frame _ hlt g2).trans g1),fun hb=>?_⟩;rcases(hs.oS hb).2.2 with g3|g3
    .omega
    .exact g2 g3
   let B':Base:={ n:=B.n,io:=B.io,G:=B.G,H0:=W'.heap,O0:=dC s β,A:=C',U0:=B.U0,β0:=B.β0,hA:=fun b hb=>(c5 b hb).2,hG:=uw }
   have bm:aj B' β s a.tmps W':=by
    refine hs.mv rfl (c1.trans hs.io) (ali _) (fun _ _ _=>rfl) c2 (fun b hb hn=>c3 b hb (fun hc=>hn ((hA b).2 hc))) (fun b hb hc=>?_) (fun p k hp hk=>.inr ⟨p,k,hp,hk,rfl⟩) hs.us hs.stay;rcases(c5 b hc).1 with h|h
    .exact(hA b).2 h
    .omega
   have Qt:∀J:(Nat->Prop)->(Nat->Prop)->World->Prop,J C' (dC s β) W'->IJ z J B' ds:=fun J hj=>⟨hI.1,C',_,W',rfl,c1.trans hs.io,hj,fun _=>Iff.rfl,fun _=>Iff.rfl,hX,alU xQ c2⟩
   obtain⟨rfl,hj⟩|⟨rfl,hj⟩:=hq
   .exact h1 B' ⟨hB.1,hB.2.1,hB.2.2⟩ ds β (a.put (some t) (.bool true)) W' ai (Qt _ hj) (bm.put (by show t<B.n;rw[hB.1];exact ht) (.d _ _ (.bool _))) l hl
   .exact h2 B' ⟨hB.1,hB.2.1,hB.2.2⟩ ds β (a.put (some t) (.bool false)) W' ai (Qt _ ⟨_,hj⟩) (bm.put (by show t<B.n;rw[hB.1];exact ht) (.d _ _ (.bool _))) l hl
theorem Qu {G:List (Nat×Obj)} {f:FuncId} {fn:Func} {c:Code} {aG:List D} (hf:P.funcs[f]?=some fn) (hb:fn.body=some c) (eO:(fn.name == "runtime.NumGoroutine")=false) (hn:aG.length+1<=fn.ntmps) (J7:fn.results=#[])
  (h:∀z:q6,z.Ok P G N xs->dW P ⟨fn.ntmps,none,G,[]⟩ (ΦI z N) (II z 0) [.code c] (mk (dQ 0 (.d (.yl z.l)::aG.map .d)) [] [])):Fx P G f aG N xs:=by
 refine⟨vH hf hb eO,fun z hz cvs bj mh hJ hG=>?_⟩
 let B:Base:={ n:=fn.ntmps,io:=dH z.w,G:=G,H0:=z.w.heap,O0:=fun _=>False,A:=z.C0,U0:=[],β0:=fun _=>none,hA:=hz.lt,hG:=fun q hq=>⟨hG q hq,fun h=>h⟩ }
 have bh:aj B (fun _=>none) (mk (dQ 0 (.d (.yl z.l)::aG.map .d)) [] []) ((#[Value.func (.yield z.l) #[] #[]]++cvs)++Array.replicate (fn.ntmps-(#[Value.func (.yield z.l) #[] #[]]++cvs).size) undef) z.w:=by
  have eH:∀b,(mk (dQ 0 (.d (.yl z.l)::aG.map .d)) [] []).own z.C0 (fun _=>none) b->z.C0 b:=by
   rintro b (hb|⟨p,k,hp,_⟩)
   .exact hb
   .exact absurd rfl hp
  refine { bG:=by show(_:Array Value).size=fn.ntmps;simp;omega,io:=rfl,size:=ali _,frame:=fun _ _ _=>rfl,slots:=fun t=>?_,aJ:=fun p o ho=>(by cases ho),blocks:=fun p k hp=>absurd rfl hp,inj:=fun p q k l hp=>absurd rfl hp,us:=fun _ hx=>hx,stay:=fun p hp=>(by obtain⟨_,_,_,hx⟩:=hp;cases hx) };rw[kC,qJ,if_pos (ale _),Nat.sub_zero]
  cases t with
  |zero =>
    have e:((#[Value.func (.yield z.l) #[] #[]]++cvs)++Array.replicate (fn.ntmps-(#[Value.func (.yield z.l) #[] #[]]++cvs).size) undef).getD 0 undef=.func (.yield z.l) #[] #[]:=by
     simp[akZ,alO]
    rw[e];exact .d _ _ (.yl _)
  |succ t =>
    cases ht:(aG.map AV.d)[t]? with
    |none=>rw[List.getElem?_cons_succ,ht];exact .un _
    |some x =>
      rw[List.getElem?_cons_succ,ht];rw[ala,ak8]at ht;obtain⟨d,hd,rfl⟩:=ht;have hlt:t<cvs.size:=by rw[bj];exact(akY.1 hd).1
      have e:((#[Value.func (.yield z.l) #[] #[]]++cvs)++Array.replicate (fn.ntmps-(#[Value.func (.yield z.l) #[] #[]]++cvs).size) undef).getD (t+1) undef=cvs.getD t undef:=by
       have h1:t+1<1+cvs.size:=by omega
       simp[akZ,alO,h1,hlt]
      rw[e];exact .d _ _ ((mh t d hd).mono (fun _ _ _=>rfl) (fun b _=>eH b))
 have aF:=h z hz B ⟨rfl,rfl,rfl⟩ [] (fun _=>none) { tmps:=(#[Value.func (.yield z.l) #[] #[]]++cvs)++Array.replicate (fn.ntmps-(#[Value.func (.yield z.l) #[] #[]]++cvs).size) undef,defers:=[] } z.w rfl
  ⟨rfl,z.C0,fun _=>False,z.w,rfl,rfl,hJ,fun _=>Iff.rfl,fun _=>Iff.rfl,fun b hb=>hb.elim,ali _⟩ bh
 refine callsIn_of_wp hf hb trivial (wpIn_mono (F:=Fence.wide) aF fun e a' w' hq=>?_);obtain⟨he,hd,hq⟩:=hq
 have hr:(results fn a'.tmps).run P w'=.ok (.tuple #[]) w':=by
  simp[results,J7]
 obtain rfl|rfl:=he
 .exact⟨hd,_,hr,⟨_,rfl⟩,hq⟩
 .exact⟨hd,_,hr,⟨_,rfl⟩,hq⟩
end
attribute [go_sem] acY acZ ac0 ac1 ac3 ac4 ac7 ac8
end Go.Ab

namespace Go.Ab
structure qb(B0 B:Base):Prop where
 n:B.n=B0.n
 io:B.io=B0.io
 G:B.G=B0.G
 U0:B.U0=B0.U0
 β0:B.β0=B0.β0
 size:B0.H0.size<=B.H0.size
 frame:∀b,b<B0.H0.size->¬B0.O0 b->B.H0[b]?=B0.H0[b]?
 O0:∀b,b<B0.H0.size->B.O0 b->B0.O0 b
 A:∀b,B0.A b->B.A b
theorem qb.refl(B:Base):qb B B:=⟨rfl,rfl,rfl,rfl,rfl,ali _,fun _ _ _=>rfl,fun _ _ h=>h,fun _ h=>h⟩
theorem qb.trans{A B C:Base}(h:qb A B)(g:qb B C):qb A C :=
 ⟨g.n.trans h.n,g.io.trans h.io,g.G.trans h.G,g.U0.trans h.U0,g.β0.trans h.β0,alU h.size g.size,
  fun b hb ho=>(g.frame b (alV hb h.size) (fun hc=>ho (h.O0 b hb hc))).trans (h.frame b hb ho),fun b hb hc=>h.O0 b hb (g.O0 b (alV hb h.size) hc),fun b hb=>g.A b (h.A b hb)⟩
def xR(D:Nat):Deferred:={ target:=.collected D,args:=#[] }
structure CI(B0:Base)(B:Base)(ds:List Deferred):Prop where
 ext:qb B0 B
 mark:∃Ds:List Nat,ds=Ds.map xR∧Ds.Nodup∧∀D∈Ds,B.H0[D]?=some (.deferred (some []))∧B.A D∧B0.H0.size<=D∧¬B.O0 D
def St.wq(s:St)(fr:Nat->AV):St:={ s with fr:=fr }
def LK(s0 s:St):Prop:=∀p o',nm s0.used p->s.hp p=some o'->∃o,s0.hp p=some o∧o.like o'
def tc(s:St):List Nat->List D->St
 |t::ts,d::ds=>tc (s.put t (.d d)) ts ds
 |_,_=>s
section
variable {P:Program}{cf:Cf}
theorem aj.tc{B:Base}{β:Name->Option a8}{w:World}:∀(ts:List Nat) (ds:List D) (vs:List Value) (s:St) (tm:Array Value),aj B β s tm w->(∀t∈ts,t<B.n)->vs.length=ds.length ->
  (∀i d,ds[i]?=some d->au w.heap (s.own B.A β) (vs.getD i undef) d)->aj B β (tc s ts ds) ((ts.zip vs).foldl (fun tm (q:Nat×Value)=>tm.setIfInBounds q.1 q.2) tm) w
 |[],ds,vs,s,tm,h,_,_,_=>by cases ds<;>exact h
 |_::_,[],[],s,tm,h,_,_,_=>h
 |t::ts,d::ds,v::vs,s,tm,h,ht,hl,hv=>by
   refine aj.tc ts ds vs (s.put t (.d d)) _ (h.put (ht t alb) (.d _ _ (hv 0 d rfl))) (fun x hx=>ht x (ald _ hx)) (by simpa using hl) (fun i d' hi=>?_);exact hv (i+1) d' hi
def rq(P:Program)(cf:Cf)(Φ:Exit->Act->World->Prop)(B0:Base)(k:List It){X:Type}(Iv:X->St)(s0:St)(e:Exit)(s2:St):Prop :=
 match e with
 |.normal=>LK s0 s2∧∃y τ,Le cf.U τ (s2.wq s0.fr) (Iv y)
 |.exit i=>LK s0 s2∧yq P cf Φ (CI B0) k (.exit i) (s2.wq s0.fr)
 |.ret=>LK s0 s2∧yq P cf Φ (CI B0) k .ret (s2.wq s0.fr)
 |_=>False
def SS(B:Base)(tm:Array Value)(D L:Nat)(C X:Nat->Prop)(W:World)(s:St):Prop :=
 ∃β B',qb B B'∧B'.H0=W.heap∧(∀b,B'.O0 b↔dC s β b)∧(∀b,B'.A b↔(B.A b∨X b∨b=D∨b=L))∧(∀b,C b↔(B.A b∨b=D∨b=L∨dC s β b))∧aj B' β s tm W
theorem SS.bc{B:Base}{tm:Array Value}{D L z0:Nat}{C X X':Nat->Prop}{W W':World}{s:St}(h:SS B tm D L C X W s)(ag:CJ W X W' X')(hX:∀b,X b->z0<=b)(hz:B.H0.size<=z0)(hW:z0<=W.heap.size)(hD:D<W.heap.size)(hL:L<W.heap.size) :
  SS B tm D L C X' W' s:=by
 obtain⟨β,B',hE,hH,hO,hA,hC,hs⟩:=h;have hlt:∀b,B.A b->b<W.heap.size:=fun b hb=>alV (B.hA b hb) (by rw[<-hH];exact hE.size);have nU:∀b,b<B.H0.size->W'.heap[b]?=W.heap[b]?:=fun b hb=>ag.same b (by omega) (fun hx=>by have:=hX b hx;omega)
 have hG:∀q∈B'.G,W'.heap[q.1]?=some q.2∧¬dC s β q.1:=fun q hq=>by
  have h0:=B.hG q (by rw[<-hE.G];exact hq);have h1:=B'.hG q hq;exact⟨(nU _ (dI h0.1)).trans (by rw[<-hH];exact h1.1),fun hb=>h1.2 ((hO _).2 hb)⟩
 refine⟨β,{ n:=B'.n,io:=B'.io,G:=B'.G,H0:=W'.heap,O0:=dC s β,A:=fun b=>B.A b∨X' b∨b=D∨b=L,U0:=B'.U0,β0:=B'.β0,hA:=?_,hG:=hG },?_,rfl,fun _=>Iff.rfl,fun _=>Iff.rfl,hC,?_⟩
 .rintro b (hb|hb|rfl|rfl)
  .exact alV (hlt b hb) ag.size
  .exact(ag.new b hb).2
  .exact alV hD ag.size
  .exact alV hL ag.size
 .refine⟨hE.n,hE.io,hE.G,hE.U0,hE.β0,alU hE.size (by rw[hH];exact ag.size),fun b hb ho=>?_,fun b hb ho=>hE.O0 b hb ((hO b).2 ho),fun b hb=>.inl hb⟩;exact(nU b hb).trans ((by rw[hH]:W.heap[b]?=B'.H0[b]?).trans (hE.frame b hb ho))
 .refine hs.mv rfl (ag.io.trans hs.io) (ali _) (fun _ _ _=>rfl) ag.size (fun b hb hn=>ag.same b hb (fun hx=>hn ((hA b).2 (.inr (.inl hx))))) (fun b hb hc=>?_) (fun p k hp hk=>.inr ⟨p,k,hp,hk,rfl⟩) hs.us hs.stay;obtain hc|hc|hc|hc:=hc
  .exact(hA b).2 (.inl hc)
  .rcases(ag.new b hc).1 with h1|h1
   .exact(hA b).2 (.inr (.inl h1))
   .omega
  .exact(hA b).2 (.inr (.inr (.inl hc)))
  .exact(hA b).2 (.inr (.inr (.inr hc)))
theorem SS.after{B B':Base}{tm:Array Value}{D L:Nat}{X:Nat->Prop}{W W2 W3 W4:World}{s0 s1 s2:St}{β' β1 β2:Name->Option a8}{Qv:Array Value}{B2:Base}
  (hE:qb B B') (hH:B'.H0=W.heap) (hO:∀b,B'.O0 b↔dC s0 β' b) (hA:∀b,B'.A b↔(B.A b∨X b∨b=D∨b=L)) (hs:aj B' β' s0 tm W)
  (sS:B2.n=B'.n) (oT:B2.io=B'.io) (hG2:B2.G=B'.G) (Fy:B2.H0=W2.heap) (J8:∀b,B2.O0 b↔dC s1 β1 b) (hA2:B2.A=B'.A) (lj:B2.U0=s0.used) (hβ2:B2.β0=β')
  (bj:W.heap.size<=W2.heap.size) (zG:∀b,b<W.heap.size->¬dC s0 β' b->b≠L->W2.heap[b]?=W.heap[b]?) (Qw:∀b,dC s1 β1 b->W.heap.size<=b∨dC s0 β' b)
  (br:aj B2 β2 s2 Qv W3) (qL:LK s0 s2) (Qx:B.H0.size<=L) (Qy:W3.heap.size=W4.heap.size) (zH:dH W4=dH W3) (h4:∀b,b≠L->W4.heap[b]?=W3.heap[b]?) :
  (∀b,b<W.heap.size->¬dC s0 β' b->b≠L->W4.heap[b]?=W.heap[b]?)∧W.heap.size<=W4.heap.size∧(∀b,dC s2 β2 b->(W.heap.size<=b∨dC s0 β' b)∧b<W4.heap.size∧¬B'.A b) ∧
   ∃B4,qb B B4∧B4.H0=W4.heap∧(∀b,B4.O0 b↔dC s2 β2 b)∧(∀b,B4.A b↔(B.A b∨X b∨b=D∨b=L))∧aj B4 β2 (s2.wq s0.fr) tm W4:=by
 have y8:∀b,dC s2 β2 b->W.heap.size<=b∨dC s0 β' b:=fun b hb=>by
  rcases(br.oS hb).2.2 with h|h
  .rw[Fy]at h;exact .inl (alU bj h)
  .exact Qw b ((J8 b).1 h)
 have hz3:W2.heap.size<=W3.heap.size:=by have:=br.size;rw[Fy]at this;exact this
 have nU:∀b,b<W.heap.size->¬dC s0 β' b->b≠L->W4.heap[b]?=W.heap[b]?:=fun b hb FA aB=>by
  have h1:¬dC s1 β1 b:=fun h=>by
   rcases Qw b h with h|h
   .omega
   .exact FA h
  refine(h4 b aB).trans ((br.frame b (by rw[Fy];omega) (fun h=>h1 ((J8 b).1 h))).trans ?_);rw[Fy];exact zG b hb FA aB
 have CM:W.heap.size<=W4.heap.size:=by omega
 have hG4:∀q∈B'.G,W4.heap[q.1]?=some q.2∧¬dC s2 β2 q.1:=fun q hq=>by
  obtain⟨g1,g2⟩:=B'.hG q hq;have hlt:=dI g1;have sV:q.1<W.heap.size:=by rw[<-hH];exact hlt
  have jJ:=B2.hG q (by rw[hG2];exact hq)
  have bY:¬dC s2 β2 q.1:=fun hb=>by
   rcases y8 _ hb with h|h
   .omega
   .exact g2 ((hO _).2 h)
  refine⟨?_,bY⟩;have h3:W3.heap[q.1]?=some q.2:=(br.frame _ (dI jJ.1) jJ.2).trans jJ.1;have hb0:=dI (B.hG q (by rw[<-hE.G];exact hq)).1;exact(h4 _ (by omega)).trans h3
 have adb:∀b,B'.A b->b<W4.heap.size:=fun b hb=>alV (B'.hA b hb) (by rw[hH];exact CM);refine⟨nU,CM,fun b hb=>⟨y8 b hb,by have:=(br.oS hb).1;omega,by have:=(br.oS hb).2.1;rw[hA2]at this;exact this⟩,?_⟩
 let B4:Base:={ n:=B'.n,io:=B'.io,G:=B'.G,H0:=W4.heap,O0:=dC s2 β2,A:=B'.A,U0:=B'.U0,β0:=B'.β0,hA:=adb,hG:=hG4 }
 have hu:∀x∈s0.used,x∈s2.used:=fun x hx=>br.us x (by rw[lj];exact hx);have ag:∀p,nm s0.used p->β2 p=β' p:=fun p hp=>by rw[<-hβ2];exact br.stay p (by rw[lj];exact hp)
 have FB:aj B4 β2 s2 Qv W4:=by
  refine br.mv sS.symm (zH.trans (br.io.trans oT)) (ali _) (fun _ _ _=>rfl) (by omega) (fun b hb hn=>h4 b (fun e=>hn (by rw[hA2,hA];exact .inr (.inr (.inr e))))) (fun b _ hb=>by rw[hA2];exact hb) (fun p k hp hk=>.inr ⟨p,k,hp,hk,rfl⟩) (fun x hx=>hu x (hs.us x hx)) (fun p hp=>?_);have:nm s0.used p:=hp.mono hs.us;exact(ag p this).trans (hs.stay p hp)
 have eH:∀b,b<W.heap.size->s2.own B'.A β2 b->s0.own B'.A β' b:=by
  rintro b hb (h1|h1)
  .exact .inl h1
  .rcases y8 b h1 with h|h
   .omega
   .exact .inr h
 have hr:∀v d,au W.heap (s0.own B'.A β') v d->au W4.heap (s2.own B'.A β2) v d:=fun v d hd=>hd.mono (fun b hb hlt=>nU b hlt (fun h=>hb (.inr h)) (fun e=>hb (.inl ((hA b).2 (.inr (.inr (.inr e))))))) eH;refine⟨B4,⟨hE.n,hE.io,hE.G,hE.U0,hE.β0,alU hE.size (by rw[hH];exact CM),fun b hb ho=>?_,fun b hb ho=>?_,fun b hb=>(hA b).2 (.inl hb)⟩,rfl,fun _=>Iff.rfl,hA,?_⟩
 .have hbW:b<W.heap.size:=by have:=hE.size;rw[hH]at this;omega
  refine(nU b hbW (fun h=>ho (hE.O0 b hb ((hO b).2 h))) (by omega)).trans ?_;rw[<-hE.frame b hb ho,hH]
 .rcases y8 b ho with h|h
  .have:=hE.size;rw[hH]at this;omega
  .exact hE.O0 b hb ((hO b).2 h)
 .exact { FB with bG:=hs.bG,slots:=fun t=>(hs.slots t).mono hr hu (fun p hp o' ho=>by obtain⟨o,h1,h2⟩:=qL p o' hp ho;exact⟨o,h1,h2,ag p hp⟩) }
theorem SS.mk'{B B4:Base}{tm:Array Value}{D L:Nat}{X:Nat->Prop}{W4:World}{s5:St}{β5:Name->Option a8}(hE:qb B B4)(hH:B4.H0=W4.heap)(dL:∀b,dC s5 β5 b->B4.O0 b)(hA:∀b,B4.A b↔(B.A b∨X b∨b=D∨b=L))
  (hs:aj B4 β5 s5 tm W4):SS B tm D L (fun b=>B.A b∨b=D∨b=L∨dC s5 β5 b) X W4 s5:=by
 refine⟨β5,{ n:=B4.n,io:=B4.io,G:=B4.G,H0:=W4.heap,O0:=dC s5 β5,A:=B4.A,U0:=B4.U0,β0:=B4.β0,hA:=fun b hb=>by rw[<-hH];exact B4.hA b hb,hG:=fun q hq=>⟨by rw[<-hH];exact(B4.hG q hq).1,fun hb=>(B4.hG q hq).2 (dL _ hb)⟩ },
  ⟨hE.n,hE.io,hE.G,hE.U0,hE.β0,by show B.H0.size<=W4.heap.size;rw[<-hH];exact hE.size,fun b hb ho=>?_,fun b hb ho=>hE.O0 b hb (dL b ho),hE.A⟩,rfl,fun _=>Iff.rfl,hA,fun _=>Iff.rfl,?_⟩
 .show W4.heap[b]?=_;rw[<-hH];exact hE.frame b hb ho
 .exact hs.mv rfl hs.io (ali _) (fun _ _ _=>rfl) (ali _) (fun _ _ _=>rfl) (fun _ _ h=>h) (fun p k hp hk=>.inr ⟨p,k,hp,hk,rfl⟩) hs.us hs.stay
def FC(P:Program)(cf:Cf)(Φ:Exit->Act->World->Prop)(B0:Base)(k:List It)(c:Code)(s:St):Prop :=
 (∃i,c=.exit i∧yq P cf Φ (CI B0) k (.exit i) s)∨(c=.ret∧yq P cf Φ (CI B0) k .ret s)
theorem ade(ps:List Nat)(vs tm:Array Value):(ps.toArray.zip vs).foldl (fun tmps (q:Nat×Value)=>tmps.setIfInBounds q.1 q.2) tm=(ps.zip vs.toList).foldl (fun tm (q:Nat×Value)=>tm.setIfInBounds q.1 q.2) tm:=by
 rw[<-Array.foldl_toList,Array.toList_zip]
theorem adf{n0:Nat}{G0:List (Nat×Obj)}{U0:List Nat}{B0 B:Base}{ps:List Nat}{assign body:Code}{k:List It}{Φ:Exit->Act->World->Prop}{X:Type}{s0:St}{Iv:X->St}{fn:FuncId}{tm:Array Value}{D L:Nat}{C Xs:Nat->Prop}{W:World}{vs:Array Value}
  {xl:List Ab.D} (hB:(⟨n0,none,G0,U0⟩:Cf).fits B) (J9:∀t∈ps,t<n0) (jt:xl.length=ps.length)
  (hr:run P ⟨n0,some L,G0,s0.used⟩ [.code assign] (fun e s1=>e=.normal∧run P ⟨n0,some L,G0,s0.used⟩ [.code body] (rq P ⟨n0,none,G0,U0⟩ Φ B0 k Iv s0) s1) (Ab.tc s0 ps xl))
  (hL:W.heap[L]?=some (.loop { state:=.ready,pending:=none,fn,tmps:=tm,params:=ps.toArray,assign,body,defers:=D })) (Qz:D≠L) (Qx:B.H0.size<=L) (hDz:B.H0.size<=D) (hD:W.heap[D]?=some (.deferred (some [])))
  (hS:SS B tm D L C Xs W s0) (eJ:vs.size=xl.length) (cd:∀i d,xl[i]?=some d->au W.heap (fun b=>C b∨Xs b) (vs.getD i undef) d) :
  YieldAt Fence.wide 0 P L vs W fun e W'=>∃C',(dH W'=dH W∧W.heap.size<=W'.heap.size∧(∀b,b<W.heap.size->¬C b->W'.heap[b]?=W.heap[b]?)∧(∀q∈G0,W'.heap[q.1]?=W.heap[q.1]?)∧∀b,C' b->(C b∨W.heap.size<=b)∧b<W'.heap.size)∧W'.heap[D]?=some (.deferred (some [])) ∧
   ((e=.returned (.bool true)∧W'.heap[L]?=some (.loop { state:=.ready,pending:=none,fn,tmps:=tm,params:=ps.toArray,assign,body,defers:=D })∧∃y,SS B tm D L C' Xs W' (Iv y)) ∨
    (e=.returned (.bool false)∧∃c s',W'.heap[L]?=some (.loop { state:=.done,pending:=some c,fn,tmps:=tm,params:=ps.toArray,assign,body,defers:=D })∧FC P ⟨n0,none,G0,U0⟩ Φ B0 k c s'∧SS B tm D L C' Xs W' s')):=by
 obtain⟨β',B',hE,hH,hO,hA,hC,dk⟩:=hS;have adg:=dI hL;have adh:=dI hD;refine⟨fn,_,assign,body,run_yield hL (by simp[eJ,jt]),roundIn_of_wpIn trivial ?_⟩;rw[ade];have FE:∀q∈B'.G,W.heap[q.1]?=some q.2∧¬dC s0 β' q.1:=fun q hq=>⟨by rw[<-hH];exact(B'.hG q hq).1,fun hb=>(B'.hG q hq).2 ((hO _).2 hb)⟩
 let QA:Base:={ n:=B'.n,io:=B'.io,G:=B'.G,H0:=W.heap,O0:=dC s0 β',A:=B'.A,U0:=s0.used,β0:=β',hA:=fun b hb=>by rw[<-hH];exact B'.hA b hb,hG:=FE }
 have mr:aj QA β' s0 tm W:=dk.mv rfl dk.io (ali _) (fun _ _ _=>rfl) (ali _) (fun _ _ _=>rfl) (fun _ _ h=>h) (fun p k hp hk=>.inr ⟨p,k,hp,hk,rfl⟩) (fun _ h=>h) (fun _ _=>rfl);have wu:B'.n=n0:=hE.n.trans hB.1;have Ka:B'.G=G0:=hE.G.trans hB.2.2
 have Kb:=mr.tc ps xl vs.toList s0 tm (fun t ht=>by show t<B'.n;rw[wu];exact J9 t ht) (by simpa using eJ) (fun i d hi=>by
  have:=cd i d hi;rw[show vs.toList.getD i undef=vs.getD i undef by simp[akZ,akX]];refine this.mono (fun _ _ _=>rfl) (fun b _ hb=>?_);obtain hb|hb:=hb
  .rcases(hA b).1 hb with h|h|h|h
   .exact .inl ((hC b).2 (.inl h))
   .exact .inr h
   .exact .inl ((hC b).2 (.inr (.inl h)))
   .exact .inl ((hC b).2 (.inr (.inr (.inl h))))
  .exact .inl ((hC b).2 (.inr (.inr (.inr hb)))))
 have adi:=eB hr QA ⟨wu,rfl,Ka⟩ [] β' { tmps:=(ps.zip vs.toList).foldl (fun tm (q:Nat×Value)=>tm.setIfInBounds q.1 q.2) tm,defers:=[] } W rfl Kb;refine wpIn_mono adi ?_;rintro e a1 W1 ⟨nV,s1,β1,⟨rfl,aF⟩,qc⟩;have QB:∀b,B'.A b->¬dC s0 β' b:=fun b hb ho=>(dk.oS ho).2.1 hb;have Kc:B'.A L:=(hA L).2 (.inr (.inr (.inr rfl)));have CN:B'.A D:=(hA D).2 (.inr (.inr (.inl rfl)));have Kd:=(qc.frame L adg (QB L Kc)).trans hL;have Ke:=(qc.frame D adh (QB D CN)).trans hD;refine⟨_,run_beginRound Kd rfl,?_⟩;obtain⟨W2,CO⟩:∃W2,W1.putObj L (.loop { state:=.busy,pending:=none,fn,tmps:=tm,params:=ps.toArray,assign,body,defers:=D })=W2:=⟨_,rfl⟩
 show body.wpIn _ _ _ _ _ (W1.putObj L (.loop { state:=.busy,pending:=none,fn,tmps:=tm,params:=ps.toArray,assign,body,defers:=D }));rw[CO];have akD:W2.heap.size=W1.heap.size:=by rw[<-CO];simp
 have akE:W.heap.size<=W1.heap.size:=qc.size;have zG:∀b,b≠L->W2.heap[b]?=W1.heap[b]?:=fun b hb=>by rw[<-CO];exact World.putObj_heap_other hb
 have tq:W2.heap[L]?=some (.loop { state:=.busy,pending:=none,fn,tmps:=tm,params:=ps.toArray,assign,body,defers:=D }):=by rw[<-CO];exact World.putObj_heap_same (by omega)
 have QC:=(zG D Qz).trans Ke;have oT:dH W2=dH W1:=by rw[<-CO];rfl
 have QD:∀q∈B'.G,q.1<B.H0.size:=fun q hq=>dI (B.hG q (by rw[<-hE.G];exact hq)).1
 have hGB:∀q∈B'.G,W2.heap[q.1]?=some q.2∧¬dC s1 β1 q.1:=fun q hq=>by
  have h0:=QD q hq;have h1:=FE q hq;refine⟨(zG _ (by omega)).trans ((qc.frame _ (dI h1.1) h1.2).trans h1.1),fun hb=>?_⟩;rcases(qc.oS hb).2.2 with h|h
  .have:=dI h1.1;change W.heap.size<=_ at h;omega
  .exact h1.2 h
 let Kf:Base:={ n:=B'.n,io:=B'.io,G:=B'.G,H0:=W2.heap,O0:=dC s1 β1,A:=B'.A,U0:=s0.used,β0:=β',hA:=fun b hb=>by have:=B'.hA b hb;rw[hH]at this;omega,hG:=hGB }
 have hsB:aj Kf β1 s1 a1.tmps W2:=qc.mv rfl (oT.trans qc.io) (ali _) (fun _ _ _=>rfl) (by omega) (fun b hb hn=>zG b (fun e=>hn (e▸Kc))) (fun _ _ h=>h) (fun p k hp hk=>.inr ⟨p,k,hp,hk,rfl⟩) qc.us qc.stay;have adj:=eB aF Kf ⟨wu,rfl,Ka⟩ [] β1 a1 W2 nV hsB;refine wpIn_mono adj ?_;rintro e a3 W3 ⟨Kg,s2,β2,hq,iI⟩;have Kh:=(iI.frame L (dI tq) (fun ho=>(qc.oS ho).2.1 Kc)).trans tq;have hD3:=(iI.frame D (dI QC) (fun ho=>(qc.oS ho).2.1 CN)).trans QC;have QF:=dI Kh
 have QG:∀(W4:World),LK s0 s2->W3.heap.size=W4.heap.size->dH W4=dH W3->(∀b,b≠L->W4.heap[b]?=W3.heap[b]?) ->
   (W4.heap[D]?=some (.deferred (some []))∧∃B4,qb B B4∧B4.H0=W4.heap∧(∀b,B4.O0 b↔dC s2 β2 b)∧(∀b,B4.A b↔(B.A b∨Xs b∨b=D∨b=L))∧aj B4 β2 (s2.wq s0.fr) tm W4) ∧
    ∀C':Nat->Prop,(∀b,C' b->B.A b∨b=D∨b=L∨dC s2 β2 b)->(dH W4=dH W∧W.heap.size<=W4.heap.size∧(∀b,b<W.heap.size->¬C b->W4.heap[b]?=W.heap[b]?)∧(∀q∈G0,W4.heap[q.1]?=W.heap[q.1]?)∧∀b,C' b->(C b∨W.heap.size<=b)∧b<W4.heap.size):=by
  intro W4 qL Qy zH h4;obtain⟨g1,g2,g3,B4,g4,g5,g6,g7,g8⟩:=SS.after (B2:=Kf) (W2:=W2) hE hH hO hA dk rfl rfl rfl rfl (fun _=>Iff.rfl) rfl rfl rfl (by omega) (fun b hb FA aB=>(zG b aB).trans (qc.frame b hb FA)) (fun b hb=>(qc.oS hb).2.2) iI qL Qx Qy zH h4;refine⟨⟨(h4 D Qz).trans hD3,B4,g4,g5,g6,g7,g8⟩,fun C' wv=>⟨zH.trans (iI.io.trans dk.io.symm),g2,fun b hb hn=>g1 b hb (fun h=>hn ((hC b).2 (.inr (.inr (.inr h))))) (fun h=>hn ((hC b).2 (.inr (.inr (.inl h))))),fun q hq=>?_,fun b hb=>?_⟩⟩
  .have bX:q∈B'.G:=by rw[Ka];exact hq
   have h0:=QD q bX;exact g1 _ (dI (FE q bX).1) (FE q bX).2 (by omega)
  .have hBA:∀b,B.A b->b<W4.heap.size:=fun b hb=>by have:=B.hA b hb;have:=hE.size;rw[hH]at this;omega
   rcases wv b hb with h|rfl|rfl|h
   .exact⟨.inl ((hC b).2 (.inl h)),hBA b h⟩
   .exact⟨.inl ((hC _).2 (.inr (.inl rfl))),by omega⟩
   .exact⟨.inl ((hC _).2 (.inr (.inr (.inl rfl)))),by omega⟩
   .obtain⟨h1,h2,_⟩:=g3 b h;refine⟨?_,h2⟩;obtain h1|h1:=h1
    .exact .inr h1
    .exact .inl ((hC b).2 (.inr (.inr (.inr h1))))
 have QH:∀(c:Code),LK s0 s2->FC P ⟨n0,none,G0,U0⟩ Φ B0 k c (s2.wq s0.fr)->∃v W4,(Instr.endRound L (some c)).run P W3=.ok v W4∧∃C',(dH W4=dH W∧W.heap.size<=W4.heap.size∧(∀b,b<W.heap.size->¬C b->W4.heap[b]?=W.heap[b]?)∧(∀q∈G0,W4.heap[q.1]?=W.heap[q.1]?)∧∀b,C' b->(C b∨W.heap.size<=b)∧b<W4.heap.size)∧W4.heap[D]?=some (.deferred (some [])) ∧
   ((Ending.returned v=.returned (.bool true)∧W4.heap[L]?=some (.loop { state:=.ready,pending:=none,fn,tmps:=tm,params:=ps.toArray,assign,body,defers:=D })∧∃y,SS B tm D L C' Xs W4 (Iv y)) ∨
    (Ending.returned v=.returned (.bool false)∧∃c s',W4.heap[L]?=some (.loop { state:=.done,pending:=some c,fn,tmps:=tm,params:=ps.toArray,assign,body,defers:=D })∧FC P ⟨n0,none,G0,U0⟩ Φ B0 k c s'∧SS B tm D L C' Xs W4 s')):=by
  intro c qL hj;obtain⟨⟨r1,B4,r2,r3,r4,r5,r6⟩,r7⟩:=QG (W3.putObj L (.loop { state:=.done,pending:=some c,fn,tmps:=tm,params:=ps.toArray,assign,body,defers:=D })) qL (by simp) rfl (fun b hb=>World.putObj_heap_other hb);exact⟨_,_,run_endRound (some c) Kh,_,r7 _ (fun b hb=>hb),r1,.inr ⟨rfl,c,_,World.putObj_heap_same QF,hj,SS.mk' (s5:=s2.wq s0.fr) (β5:=β2) r2 r3 (fun b hb=>(r4 b).2 hb) r5 r6⟩⟩
 cases e with
 |normal =>
   obtain⟨qL,y,τ,hle⟩:=hq;obtain⟨⟨r1,B4,r2,r3,r4,r5,r6⟩,r7⟩:=QG (W3.putObj L (.loop { state:=.ready,pending:=none,fn,tmps:=tm,params:=ps.toArray,assign,body,defers:=D })) qL (by simp) rfl (fun b hb=>World.putObj_heap_other hb);obtain⟨β5,uF,hβ5⟩:=r6.le (τ:=τ) (by rw[r2.U0,hB.2.1];exact hle)
   have dL:∀b,dC (Iv y) β5 b->dC s2 β2 b:=by
    rintro b ⟨p,k,hp,hk,rfl⟩
    cases ho:(Iv y).hp p with
    |none=>exact absurd ho hp
    |some o =>
      refine⟨τ p,k,?_,by rw[<-hβ5 p hp];exact hk,rfl⟩;have:=(hle.hp p o ho).1;intro h;have h':(s2.wq s0.fr).hp (τ p)=none:=h;rw[h']at this;cases this
   exact⟨_,_,run_endRound none Kh,_,r7 (fun b=>B.A b∨b=D∨b=L∨dC (Iv y) β5 b) (fun b hb=>Or.imp id (Or.imp id (Or.imp id (dL b))) hb),r1,.inl ⟨rfl,World.putObj_heap_same QF,y,SS.mk' r2 r3 (fun b hb=>(r4 b).2 (dL b hb)) r5 uF⟩⟩
 |exit i=>exact QH (.exit i) hq.1 (.inl ⟨i,rfl,hq.2⟩)
 |ret=>exact QH .ret hq.1 (.inr ⟨rfl,hq.2⟩)
 |goto l=>exact hq.elim
 |panic c=>exact hq.elim
 |outgrown=>exact hq.elim
end
end Go.Ab

namespace Go.Ab
open Go.RowKit
section
variable {P:Program}{cf:Cf}
def QI(P:Program)(cf:Cf)(body:Code)(Q:Exit->St->Prop)(e:Exit)(s1:St):Prop:=e=.normal∧run P cf [.code body] Q s1
theorem QJ{P:Program}{cf:Cf}{body:Code}{Q:Exit->St->Prop}{s1:St}(h:∀E:bu P cf Q,E.run [.code body] s1):QI P cf body Q .normal s1:=⟨rfl,aS h⟩
theorem QK{B0:Base}(FF:cf.ro=none){f:FuncId}{aG:List D}{N:Nat}{xs:Nat->List D}(hit:Fx P cf.G f aG N xs){g:Operand}{ps:List Nat}{assign body:Code}{k:List It}{s:St}{Φ:Exit->Act->World->Prop}
  (bp:ev s g=.d (.aH f aG)) {X:Type} (Iv:Nat->X->St) (J9:∀t∈ps,t<cf.n) (nM:∀n,n<N->(xs n).length=ps.length) (h0:∃x τ,Le cf.U τ s (Iv 0 x))
  (hr:∀n x,n<N->∀l,run P ⟨cf.n,some l,cf.G,(Iv n x).used⟩ [.code assign] (QI P ⟨cf.n,some l,cf.G,(Iv n x).used⟩ body (rq P cf Φ B0 k (Iv (n+1)) (Iv n x))) (tc (Iv n x) ps (xs n)))
  (hd:∀x,dW P cf Φ (CI B0) k (Iv N x)):dW P cf Φ (CI B0) (.code (.rangeFunc g ps.toArray assign body)::k) s:=by
 obtain⟨n0,ro,G0,U0⟩:=cf;simp only at FF;subst FF;intro B hB ds β a w ai Ki hs;refine wpIn_rangeFunc fun fn _=>?_;have hg:=hs.ev g;rw[bp]at hg
 obtain⟨cvs,bj,mh,hval⟩:∃cvs:Array Value,cvs.size=aG.length∧(∀i d,aG[i]?=some d->au w.heap (s.own B.A β) (cvs.getD i undef) d)∧a.eval g=.func (.func f) #[] cvs:=by
  have:=hg.cA;generalize a.eval g=v at this
  cases this with
  |aH _ vs _ h1 h2=>exact⟨vs,h1,h2,rfl⟩
 obtain⟨W1,qd⟩:∃W1,(w.alloc (.deferred (some []))).alloc (.loop { state:=.ready,pending:=none,fn,tmps:=a.tmps,params:=ps.toArray,assign,body,defers:=w.heap.size })=W1:=⟨_,rfl⟩
 have qF:W1.heap.size=w.heap.size+2:=by rw[<-qd];simp
 have Kd:W1.heap[w.heap.size+1]?=some (.loop { state:=.ready,pending:=none,fn,tmps:=a.tmps,params:=ps.toArray,assign,body,defers:=w.heap.size }):=by
  rw[<-qd];have:=World.alloc_heap_new (w.alloc (.deferred (some []))) (.loop { state:=.ready,pending:=none,fn,tmps:=a.tmps,params:=ps.toArray,assign,body,defers:=w.heap.size })
  rwa [World.size_alloc]at this
 have Ke:W1.heap[w.heap.size]?=some (.deferred (some [])):=by
  rw[<-qd];exact(Below.heap_alloc _ _ _ (by simp)).trans (World.alloc_heap_new w _)
 have hold:∀b,b<w.heap.size->W1.heap[b]?=w.heap[b]?:=fun b hb=>by
  rw[<-qd];exact(Below.heap_alloc _ _ _ (by simp;omega)).trans (Below.heap_alloc _ _ _ hb)
 have tu:dH W1=dH w:=by rw[<-qd];rfl
 obtain⟨x0,τ,hle⟩:=h0;obtain⟨β0,nW,hβ0⟩:=hs.le (τ:=τ) (by rw[hB.2.1];exact hle);have hBz:B.H0.size<=w.heap.size:=hs.size
 have QL:∀b,dC (Iv 0 x0) β0 b->s.own B.A β b:=by
  rintro b ⟨p,k,hp,hk,rfl⟩
  cases ho:(Iv 0 x0).hp p with
  |none=>exact absurd ho hp
  |some o =>
    refine .inr ⟨τ p,k,?_,by rw[<-hβ0 p hp];exact hk,rfl⟩;rw[(hle.hp p o ho).1];simp
 let D:=w.heap.size
 let L:=w.heap.size+1
 let RB:LoopState->Option Code->(Nat->Prop)->World->Prop:=fun st pe X W =>
  W.heap[L]?=some (.loop { state:=st,pending:=pe,fn,tmps:=a.tmps,params:=ps.toArray,assign,body,defers:=D })∧W.heap[D]?=some (.deferred (some []))∧w.heap.size+2<=W.heap.size∧∀b,X b->w.heap.size+2<=b∧b<W.heap.size
 obtain⟨z,uu,xQ,Kj,Kk,QM⟩:∃z:q6,z.l=L∧z.w=W1∧(z.C0=fun b=>B.A b∨b=D∨b=L∨dC (Iv 0 x0) β0 b)∧(z.J=fun n C X W=>RB .ready none X W∧∃x,SS B a.tmps D L C X W (Iv n x)) ∧
  (z.Jx=fun _ C X W=>∃c s',RB .done (some c) X W∧FC P ⟨n0,none,G0,U0⟩ Φ B0 k c s'∧SS B a.tmps D L C X W s'):=⟨⟨L,W1,_,_,_⟩,rfl,rfl,rfl,rfl,rfl⟩
 have QN:∀st pe X W X' W',RB st pe X W->CJ W X W' X'->RB st pe X' W':=fun st pe X W X' W' ⟨h1,h2,h3,h4⟩ ag=>by
  refine⟨(ag.same L (dI h1) (fun hx=>by have:=(h4 _ hx).1;show False;simp only[L]at this;omega)).trans h1,(ag.same D (dI h2) (fun hx=>by have:=(h4 _ hx).1;show False;simp only[D]at this;omega)).trans h2,alU h3 ag.size,fun b hb=>⟨?_,(ag.new b hb).2⟩⟩;rcases(ag.new b hb).1 with h|h
  .exact(h4 b h).1
  .exact alU h3 h
 have hz:z.Ok P G0 N xs:=by
  refine⟨?_,?_,?_,?_⟩<;>simp only[uu,xQ,Kj,Kk,QM]
  .rintro b (h|rfl|rfl|h)
   .have:=B.hA b h;show b<W1.heap.size;omega
   .show w.heap.size<W1.heap.size;omega
   .show w.heap.size+1<W1.heap.size;omega
   .have:=hs.Em (QL b h);show b<W1.heap.size;omega
  .rintro n C X W X' W' ⟨h1,x,h2⟩ ag;exact⟨QN _ _ _ _ _ _ h1 ag,x,h2.bc ag (fun b hb=>(h1.2.2.2 b hb).1) (by omega) h1.2.2.1 (dI h1.2.1) (dI h1.1)⟩
  .rintro n C X W X' W' ⟨c,s',h1,hj,h2⟩ ag;exact⟨c,s',QN _ _ _ _ _ _ h1 ag,hj,h2.bc ag (fun b hb=>(h1.2.2.2 b hb).1) (by omega) h1.2.2.1 (dI h1.2.1) (dI h1.1)⟩
  .rintro n C X W vs hn ⟨h1,x,h2⟩ eJ cd;obtain⟨fn',t',as',bd',hy,CK⟩:=adf (B0:=B0) (k:=k) (Iv:=Iv (n+1)) (D:=D) (L:=L) hB J9 (nM n hn) (hr n x hn L) h1.1 (by simp only[D,L];omega) (by simp only[L];omega) (by simp only[D];omega) h1.2.1 h2 eJ cd;refine⟨fn',t',as',bd',hy,CK.mono ?_⟩;rintro e W' ⟨C',hc,xS,hq⟩;have hX:∀b,X b->w.heap.size+2<=b∧b<W'.heap.size:=fun b hb=>⟨(h1.2.2.2 b hb).1,alV (h1.2.2.2 b hb).2 hc.2.1⟩
   refine⟨C',hc,?_⟩;obtain⟨rfl,hl,y,hS⟩|⟨rfl,c,s',hl,hj,hS⟩:=hq
   .exact .inl ⟨rfl,⟨hl,xS,alU h1.2.2.1 hc.2.1,hX⟩,y,hS⟩
   .exact .inr ⟨rfl,c,s',⟨hl,xS,alU h1.2.2.1 hc.2.1,hX⟩,hj,hS⟩
 have hJ0:z.J 0 z.C0 (fun _=>False) z.w:=by
  simp only[xQ,Kj,Kk];refine⟨⟨Kd,Ke,by show _<=W1.heap.size;omega,fun b hb=>hb.elim⟩,x0,?_⟩
  have hG:∀q∈B.G,W1.heap[q.1]?=some q.2∧¬dC (Iv 0 x0) β0 q.1:=fun q hq=>by
   obtain⟨g1,g2⟩:=B.hG q hq;have hlt:=dI g1;refine⟨(hold _ (by omega)).trans ((hs.frame _ hlt g2).trans g1),fun hb=>?_⟩;rcases(nW.oS hb).2.2 with h|h
   .omega
   .exact g2 h
  have hA1:∀b,(B.A b∨False∨b=D∨b=L)->b<W1.heap.size:=by
   rintro b (h|h|rfl|rfl)
   .have:=B.hA b h;omega
   .exact h.elim
   .show w.heap.size<_;omega
   .show w.heap.size+1<_;omega
  let B1:Base:={ n:=B.n,io:=B.io,G:=B.G,H0:=W1.heap,O0:=dC (Iv 0 x0) β0,A:=fun b=>B.A b∨False∨b=D∨b=L,U0:=B.U0,β0:=B.β0,hG:=hG,hA:=hA1 }
  refine SS.mk' (B4:=B1) (β5:=β0) ⟨rfl,rfl,rfl,rfl,rfl,by show B.H0.size<=W1.heap.size;omega,fun b hb ho=>(hold b (by omega)).trans (hs.frame b hb ho),fun b hb ho=>?_,fun b hb=>.inl hb⟩ rfl (fun b hb=>hb) (fun b=>Iff.rfl) ?_
  .rcases(nW.oS ho).2.2 with h|h
   .omega
   .exact h
  .refine nW.mv rfl (tu.trans hs.io) (ali _) (fun _ _ _=>rfl) (by omega) (fun b hb _=>hold b hb) (fun b hb hc=>?_) (fun p k hp hk=>.inr ⟨p,k,hp,hk,rfl⟩) nW.us nW.stay;obtain h|h|h|h:=hc
   .exact h
   .exact h.elim
   .simp only[D]at h;omega
   .simp only[L]at h;omega
 have adk:∀i d,aG[i]?=some d->au z.w.heap z.C0 (cvs.getD i undef) d:=fun i d hi=>(by rw[xQ,Kj];exact(mh i d hi).mono (fun b _ hlt=>hold b hlt) (fun b hb hc=>by
  obtain h|h|h|h:=hc
  .exact .inl h
  .simp only[D]at h;omega
  .simp only[L]at h;omega
  .exact QL b h))
 have hGz:∀q∈G0,z.w.heap[q.1]?=some q.2:=fun q hq=>by
  obtain⟨g1,g2⟩:=B.hG q (by rw[hB.2.2];exact hq);have hlt:=dI g1;rw[xQ];exact(hold _ (by omega)).trans ((hs.frame _ hlt g2).trans g1)
 have pR:=hit.2 z hz cvs bj adk hJ0 hGz;rw[uu,xQ]at pR;simp only[Kk,QM]at pR;refine⟨L,[xR D],W1,{ target:=.fn (.func f) cvs,args:=#[.func (.yield L) #[] #[]] },W1,f,#[.func (.yield L) #[] #[]]++cvs,W1,?_,?_,fun _ _=>trivial,?_,fun pQ=>by simp[xw]at pQ,?_⟩
 .rw[<-qd];exact run_enterLoop_outer _ _ _ _ _
 .simp only[resolve,hval];simp[go_sem]
 .simp[invoke,go_sem,hit.1]
 have rS:CallsIn (Fw none) (0-1) P f (#[.func (.yield L) #[] #[]]++cvs) W1 _:=pR;refine rS.mono ?_;rintro e W2 ⟨⟨v,rfl⟩,C,X',hq⟩
 have key:∀st pe s',RB st pe X' W2->SS B a.tmps D L C X' W2 s'->∃W4 B5 β5,W4=W2.putObj L (.loop { state:=.exhausted,pending:=pe,fn,tmps:=a.tmps,params:=ps.toArray,assign,body,defers:=D })∧CI B0 B5 ([xR D]++a.defers)∧(⟨n0,none,G0,U0⟩:Cf).fits B5∧aj B5 β5 s' a.tmps W4:=by
  rintro st pe s' ⟨h1,h2,h3,h4⟩ ⟨β',B',hE,hH,hO,hA,hC,dk⟩;have CP:∀b,b≠L->(W2.putObj L (.loop { state:=.exhausted,pending:=pe,fn,tmps:=a.tmps,params:=ps.toArray,assign,body,defers:=D })).heap[b]?=W2.heap[b]?:=fun b hb=>World.putObj_heap_other hb;have hlt:∀b,b<B.H0.size->b≠L:=fun b hb=>by simp only[L];omega
  have CM:(W2.putObj L (.loop { state:=.exhausted,pending:=pe,fn,tmps:=a.tmps,params:=ps.toArray,assign,body,defers:=D })).heap.size=W2.heap.size:=by simp
  generalize hW4:W2.putObj L (.loop { state:=.exhausted,pending:=pe,fn,tmps:=a.tmps,params:=ps.toArray,assign,body,defers:=D })=W4 at CP CM;have zH:dH W4=dH W2:=by rw[<-hW4];rfl
  have hG5:∀q∈B'.G,W4.heap[q.1]?=some q.2∧¬dC s' β' q.1:=fun q hq=>by
   have g0:=dI (B.hG q (by rw[<-hE.G];exact hq)).1;have g1:=B'.hG q hq;exact⟨(CP _ (hlt _ g0)).trans (by rw[<-hH];exact g1.1),fun hb=>g1.2 ((hO _).2 hb)⟩
  let B5:Base:={ n:=B'.n,io:=B'.io,G:=B'.G,H0:=W4.heap,O0:=dC s' β',A:=B'.A,U0:=B'.U0,β0:=B'.β0,hA:=fun b hb=>by have:=B'.hA b hb;rw[hH]at this;omega,hG:=hG5 }
  have xT:qb B B5:=by
   refine⟨hE.n,hE.io,hE.G,hE.U0,hE.β0,by show B.H0.size<=W4.heap.size;omega,fun b hb ho=>?_,fun b hb ho=>hE.O0 b hb ((hO b).2 ho),hE.A⟩;show W4.heap[b]?=_;rw[CP b (hlt b hb),<-hH];exact hE.frame b hb ho
  refine⟨W4,B5,β',rfl,⟨Ki.ext.trans xT,?_⟩,⟨xT.n.trans hB.1,xT.U0.trans hB.2.1,xT.G.trans hB.2.2⟩,?_⟩
  .obtain⟨Ds,e1,e2,e3⟩:=Ki.mark;have CN:B'.A D:=(hA D).2 (.inr (.inr (.inl rfl)));refine⟨D::Ds,by rw[ai,e1];rfl,alW.2 ⟨fun hm=>?_,e2⟩,fun D' xS=>?_⟩
   .have:=dI (e3 D hm).1;simp only[D]at this;omega
   .rcases alc.1 xS with rfl|hm
    .refine⟨(CP D (by simp only[D,L];omega)).trans h2,CN,alU Ki.ext.size hBz,fun ho=>(dk.oS ho).2.1 CN⟩
    .obtain⟨f1,f2,f3,f4⟩:=e3 D' hm;have hl:=dI f1;exact⟨(xT.frame D' hl f4).trans f1,xT.A D' f2,f3,fun ho=>f4 (xT.O0 D' hl ho)⟩
  .exact dk.mv rfl (zH.trans dk.io) (ali _) (fun _ _ _=>rfl) (by omega) (fun b hb hn=>CP b (fun e=>hn (e▸(hA L).2 (.inr (.inr (.inr rfl)))))) (fun b _ h=>h) (fun p k hp hk=>.inr ⟨p,k,hp,hk,rfl⟩) dk.us dk.stay
 obtain⟨h1,x,hS⟩|⟨n,c,s',h1,hj,hS⟩:=hq
 .obtain⟨W4,B5,β5,e4,FG,FH,uF⟩:=key _ _ _ h1 hS;refine⟨none,W4,?_,?_⟩
  .rw[e4];exact run_endLoop h1.1 (by simp)
  .exact hd x B5 FH _ β5 { a with defers:=[xR D]++a.defers } W4 rfl FG uF
 .obtain⟨W4,B5,β5,e4,FG,FH,uF⟩:=key _ _ _ h1 hS;refine⟨some c,W4,?_,?_⟩
  .rw[e4];exact run_endLoop h1.1 (by simp)
  .rcases hj with⟨i,rfl,hy⟩|⟨rfl,hy⟩
   .exact wpIn_exit (xP (a:={ a with defers:=[xR D]++a.defers }) FH FG rfl hy uF)
   .exact wpIn_ret (xP (a:={ a with defers:=[xR D]++a.defers }) FH FG rfl hy uF)
def RH(B0:Base)(Q:AV->List (Name×Ob)->Prop)(e:Ending)(w:World):Prop:=∃v r ae u' β',e=.returned v∧Q r ae∧aj { B0 with n:=1 } β' (mk [(0,r)] ae u') #[v] w
def ΦR(P:Program)(fn:Func)(B0:Base)(Q:AV->List (Name×Ob)->Prop):Exit->Act->World->Prop:=bodyPostM Fence.wide 0 P fn (RH B0 Q)
theorem marks{fn:Func}{tmps:Array Value}{R:Ending->World->Prop}:∀(Ds:List Nat) (w:World),Ds.Nodup->(∀D∈Ds,w.heap[D]?=some (.deferred (some []))) ->
  (∀w',w'.heap.size=w.heap.size->dH w'=dH w->(∀b,b∉Ds->w'.heap[b]?=w.heap[b]?)->∃v,(results fn tmps).run P w'=.ok v w'∧R (.returned v) w')->LeavesInM Fence.wide 0 P fn tmps R (Ds.map xR) .returning w
 |[],w,_,_,h=>h w rfl rfl (fun _ _=>rfl)
 |D::Ds,w,hn,hd,h=>by
   obtain⟨h1,h2⟩:=alW.1 hn;have hD:=hd D alb;refine⟨by simp,.inl ⟨D,_,rfl,run_takeDeferred hD,marks Ds _ h2 (fun D' xS=>?_) (fun w' z1 z2 z3=>?_)⟩⟩
   .have aB:D'≠D:=fun e=>h1 (e▸xS);exact(World.putObj_heap_other aB).trans (hd D' (ald _ xS))
   .refine h w' (by rw[z1];simp) (z2.trans rfl) (fun b hb=>?_);rw[z3 b (fun hm=>hb (ald _ hm))];have aB:b≠D:=fun e=>hb (e▸alb);exact World.putObj_heap_other aB
theorem CI.back{B0 B:Base}{ds:List Deferred}{β:Name->Option a8}{s:St}{tm:Array Value}{w:World}(h:CI B0 B ds)(hs:aj B β s tm w){fn:Func}{R:Ending->World->Prop}
  (hR:∀w',aj B0 β s tm w'->∃v,(results fn tm).run P w'=.ok v w'∧R (.returned v) w'):LeavesInM Fence.wide 0 P fn tm R ds .returning w:=by
 obtain⟨Ds,rfl,hn,hd⟩:=h.mark;refine marks Ds w hn (fun D hD=>?_) (fun w' z1 z2 z3=>hR w' ?_)
 .obtain⟨f1,f2,f3,f4⟩:=hd D hD;exact(hs.frame D (dI f1) f4).trans f1
 .have hz:=h.ext.size;have nY:=hs.size;refine hs.mv h.ext.n.symm (z2.trans (hs.io.trans h.ext.io)) (by omega) (fun b hb ho=>?_) (by omega) (fun b hb Br=>z3 b (fun hm=>Br (hd b hm).2.1)) (fun b _ hb=>h.ext.A b hb) (fun p k hp hk=>?_) (by rw[<-h.ext.U0];exact hs.us) (by rw[<-h.ext.U0,<-h.ext.β0];exact hs.stay)
  .rw[z3 b (fun hm=>by have:=(hd b hm).2.2.1;omega),hs.frame b (by omega) (fun hc=>ho (h.ext.O0 b hb hc))];exact h.ext.frame b hb ho
  .rcases(hs.blocks p k hp hk).2.2 with g|g
   .exact .inl (by omega)
   .rcases alP k.b B0.H0.size with hlt|cK
    .exact .inr (h.ext.O0 _ hlt g)
    .exact .inl cK
theorem adl{B:Base}{β:Name->Option a8}{s:St}{tm:Array Value}{w:World}{v:Value}{x:AV}(bh:aj B β s tm w)(hv:VR w.heap (s.own B.A β) s.used s.hp β v x):aj { B with n:=1 } β (qK s x) #[v] w:=by
 refine { bG:=rfl,io:=bh.io,size:=bh.size,frame:=bh.frame,slots:=fun t=>?_,aJ:=bh.aJ,blocks:=bh.blocks,inj:=bh.inj,us:=bh.us,stay:=bh.stay };show VR w.heap (s.own B.A β) s.used s.hp β _ (if t=0 then x else .un);by_cases ht:t=0
 .subst ht;rw[if_pos rfl];exact hv
 .rw[if_neg ht];exact .un _
theorem Kl{B0:Base}{fn:Func}{Q:AV->Prop}{s:St}{e:Exit}(he:e=.ret∨e=.normal)(hu:B0.U0=[])(h:pz P fn.results.toList Q .ret s):q5 cf (ΦR P fn { B0 with n:=1 } fun r ae=>Q r∧r.bn []=true∧ae=[]) (CI B0) e s:=by
 intro B hB ds β a w ai hc hs
 have:LeavesInM Fence.wide 0 P fn a.tmps (RH { B0 with n:=1 } fun r ae=>Q r∧r.bn []=true∧ae=[]) a.defers .returning w:=by
  rw[ai];refine hc.back hs (fun w' bm=>?_);obtain⟨l,v,⟨L,hL,aU,hQ⟩,hr,hv⟩:=Io bm fn h;obtain⟨s2,br,oD⟩:=Jb L _ (adl bm hv) (Jc (e7 l) L s _ rfl hL)
  have hle:cw ([]:List Nat) id s2 [(0,mH L (e7 l))] [] []:=by
   refine⟨⟨⟨?_,aU⟩,trivial⟩,trivial,trivial,rfl,trivial⟩;rw[AV.mE id (fun _=>rfl),oD 0];rfl
  obtain⟨β2,iI,_⟩:=br.le (τ:=id) (by show Le B0.U0 id _ _;rw[hu];exact hle.le);exact⟨v,hr,v,_,_,_,β2,rfl,⟨hQ,aU,rfl⟩,iI⟩
 rcases he with rfl|rfl<;>exact this
theorem Km{G:List (Nat×Obj)}{f:FuncId}{fn:Func}{c:Code}{args:List AV}{hp:List (Name×Ob)}{u:List Nat}{Q:AV->List (Name×Ob)->Prop}(hf:P.funcs[f]?=some fn)(hb:fn.body=some c)
  (eO:(fn.name == "runtime.NumGoroutine")=false) (hn:args.length<=fn.ntmps)
  (h:∀B0:Base,B0.U0=u->dW P ⟨fn.ntmps,none,G,u⟩ (ΦR P fn { B0 with n:=1 } Q) (CI B0) [.code c] (mk (dQ 0 args) hp u)):bZ P G f args hp u Q:=by
 refine⟨vH hf hb eO,fun B β vs w h1 h2 h3 h4 hs=>?_⟩;have bj:vs.size=args.length:=hs.bG.trans h1
 have bm:aj { B with n:=fn.ntmps } β (mk (dQ 0 args) hp u) (vs++Array.replicate (fn.ntmps-vs.size) undef) w:=by
  refine { hs with bG:=by simp;omega,slots:=fun t=>?_ };have:=hs.slots t;by_cases ht:t<vs.size
  .have e:(vs++Array.replicate (fn.ntmps-vs.size) undef).getD t undef=vs.getD t undef:=by
    simp[akZ,alO,ht]
   rw[e];exact this
  .have e:(mk (dQ 0 args) hp u).fr t=.un:=by
    rw[kC,qJ,if_pos (ale _),alN (by omega)];rfl
   rw[e];exact .un _
 have aF:=h { B with n:=fn.ntmps } h3 { B with n:=fn.ntmps } ⟨rfl,h3,h4⟩ [] β { tmps:=vs++Array.replicate (fn.ntmps-vs.size) undef,defers:=[] } w rfl ⟨.refl _,[],rfl,anx,fun D hD=>by cases hD⟩ bm;exact callsIn_of_wp_marks hf hb trivial aF
theorem adn{s0:St}{fr:List (Nat×AV)}{hp:List (Name×Ob)}{u:List Nat}(h:∀q∈hp,b9 s0.used q.1=true->∃o,s0.hp q.1=some o∧o.like q.2):LK s0 (mk fr hp u):=by
 intro p o' hn ho;refine h _ (Bx ho) ?_;obtain⟨a,t,rfl,ha⟩:=hn;simpa[b9]using ha
end
end Go.Ab

namespace Go.Ab
section
variable {P:Program}
theorem bZ.fB{G:List (Nat×Obj)}{f:FuncId}{args:List AV}{hp:List (Name×Ob)}{u:List Nat}{Q Q':AV->List (Name×Ob)->Prop}(h:bZ P G f args hp u Q)(p:Name)(x:D)
  (hQ:∀r ae,Q r ae->(mk [] ae []).hp p=some (.box (x.cells.map .d))∧(x.cells.all D.bR)=true∧Q' (r.cB p x) ((jR ae p).map fun q=>(q.1,q.2.cB p x))):bZ P G f args hp u Q':=by
 refine⟨h.1,fun B β vs W h1 h2 h3 h4 h5=>?_⟩;refine(h.2 B β vs W h1 h2 h3 h4 h5).mono ?_;rintro e w' ⟨v,r,ae,u',β',he,hq,hs⟩;obtain⟨g1,g2,g3⟩:=hQ r ae hq;have:=hs.cB (p:=p) (d:=x) g1 (alr.1 g2);rw[Pl]at this;exact⟨v,_,_,_,β',he,g3,this⟩
theorem bZ.QO{G:List (Nat×Obj)}{f:FuncId}{ds:List D}{Q:AV->List (Name×Ob)->Prop}{Q':AV->Prop}(h:bZ P G f (ds.map .d) [] [] Q)(hQ:∀r ae,Q r ae->(Q' r∧r.bn []=true)∧ae=[]):HP P G f ds Q' :=
 h.mono fun r ae hq=>⟨(hQ r ae hq).1.1,(hQ r ae hq).1.2,(hQ r ae hq).2⟩
end
section
variable {P:Program}{cf:Cf}{Q:Exit->St->Prop}{s:St}{k:List It}
theorem uG(E:bu P cf Q){d:Nat}{fv:Operand}{args:Array Operand}{at':Array TypeId}{ty:TypeId}{pos:String}{af:Array Edge}
  {f:FuncId} {aG:List AV} (σ:Name->Name) (cD:List AV) (chp:List (Name×Ob)) (cu:List Nat) {Q0:AV->List (Name×Ob)->Prop} (hc:bZ P cf.G f cD chp cu Q0)
  (bp:ev s fv=.aH f aG) (dE:args.toList.map (ev s)++aG=cg σ cD) (hd:d<cf.n∧d∉s.used) (oJ:dz cu cD=true) (kH:mB σ cu s chp) (mC:kh σ chp)
  (hk:∀r ae,Q0 r ae->lg chp ae∧E.run k (iX s σ d chp ae r)) :
  E.bc { dst:=some d,op:=.call { callee:=.value fv,args:=args,argTypes:=at' },type:=ty,pos:=pos,after:=af,guard:=none } s k .no:=by
 rw[ie];refine Iy d σ cD chp cu Q0 bp dE oJ hd.2 (fun t ht=>?_) kH mC hc fun r ae hr=>?_
 .obtain rfl:=alo ht;exact⟨hd.1,rfl⟩
 .obtain⟨h1,h2⟩:=hk r ae hr;exact⟨h1,by rw[<-E.run_eq];exact h2⟩
end
section
variable {P:Program}{cf:Cf}{Q:Exit->St->Prop}{s:St}{k:List It}{κ:Type}[DecidableEq κ]{ke:κ->D}{kv:κ->Value}
theorem ado{xt kt et:Nat}{x y:Operand}{co:Bool}{dst:Option Nat}{ty:TypeId}{pos:String}{af:Array Edge}{gg:Option (Nat×Bool)}(ay:Nat)(bs:List Nat)(ms:List (κ×D))(key:κ)(z:D)(hm:(P.ti xt).k=.map kt et)(K:jS P kt ke kv)(hz:rT P et=some z)
  (hx:ev s x=.d (fo ay bs (aM ke ms))) (hy:ev s y=.d (ke key)) (cY:∀t∈dst,t<cf.n) (hk:run P cf k Q (s.iZ dst (sU z co (cJ ms key)))) :
  ia P cf { dst:=dst,op:=.lookup xt x y co,type:=ty,pos:=pos,after:=af,guard:=gg } s k Q:=by
 intro B hB ds β a w ai h Q';have hv:=h.ev x;rw[hx]at hv;have hv:=hv.cA;have fL:=h.ev y;rw[hy]at fL;have fL:=K.val fL.cA;generalize hval:a.eval x=v at hv;unfold fo at hv
 cases hv with
 |lG b _ aE _ _ _ hh bY bj iD ik wm =>
 have fF:∀(i:Nat) (q:D×D),(aM ke ms)[i]?=some q->∃en:MapEntry,aE[i]?=some en∧au w.heap (s.own B.A β) en.key q.1∧au w.heap (s.own B.A β) en.val q.2:=by
  intro i q hi;have hlt:i<(aM ke ms).length:=(akY.1 hi).1;have sV:i<aE.size:=by have:=bj.1;simp at this;omega
  refine⟨aE[i],by simp[sV],?_,?_⟩
  .have:=ik i q.1 (by rw[ala,hi];rfl);simpa[akZ,sV]using this
  .have:=wm i q.2 (by rw[ala,hi];rfl);simpa[akZ,sV]using this
 obtain⟨zv,xG,lM⟩:=EY hz;have lM:=lM w.heap (s.own B.A β);have jT:=BV K (by have:=bj.1;simpa using this) fF;have hf:=K.find key aE.toList _ w jT
 have key1:∃r,VR w.heap (s.own B.A β) s.used s.hp β r (sU z co (cJ ms key))∧(execOp a.eval { dst:=dst,op:=.lookup xt x y co,type:=ty,pos:=pos,after:=af,guard:=gg }).run P w=.ok (.value r) w:=by
  cases hi:eT (ms.map (·.1)) key with
  |none =>
    obtain⟨h1,_⟩:=BU (d:=z) hi;rw[hi]at hf;refine⟨if co then .tuple #[zv,.bool false]else zv,?_,?_⟩
    .rw[h1];cases co
     .exact .d _ _ lM
     .refine .az _ _ rfl fun i y hi=>?_
      match i,hi with
      |0,hi=>obtain rfl:=alo hi;exact .d _ _ lM
      |1,hi=>obtain rfl:=alo hi;exact .d _ _ (.bool _)
    .simp only[execOp,hval,fL,Instr.lookup,Sem.run_bind,run_underlying (mg hm),Result.andThen_ok,MapKept.run_getObj_map hh,K.fc,Sem.run_pure];rw[hf];simp[xG]
  |some i =>
    obtain⟨e,h0,h1,_⟩:=zl (d:=z) hi;rw[hi]at hf;obtain⟨en,he,_,cd⟩:=fF i (ke key,e) (by simp[aM,h0]);have df:aE.toList[i]?=some en:=by simpa using he
    refine⟨if co then .tuple #[en.val,.bool true]else en.val,?_,?_⟩
    .rw[h1];cases co
     .exact .d _ _ cd
     .refine .az _ _ rfl fun i y hi=>?_
      match i,hi with
      |0,hi=>obtain rfl:=alo hi;exact .d _ _ cd
      |1,hi=>obtain rfl:=alo hi;exact .d _ _ (.bool _)
    .simp only[execOp,hval,fL,Instr.lookup,Sem.run_bind,run_underlying (mg hm),Result.andThen_ok,MapKept.run_getObj_map hh,K.fc,Sem.run_pure];rw[hf];simp[he]
 obtain⟨r,ux,y9⟩:=key1;refine fR (by simp) y9 (.inl rfl) ⟨by cases dst<;>exact ai,_,β,eB hk,?_⟩
 cases dst with
 |none=>exact h
 |some t=>exact h.put (by rw[hB.1];exact cY t rfl) ux
theorem adp(E:bu P cf Q){xt kt et:Nat}{x y:Operand}{co:Bool}{dst:Option Nat}{ty:TypeId}{pos:String}{af:Array Edge}(ay:Nat)(bs:List Nat)(ms:List (κ×D))(key:κ)(z:D)(hm:(P.ti xt).k=.map kt et)(K:jS P kt ke kv)(hz:rT P et=some z)
  (hx:ev s x=.d (fo ay bs (aM ke ms))) (hy:ev s y=.d (ke key)) (cY:∀t∈dst,t<cf.n) (hk:E.run k (s.iZ dst (sU z co (cJ ms key)))) :
  E.bc { dst:=dst,op:=.lookup xt x y co,type:=ty,pos:=pos,after:=af,guard:=none } s k .no:=by
 rw[ie];rw[E.run_eq]at hk;exact ado ay bs ms key z hm K hz hx hy cY hk
def jX(ms:List (κ×D))(a:κ):List (κ×D):=match eT (ms.map (·.1)) a with
 |none=>ms
 |some i=>ms.eraseIdx i
theorem QP{α β:Type}(f:α->β):∀(l:List α) (i:Nat),(l.eraseIdx i).map f=(l.map f).eraseIdx i
 |[],_=>rfl
 |_::_,0=>rfl
 |a::l,i+1=>by simp only[List.eraseIdx_cons_succ,alf,QP f l i]
theorem adq{aE:Array MapEntry}{clock:Nat}(h:pK aE clock)(i:Nat):pK (aE.eraseIdxIfInBounds i) clock:=by
 have hs:(aE.eraseIdxIfInBounds i).toList.Sublist aE.toList:=by
  unfold Array.eraseIdxIfInBounds;split
  .simp only[Array.toList_eraseIdx];exact List.eraseIdx_sublist _ _
  .exact List.Sublist.refl _
 exact⟨h.1.sublist (hs.map _),fun e he=>h.2 e (hs.subset he)⟩
theorem adr(E:bu P cf Q){xt kt et:Nat}{x y:Operand}{yt:TypeId}{ty:TypeId}{pos:String}{af:Array Edge}(p:Name)(ms:List (κ×D))(key:κ)(hm:(P.ti xt).k=.map kt et)(K:jS P kt ke kv)
  (hx:ev s x=.mp p) (hp:s.hp p=some (.map (aM ke ms))) (hy:ev s y=.d (ke key)) (hk:E.run k (s.set p (some (.map (aM ke (jX ms key)))))) :
  E.bc { dst:=none,op:=.call { callee:=.builtin .delete,args:=#[x,y],argTypes:=#[xt,yt] },type:=ty,pos:=pos,after:=af,guard:=none } s k .no:=by
 rw[ie];rw[E.run_eq]at hk;intro B hB ds β a w ai h Q';have hv:=h.ev x;rw[hx]at hv;have fL:=h.ev y;rw[hy]at fL;have fL:=K.val fL.cA;generalize hval:a.eval x=v at hv
 cases hv with
 |mp _ _ hn ho g =>
 obtain⟨b,hb,rfl⟩:=g _ hp;obtain⟨b2,aE,clock,eQ,hh,⟨bj,pX⟩,fF⟩:=(h.aJ p _ hp).2;obtain rfl:=alo (hb.symm.trans eQ);have hlt:=dI hh;have jT:=BV K bj fF;have hf:=K.find key aE.toList _ w jT;have hl:aE.size=ms.length:=by simpa[aM]using bj
 have key1:∃nI,(execOp a.eval { dst:=none,op:=.call { callee:=.builtin .delete,args:=#[x,y],argTypes:=#[xt,yt] },type:=ty,pos:=pos,after:=af,guard:=none }).run P w=.ok (.value (.tuple #[])) { w with heap:=w.heap.setIfInBounds b.b (.map nI clock) } ∧
   (nI.size=(aM ke (jX ms key)).length∧pK nI clock)∧∀(H:Array Obj) (own:Nat->Prop),(∀v d,au w.heap (s.own B.A β) v d->au H own v d)->∀(i:Nat) (x:D×D),(aM ke (jX ms key))[i]?=some x->∃en:MapEntry,nI[i]?=some en∧au H own en.key x.1∧au H own en.val x.2:=by
  cases hi:eT (ms.map (·.1)) key with
  |none =>
    rw[hi]at hf;refine⟨aE,?_,?_,?_⟩
    .simp only[execOp,resolve,invoke,builtin,Builtin.delete_,List.map_toArray,alf,alJ,hval,fL,Sem.run_bind,run_underlying (mg hm),Result.andThen_ok,MapKept.run_getObj_map hh,K.fc,Sem.run_pure];simp[hf,setObj,Sem.run,hh,hval,fL,run_underlying (mg hm),MapKept.run_getObj_map hh,K.fc]
    .unfold jX;rw[hi];exact⟨bj,pX⟩
    .intro H own hr i q aq;unfold jX at aq;rw[hi]at aq;obtain⟨en,h3,h4,h5⟩:=fF i q aq;exact⟨en,h3,hr _ _ h4,hr _ _ h5⟩
  |some i =>
    obtain⟨e,h0,_,_⟩:=zl (d:=.aY) hi;rw[hi]at hf;obtain⟨en,he,nJ,cd⟩:=fF i (ke key,e) (by simp[aM,h0]);have df:aE.toList[i]?=some en:=by simpa using he
    have bF:i<aE.size:=dI he;refine⟨aE.eraseIdxIfInBounds i,?_,?_,?_⟩
    .simp only[execOp,resolve,invoke,builtin,Builtin.delete_,List.map_toArray,alf,alJ,hval,fL,Sem.run_bind,run_underlying (mg hm),Result.andThen_ok,MapKept.run_getObj_map hh,K.fc,Sem.run_pure];simp[hf,he,setObj,Sem.run,hh,hval,fL,run_underlying (mg hm),MapKept.run_getObj_map hh,K.fc]
    .unfold jX;rw[hi];refine⟨?_,adq pX i⟩;have:i<ms.length:=by omega
     simp[aM,Array.eraseIdxIfInBounds,bF,hl,List.length_eraseIdx,this]
    .intro H own hr j q hj;unfold jX at hj;rw[hi]at hj;have e1:aM ke (ms.eraseIdx i)=(aM ke ms).eraseIdx i:=QP _ ms i;rw[e1,an6]at hj
     have e2:(aE.eraseIdxIfInBounds i)[j]?=if j<i then aE[j]? else aE[j+1]?:=by
      have:(aE.eraseIdxIfInBounds i)[j]?=(aE.toList.eraseIdx i)[j]?:=by
       simp[Array.eraseIdxIfInBounds,bF,<-alM]
      rw[this,an6];simp
     rw[e2];by_cases uq:j<i
     .rw[if_pos uq]at hj ⊢;obtain⟨rU,h3,h4,h5⟩:=fF j q hj;exact⟨rU,h3,hr _ _ h4,hr _ _ h5⟩
     .rw[if_neg uq]at hj ⊢;obtain⟨rU,h3,h4,h5⟩:=fF (j+1) q hj;exact⟨rU,h3,hr _ _ h4,hr _ _ h5⟩
 obtain⟨nI,aF,Jg,Jh⟩:=key1
 obtain⟨bh,_⟩:=h.modify (p:=p) (ob':=.map (aM ke (jX ms key))) hp trivial (w':={ w with heap:=w.heap.setIfInBounds b.b (.map nI clock) }) rfl (by simp)
  (fun b' eI=>by
   have:=eI b hb
   simp[Ne.symm this]) (fun _ hr=>⟨b,nI,clock,hb,by simp[hlt],Jg,Jh _ _ hr⟩)
 exact fR (v:=.tuple #[]) (by simp) aF (.inl rfl) ⟨ai,_,_,eB hk,bh⟩
end
section
variable {P:Program}{cf:Cf}{ops:Array Oper}{K:St->Ns->Prop}{s:St}{r:List Oper}{ns:Ns}
theorem VR.ads{H:Array Obj}{own:Nat->Prop}{used:List Nat}{hp:Name->Option Ob}{β:Name->Option a8}{v:Value}{f:Nat}{aG:List D}(h:VR H own used hp β v (.aH f (aG.map .d))):VR H own used hp β v (.d (.aH f aG)):=by
 cases h with
 |aH _ vs _ hs hc =>
   refine .d _ _ (.aH f vs aG (by simpa using hs) fun i d hi=>?_);exact(hc i (.d d) (by rw[ala,hi];rfl)).cA
theorem VR.adt{H:Array Obj}{own:Nat->Prop}{used:List Nat}{hp:Name->Option Ob}{β:Name->Option a8}{v:Value}{f:Nat}{aG:List D}(h:VR H own used hp β v (.d (.aH f aG))):VR H own used hp β v (.aH f (aG.map .d)):=by
 have h:=h.cA
 cases h with
 |aH _ vs _ hs hc =>
   refine .aH f vs _ (by simpa using hs) fun i x hi=>?_;rw[ala,ak8]at hi;obtain⟨d,hd,rfl⟩:=hi;exact .d _ _ (hc i d hd)
theorem adu(E:nN P cf ops K){t:Nat}{u:Nat}{args:Array Operand}{at':Array TypeId}{ty:TypeId}{pos:String}{af:Array Edge}{g:Option (Nat×Bool)}
  {f:FuncId} {aG ds:List D} {x:AV} (hc:HP P cf.G f (ds++aG) (fun r=>r=x)) (bp:s.fr u=.d (.aH f aG)) (hu:(t == u)=false) (Br:args.all (fun y=>match y with | .tmp i=>!(i == u) | _=>true)=true)
  (dE:args.toList.map (ev s)=ds.map .d) (cY:t<cf.n) (hk:E.run r (s.put t x) (ns++[([],[],[])])) :
  E.bc { dst:=some t,op:=.call { callee:=.value (.tmp u),args:=args,argTypes:=at' },type:=ty,pos:=pos,after:=af,guard:=g } r s ns .no:=by
 have xU:¬t=u:=by simpa using hu
 refine xL E (x:=x) [] (fun y hy=>by rw[Option.mem_def,alE]at hy;rw[<-hy];exact cY) (fun s' _ he=>?_) hk
 have hm:∀y,y=Operand.tmp u∨y∈args->ev s' y=ev s y:=fun y hy=>he y (by
  simp only[Op.operands,Call.operands]
  rcases hy with rfl|hy<;>simp_all)
 have vZ:s'.fr u=.d (.aH f aG):=(hm (.tmp u) (.inl rfl)).trans bp
 have Kn:args.toList.map (ev (s'.put u (.aH f (aG.map .d))))++aG.map .d=(ds++aG).map .d:=by
  rw[alh,<-dE];congr 1;refine alI fun y hy=>?_;have qe:y∈args:=by simpa using hy
  have h1:=Array.all_eq_true'.1 Br y qe;rw[<-hm y (.inr qe)]
  cases y with
  |tmp i =>
    have:¬i=u:=by simpa using h1
    show(s'.put u _).fr i=s'.fr i;simp[St.put,dV,this]
  |_=>rfl
 have h1:=BF (k:=[]) (Q:=fun _ s2=>s2=(s'.put u (.aH f (aG.map .d))).put t x) (dst:=some t) (fv:=.tmp u) (args:=args) (at':=at') (ty:=ty) (pos:=pos) (af:=af) (g:=g) hc
  (show(s'.put u (.aH f (aG.map .d))).fr u=_ by simp[St.put,dV]) Kn (fun y hy=>by rw[Option.mem_def,alE]at hy;rw[<-hy];exact cY) (fun r hr=>by subst hr;rw[pM];rfl)
 intro B hB gF β a w ai hs Q';have mr:aj B β (s'.put u (.aH f (aG.map .d))) a.tmps w:=hs.sP (VR.adt (by rw[<-vZ];exact hs.slots u));refine Oper.wpIn_mono ?_ (h1 B hB gF β a w ai mr Q');rintro a' w' ⟨dP,s2,β',aF,br⟩;obtain⟨_,s3,β3,rfl,iI⟩:=aF B hB gF β' a' w' dP br;refine⟨dP,s'.put t x,β3,fun B2 _ ds2 β2 a2 w2 adv h2=>⟨adv,_,β2,rfl,h2⟩,?_⟩;have hv:=iI.slots u;have e1:((s'.put u (.aH f (aG.map .d))).put t x).fr u=.aH f (aG.map .d):=by simp[St.put,dV,Ne.symm xU,fun h:u=t=>xU h.symm]
 rw[e1]at hv;have h4:=iI.sP (t:=u) (x:=.d (.aH f aG)) hv.ads
 have e2:((s'.put u (.aH f (aG.map .d))).put t x).put u (.d (.aH f aG))=s'.put t x:=by
  unfold St.put;congr 1;funext i;simp only[dV];by_cases h1:i=u
  .subst h1;rw[if_pos rfl,if_neg (fun h:i=t=>xU h.symm),vZ]
  .simp[h1]
 rw[e2]at h4;exact h4
end
section
variable {P:Program}{cf:Cf}{Φ:Exit->Act->World->Prop}{I:Base->List Deferred->Prop}{k:List It}{s:St}
theorem QQ(p:Name)(j n:Nat)(w:W)(cs:List AV)(hp:s.hp p=some (.box cs))(hj:cs[j]?=some (.d .ao))(hn:n∉s.used)(h:dW P cf Φ I k ((s.add n (.arr w [])).set p (some (.box (cs.set j (.vw [n] 0 0)))))):dW P cf Φ I k s:=by
 intro B hB ds β a w' ai hi hs;have h1:=hs.sM hn none w;have ib:p≠[n]:=iU (hs.aJ p _ hp).1 hn;refine h B hB ds _ a w' ai hi (h1.Cp (cs:=cs) (by simpa[St.add,aA,ib]using hp) (by simp) fun v i x x' hx aR hv=>?_);by_cases e:j=i
 .subst e;rw[hj]at hx;cases hx;rw[am1]at aR;simp at aR;obtain⟨_,rfl⟩:=aR;exact Cq (w:=w) ⟨n,[],rfl,alb⟩ (by simp[St.add,aA]) hv
 .rw[alu e,hx]at aR;cases aR;exact hv
theorem CQ(p:Name)(x:D)(hp:s.hp p=some (.box (x.cells.map .d)))(dv:(x.cells.all D.bR)=true)(h:dW P cf Φ I k (s.cB p x)):dW P cf Φ I k s :=
 fun B hB ds β a w' ai hi hs=>h B hB ds β a w' ai hi (hs.cB hp (alr.1 dv))
theorem QR(p:Name)(w:W)(xs:List D)(hp:s.hp p=some (.arr w xs))(h:dW P cf Φ I k (s.gR p w xs)):dW P cf Φ I k s :=
 fun B hB ds β a w' ai hi hs=>h B hB ds β a w' ai hi (hs.gR hp)
def QS:Option Ob->Ob->Prop
 |some o,o'=>o.like o'
 |none,_=>False
theorem adw(o o':Ob):QS (some o) o'=o.like o':=rfl
def FI(s0:St):List (Name×Ob)->Prop
 |[]=>True
 |q::r=>(b9 s0.used q.1=true->QS (s0.hp q.1) q.2)∧FI s0 r
theorem QT{s0:St}:∀{l:List (Name×Ob)},FI s0 l->∀q∈l,b9 s0.used q.1=true->∃o,s0.hp q.1=some o∧o.like q.2
 |[],_,q,h,_=>by cases h
 |_::r,h,q,hq,hn=>by
   rcases alc.1 hq with rfl|hq
   .have:=h.1 hn
    cases ho:s0.hp q.1 with
    |none=>rw[ho]at this;exact this.elim
    |some o=>rw[ho]at this;exact⟨o,rfl,this⟩
   .exact QT h.2 q hq hn
theorem Ko{B0:Base}{X:Type}{Iv:X->St}{jY fr:List (Nat×AV)}{nB hp:List (Name×Ob)}{u0 u:List Nat}{QU:List (Nat×AV)}{ae:List (Name×Ob)}{u':List Nat}(hl:FI (mk jY nB u0) hp)(y:X)(τ:Name->Name)(hy:Iv y=mk QU ae u')(hle:cw cf.U τ (mk jY hp u) QU ae u') :
 rq P cf Φ B0 k Iv (mk jY nB u0) .normal (mk fr hp u):=⟨adn (QT hl),y,τ,by rw[hy];exact hle.le⟩
theorem adx(s:St)(t:Nat)(ts:List Nat)(d:D)(ds:List D):tc s (t::ts) (d::ds)=tc (s.put t (.d d)) ts ds:=rfl
theorem ady(s:St)(ds:List D):tc s [] ds=s:=by cases ds<;>rfl
theorem adz(a b:Nat)(l m:List Nat):((a::l) == (b::m))=(a == b&&l == m):=rfl
theorem adA:(([]:List Nat) == [])=true:=rfl
theorem adB(b:Nat)(m:List Nat):(([]:List Nat) == b::m)=false:=rfl
theorem adC(b:Nat)(m:List Nat):(b::m == ([]:List Nat))=false:=rfl
attribute [go_sem] adz adA adB adC Bool.false_and Bool.and_false Bool.true_and Bool.and_true Bool.or_self Bool.and_self AW FI adw adx ady
end
end Go.Ab

namespace Go.Ab
section
variable {P:Program}{cf:Cf}{ops opsP:Array Oper}
theorem adD{ro:Option Nat}{Q:Exit->Act->World->Prop}{m:Nat}(wx:∀i o,ops[i]?=some o->∀e∈o.after,Region.binds .any e=true->e.on<i)(q7:∀j i,m<=j->j<ops.size->i<j->qT ops j i) :
  ∀(d j fuel:Nat) (listed:Array Bool) (a:Act) (w:World),j+d=ops.size->m<=j->d<=fuel->Up ops listed (List.range j)->wpOpsIn (Fw ro) 0 P ops Q (List.range' j d) a w->wpAnyIn (Fw ro) 0 P .any ops Q fuel listed a w:=by
 intro d
 induction d with
 |zero =>
   intro j fuel listed a w hj hmj hf hu h
   have hr:Region.ready .any ops listed=[]:=by
    apply anb.2;intro i hi;obtain⟨h0,o,ho,_⟩:=mem_ready.1 hi
    have hlt:i<ops.size:=by
     rcases alP i ops.size with hlt|cK
     .exact hlt
     .rw[alT cK]at ho;cases ho
    have h3:=(hu.mem i hlt).2 (alw.2 (by omega));simp[h3]at h0
   cases fuel with
   |zero=>exact⟨hr,h⟩
   |succ fuel=>exact⟨fun _=>h,fun i hi=>by rw[hr]at hi;cases hi⟩
 |succ d ih =>
   intro j fuel listed a w hj hmj hf hu h
   cases fuel with
   |zero=>omega
   |succ fuel =>
     have e6:j<ops.size:=by omega
     obtain⟨o,ho⟩:∃o,ops[j]?=some o:=⟨ops[j],by simp⟩
     have QV:j∈Region.ready .any ops listed:=by
      rw[mem_ready];refine⟨?_,o,ho,fun e he hb=>?_⟩
      .have:=hu.mem j e6;have hl:j<listed.size:=by rw[hu.size];exact e6
       cases hv:listed[j]with
       |true =>
         have:=alw.1 (this.1 (by simp[hl,hv]));omega
       |false=>simp[hl,hv]
      .have h2:=wx j o ho e he hb;have h3:=(hu.mem e.on (by omega)).2 (alw.2 h2);simp[h3]
     refine⟨fun hr=>(by rw[hr]at QV;cases QV),fun i hi=>?_⟩;obtain⟨h0,oi,FJ,hw⟩:=mem_ready.1 hi
     have hlt:i<ops.size:=by
      rcases alP i ops.size with hlt|cK
      .exact hlt
      .rw[alT cK]at FJ;cases FJ
     have cx:i=j:=by
      rcases anT i j with g|g|g
      .have h3:=(hu.mem i hlt).2 (alw.2 g);simp[h3]at h0
      .exact g
      .have qO:∀e∈oi.after,Region.binds .any e=true->e.on∈List.range j:=fun e he hb=>by
        have h1:=hw e he hb;have h2:=wx i oi FJ e he hb;refine(hu.mem e.on (by omega)).1 ?_;have hl:e.on<listed.size:=by rw[hu.size];omega
        simp[hl]at h1;simp[hl,h1]
       have:=alw.1 (Jv hu FJ qO (q7 i j (by omega) hlt g));omega
     subst cx;rw[List.range'_succ,wpOpsIn_cons]at h;refine wpOpIn_mono (fun a' w' h'=>ih (i+1) fuel _ a' w' (by omega) (by omega) (by omega) ?_ h') h;refine⟨by simpa using hu.size,fun x hx=>?_,fun x hx=>by have:=alw.1 hx;omega,fun x hx o' aV e he hb=>?_⟩
     .have hl:i<listed.size:=by rw[hu.size];exact hlt
      by_cases cx:i=x
      .subst cx;simp[hl]
      .rw[amG cx,hu.mem x hx,alw,alw];omega
     .have h2:=wx x o' aV e he hb;have:=alw.1 hx;exact alw.2 (by omega)
variable {ns:Ns}{xs:Nat->AV}{fs:Nat->Fp}{s:St}
theorem adE(hq:fc opsP ns=true)(jG:∀i,i<opsP.size->ns.getD i ([],[],[])=ju (fs i)){B:Base}(hB:cf.fits B){ds:List Deferred}{Q:Exit->Act->World->Prop}
  (akF:opsP.size<ops.size) (xp:∀i,i<opsP.size->ops[i]?=opsP[i]?) (kj:∀(i:Nat) (o:Oper),opsP[i]?=some o->o.guard=none)
  (wx:∀i o,ops[i]?=some o->∀e∈o.after,Region.binds .any e=true->e.on<i) (q7:∀j i,opsP.size<=j->j<ops.size->i<j->qT ops j i)
  (hall:∀j o,opsP[j]?=some o->xJ P cf opsP j o (jb opsP xs fs (List.range' 0 (j-0)) s) (xs j) (fs j))
  (hK:∀β a w,a.defers=ds->aj B β (jb opsP xs fs (List.range' 0 opsP.size) s) a.tmps w->wpOpsIn (Fw cf.ro) 0 P ops Q (List.range' opsP.size (ops.size-opsP.size)) a w) :
  ∀(fuel:Nat) (listed CS:Array Bool) (L:List Nat) (s':St) (β:Name->Option a8) (a:Act) (w:World),Up ops listed L->Up opsP CS L->L.Nodup->ops.size<=fuel+L.length->a.defers=ds->rW opsP xs fs s L s'->aj B β s' a.tmps w ->
   wpAnyIn (Fw cf.ro) 0 P .any ops Q fuel listed a w:=by
 intro fuel
 induction fuel with
 |zero =>
   intro listed CS L s' β a w hu qf hnd hn ai hL hs;have:=BO opsP.size L hnd qf.lt;omega
 |succ fuel ih =>
   intro listed CS L s' β a w hu qf hnd hn ai hL hs
   have full:(∀j,j<opsP.size->j∈L)->wpAnyIn (Fw cf.ro) 0 P .any ops Q (fuel+1) listed a w:=by
    intro xD;obtain⟨⟨e1,e2⟩,e3⟩:=Pf hq hL qf.lt xD;have h1:=hK β a w ai (hs.reuse e1.symm e2.symm e3);have gj:∀j,j∈L↔j<opsP.size:=fun j=>⟨qf.lt j,xD j⟩
    have hlen:=BO opsP.size L hnd qf.lt;refine adD wx q7 (ops.size-opsP.size) opsP.size (fuel+1) listed a w (by omega) (ali _) (by omega) ?_ h1
    exact⟨hu.size,fun j hj=>by rw[hu.mem j hj,gj,alw],fun j hj=>by have:=alw.1 hj;omega,fun j hj o ho e he hb=>by
     have:=wx j o ho e he hb;have:=alw.1 hj
     exact alw.2 (by omega)⟩
   by_cases xD:∀j,j<opsP.size->j∈L
   .exact full xD
   have adF:∃j,j<opsP.size∧j∉L:=by
    apply amj;intro h;exact xD fun j hj=>amj fun hn=>h ⟨j,hj,hn⟩
   obtain⟨j0,qM,QW⟩:=adF;refine⟨fun hr=>?_,fun i hi=>?_⟩
   .exfalso
    have key:∀j,j<opsP.size->j∈L:=by
     intro j
     induction j using Nat.strongRecOn with
     |ind j sJ =>
       intro hlt;apply amj;intro sS;have QX:j<ops.size:=by omega
       obtain⟨o,ho⟩:∃o,ops[j]?=some o:=⟨ops[j],by simp⟩
       have:j∈Region.ready .any ops listed:=by
        rw[mem_ready];refine⟨?_,o,ho,fun e he hb=>?_⟩
        .have:=hu.mem j QX;have hl:j<listed.size:=by rw[hu.size];exact QX
         cases hv:listed[j]with
         |true=>exact absurd (this.1 (by simp[hl,hv])) sS
         |false=>simp[hl,hv]
        .have h2:=wx j o ho e he hb;have h3:=(hu.mem e.on (by omega)).2 (sJ e.on h2 (by omega));simp[h3]
       rw[hr]at this;cases this
    exact QW (key j0 qM)
   .obtain⟨h0,o,ho,hw⟩:=mem_ready.1 hi
    have hlt:i<ops.size:=by
     rcases alP i ops.size with hlt|cK
     .exact hlt
     .rw[alT cK]at ho;cases ho
    have qN:i∉L:=fun h=>by
     have h3:=(hu.mem i hlt).2 h;simp[h3]at h0
    have qO:∀e∈o.after,Region.binds .any e=true->e.on∈L:=fun e he hb=>by
     have h1:=hw e he hb;have h2:=wx i o ho e he hb;refine(hu.mem e.on (by omega)).1 ?_;have hl:e.on<listed.size:=by rw[hu.size];omega
     simp[hl]at h1;simp[hl,h1]
    have Kp:i<opsP.size:=by
     apply amj;intro cK;exact QW (Jv hu ho qO (q7 i j0 (by omega) hlt (by omega)))
    have xV:opsP[i]?=some o:=by rw[<-xp i Kp];exact ho
    have hd:eg opsP i=o.dst:=by simp[eg,xV]
    have hg:=kj i o xV
    have adG:∀K a w,wpOpIn (Fw cf.ro) 0 P opsP Q i K a w->wpOpIn (Fw cf.ro) 0 P ops Q i K a w:=fun K a w h=>by
     simp only[wpOpIn,xV,ho,Region.wanted,hg,if_true]at h ⊢;exact h
    refine adG _ _ _ (wpOpIn_mono (fun a' w' ⟨dP,β',bm⟩=>ih (listed.setIfInBounds i true) (CS.setIfInBounds i true) (L++[i]) _ β' a' w' ?_ ?_ ?_ ?_ dP (hd▸hL.snoc ?_) bm) ((hall i o xV).2 _ (Pe hq jG qf hL xV qN qO (hall i o xV).1) B hB ds β a w ai hs Q))
    .refine⟨by simpa using hu.size,fun j hj=>?_,fun j hj=>?_,fun j hj o' aV e he hb=>?_⟩
     .have hl:j<listed.size:=by rw[hu.size];exact hj
      by_cases cx:i=j
      .subst cx;simp[hl]
      .rw[amG cx,hu.mem j hj];simp[Ne.symm cx]
     .rcases ak1.1 hj with hj|hj
      .exact hu.lt j hj
      .rw[ak3.1 hj];exact hlt
     .rcases ak1.1 hj with hj|hj
      .exact alm _ (hu.closed j hj o' aV e he hb)
      .rw[ak3.1 hj,ho]at aV;cases aV;exact alm _ (qO e he hb)
    .refine⟨by simpa using qf.size,fun j hj=>?_,fun j hj=>?_,fun j hj o' aV e he hb=>?_⟩
     .have hl:j<CS.size:=by rw[qf.size];exact hj
      by_cases cx:i=j
      .subst cx;simp[hl]
      .rw[amG cx,qf.mem j hj];simp[Ne.symm cx]
     .rcases ak1.1 hj with hj|hj
      .exact qf.lt j hj
      .rw[ak3.1 hj];exact Kp
     .rcases ak1.1 hj with hj|hj
      .exact alm _ (qf.closed j hj o' aV e he hb)
      .rw[ak3.1 hj,xV]at aV;cases aV;exact alm _ (qO e he hb)
    .rw[alZ];exact⟨hnd,by simp,fun x hx y hy=>by rw[ak3.1 hy];rintro rfl;exact qN hx⟩
    .simp only[ak4,List.length_singleton];omega
    .intro k hk p o1 o2 h1 h2;have aB:i≠k:=fun e=>qN (e▸hk);rcases Jy hq jG Kp (qf.lt k hk) aB h1 (.inr ⟨o2,h2⟩)with⟨h3,_⟩|⟨_,h4⟩
     .omega
     .exact absurd (Fg qf h4 hk) qN
def zI(ops:Array Oper)(m:Nat):Bool :=
 let A:=zt [] ops.toList
 ((List.range ops.size).all fun i=>match ops[i]? with
   |some o=>o.after.toList.all fun e=>!Region.binds .any e||decide (e.on<i)
   |none=>true) &&
 (List.range ops.size).all fun j=>decide (j<m)||(List.range j).all fun i=>(A.getD j []).contains i
theorem adH{m:Nat}(h:zI ops m=true):∀i o,ops[i]?=some o->∀e∈o.after,Region.binds .any e=true->e.on<i:=by
 intro i o ho e he hb
 have hi:i<ops.size:=by
  rcases alP i ops.size with hlt|cK
  .exact hlt
  .rw[alT cK]at ho;cases ho
 simp only[zI,ak7]at h;have h2:=alr.1 h.1 i (alw.2 hi);simp only[ho]at h2;have h3:=alr.1 h2 e (ank.2 he);simpa[hb]using h3
theorem adI{m:Nat}(h:zI ops m=true):∀j i,m<=j->j<ops.size->i<j->qT ops j i:=by
 intro j i hm hj hi;simp only[zI,ak7]at h;have h2:=alr.1 h.2 j (alw.2 hj);simp only[alF,decide_eq_true_eq]at h2;have h3:=h2.resolve_left (by omega);have h4:=alr.1 h3 i (alw.2 hi);exact Ju (ops:=ops) ops.toList [] (fun j=>by simp) (fun i k hk=>by simp at hk) _ _ (by simpa using h4)
theorem adJ{id:Nat}{l q:List Oper}{s:St}{k:List It}{Q:Exit->St->Prop}(hm:P.follows .mixedOrders=true)(q8:q≠[])(hg:(l.all fun o=>o.guard.isNone)=true)(ht:zI (l++q).toArray l.length=true)
  (h:ja P cf l.toArray (fun s' ns=>fc l.toArray ns=true∧run P cf (.ops (l++q).toArray q::k) Q s') l s []):rH P cf (.region id (l++q).toArray true) s k Q:=by
 obtain⟨xs,fs,⟨hq,hK⟩,hall⟩:=Jw (ops:=l.toArray) l 0 s [] (fun j=>by simp) h;intro B hB ds β a w ai hs;refine wpIn_region_any hm ?_
 have jG:∀i,i<l.toArray.size->(([]:Ns)++(List.range' 0 l.length).map fun j=>ju (fs j)).getD i ([],[],[])=ju (fs i):=by
  intro i hi;have hi:i<l.length:=by simpa using hi
  simp[hi]
 have hql:0<q.length:=amJ.2 q8;refine adE (ops:=(l++q).toArray) (opsP:=l.toArray) hq jG hB (ds:=ds) (by simp;omega) (fun i hi=>?_) (fun i o ho=>?_) (adH ht) (by simpa using adI ht) (fun j o ho=>hall j o (ale _) ho) (fun β a w ai hs=>?_) _ _ (Array.replicate l.toArray.size false) [] s β a _ ?_ ?_ anx (by simp) ai (.nil _ _ _) (hs.xe rfl rfl)
 .have hi:i<l.length:=by simpa using hi
  simp[alj,hi]
 .have hi:i<l.length:=by
   have:=(amw.1 ho).1;simpa using this
  have hm2:o∈l:=by
   have:l[i]?=some o:=by simpa using ho
   exact alp this
  have:=alr.1 hg o hm2;simpa using this
 .refine eB hK B hB ds β a w ai (by simpa using hs) _ ?_;apply amg;intro j;simp only[ala,amI,ak4];by_cases hj:j<q.length
  .rw[List.getElem?_range' (by omega)];simp[hj]
  .simp[hj]
 .refine⟨by simp,fun j hj=>?_,by simp,by simp⟩;have hj:j<l.length+q.length:=by simpa using hj
  simp[hj]
 .refine⟨by simp,fun j hj=>?_,by simp,by simp⟩;have hj:j<l.length:=by simpa using hj
  simp[hj]
theorem adK(n:Nat){id:Nat}{l p q:List Oper}{s:St}{k:List It}{Q:Exit->St->Prop}(hm:P.follows .mixedOrders=true)(E0:bu P cf Q)(wy:l.take n=p)(H9:l.drop n=q)(q8:q.isEmpty=false)(hg:(p.all fun o=>o.guard.isNone)=true)(ht:zI l.toArray p.length=true)
  (h:∀E:nN P cf p.toArray (fun s' ns=>fc p.toArray ns=true∧E0.run (.ops l.toArray q::k) s'),E.run p s []):e8 E0 (.region id l.toArray true) s k:=by
 have e0:p++q=l:=by rw[<-wy,<-H9];exact amY n l
 have key:=adJ (P:=P) (cf:=cf) (id:=id) (l:=p) (q:=q) (s:=s) (k:=k) (Q:=Q) hm (by intro e;rw[e]at q8;cases q8) hg (by rw[e0];exact ht);rw[e0]at key;refine key ?_;have e:(fun s' ns=>fc p.toArray ns=true∧E0.run (.ops l.toArray q::k) s')=fun s' ns=>fc p.toArray ns=true∧run P cf (.ops l.toArray q::k) Q s':=by funext s' ns;rw[E0.run_eq]
 obtain⟨E⟩:=Pg P cf p.toArray (fun s' ns=>fc p.toArray ns=true∧E0.run (.ops l.toArray q::k) s');have:=h E;rw[E.run_eq,e]at this;exact this
end
end Go.Ab

namespace Go.Ab
theorem adL(tf:Nat->TI)(dd:Option Nat)(s:St)(x y t):cZ tf (.call { callee:=.builtin .min,args:=#[x,y],argTypes:=t }) dd s=(cM tf (.call { callee:=.builtin .min,args:=#[x,y],argTypes:=t }) s).bind fun x=>.ok (x,bT):=Cc rfl
attribute [go_sem] adL
end Go.Ab

namespace Go.Ab
section
variable {P:Program}{cf:Cf}{Q:Exit->St->Prop}{s:St}{k:List It}{B:Base}{β:Name->Option a8}{tm:Array Value}{w:World}
theorem aj.adM(h:aj B β s tm w){p:Name}{ob:Ob}{k:a8}(hp:s.hp p=some ob)(hk:β p=some k){w':World}(eP:dH w'=dH w)(bj:w'.heap.size=w.heap.size)(hw:∀b,b≠k.b->w'.heap[b]?=w.heap[b]?):aj B β (s.set p none) tm w':=by
 have dL:∀q o,(s.set p none).hp q=some o->q≠p∧s.hp q=some o:=by
  intro q o ho;by_cases e:q=p
  .subst e;simp[St.set,aA]at ho
  .exact⟨e,by simpa[St.set,aA,e]using ho⟩
 have aB:∀q,(s.set p none).hp q≠none->s.hp q≠none:=by
  intro q hq e
  cases ho:(s.set p none).hp q with
  |none=>exact hq ho
  |some o=>rw[(dL q o ho).2]at e;cases e
 have hr:∀v d,au w.heap (s.own B.A β) v d->au w'.heap ((s.set p none).own B.A β) v d:=fun v d hd=>hd.mono (fun b hb _=>hw b fun e=>hb (.inr ⟨p,k,by rw[hp];simp,hk,e.symm⟩)) (by
  rintro b _ (hA|⟨q,k,hq,hk,e⟩)
  .exact .inl hA
  .exact .inr ⟨q,k,aB q hq,hk,e⟩)
 have ag:∀q,nm s.used q->iQ s.hp (s.set p none).hp β β q:=fun q _ o' aV=>⟨o',(dL q o' aV).2,Ob.k4 _,rfl⟩
 refine { bG:=h.bG,io:=eP.trans h.io,size:=by rw[bj];exact h.size,frame:=fun b hb hn=>?_,slots:=fun i=>(h.slots i).mono hr (fun _ h=>h) ag,aJ:=?_,blocks:=fun q k hq hk=>(by rw[bj];exact h.blocks q k (aB q hq) hk), inj:=fun q q' k l hq bX hk hl e=>h.inj q q' k l (aB q hq) (aB q' bX) hk hl e,us:=h.us,stay:=h.stay }
 .rw[hw b ?_]
  .exact h.frame b hb hn
  .intro e;obtain⟨_,_,h3⟩:=h.blocks p k (by rw[hp];simp) hk;obtain h3|h3:=h3
   .omega
   .exact hn (e▸h3)
 .intro q o ho;obtain⟨hqp,aV⟩:=dL q o ho;obtain⟨h1,h2⟩:=h.aJ q o aV;exact⟨h1,h2.mono hr (fun _ h=>h) ag rfl fun l hl=>hw l.b fun e=>hqp (h.inj q p l k (by rw[aV];simp) (by rw[hp];simp) hl hk e)⟩
theorem adN(E:bu P cf Q){o:Oper}(p:Name)(j n:Nat)(ty tg:Option Nat)(w:W)(cs:List AV)(hp:s.hp p=some (.bt ty cs))(hj:cs[j]?=some (.d .ao))(hn:n∉s.used)(h:E.bc o ((s.add n (.bB tg w [])).set p (some (.bt ty (cs.set j (.vw [n] 0 0))))) k .no):E.bc o s k .no:=by
 rw[ie]at h ⊢;intro B hB ds β a w' ai hs Q';have h1:=hs.sM hn tg w;have ib:p≠[n]:=iU (hs.aJ p _ hp).1 hn;refine h B hB ds (aA β [n] none) a w' ai (h1.Cp (cs:=cs) (by simpa[St.add,aA,ib]using hp) (by simp) fun v i x x' hx aR hv=>?_) Q';by_cases e:j=i
 .subst e;rw[hj]at hx;cases hx;rw[alA (akY.1 hj).1]at aR;cases aR;have:=hv.cA;cases this
  exact .vw _ _ _ _ ⟨n,[],rfl,alb⟩ rfl fun ty' w' xs hx=>by
   have:some (Ob.bB tg w [])=some (.bB ty' w' xs):=by rw[<-hx];simp[St.add,aA]
   cases this;exact⟨ali _,none,0,rfl,.inl ⟨rfl,rfl⟩⟩
 .rw[alu e,hx]at aR;cases aR;exact hv
theorem QZ(E:bu P cf Q){d t e:Nat}{x y:Operand}{ty:TypeId}{pos:String}{af:Array Edge}(tg:Option Nat)(p q:Name)(xs ys:List D)(hk:(P.ti t).k=.slice e)(hz:(P.ti e).oB=true)(hw:(P.ti e).gD (P.ti e).w=true)(zJ:(P.ti e).w=none)
  (ur:tg.getD e=e) (hd:d<cf.n∧d∉s.used) (hx:ev s x=.vw p 0 xs.length) (hp:s.hp p=some (.bB tg none xs)) (hy:ev s y=.vw q 0 ys.length) (hq:s.hp q=some (.arr none ys)) (hl:(xs.length+ys.length)*(P.ti e).iT<=140737488355328)
  (h:E.run k (((s.set p none).add d (.bB tg none (xs++ys))).put d (.vw [d] 0 (xs.length+ys.length)))) :
  E.bc { dst:=some d,op:=.call { callee:=.builtin .append,args:=#[x,y],argTypes:=#[t,t] },type:=ty,pos:=pos,after:=af,guard:=none } s k .no:=by
 rw[ie];rw[E.run_eq]at h;intro B hB ds β a w ai hs Q';have uH:=hs.ev x;have CT:=hs.ev y;rw[hx]at uH;rw[hy]at CT;have key:=NI (P:=P) (t:=t) hs uH CT hk hz hw ty (some d) tg ur
 have e1:yU tg B.n (P.ti e) (some d) s (.vw p 0 xs.length) (.vw q 0 ys.length)=.need ((xs.length+ys.length)*(P.ti e).iT<=140737488355328) (.ok (((s.set p none).add d (.bB tg none (xs++ys))).put d (.vw [d] 0 (xs.length+ys.length)))):=by
  unfold yU;have qA:jl (P.ti e).w s.hp (.vw q 0 ys.length)=some ys:=by simp[jl,hq,zJ]
  rw[qA];simp only[hp];rw[if_pos ⟨trivial,zJ.symm⟩];have CU:d<B.n∧d∉(s.set p none).used:=⟨by rw[hB.1];exact hd.1,hd.2⟩
  unfold gN;simp only;rw[if_pos CU];simp
 rw[e1]at key;obtain⟨dd,v,w',β',lJ,aF,bh⟩:=key hl;cases lJ;exact fR (v:=v) (by simp) (by simp[execOp,resolve,invoke,builtin,aF]) (.inl rfl) ⟨ai,_,β',eB h,bh⟩
end
section
variable {P:Program}{cf:Cf}{Q:Exit->St->Prop}{s:St}{k:List It}
theorem Kq{o:Oper}{d:Nat}{x:AV}(hd:o.dst=some d)(Bs:d<cf.n)(hnd:∀c,o.op≠.defer c)
  (aF:∀(B:Base) (β:Name->Option a8) (a:Act) (w:World),aj B β s a.tmps w->∃v,(execOp a.eval o).run P w=.ok (.value v) w∧VR w.heap (s.own B.A β) s.used s.hp β v x) (h:run P cf k Q (s.put d x)):ia P cf o s k Q:=by
 intro B hB ds β a w ai hs Q';obtain⟨v,h1,h2⟩:=aF B β a w hs;refine fR (v:=v) hnd h1 (.inl rfl) ?_;rw[hd];exact⟨ai,_,β,eB h,hs.put (by rw[hB.1];exact Bs) h2⟩
theorem zK(E:bu P cf Q){o:Oper}{d:Nat}{x:AV}(hd:o.dst=some d)(Bs:d<cf.n)(hnd:∀c,o.op≠.defer c)
  (aF:∀(B:Base) (β:Name->Option a8) (a:Act) (w:World),aj B β s a.tmps w->∃v,(execOp a.eval o).run P w=.ok (.value v) w∧VR w.heap (s.own B.A β) s.used s.hp β v x) (h:E.run k (s.put d x)):E.bc o s k .no:=by
 rw[ie];rw[E.run_eq]at h;exact Kq hd Bs hnd aF h
theorem FK{t e:Nat}(h:(P.ti t).k=.ptr e):P.underlying t=some (.pointer e):=by
 obtain⟨i,d,_,hd,hk,_⟩:=rI (P:=P) (t:=t) (by rw[h];rfl);rw[h]at hk;cases d<;>simp[tk]at hk;rw[hd,hk]
def CV(hp:Name->Option Ob):AV->Option Bool
 |.d .aY=>some true
 |.d (.ptr _)=>some false
 |.bx p _=>match hp p with
   |some (.bt _ _)=>some false
   |_=>none
 |_=>none
theorem adO{H:Array Obj}{own:Nat->Prop}{used:List Nat}{hp:Name->Option Ob}{β:Name->Option a8}{v:Value}{x:AV}{b:Bool}(h:VR H own used hp β v x)(hn:CV hp x=some b):∃ad,v=.pointer ad∧ad.isNone=b:=by
 cases x with
 |d z =>
   cases z<;>simp[CV]at hn
   .subst hn;have:=h.cA;cases this;exact⟨none,rfl,rfl⟩
   .subst hn;have:=h.cA;cases this;exact⟨_,rfl,rfl⟩
 |bx p c =>
   simp only[CV]at hn;split at hn
   .rename_i ty cs ho;cases hn
    cases h with
    |bx _ _ _ _ _ hx =>
      obtain⟨k,_,_,rfl⟩:=hx _ _ ho;exact⟨_,rfl,rfl⟩
   .cases hn
 |_=>simp[CV]at hn
theorem Q7(E:bu P cf Q){t e:TypeId}{x:Operand}{yt:TypeId}{dst:Nat}{ty:TypeId}{ps:String}{af:Array Edge}(b:Bool)(hk:(P.ti t).k=.ptr e)(hd:dst<cf.n)(hx:CV s.hp (ev s x)=some b)(h:E.run k (s.put dst (.d (.bool b)))) :
  E.bc { dst:=some dst,op:=.binOp .eql t x (.const (.pointer none)) yt,type:=ty,pos:=ps,after:=af,guard:=none } s k .no:=by
 refine zK E rfl hd (by simp) (fun B β a w hs=>⟨.bool b,?_,.d _ _ (.bool _)⟩) h;obtain⟨ad,hv,rfl⟩:=adO (hs.ev x) hx;have hu:=FK hk;refine JI ?_ ?_
 .rw[hv];rfl
 .rw[hv];exact run_eql_pointer_nil w t ad (by rw[hu];simp[Program.pointee,hu])
theorem run_neq_ptr_same{tp te:TypeId}{j:TypeInfo}(w:World)(a:Addr)(hp:P.underlying tp=some (.pointer te))(hte:P.info? te=some j):(binOp .neq tp (.pointer (some a)) (.pointer (some a))).run P w=.ok (.bool false) w:=by
 have h:∀d:Nat,(Op.equalIn (d+1) tp (.pointer (some a)) (.pointer (some a))).run P w=.ok true w:=fun d=>by
  simp[Op.equalIn,run_underlying hp,sizeOf,typeInfo,hte,run_sameAddr_same]
 simp only[binOp];simp[Op.equal,Op.maxDepth,h 9999]
theorem adP(E:bu P cf Q){t e:TypeId}{x y:Operand}{yt:TypeId}{dst:Nat}{ty:TypeId}{ps:String}{af:Array Edge}(p:Name)(c:Nat)(hk:(P.ti t).k=.ptr e)(he:(P.info? e).isSome=true)(hd:dst<cf.n)(hx:ev s x=.bx p c)(hy:ev s y=.bx p c)(hp:(match s.hp p with | some (.bt _ _)=>true | _=>false)=true)
  (h:E.run k (s.put dst (.d (.bool false)))):E.bc { dst:=some dst,op:=.binOp .neq t x y yt,type:=ty,pos:=ps,after:=af,guard:=none } s k .no:=by
 refine zK E rfl hd (by simp) (fun B β a w hs=>⟨.bool false,?_,.d _ _ (.bool _)⟩) h;split at hp
 rotate_left
 .cases hp
 rename_i ty' cs ho
 obtain⟨k,ik⟩:∃k:a8,∀v,VR w.heap (s.own B.A β) s.used s.hp β v (.bx p c)->v=.pointer (some ⟨k.b,c,none⟩):=by
  obtain⟨k,_,_,hk,_⟩:=(hs.aJ p _ ho).2;refine⟨k,fun v hv=>?_⟩
  cases hv with
  |bx _ _ _ _ _ hx =>
    obtain⟨k',aC,_,rfl⟩:=hx _ _ ho;rw[hk]at aC;cases aC;rfl
 have h1:=ik _ (hx▸hs.ev x);have h2:=ik _ (hy▸hs.ev y);obtain⟨j,hj⟩:=ant.1 he;refine JI ?_ ?_
 .rw[h1,h2];rfl
 .rw[h1,h2];exact run_neq_ptr_same w _ (FK hk) hj
theorem Q8{B:Base}{β:Name->Option a8}{tm:Array Value}{w:World}(hs:aj B β s tm w){p:Name}{t:Nat}{cs:List AV}(hp:s.hp p=some (.bt (some t) cs)):∃k:a8,(∀v c,VR w.heap (s.own B.A β) s.used s.hp β v (.bx p c)->v=.pointer (some ⟨k.b,c,none⟩))∧w.shape? k.b=some (t,cs.length):=by
 obtain⟨k,c,e,hk,_,hc,_,hl,_⟩:=(hs.aJ p _ hp).2;refine⟨k,fun v c hv=>?_,by simp[World.shape?,hc,hl]⟩
 cases hv with
 |bx _ _ _ _ _ hx =>
   obtain⟨k',aC,_,rfl⟩:=hx _ _ hp;rw[hk]at aC;cases aC;rfl
theorem adQ(E:bu P cf Q){a' b' e:TypeId}{x:Operand}{dst:Nat}{ty:TypeId}{ps:String}{af:Array Edge}(p:Name)(c t:Nat)(cs:List AV)(hk:(P.ti a').k=.ptr e)(hu:P.underlying b'=some .unsafePointer)(he:(P.info? e).any (fun j=>j.size != 0)=true)(hd:dst<cf.n)(hx:ev s x=.bx p c)
  (hp:s.hp p=some (.bt (some t) cs)) (hc:c<cs.length) (h:E.run k (s.put dst (.bx p c))):E.bc { dst:=some dst,op:=.convert a' b' x,type:=ty,pos:=ps,after:=af,guard:=none } s k .no:=by
 refine zK E (x:=.bx p c) rfl hd (by simp) (fun B β a w hs=>⟨a.eval x,?_,hx▸hs.ev x⟩) h;obtain⟨k,ik,nZ⟩:=Q8 hs hp;have h1:=ik _ _ (hx▸hs.ev x);rw[Option.any_eq_true]at he;obtain⟨j,hj,qM⟩:=he;have:=Lib.run_to_unsafe (P:=P) w (src:=a') (dst:=b') (⟨k.b,c,none⟩:Addr) (FK hk) hu hj (by simpa using qM) nZ hc;simp[execOp,h1,this]
theorem adR(E:bu P cf Q){a' b' e:TypeId}{x:Operand}{dst:Nat}{ty:TypeId}{ps:String}{af:Array Edge}(p:Name)(c t:Nat)(cs:List AV)(hk:(P.ti b').k=.ptr e)(hu:P.underlying a'=some .unsafePointer)(he:(P.info? e).isSome=true)(hd:dst<cf.n)(hx:ev s x=.bx p c)
  (hp:s.hp p=some (.bt (some t) cs)) (m:Nat) (hm:cs.length=m) (hl:liesAt P P.depth t (m / P.cellsOf t) c e 1=true) (h:E.run k (s.put dst (.bx p c))):E.bc { dst:=some dst,op:=.convert a' b' x,type:=ty,pos:=ps,after:=af,guard:=none } s k .no:=by
 refine zK E (x:=.bx p c) rfl hd (by simp) (fun B β a w hs=>⟨a.eval x,?_,hx▸hs.ev x⟩) h;obtain⟨k,ik,nZ⟩:=Q8 hs hp;have h1:=ik _ _ (hx▸hs.ev x);obtain⟨j,hj⟩:=ant.1 he;rw[hm]at nZ;have:=Lib.run_from_unsafe (P:=P) w (src:=a') (dst:=b') (⟨k.b,c,none⟩:Addr) hu (FK hk) hj nZ hl;simp[execOp,h1,this]
theorem adS(E:bu P cf Q){fv x:Operand}{at':Array TypeId}{dst:Nat}{ty:TypeId}{ps:String}{af:Array Edge}(f:FuncId)(y:AV)(hr:∀v w,(callFunc f #[v]).run P w=.ok (.value v) w)(hd:dst<cf.n)(hf:ev s fv=.aH f [])(hx:ev s x=y)(h:E.run k (s.put dst y)) :
  E.bc { dst:=some dst,op:=.call { callee:=.value fv,args:=#[x],argTypes:=at' },type:=ty,pos:=ps,after:=af,guard:=none } s k .no:=by
 refine zK E (x:=y) rfl hd (by simp) (fun B β a w hs=>⟨a.eval x,?_,hx▸hs.ev x⟩) h;have pY:=hs.ev fv;rw[hf]at pY;generalize nF:a.eval fv=BB at pY
 cases pY with
 |aH _ cvs _ hcs mh =>
 have vz:cvs=#[]:=amK (by simpa using hcs);subst vz
 have e:(execOp a.eval { dst:=some dst,op:=.call { callee:=.value fv,args:=#[x],argTypes:=at' },type:=ty,pos:=ps,after:=af,guard:=none }:Sem Next)=callFunc f (#[]++#[x].map a.eval++#[]):=by
  show(do let d <-(Deferred.ofValue (a.eval fv) (#[x].map a.eval));invoke d.target d.args:Sem Next)=_;rw[nF];rfl
 rw[e];simpa using hr (a.eval x) w
end
end Go.Ab

