/-
  The generic layer, part 14: 'run' is sound. (with the parts that follow it) (with the parts that follow it)
-/
import Derived.Test.YtpmniabdmbmafaaGreatDoorPTC
import Derived.Test.YtpmniabdmbmafaaGreatDoorPTA
import Derived.OrdersIn
import Derived.LoopNIn
import Derived.Lib.AppendIntMem
import Derived.Attr
import Derived.Below
import Derived.Laws.BytesString
import Derived.Laws.RangeString
set_option linter.all false
set_option maxHeartbeats 16000000
namespace Go.Ab
section
variable {P:Program}{cf:Cf}{ro:Option Nat}
theorem xw:(Fw ro).depth=none:=rfl
theorem aj.sP{B:Base}{β:Name->Option a8}{s:St}{tm:Array Value}{w:World}(h:aj B β s tm w){t:Nat}{x:AV}(hv:VR w.heap (s.own B.A β) s.used s.hp β (tm.getD t undef) x):aj B β (s.put t x) tm w:=by
 refine { h with slots:=fun i=>?_ };show VR w.heap (s.own B.A β) s.used s.hp β _ (dV s.fr t x i);unfold dV;split
 .rename_i e;rw[e];exact hv
 .exact h.slots i
theorem fR{o:Oper}{a:Act}{w w':World}{nx:Next}{v:Value}(hnd:∀c,o.op≠.defer c)(aF:(execOp a.eval o).run P w=.ok nx w')(dy:nx=.value v∨nx=.skip∧v=undef)
  {next:Act->World->Prop} {Q:Exit->Act->World->Prop} (h:next (a.put o.dst v) w'):o.wpIn (Fw cf.ro) 0 P a w next Q:=by
 refine⟨fun _ _=>trivial,?_⟩;rw[Oper.semAt_eq _ _ _ hnd,aF];rcases dy with rfl|⟨rfl,rfl⟩<;>exact h
theorem xx(Q:Exit->Act->World->Prop):∀(k:List It) (a:Act) (w:World),Q .ret a w->hold P cf Q k .ret a w
 |[],_,_,h=>h
 |.code _::k,a,w,h=>xx Q k a w h
 |.ops _ _::k,a,w,h=>xx Q k a w h
 |.ef _::k,a,w,h=>xx Q k a w h
theorem y3(Q:Exit->Act->World->Prop)(i:Nat):∀(k:List It) (a:Act) (w:World),nq i k=none->Q (.exit i) a w->hold P cf Q k (.exit i) a w
 |[],_,_,_,h=>h
 |.code _::k,a,w,hk,h=>y3 Q i k a w hk h
 |.ops _ _::k,a,w,hk,h=>y3 Q i k a w hk h
 |.ef j::k,a,w,hk,h=>by
   simp only[nq]at hk;split at hk
   .cases hk
   .rename_i hj;simp only[hold,if_neg (fun e:i=j=>hj e.symm)];exact y3 Q i k a w hk h
theorem y4(Q:Exit->Act->World->Prop)(i:Nat):∀(k k':List It) (a:Act) (w:World),nq i k=some k'->hold P cf Q k' .normal a w->hold P cf Q k (.exit i) a w
 |[],_,_,_,hk,_=>by cases hk
 |.code _::k,k',a,w,hk,h=>y4 Q i k k' a w hk h
 |.ops _ _::k,k',a,w,hk,h=>y4 Q i k k' a w hk h
 |.ef j::k,k',a,w,hk,h=>by
   simp only[nq]at hk;split at hk
   .rename_i hj;cases hk;subst hj;simp only[hold,if_true];exact h
   .rename_i hj;simp only[hold,if_neg (fun e:i=j=>hj e.symm)];exact y4 Q i k k' a w hk h
theorem NM(Q:Exit->Act->World->Prop)(c:Code)(k:List It):∀e a w,hold P cf Q (.code c::k) e a w->Exit.then (c.wpIn (Fw cf.ro) 0 P (hold P cf Q k)) (hold P cf Q k) e a w:=by
 intro e a w h;cases e<;>exact h
theorem NN(Q:Exit->Act->World->Prop)(i:Nat)(k:List It):∀e a w,hold P cf Q (.ef i::k) e a w->Exit.inBlock i (hold P cf Q k) e a w:=by
 intro e a w h;cases e<;>exact h
theorem NP{B:Base}{ds:List Deferred}{β:Name->Option a8}{a:Act}{w:World}{s:St}{o:Oper}{all:Array Oper}{r:List Oper}{k:List It}{Q:Exit->St->Prop}(hB:cf.fits B)(ai:a.defers=ds)(h:aj B β s a.tmps w)
  (ih:∀s',run P cf (.ops all r::k) Q s'->vt P cf (.ops all r::k) Q s') {i:Nat} {l:List Nat} (hl:l.map (all[·]?)=r.map some) (hi:all[i]?=some o)
  (hw:Region.wanted o (yielded all a.tmps)=true) {o':Oper} (aV:o'={ o with guard:=none })
  (hr:(cV P.ti cf.n o.op o.dst s).run (fun s'=>run P cf (.ops all r::k) Q s') (ia P cf o s (.ops all r::k) Q)∨(cV P.ti cf.n o.op o.dst s).run (fun s'=>run P cf (.ops all r::k) Q s') (ia P cf o' s (.ops all r::k) Q)) :
  wpOpsIn (Fw cf.ro) 0 P all (hold P cf (lift B ds Q) k) (i::l) a w:=by
 simp only[wpOpsIn,hi,hw,if_true]
 have done:∀a' w',(a'.defers=ds∧∃s' β',vt P cf (.ops all r::k) Q s'∧aj B β' s' a'.tmps w')->wpOpsIn (Fw cf.ro) 0 P all (hold P cf (lift B ds Q) k) l a' w':=by
  rintro a' w' ⟨dP,s',β',hA,hs⟩;exact hA B hB ds β' a' w' dP hs l hl
 have does:Does P B o a w (fun s'=>run P cf (.ops all r::k) Q s')->o.wpIn (Fw cf.ro) 0 P a w (wpOpsIn (Fw cf.ro) 0 P all (hold P cf (lift B ds Q) k) l) (hold P cf (lift B ds Q) k):=by
  rintro⟨nx,v,w',s',β',aF,dy,hf,hs⟩
  have hnd:∀c,o.op≠.defer c:=by
   intro c hc
   have:∃d w2,(execOp a.eval o).run P w=.ok (.defer d) w2∨∃h w2,(execOp a.eval o).run P w=.halt h w2:=by
    simp only[execOp,hc,Sem.run_bind]
    cases (resolve a.eval c o.type).run P w with
    |ok d w2=>exact⟨d,w2,.inl rfl⟩
    |halt hh w2=>exact⟨default,w2,.inr ⟨hh,w2,rfl⟩⟩
   obtain⟨d,w2,h1|⟨hh,w3,h1⟩⟩:=this
   .rw[aF]at h1;cases h1;rcases dy with h2|⟨h2,_⟩<;>cases h2
   .rw[aF]at h1;cases h1
  refine fR hnd aF dy (done _ _ ⟨?_,s',β',ih s' hf,hs⟩);cases o.dst<;>exact ai
 obtain hr|hr:=hr
 .rw[<-hB.1]at hr;rcases y2 h hr with hz|hd
  .exact Oper.wpIn_mono done (hz B hB ds β a w ai h _)
  .exact does hd
 .rw[<-hB.1]at hr;rcases y2 h hr with hz|hd
  .subst aV;exact Oper.wpIn_mono done (hz B hB ds β a w ai h (hold P cf (lift B ds Q) k))
  .exact does hd
theorem X4:∀(N:Nat) (k:List It) (Q:Exit->St->Prop) (s:St),kc k<=N->run P cf k Q s->vt P cf k Q s:=by
 intro N
 induction N with
 |zero =>
   intro k Q s hN hr
   cases k with
   |nil =>
     rw[run]at hr;exact fun B hB ds β a w ai h=>⟨ai,s,β,hr,h⟩
   |cons i k=>simp only[kc]at hN;have:=i.A8;omega
 |succ N ih =>
   intro k Q s hN hr
   cases k with
   |nil =>
     rw[run]at hr;exact fun B hB ds β a w ai h=>⟨ai,s,β,hr,h⟩
   |cons i k =>
     have go:∀k' s',kc k'<=N->run P cf k' Q s'->vt P cf k' Q s':=fun k' s' aC=>ih k' Q s' aC;simp only[kc]at hN
     cases i with
     |ef i =>
       simp only[It.gE]at hN;rw[run]at hr;exact fun B hB ds β a w ai h=>go k s (by omega) hr B hB ds β a w ai h
     |ops all r =>
       simp only[It.gE]at hN
       cases r with
       |nil =>
         rw[run]at hr;intro B hB ds β a w ai h l hl;have:l=[]:=by simpa using hl
         subst this;exact go k s (by simp at hN;omega) hr B hB ds β a w ai h
       |cons o r =>
         simp only[List.length_cons]at hN;have gG:∀s',run P cf (.ops all r::k) Q s'->vt P cf (.ops all r::k) Q s':=fun s'=>go _ s' (by simp only[kc,It.gE];omega);intro B hB ds β a w ai h l hl
         cases l with
         |nil=>simp at hl
         |cons i l =>
           simp only[alf,al3]at hl;obtain⟨hi,hl⟩:=hl;rw[run]at hr
           cases hg:o.guard with
           |none =>
             rw[hg]at hr;exact NP hB ai h gG hl hi (by simp[Region.wanted,hg]) rfl (.inl hr)
           |some q =>
             obtain⟨j,want⟩:=q;rw[hg]at hr;simp only at hr;split at hr
             .rename_i t b eS
              obtain⟨oj,hj,jr,jQ⟩:∃oj,all[j]?=some oj∧oj.dst=some t∧s.fr t=.d (.bool b):=by
               unfold pL at eS;split at eS
               .rename_i oj hj;simp only[ak8,amd]at eS;obtain⟨t',k8,rfl,hv⟩:=eS;exact⟨oj,hj,k8,hv⟩
               .cases eS
              have hv:=h.slots t;rw[jQ]at hv;have hb:=hv.bool
              have hlt:t<a.tmps.size:=by
               rcases alP t a.tmps.size with hlt|cK
               .exact hlt
               .simp[akZ,alT cK]at hb;cases hb
              have hy:yielded all a.tmps j=some b:=by
               simp[yielded,hj,jr,al6 hlt];simp[akZ,hlt]at hb;rw[hb]
              by_cases Ez:b=want
              .have bm:aj B β (s.put t (.d (.bool want))) a.tmps w:=h.sP (by rw[<-Ez];exact hv);exact NP hB ai bm gG hl hi (by simp[Region.wanted,hg,hy,Ez]) rfl (.inr (hr.1 Ez))
              .have vB:b=!want:=by cases b<;>cases want<;>simp_all
               have bm:aj B β (s.put t (.d (.bool (!want)))) a.tmps w:=h.sP (by rw[<-vB];exact hv);have xy:Region.wanted o (yielded all a.tmps)=false:=by simp[Region.wanted,hg,hy,Ez]
               simp only[wpOpsIn,hi,xy,als,if_false];refine⟨fun _ _=>trivial,?_⟩;rcases Bp (hr.2 vB)with hz|⟨hd,hf⟩
               .exact hz.elim
               .refine gG _ hf B hB ds β (a.put o.dst undef) w ?_ (bm.cU (by rw[hB.1];exact hd) (.az #[] [] rfl (by simp))) l hl;cases o.dst<;>exact ai
             .rename_i t eS
              obtain⟨oj,hj,jr,jQ⟩:∃oj,all[j]?=some oj∧oj.dst=some t∧s.fr t=.az []:=by
               unfold pL at eS;split at eS
               .rename_i oj hj;simp only[ak8,amd]at eS;obtain⟨t',k8,rfl,hv⟩:=eS;exact⟨oj,hj,k8,hv⟩
               .cases eS
              have hv:=h.slots t;rw[jQ]at hv
              have hy:yielded all a.tmps j=none:=by
               rcases alP t a.tmps.size with hlt|cK
               .have hb:a.tmps.getD t undef=.tuple #[]:=by
                 generalize a.tmps.getD t undef=v at hv
                 cases hv with
                 |az vs _ hs _ =>
                   have:vs=#[]:=amK hs;rw[this]
                simp[akZ,hlt]at hb;simp[yielded,hj,jr,al6 hlt,hb]
               .simp[yielded,hj,jr,alT cK]
              have xy:Region.wanted o (yielded all a.tmps)=false:=by simp[Region.wanted,hg,hy]
              simp only[wpOpsIn,hi,xy,als,if_false];refine⟨fun _ _=>trivial,?_⟩;rcases Bp hr with hz|⟨hd,hf⟩
              .exact hz.elim
              .refine gG _ hf B hB ds β (a.put o.dst undef) w ?_ (h.cU (by rw[hB.1];exact hd) (.az #[] [] rfl (by simp))) l hl;cases o.dst<;>exact ai
             .exact hr.elim
     |code c =>
       simp only[It.gE]at hN;have xA:=A8 c
       cases c with
       |skip =>
         rw[run]at hr;exact fun B hB ds β a w ai h=>wpIn_skip (go k s (by omega) hr B hB ds β a w ai h)
       |region id ops draw =>
         cases draw with
         |false =>
           rw[run]at hr;intro B hB ds β a w ai h;refine wpIn_region ?_;refine go (.ops ops ops.toList::k) s (by simp only[kc,It.gE,gE]at hN ⊢;omega) hr B hB ds β a w ai h _ ?_;apply amg;intro j;simp only[ala,alM];by_cases hj:j<ops.size
           .simp[hj]
           .simp[hj]
         |true=>rw[run]at hr;exact hr
       |seq x y =>
         rw[run]at hr;intro B hB ds β a w ai h;have:=go (.code x::.code y::k) s (by simp only[kc,It.gE,gE]at hN ⊢;omega) hr B hB ds β a w ai h;exact wpIn_seq (wpIn_mono this (NM _ y k))
       |cond c x y =>
         rw[run]at hr;intro B hB ds β a w ai h;split at hr
         .rename_i t ht;have hc:=h.ev c;rw[ht]at hc;refine wpIn_cond hc.bool ?_
          cases t with
          |true=>exact go (.code x::k) s (by simp only[kc,It.gE,gE]at hN ⊢;omega) (hr.1 rfl) B hB ds β a w ai h
          |false=>exact go (.code y::k) s (by simp only[kc,It.gE,gE]at hN ⊢;omega) (hr.2 rfl) B hB ds β a w ai h
         .exact hr.elim
       |block i x =>
         rw[run]at hr;intro B hB ds β a w ai h;have:=go (.code x::.ef i::k) s (by simp only[kc,It.gE,gE]at hN ⊢;omega) hr B hB ds β a w ai h;exact wpIn_block (wpIn_mono this (NN _ i k))
       |exit i =>
         rw[run]at hr;intro B hB ds β a w ai h;refine wpIn_exit ?_;split at hr
         .rename_i k' aC;have hle:=A9 _ _ _ aC;exact y4 _ i k k' a w aC (go k' s (by omega) hr B hB ds β a w ai h)
         .rename_i aC;exact y3 _ i k a w aC ⟨ai,s,β,hr,h⟩
       |ret =>
         rw[run]at hr;exact fun B hB ds β a w ai h=>wpIn_ret (xx _ k a w ⟨ai,s,β,hr,h⟩)
       |loop c=>rw[run]at hr;exact hr;all_goals simp
       |rangeFunc f p a0s b=>rw[run]at hr;exact hr;all_goals simp
       |scope c=>rw[run]at hr;exact hr;all_goals simp
       |label l=>rw[run]at hr;exact hr;all_goals simp
       |goto l=>rw[run]at hr;exact hr;all_goals simp
       |refuse y=>rw[run]at hr;exact hr;all_goals simp
theorem eB{k:List It}{Q:Exit->St->Prop}{s:St}(h:run P cf k Q s):vt P cf k Q s:=X4 (kc k) k Q s (ali _) h
end
end Go.Ab
namespace Go.Ab
mutual
def AV.ren(τ:Name->Name):AV->AV
 |.un=>.un
 |.d x=>.d x
 |.vw p o l=>.vw (τ p) o l
 |.bx p c=>.bx (τ p) c
 |.el p i c=>.el (τ p) i c
 |.mp p=>.mp (τ p)
 |.it p=>.it (τ p)
 |.agg cs=>.agg (cg τ cs)
 |.az cs=>.az (cg τ cs)
 |.aH f cs=>.aH f (cg τ cs)
 |.va p o l=>.va (τ p) o l
 |.ea p i=>.ea (τ p) i
 |.ma p=>.ma (τ p)
def cg(τ:Name->Name):List AV->List AV
 |[]=>[]
 |x::r=>x.ren τ::cg τ r
end
def Ob.ren(τ:Name->Name):Ob->Ob
 |.bB ty w xs=>.bB ty w xs
 |.bt ty cs=>.bt ty (cg τ cs)
 |.map es=>.map es
 |.rD s i=>.rD s i
 |.kz m c es=>.kz m c es
 |.ez w xs=>.ez w (cg τ xs)
 |.mapA ay bs es=>.mapA ay bs (es.map fun q=>(q.1,q.2.ren τ))
def b9(used:List Nat):Name->Bool
 |[]=>false
 |h::_=>used.contains h
mutual
def AV.bn(u:List Nat):AV->Bool
 |.un=>true
 |.d _=>true
 |.vw p _ _=>b9 u p
 |.bx p _=>b9 u p
 |.el p _ _=>b9 u p
 |.mp p=>b9 u p
 |.it p=>b9 u p
 |.agg cs=>dz u cs
 |.az cs=>dz u cs
 |.aH _ cs=>dz u cs
 |.va p _ _=>b9 u p
 |.ea p _=>b9 u p
 |.ma p=>b9 u p
def dz(u:List Nat):List AV->Bool
 |[]=>true
 |x::r=>x.bn u&&dz u r
end
def Ob.bn(u:List Nat):Ob->Bool
 |.bt _ cs=>dz u cs
 |.ez _ xs=>dz u xs
 |.mapA _ _ es=>es.all fun q=>q.2.bn u
 |_=>true
theorem qI{u:List Nat}{p:Name}(h:b9 u p=true):nm u p:=by
 cases p with
 |nil=>cases h
 |cons a t=>exact⟨a,t,rfl,by simpa[b9]using h⟩
theorem k9(τ:Name->Name):∀l:List AV,(cg τ l).length=l.length
 |[]=>rfl
 |_::r=>by simp[cg,k9 τ r]
theorem oF(τ:Name->Name):∀(l:List AV) (i:Nat),(cg τ l)[i]?=(l[i]?).map (AV.ren τ)
 |[],i=>by simp[cg]
 |x::r,0=>by simp[cg]
 |x::r,i+1=>by simp[cg,oF τ r i]
theorem vC{u:List Nat}:∀{l:List AV},dz u l=true->∀(i:Nat) (x:AV),l[i]?=some x->x.bn u=true
 |[],_,i,x,h=>by simp at h
 |y::r,h,0,x,hx=>by simp[dz]at h hx;subst hx;exact h.1
 |y::r,h,i+1,x,hx=>by simp only[dz,ak7]at h;exact vC h.2 i x (by simpa using hx)
section
variable {H:Array Obj}{own own':Nat->Prop}{used lH:List Nat}{hp ae:Name->Option Ob}{β β':Name->Option a8}
theorem VR.ren{τ:Name->Name}(hr:∀v d,au H own v d->au H own' v d)(dx:∀p o,ae p=some o->hp (τ p)=some (o.ren τ)∧β' p=β (τ p)) :
  ∀{v:Value} {y:AV},VR H own used hp β v y->∀x:AV,y=x.ren τ->x.bn lH=true->VR H own' lH ae β' v x:=by
 intro v y h
 induction h with
 |un v=>intro x e hu;cases x<;>simp[AV.ren]at e;exact .un v
 |d v z h=>intro x e hu;cases x<;>simp[AV.ren]at e;subst e;exact .d v _ (hr v _ h)
 |vw v p off len hn h1 h =>
   intro x e hu;cases x<;>simp[AV.ren]at e;obtain⟨rfl,rfl,rfl⟩:=e;refine .vw v _ _ _ (qI hu) h1 fun ty w xs hx=>?_;obtain⟨ho,hb⟩:=dx _ _ hx;rw[hb];exact h _ w xs ho
 |bx v p c hn h1 h =>
   intro x e hu;cases x<;>simp[AV.ren]at e;obtain⟨rfl,rfl⟩:=e;refine .bx v _ _ (qI hu) h1 fun ty cs hx=>?_;obtain⟨ho,hb⟩:=dx _ _ hx;rw[hb];exact h _ _ ho
 |el v p i c hn h1 h =>
   intro x e hu;cases x<;>simp[AV.ren]at e;obtain⟨rfl,rfl,rfl⟩:=e;refine .el v _ _ _ (qI hu) h1 fun ty w xs hx=>?_;obtain⟨ho,hb⟩:=dx _ _ hx;rw[hb];exact h _ w xs ho
 |mp v p hn h1 h =>
   intro x e hu;cases x<;>simp[AV.ren]at e;subst e;refine .mp v _ (qI hu) h1 fun es hx=>?_;obtain⟨ho,hb⟩:=dx _ _ hx;rw[hb];exact h _ ho
 |its v p hn h1 h h' =>
   intro x e hu;cases x<;>simp[AV.ren]at e;subst e;refine .its v _ (qI hu) h1 (fun s i hx=>?_) (fun m c i hx=>?_)
   .obtain⟨ho,hb⟩:=dx _ _ hx;rw[hb];exact h _ _ ho
   .obtain⟨ho,hb⟩:=dx _ _ hx;rw[hb];exact h' _ _ _ ho
 |va v p off len hn h1 h =>
   intro x e hu;cases x<;>simp[AV.ren]at e;obtain⟨rfl,rfl,rfl⟩:=e;refine .va v _ _ _ (qI hu) h1 fun w xs hx=>?_;obtain⟨ho,hb⟩:=dx _ _ hx;rw[hb];have:=h _ _ ho;rw[k9]at this;exact this
 |ea v p i hn h1 h =>
   intro x e hu;cases x<;>simp[AV.ren]at e;obtain⟨rfl,rfl⟩:=e;refine .ea v _ _ (qI hu) h1 fun w xs hx=>?_;obtain⟨ho,hb⟩:=dx _ _ hx;rw[hb];have:=h _ _ ho;rw[k9]at this;exact this
 |ma v p hn h1 h =>
   intro x e hu;cases x<;>simp[AV.ren]at e;subst e;refine .ma v _ (qI hu) h1 fun ay bs es hx=>?_;obtain⟨ho,hb⟩:=dx _ _ hx;rw[hb];exact h _ _ _ ho
 |agg vs cs hs hc h0 ih =>
   intro x e hu;cases x<;>simp[AV.ren]at e;subst e;rename_i ds;refine .agg vs ds (by rw[hs,k9]) hc fun i x hi=>ih i _ (by rw[oF,hi];rfl) x rfl (vC hu i x hi)
 |az vs cs hs h0 ih =>
   intro x e hu;cases x<;>simp[AV.ren]at e;subst e;rename_i ds;refine .az vs ds (by rw[hs,k9]) fun i x hi=>ih i _ (by rw[oF,hi];rfl) x rfl (vC hu i x hi)
 |aH f vs cs hs h0 ih =>
   intro x e hu;cases x<;>simp[AV.ren]at e;obtain⟨rfl,rfl⟩:=e;rename_i ds;refine .aH _ vs ds (by rw[hs,k9]) fun i x hi=>ih i _ (by rw[oF,hi];rfl) x rfl (vC hu i x hi)
theorem OR.ren{τ:Name->Name}(hr:∀v d,au H own v d->au H own' v d)(dx:∀p o,ae p=some o->hp (τ p)=some (o.ren τ)∧β' p=β (τ p)){p:Name}{o:Ob}(hb:β' p=β (τ p))(hu:o.bn lH=true)
  (h:OR H own used hp β (τ p) (o.ren τ)):OR H own' lH ae β' p o:=by
 cases o with
 |bB ty w xs =>
   obtain⟨h1,h2⟩|⟨k,c,e,hk,hc,hz,hl,hw,h⟩:=h
   .exact .inl ⟨hb.trans h1,h2⟩
   .exact .inr ⟨k,c,e,hb.trans hk,hc,hz,hl,hw,fun i x j d hi hj=>hr _ _ (h i x j d hi hj)⟩
 |bt ty cs =>
   obtain⟨k,c,e,hk,ho,hc,hz,hl,h1,h⟩:=h;refine⟨k,c,e,hb.trans hk,ho,hc,hz,by rw[hl,k9],h1,fun j x hj=>?_⟩;exact(h j (x.ren τ) (by rw[oF,hj];rfl)).ren hr dx x rfl (vC hu j x hj)
 |map es =>
   obtain⟨k,aE,clock,hk,hc,hz,h⟩:=h;refine⟨k,aE,clock,hb.trans hk,hc,hz,fun i x hi=>?_⟩;obtain⟨en,h1,h2,h3⟩:=h i x hi;exact⟨en,h1,hr _ _ h2,hr _ _ h3⟩
 |rD s pos =>
   obtain⟨k,hk,hc⟩:=h;exact⟨k,hb.trans hk,hc⟩
 |kz _ _ _ =>
   obtain⟨k,b,since,seen,last,hk,hc,hm,hi⟩:=h;exact⟨k,b,since,seen,last,hb.trans hk,hc,hr _ _ hm,hi⟩
 |ez w xs =>
   obtain⟨h1,h2⟩|⟨k,c,e,hk,hc,hz,hl,hw,h⟩:=h
   .refine .inl ⟨hb.trans h1,?_⟩
    cases xs with
    |nil=>rfl
    |cons x r=>simp[cg]at h2
   .rw[k9]at hl hw;exact .inr ⟨k,c,e,hb.trans hk,hc,hz,hl,hw,fun i x hi=>(h i (x.ren τ) (by rw[oF,hi];rfl)).ren hr dx x rfl (vC hu i x hi)⟩
 |mapA ay bs es =>
   obtain⟨k,aE,hk,hc,hz,h⟩:=h;rw[alg]at hz;refine⟨k,aE,hb.trans hk,hc,hz,fun i x hi=>?_⟩;obtain⟨en,h1,h2,h3⟩:=h i (x.1,x.2.ren τ) (by rw[ala,hi];rfl);exact⟨en,h1,hr _ _ h2,h3.ren hr dx x.2 rfl (alr.1 hu x (alp hi))⟩
end
structure Le(U:List Nat)(τ:Name->Name)(s s2:St):Prop where
 fr:∀t,s2.fr t=.un∨s.fr t=(s2.fr t).ren τ∧(s2.fr t).bn s2.used=true
 hp:∀p o,s2.hp p=some o->s.hp (τ p)=some (o.ren τ)∧o.bn s2.used=true∧nm s2.used p
 inj:∀p q,s2.hp p≠none->s2.hp q≠none->τ p=τ q->p=q
 us:∀x∈U,x∈s2.used
 stay:∀p,nm U p->s2.hp p≠none->τ p=p
theorem aj.le{B:Base}{β:Name->Option a8}{s s2:St}{tm:Array Value}{w:World}{τ:Name->Name}(h:aj B β s tm w)(hle:Le B.U0 τ s s2):∃β2,aj B β2 s2 tm w∧∀p,s2.hp p≠none->β2 p=β (τ p):=by
 have key:∃β2:Name->Option a8,(∀p,s2.hp p≠none->β2 p=β (τ p))∧∀p,s2.hp p=none->β2 p=β p:=by
  refine⟨fun p=>if(s2.hp p).isSome then β (τ p)else β p,fun p hp=>?_,fun p hp=>?_⟩
  .cases h:s2.hp p with
   |none=>exact absurd h hp
   |some o=>simp[h]
  .simp[hp]
 obtain⟨β2,hb,eI⟩:=key;have dx:∀p o,s2.hp p=some o->s.hp (τ p)=some (o.ren τ)∧β2 p=β (τ p):=fun p o hp=>⟨(hle.hp p o hp).1,hb p (by rw[hp];simp)⟩
 have eH:∀b,s2.own B.A β2 b->s.own B.A β b:=by
  rintro b (hA|⟨p,k,hp,hk,rfl⟩)
  .exact .inl hA
  .cases ho:s2.hp p with
   |none=>exact absurd ho hp
   |some o =>
     obtain⟨h1,h2⟩:=dx p o ho;exact .inr ⟨τ p,k,by rw[h1];simp,by rw[<-h2];exact hk,rfl⟩
 have hr:∀v d,au w.heap (s.own B.A β) v d->au w.heap (s2.own B.A β2) v d:=fun v d hd=>hd.mono (fun _ _ _=>rfl) (fun b _=>eH b);refine⟨β2,{ bG:=h.bG,io:=h.io,size:=h.size,frame:=h.frame,slots:=fun i=>?_,aJ:=fun p o hp=>?_,blocks:=fun p k hp hk=>?_,inj:=fun p q k l hp hq hk hl e=>?_,us:=hle.us,stay:=fun p hp=>?_ },hb⟩
 .rcases hle.fr i with e|⟨e,hu⟩
  .rw[e];exact .un _
  .exact(h.slots i).ren hr dx _ e hu
 .obtain⟨h1,h2,h3⟩:=hle.hp p o hp;exact⟨h3,OR.ren hr dx (hb p (by rw[hp];simp)) h2 (h.aJ _ _ h1).2⟩
 .rw[hb p hp]at hk
  cases ho:s2.hp p with
  |none=>exact absurd ho hp
  |some o=>exact h.blocks (τ p) k (by rw[(hle.hp p o ho).1];simp) hk
 .rw[hb p hp]at hk;rw[hb q hq]at hl
  have live:∀p,s2.hp p≠none->s.hp (τ p)≠none:=fun p hp=>by
   cases ho:s2.hp p with
   |none=>exact absurd ho hp
   |some o=>rw[(hle.hp p o ho).1];simp
  exact hle.inj p q hp hq (h.inj _ _ k l (live p hp) (live q hq) hk hl e)
 .cases ho:s2.hp p with
  |none=>rw[eI p ho];exact h.stay p hp
  |some o =>
    have ib:s2.hp p≠none:=by rw[ho];simp
    rw[hb p ib,hle.stay p hp ib];exact h.stay p hp
def ak(l:List (Name×Name))(p:Name):Name:=aw p l p
def oG(τ:Name->Name)(u:List Nat)(s:St):List (Nat×AV)->Prop
 |[]=>True
 |q::r=>(s.fr q.1=q.2.ren τ∧q.2.bn u=true)∧oG τ u s r
def oH(τ:Name->Name)(u:List Nat)(s:St):List (Name×Ob)->Prop
 |[]=>True
 |q::r=>(s.hp (τ q.1)=some (q.2.ren τ)∧q.2.bn u=true∧b9 u q.1=true)∧oH τ u s r
def kh(τ:Name->Name):List (Name×Ob)->Prop
 |[]=>True
 |q::r=>(∀x∈r,τ q.1≠τ x.1)∧kh τ r
def Bv(U:List Nat)(τ:Name->Name):List (Name×Ob)->Prop
 |[]=>True
 |q::r=>(b9 U q.1=true->τ q.1=q.1)∧Bv U τ r
def cw(U:List Nat)(τ:Name->Name)(s:St)(fr:List (Nat×AV))(hp:List (Name×Ob))(u:List Nat):Prop :=
 oG τ u s fr∧oH τ u s hp∧kh τ hp∧(U.all fun x=>u.contains x)=true∧Bv U τ hp
theorem EB{α β:Type}[DecidableEq α]{z:β}:∀{l:List (α×β)} {i:α},aw z l i=z∨(i,aw z l i)∈l
 |[],i=>.inl rfl
 |q::r,i=>by
   simp only[aw];split
   .rename_i e;subst e;exact .inr alb
   .rcases EB (z:=z) (l:=r) (i:=i)with h|h
    .exact .inl h
    .exact .inr (ald _ h)
theorem NQ{τ:Name->Name}{u:List Nat}{s:St}:∀{l:List (Nat×AV)},oG τ u s l->∀q∈l,s.fr q.1=q.2.ren τ∧q.2.bn u=true
 |[],_,q,h=>by simp at h
 |_::r,h,q,hq=>by
   rcases alc.1 hq with rfl|hq
   .exact h.1
   .exact NQ h.2 q hq
theorem NR{τ:Name->Name}{u:List Nat}{s:St}:∀{l:List (Name×Ob)},oH τ u s l->∀q∈l,s.hp (τ q.1)=some (q.2.ren τ)∧q.2.bn u=true∧b9 u q.1=true
 |[],_,q,h=>by simp at h
 |_::r,h,q,hq=>by
   rcases alc.1 hq with rfl|hq
   .exact h.1
   .exact NR h.2 q hq
theorem Bw{τ:Name->Name}:∀{l:List (Name×Ob)},kh τ l->∀q∈l,∀r∈l,τ q.1=τ r.1->q.1=r.1
 |[],_,q,h,_,_,_=>by simp at h
 |a::l,h,q,hq,r,hr,e=>by
   rcases alc.1 hq with h1|h1<;>rcases alc.1 hr with h2|h2
   .rw[h1,h2]
   .rw[h1]at e;exact absurd e (h.1 r h2)
   .rw[h2]at e;exact absurd e.symm (h.1 q h1)
   .exact Bw h.2 q h1 r h2 e
theorem NS{U:List Nat}{τ:Name->Name}:∀{l:List (Name×Ob)},Bv U τ l->∀q∈l,b9 U q.1=true->τ q.1=q.1
 |[],_,q,h,_=>by simp at h
 |_::r,h,q,hq,hn=>by
   rcases alc.1 hq with rfl|hq
   .exact h.1 hn
   .exact NS h.2 q hq hn
theorem Bx{fr:List (Nat×AV)}{hp:List (Name×Ob)}{u:List Nat}{p:Name}{o:Ob}(h:(mk fr hp u).hp p=some o):(p,o)∈hp:=by
 have:=EB (z:=(none:Option Ob)) (l:=hp.map fun q=>(q.1,some q.2)) (i:=p);have e:aw none (hp.map fun q=>(q.1,some q.2)) p=some o:=h;rw[e]at this;obtain h|h:=this
 .cases h
 .obtain⟨q,hq,e⟩:=ak6.1 h;cases e;exact hq
theorem cw.le{U:List Nat}{τ:Name->Name}{s:St}{fr:List (Nat×AV)}{hp:List (Name×Ob)}{u:List Nat}(h:cw U τ s fr hp u):Le U τ s (mk fr hp u):=by
 obtain⟨h1,h2,h3,h4,h5⟩:=h
 have live:∀p,(mk fr hp u).hp p≠none->∃o,(p,o)∈hp:=fun p ae=>by
  cases ho:(mk fr hp u).hp p with
  |none=>exact absurd ho ae
  |some o=>exact⟨o,Bx ho⟩
 refine⟨fun t=>?_,fun p o ae=>?_,fun p q ae bX e=>?_,fun x hx=>?_,fun p ae hl=>?_⟩
 .rcases EB (z:=AV.un) (l:=fr) (i:=t)with e|hm
  .exact .inl e
  .exact .inr (NQ h1 _ hm)
 .obtain⟨a,b,c⟩:=NR h2 _ (Bx ae);exact⟨a,b,qI c⟩
 .obtain⟨o,ho⟩:=live p ae;obtain⟨o',aV⟩:=live q bX;exact Bw h3 _ ho _ aV e
 .have:=alr.1 h4 x hx;show x∈u;simpa using this
 .obtain⟨o,ho⟩:=live p hl;refine NS h5 _ ho ?_;obtain⟨a,t,rfl,ha⟩:=ae;simpa[b9]using ha
section
variable {P:Program}{cf:Cf}
def lq(P:Program)(cf:Cf)(next:St->Prop)(k:List It)(Q:Exit->St->Prop)(e:Exit)(s:St):Prop :=
 match e with
 |.normal=>next s
 |.exit i=>yW P cf (nq i k) i Q s
 |.ret=>Q .ret s
 |_=>False
theorem X5(next:St->Prop)(k:List It)(Q:Exit->St->Prop)(s:St):lq P cf next k Q .normal s=next s:=rfl
theorem X6(next:St->Prop)(k:List It)(Q:Exit->St->Prop)(s:St):lq P cf next k Q .ret s=Q .ret s:=rfl
theorem ia.le{o:Oper}{s s2:St}{k:List It}{Q:Exit->St->Prop}{τ:Name->Name}(hle:Le cf.U τ s s2)(h:ia P cf o s2 k Q):ia P cf o s k Q :=
 fun B hB ds β a w ai hs Q'=>let ⟨β2,br,_⟩:=hs.le (τ:=τ) (by rw[hB.2.1];exact hle);h B hB ds β2 a w ai br Q'
end
end Go.Ab
namespace Go.Ab
def dQ:Nat->List AV->List (Nat×AV)
 |_,[]=>[]
 |i,x::r=>(i,x)::dQ (i+1) r
def bZ(P:Program)(G:List (Nat×Obj))(f:FuncId)(args:List AV)(hp:List (Name×Ob))(u:List Nat)(Q:AV->List (Name×Ob)->Prop):Prop :=
 (∀vs w,(callFunc f vs).run P w=.ok (.enter f vs) w) ∧
 ∀(B:Base) (β:Name->Option a8) (vs:Array Value) (w:World),B.n=args.length->B.H0=w.heap->B.U0=u->B.G=G->aj B β (mk (dQ 0 args) hp u) vs w ->
  CallsIn Fence.wide 0 P f vs w fun e w'=>∃v r ae u' β',e=.returned v∧Q r ae∧aj { B with n:=1 } β' (mk [(0,r)] ae u') #[v] w'
theorem bZ.mono{P:Program}{G:List (Nat×Obj)}{f:FuncId}{args:List AV}{hp:List (Name×Ob)}{u:List Nat}{Q Q':AV->List (Name×Ob)->Prop}(h:bZ P G f args hp u Q)(hq:∀r ae,Q r ae->Q' r ae):bZ P G f args hp u Q' :=
 ⟨h.1,fun B β vs w h1 h2 h3 h4 h5=>(h.2 B β vs w h1 h2 h3 h4 h5).mono fun _ _ ⟨v,r,ae,u',β',he,hQ,hs⟩=>⟨v,r,ae,u',β',he,hq _ _ hQ,hs⟩⟩
theorem qJ:∀(l:List AV) (i t:Nat),aw AV.un (dQ i l) t=if i<=t then(l[t-i]?).getD .un else .un
 |[],i,t=>by simp[dQ,aw]
 |x::r,i,t=>by
   simp only[dQ,aw,qJ r (i+1) t];by_cases h1:t=i
   .subst h1;simp
   .rw[if_neg h1];by_cases h2:i+1<=t
    .rw[if_pos h2,if_pos (by omega),show t-i=(t-(i+1))+1 by omega,List.getElem?_cons_succ]
    .rw[if_neg h2,if_neg (by omega)]
def kG(P:Program)(s:St):List ResultVar->R (List AV)
 |[]=>.ok []
 |.tmp t::r=>(kG P s r).bind fun l=>.ok (s.fr t::l)
 |.cell p ty::r=>(sK (P.ti ty) s.hp (s.fr p)).bind fun x=>(kG P s r).bind fun l=>.ok (x::l)
def e7:List AV->AV
 |[x]=>x
 |l=>.az l
def RX{α:Type}:R α->(α->Prop)->Prop
 |.ok a,φ=>φ a
 |.need p r,φ=>p∧RX r φ
 |.no,_=>False
def qK(s:St)(x:AV):St:={ s with fr:=fun t=>if t=0 then x else .un }
def fq(P:Program)(rs:List ResultVar)(u:List Nat)(Q:AV->List (Name×Ob)->Prop)(e:Exit)(s:St):Prop :=
 match e with
 |.ret=>RX (kG P s rs) fun l=>∃r ae u' τ,Q r ae∧cw u τ (qK s (e7 l)) [(0,r)] ae u'
 |.normal=>RX (kG P s rs) fun l=>∃r ae u' τ,Q r ae∧cw u τ (qK s (e7 l)) [(0,r)] ae u'
 |_=>False
section
variable {P:Program}
def y5(tm:Array Value):ResultVar->Sem Value
 |.tmp t=>pure (tm.getD t undef)
 |.cell a t=>do loadVar t (<-asAddr (tm.getD a undef))
theorem RX.RV{α:Type}{φ ψ:α->Prop}:∀{r:R α},RX r φ->RV r ψ->∃a,φ a∧ψ a
 |.ok a,h,g=>⟨a,h,g⟩
 |.need _ _,h,g=>RX.RV h.2 (g h.1)
 |.no,h,_=>h.elim
theorem Im{B:Base}{β:Name->Option a8}{s:St}{tm:Array Value}{w:World}(h:aj B β s tm w):∀(rs:List ResultVar),
  RV (kG P s rs) fun l=>∃vs:List Value,(rs.mapM (y5 tm)).run P w=.ok vs w∧vs.length=l.length ∧
   ∀(i:Nat) x,l[i]?=some x->VR w.heap (s.own B.A β) s.used s.hp β (vs.getD i undef) x
 |[]=>⟨[],by simp,rfl,by simp⟩
 |.tmp t::r=>RV.bind (fun l ⟨vs,h1,h2,h3⟩=>⟨tm.getD t undef::vs,by simp[anM,y5,h1],by simp[h2],fun i x hi=>by
  cases i with
  |zero=>simp at hi;subst hi;exact h.slots t
  |succ i=>simpa using h3 i x (by simpa using hi)⟩) (Im h r)
 |.cell p ty::r=>RV.bind (fun y ⟨v,hv,hy⟩=>RV.bind (fun l ⟨vs,h1,h2,h3⟩=>⟨v::vs,by
  have:(y5 tm (.cell p ty)).run P w=.ok v w:=by
   show(do loadVar ty (<-asAddr (tm.getD p undef)):Sem Value).run P w=.ok v w
   cases hp:tm.getD p undef with
   |pointer a =>
     cases a with
     |none=>rw[hp]at hv;simp[Instr.loadAt,Instr.sureAddr]at hv
     |some a=>rw[hp]at hv;simpa only[Instr.loadAt,Instr.sureAddr,asAddr,Sem.run_bind,Sem.run_pure,Result.andThen_ok]using hv
   |_=>rw[hp]at hv;simp[Instr.loadAt,Instr.sureAddr]at hv
  simp[anM,this,h1],by simp[h2],fun i x hi=>by
  cases i with
  |zero=>simp at hi;subst hi;exact hy
  |succ i=>simpa using h3 i x (by simpa using hi)⟩) (Im h r)) (Nr (P:=P) (t:=ty) h (h.slots p))
theorem Io{B:Base}{β:Name->Option a8}{s:St}{tm:Array Value}{w:World}(h:aj B β s tm w)(fn:Func){φ:List AV->Prop}(hr:RX (kG P s fn.results.toList) φ) :
  ∃l v,φ l∧(results fn tm).run P w=.ok v w∧VR w.heap (s.own B.A β) s.used s.hp β v (e7 l):=by
 obtain⟨l,hφ,vs,h1,h2,h3⟩:=RX.RV hr (Im (P:=P) h fn.results.toList);refine⟨l,(if vs.length=1 then vs.getD 0 undef else .tuple vs.toArray),hφ,?_,?_⟩
 .have hm:(fn.results.mapM (y5 tm)).run P w=.ok vs.toArray w:=by
   rw[Array.mapM_eq_mapM_toList];simp only[Sem.run_map,h1,Result.andThen_ok]
  have e:results fn tm=(do let vs <-fn.results.mapM (y5 tm);pure (if h:vs.size=1 then vs[0]else .tuple vs)):=by
   unfold results
   have:(fun x:ResultVar=>match x with | .tmp t=>(pure (tm.getD t undef):Sem Value) | .cell a t=>do loadVar t (<-asAddr (tm.getD a undef)))=y5 tm:=by
    funext x;cases x<;>rfl
   rw[<-this];rfl
  rw[e,Sem.run_bind,hm];simp only[Result.andThen_ok,Sem.run_pure,amI];by_cases hl:vs.length=1
  .match vs,hl with
   |[v],_=>simp
  .rw[if_neg hl];simp[hl]
 .match l,h2,h3 with
  |[x],h2,h3 =>
    simp only[List.length_cons,List.length_nil]at h2;rw[if_pos h2];exact h3 0 x rfl
  |[],h2,h3 =>
    rw[if_neg (by rw[h2];simp)];exact .az _ _ (by simpa using h2) (fun i x hi=>by simp at hi)
  |x::y::r,h2,h3 =>
    rw[if_neg (by rw[h2];simp)];refine .az _ _ (by simpa using h2) (fun i z hi=>?_);have:=h3 i z hi;simpa[akZ,akX]using this
theorem NT{G:List (Nat×Obj)}{f:FuncId}{fn:Func}{c:Code}{args:List AV}{hp:List (Name×Ob)}{u:List Nat}{Q:AV->List (Name×Ob)->Prop}(hf:P.funcs[f]?=some fn)(hb:fn.body=some c)
  (he:∀vs w,(callFunc f vs).run P w=.ok (.enter f vs) w) (hn:args.length<=fn.ntmps)
  {Q0:Exit->St->Prop} (X7:∀e s,Q0 e s->fq P fn.results.toList u Q e s)
  (h:run P ⟨fn.ntmps,none,G,u⟩ [.code c] Q0 (mk (dQ 0 args) hp u)):bZ P G f args hp u Q:=by
 refine⟨he,fun B β vs w h1 h2 h3 h4 hs=>?_⟩;have bj:vs.size=args.length:=hs.bG.trans h1
 have bm:aj { B with n:=fn.ntmps } β (mk (dQ 0 args) hp u) (vs++Array.replicate (fn.ntmps-vs.size) undef) w:=by
  refine { hs with bG:=by simp;omega,slots:=fun t=>?_ };have:=hs.slots t;by_cases ht:t<vs.size
  .have e:(vs++Array.replicate (fn.ntmps-vs.size) undef).getD t undef=vs.getD t undef:=by
    simp[akZ,alO,ht]
   rw[e];exact this
  .have e:(mk (dQ 0 args) hp u).fr t=.un:=by
    rw[kC,qJ,if_pos (ale _),alN (by omega)];rfl
   rw[e];exact .un _
 have aF:=eB h { B with n:=fn.ntmps } ⟨rfl,h3,h4⟩ [] β { tmps:=vs++Array.replicate (fn.ntmps-vs.size) undef,defers:=[] } w rfl bm;refine callsIn_of_wp hf hb trivial (wpIn_mono (F:=Fence.wide) aF fun e a' w' hq=>?_);obtain⟨hd,s',β',hq,bh⟩:=hq;have hq:=X7 _ _ hq
 have fin:RX (kG P s' fn.results.toList) (fun l=>∃r ae u' τ,Q r ae∧cw u τ (qK s' (e7 l)) [(0,r)] ae u') ->
   a'.defers=[]∧∃v,(results fn a'.tmps).run P w'=.ok v w'∧∃v' r ae u' β',Ending.returned v=.returned v'∧Q r ae∧aj { B with n:=1 } β' (mk [(0,r)] ae u') #[v'] w':=by
  intro hx;obtain⟨l,v,⟨r,ae,u',τ,hQ,hle⟩,hr,hv⟩:=Io bh fn hx
  have Ip:aj { B with n:=1 } β' (qK s' (e7 l)) #[v] w':=by
   refine { bG:=rfl,io:=bh.io,size:=bh.size,frame:=bh.frame,slots:=fun t=>?_,aJ:=bh.aJ,blocks:=bh.blocks,inj:=bh.inj,us:=bh.us,stay:=bh.stay };show VR w'.heap (s'.own B.A β') s'.used s'.hp β' _ (if t=0 then e7 l else .un);by_cases ht:t=0
   .subst ht;rw[if_pos rfl];exact hv
   .rw[if_neg ht];exact .un _
  obtain⟨β2,br,_⟩:=Ip.le (τ:=τ) (by show Le B.U0 τ _ _;rw[h3];exact hle.le);exact⟨hd,v,hr,v,r,ae,u',β2,rfl,hQ,br⟩
 cases e with
 |normal=>exact fin hq
 |ret=>exact fin hq
 |exit i=>exact hq.elim
 |goto l=>exact hq.elim
 |panic c=>exact hq.elim
 |outgrown=>exact hq.elim
def dc(σ:Name->Name)(d:Nat)(chp:List (Name×Ob))(p:Name):Name:=if chp.any (fun q=>q.1 == p)then σ p else d::p
def iX(s:St)(σ:Name->Name)(d:Nat)(chp ae:List (Name×Ob))(r:AV):St :=
 { fr:=dV s.fr d (r.ren (dc σ d chp)),used:=d::s.used, hp:=fun q=>aw (aw (s.hp q) (chp.map fun x=>(σ x.1,none)) q) (ae.map fun x=>(dc σ d chp x.1,some (x.2.ren (dc σ d chp)))) q }
theorem VR.y6{H:Array Obj}{own own':Nat->Prop}{used lH:List Nat}{hp ae:Name->Option Ob}{β β':Name->Option a8}{σ:Name->Name}(hr:∀v d,au H own v d->au H own' v d)
  (hu:∀p,nm used p->nm lH (σ p)) (dx:∀p,nm used p->∀o',ae (σ p)=some o'->∃o,hp p=some o∧o'=o.ren σ∧β' (σ p)=β p) :
  ∀{v:Value} {x:AV},VR H own used hp β v x->VR H own' lH ae β' v (x.ren σ):=by
 intro v x h
 induction h with
 |un v=>exact .un v
 |d v z h=>exact .d v _ (hr v _ h)
 |vw v p off len hn h1 h =>
   refine .vw v _ _ _ (hu p hn) h1 fun ty w xs hx=>?_;obtain⟨o,ho,e,hb⟩:=dx p hn _ hx;cases o<;>simp[Ob.ren]at e;obtain⟨rfl,rfl,rfl⟩:=e;rw[hb];exact h _ _ _ ho
 |bx v p c hn h1 h =>
   refine .bx v _ _ (hu p hn) h1 fun ty cs hx=>?_;obtain⟨o,ho,e,hb⟩:=dx p hn _ hx;cases o<;>simp[Ob.ren]at e;rw[hb];exact h _ _ ho
 |el v p i c hn h1 h =>
   refine .el v _ _ _ (hu p hn) h1 fun ty w xs hx=>?_;obtain⟨o,ho,e,hb⟩:=dx p hn _ hx;cases o<;>simp[Ob.ren]at e;obtain⟨rfl,rfl,rfl⟩:=e;rw[hb];exact h _ _ _ ho
 |mp v p hn h1 h =>
   refine .mp v _ (hu p hn) h1 fun es hx=>?_;obtain⟨o,ho,e,hb⟩:=dx p hn _ hx;cases o<;>simp[Ob.ren]at e;rw[hb];exact h _ ho
 |its v p hn h1 h h' =>
   refine .its v _ (hu p hn) h1 (fun s i hx=>?_) (fun m c i hx=>?_)
   .obtain⟨o,ho,e,hb⟩:=dx p hn _ hx;cases o<;>simp[Ob.ren]at e;rw[hb];exact h _ _ ho
   .obtain⟨o,ho,e,hb⟩:=dx p hn _ hx;cases o<;>simp[Ob.ren]at e;rw[hb];exact h' _ _ _ ho
 |va v p off len hn h1 h =>
   refine .va v _ _ _ (hu p hn) h1 fun w xs hx=>?_;obtain⟨o,ho,e,hb⟩:=dx p hn _ hx;cases o<;>simp[Ob.ren]at e;obtain⟨rfl,rfl⟩:=e;rw[hb,k9];exact h _ _ ho
 |ea v p i hn h1 h =>
   refine .ea v _ _ (hu p hn) h1 fun w xs hx=>?_;obtain⟨o,ho,e,hb⟩:=dx p hn _ hx;cases o<;>simp[Ob.ren]at e;obtain⟨rfl,rfl⟩:=e;rw[hb,k9];exact h _ _ ho
 |ma v p hn h1 h =>
   refine .ma v _ (hu p hn) h1 fun ay bs es hx=>?_;obtain⟨o,ho,e,hb⟩:=dx p hn _ hx;cases o<;>simp[Ob.ren]at e;rw[hb];exact h _ _ _ ho
 |agg vs cs hs hc h0 ih => 
   refine .agg vs _ (by rw[hs,k9]) hc fun i x hi=>?_;rw[oF,ak8]at hi;obtain⟨y,hy,rfl⟩:=hi;exact ih i y hy
 |az vs cs hs h0 ih => 
   refine .az vs _ (by rw[hs,k9]) fun i x hi=>?_;rw[oF,ak8]at hi;obtain⟨y,hy,rfl⟩:=hi;exact ih i y hy
 |aH f vs cs hs h0 ih => 
   refine .aH f vs _ (by rw[hs,k9]) fun i x hi=>?_;rw[oF,ak8]at hi;obtain⟨y,hy,rfl⟩:=hi;exact ih i y hy
theorem OR.y6{H:Array Obj}{own own':Nat->Prop}{used lH:List Nat}{hp ae:Name->Option Ob}{β β':Name->Option a8}{σ:Name->Name}(hr:∀v d,au H own v d->au H own' v d)
  (hu:∀p,nm used p->nm lH (σ p)) (dx:∀p,nm used p->∀o',ae (σ p)=some o'->∃o,hp p=some o∧o'=o.ren σ∧β' (σ p)=β p) {p:Name} {o:Ob} (hb:β' (σ p)=β p) (h:OR H own used hp β p o) :
  OR H own' lH ae β' (σ p) (o.ren σ):=by
 cases o with
 |bB ty w xs =>
   obtain⟨h1,h2⟩|⟨k,c,e,hk,hc,hz,hl,hw,h⟩:=h
   .exact .inl ⟨hb.trans h1,h2⟩
   .exact .inr ⟨k,c,e,hb.trans hk,hc,hz,hl,hw,fun i x j d hi hj=>hr _ _ (h i x j d hi hj)⟩
 |bt ty cs =>
   obtain⟨k,c,e,hk,ho,hc,hz,hl,h1,h⟩:=h;refine⟨k,c,e,hb.trans hk,ho,hc,hz,by rw[hl,k9],h1,fun j x hj=>?_⟩;rw[oF,ak8]at hj;obtain⟨y,hy,rfl⟩:=hj;exact(h j y hy).y6 hr hu dx
 |map es =>
   obtain⟨k,aE,clock,hk,hc,hz,h⟩:=h;refine⟨k,aE,clock,hb.trans hk,hc,hz,fun i x hi=>?_⟩;obtain⟨en,h1,h2,h3⟩:=h i x hi;exact⟨en,h1,hr _ _ h2,hr _ _ h3⟩
 |rD s pos =>
   obtain⟨k,hk,hc⟩:=h;exact⟨k,hb.trans hk,hc⟩
 |kz _ _ _ =>
   obtain⟨k,b,since,seen,last,hk,hc,hm,hi⟩:=h;exact⟨k,b,since,seen,last,hb.trans hk,hc,hr _ _ hm,hi⟩
 |ez w xs =>
   obtain⟨h1,h2⟩|⟨k,c,e,hk,hc,hz,hl,hw,h⟩:=h
   .exact .inl ⟨hb.trans h1,by rw[h2];rfl⟩
   .refine .inr ⟨k,c,e,hb.trans hk,hc,hz,by rw[k9];exact hl,by rw[k9];exact hw,fun i x hi=>?_⟩;rw[oF,ak8]at hi;obtain⟨y,hy,rfl⟩:=hi;exact(h i y hy).y6 hr hu dx
 |mapA ay bs es =>
   obtain⟨k,aE,hk,hc,hz,h⟩:=h;refine⟨k,aE,hb.trans hk,hc,by rw[alg];exact hz,fun i x hi=>?_⟩;rw[ala,ak8]at hi;obtain⟨y,hy,rfl⟩:=hi;obtain⟨en,h1,h2,h3⟩:=h i y hy;exact⟨en,h1,hr _ _ h2,h3.y6 hr hu dx⟩
end
end Go.Ab
namespace Go.Ab
def mB(σ:Name->Name)(u:List Nat)(s:St):List (Name×Ob)->Prop
 |[]=>True
 |q::r=>(s.hp (σ q.1)=some (q.2.ren σ)∧q.2.bn u=true∧b9 u q.1=true)∧mB σ u s r
theorem xB{σ:Name->Name}{u:List Nat}{s:St}:∀{l:List (Name×Ob)},mB σ u s l->∀q∈l,s.hp (σ q.1)=some (q.2.ren σ)∧q.2.bn u=true∧b9 u q.1=true
 |[],_,q,h=>by simp at h
 |_::r,h,q,hq=>by
   rcases alc.1 hq with rfl|hq
   .exact h.1
   .exact xB h.2 q hq
def lg(chp:List (Name×Ob)):List (Name×Ob)->Prop
 |[]=>True
 |q::r=>(match aw none (chp.map fun x=>(x.1,some x.2)) q.1 with
  |some o=>o.like q.2
  |none=>True)∧lg chp r
theorem EC{chp:List (Name×Ob)}:∀{l:List (Name×Ob)},lg chp l->∀q∈l,∀o,aw none (chp.map fun x=>(x.1,some x.2)) q.1=some o->o.like q.2
 |[],_,q,h,_,_=>by simp at h
 |a::r,h,q,hq,o,ho=>by
   rcases alc.1 hq with rfl|hq
   .have:=h.1;rw[ho]at this;exact this
   .exact EC h.2 q hq o ho
theorem oI{l:List (Name×Ob)}{p:Name}{o:Ob}(h:aw none (l.map fun x=>(x.1,some x.2)) p=some o):(p,o)∈l:=Bx (fr:=[]) (u:=[]) h
theorem ED{l:List (Name×Ob)}{p:Name}(h:l.any (fun q=>q.1 == p)=true):∃o,aw none (l.map fun x=>(x.1,some x.2)) p=some o:=by
 induction l with
 |nil=>simp at h
 |cons q r ih =>
   simp only[alf,aw];by_cases e:p=q.1
   .exact⟨q.2,by rw[if_pos e]⟩
   .rw[if_neg e];refine ih ?_;simp only[List.any_cons,alF,beq_iff_eq]at h;exact h.resolve_left fun h=>e h.symm
theorem NU(f:Name->Name)(g:Ob->Ob)(z:Option Ob)(p:Name):∀(l:List (Name×Ob)),(∀q∈l,f q.1=f p->q.1=p) ->
  aw z (l.map fun x=>(f x.1,some (g x.2))) (f p)=match aw none (l.map fun x=>(x.1,some x.2)) p with
   |some o=>some (g o)
   |none=>z
 |[],_=>rfl
 |q::r,h=>by
   simp only[alf,aw];by_cases e:p=q.1
   .rw[if_pos (by rw[e]),if_pos e]
   .rw[if_neg (fun e'=>e (h q alb e'.symm).symm),if_neg e];exact NU f g z p r fun x hx=>h x (ald _ hx)
theorem EE(f:Name->Name)(z:Option Ob)(q:Name):∀(l:List (Name×Ob)),aw z (l.map fun x=>(f x.1,(none:Option Ob))) q=if(l.any fun x=>f x.1 == q)=true then none else z
 |[]=>rfl
 |x::r=>by
   rw[alf,kD,List.any_cons,EE f z q r];by_cases e:q=f x.1
   .rw[if_pos e,if_pos];subst e;simp
   .have h2:(f x.1 == q)=false:=by
     rw[beq_eq_false_iff_ne];exact fun h=>e h.symm
    rw[if_neg e,h2,anC]
theorem Iq(f:Name->Name)(g:Ob->Ob)(z:Option Ob)(q:Name):∀(l:List (Name×Ob)),(∀x∈l,f x.1≠q)->aw z (l.map fun x=>(f x.1,some (g x.2))) q=z
 |[],_=>rfl
 |x::r,h=>by
   simp only[alf,aw];rw[if_neg (fun e=>h x alb e.symm)];exact Iq f g z q r fun y hy=>h y (ald _ hy)
section
variable {P:Program}{cf:Cf}
theorem NV{B:Base}{β:Name->Option a8}{s:St}{tm:Array Value}{w w':World}(h:aj B β s tm w){σ:Name->Name}{d:Nat}(hd:d∉s.used){chp ae:List (Name×Ob)}{cu u':List Nat}
  (kH:mB σ cu s chp) (mC:kh σ chp) {A' iY:Nat->Prop} {G':List (Nat×Obj)} {βc:Name->Option a8} (hβc:∀p,chp.any (fun q=>q.1 == p)=true->βc p=β (σ p))
  (hO:∀b,iY b↔∃p k,chp.any (fun q=>q.1 == p)=true∧β (σ p)=some k∧k.b=b) (hA:∀b,A' b↔s.own B.A β b∧¬iY b) (sQ:∀b,A' b->b<w.heap.size) (uw:∀q∈G',w.heap[q.1]?=some q.2∧¬iY q.1)
  {r:AV} {β':Name->Option a8} {v:Value} (By:lg chp ae)
  (hs:aj { n:=1,io:=B.io,G:=G',H0:=w.heap,O0:=iY,A:=A',U0:=cu,β0:=βc,hA:=sQ,hG:=uw } β' (mk [(0,r)] ae u') #[v] w') :
  ∃β2,(aj B β2 { iX s σ d chp ae r with fr:=s.fr } tm w'∧VR w'.heap ((iX s σ d chp ae r).own B.A β2) (d::s.used) (iX s σ d chp ae r).hp β2 v (r.ren (dc σ d chp))):=by
 obtain⟨τ,hτ⟩:∃τ,dc σ d chp=τ:=⟨_,rfl⟩
 obtain⟨s2,br⟩:∃s2,iX s σ d chp ae r=s2:=⟨_,rfl⟩
 have hτp:∀p,chp.any (fun q=>q.1 == p)=true->τ p=σ p:=fun p hp=>by rw[<-hτ];simp only[dc];rw[if_pos hp]
 have hτn:∀p,¬chp.any (fun q=>q.1 == p)=true->τ p=d::p:=fun p hp=>by rw[<-hτ];simp only[dc];rw[if_neg hp]
 have vD:∀p,chp.any (fun q=>q.1 == p)=true->∃o,(p,o)∈chp∧s.hp (σ p)=some (o.ren σ)∧nm s.used (σ p)∧b9 cu p=true:=by
  intro p hp;obtain⟨o,ho⟩:=ED hp;obtain⟨h1,h2,h3⟩:=xB kH _ (oI ho);exact⟨o,oI ho,h1,(h.aJ _ _ h1).1,h3⟩
 have hσd:∀p l,chp.any (fun q=>q.1 == p)=true->σ p≠d::l:=by
  intro p l hp e;obtain⟨_,_,_,⟨a,t,e2,ha⟩,_⟩:=vD p hp;rw[e]at e2;cases e2;exact hd ha
 have hτinj:∀p q,τ p=τ q->p=q:=by
  intro p q e;by_cases hp:chp.any (fun q=>q.1 == p)=true<;>by_cases hq:chp.any (fun x=>x.1 == q)=true
  .rw[hτp p hp,hτp q hq]at e;obtain⟨o,ho,_⟩:=vD p hp;obtain⟨o',aV,_⟩:=vD q hq;exact Bw mC _ ho _ aV e
  .rw[hτp p hp,hτn q hq]at e;exact absurd e (hσd p q hp)
  .rw[hτn p hp,hτp q hq]at e;exact absurd e.symm (hσd q p hq)
  .rw[hτn p hp,hτn q hq]at e;exact(List.cons.inj e).2
 have dJ:∀p,s2.hp (τ p)=(aw none (ae.map fun x=>(x.1,some x.2)) p).map (Ob.ren τ):=by
  intro p;rw[<-br];show aw (aw (s.hp (τ p)) (chp.map fun x=>(σ x.1,none)) (τ p)) (ae.map fun x=>(dc σ d chp x.1,some (x.2.ren (dc σ d chp)))) (τ p)=_;rw[hτ,NU τ (Ob.ren τ) _ p ae (fun q _ e=>hτinj _ _ e),EE]
  cases aw none (ae.map fun x=>(x.1,some x.2)) p with
  |some o=>rfl
  |none =>
    simp only[Option.map_none];split
    .rfl
    .rename_i bY;by_cases hp:chp.any (fun q=>q.1 == p)=true
     .exfalso;apply bY;obtain⟨o,ho,_⟩:=vD p hp;exact alG.2 ⟨_,ho,by simp[hτp p hp]⟩
     .rw[hτn p hp]
      cases rM:s.hp (d::p)with
      |none=>rfl
      |some o =>
        obtain⟨a,t,e,ha⟩:=(h.aJ _ _ rM).1;cases e;exact absurd ha hd
 have hho:∀q,nm s.used q->(∀p,chp.any (fun x=>x.1 == p)=true->σ p≠q)->s2.hp q=s.hp q:=by
  intro q hq aB;rw[<-br];show aw (aw (s.hp q) (chp.map fun x=>(σ x.1,none)) q) (ae.map fun x=>(dc σ d chp x.1,some (x.2.ren (dc σ d chp)))) q=_;rw[hτ,Iq τ (Ob.ren τ) _ q ae,EE,if_neg]
  .intro ha;obtain⟨x,hx,e⟩:=alG.1 ha;exact aB x.1 (alG.2 ⟨x,hx,by simp⟩) (by simpa using e)
  .intro x _ e;by_cases hp:chp.any (fun q=>q.1 == x.1)=true
   .rw[hτp _ hp]at e;exact aB _ hp e
   .rw[hτn _ hp]at e;obtain⟨a,t,e2,ha⟩:=hq;rw[<-e]at e2;cases e2;exact hd ha
 have xC:∀q o,s2.hp q=some o->(∃p o',q=τ p∧aw none (ae.map fun x=>(x.1,some x.2)) p=some o'∧o=o'.ren τ)∨(nm s.used q∧(∀p,chp.any (fun x=>x.1 == p)=true->σ p≠q)∧s.hp q=some o):=by
  intro q o ho;by_cases hq:∃p,τ p=q
  .obtain⟨p,rfl⟩:=hq;rw[dJ]at ho;obtain⟨o',aV,rfl⟩:=ak8.1 ho;exact .inl ⟨p,o',rfl,aV,rfl⟩
  .have aB:∀p,chp.any (fun x=>x.1 == p)=true->σ p≠q:=fun p hp e=>hq ⟨p,by rw[hτp p hp];exact e⟩
   have gH:s.hp q=some o:=by
    rw[<-br]at ho;have ho:aw (aw (s.hp q) (chp.map fun x=>(σ x.1,none)) q) (ae.map fun x=>(dc σ d chp x.1,some (x.2.ren (dc σ d chp)))) q=some o:=ho;rw[hτ,Iq τ (Ob.ren τ) _ q ae (fun x _ e=>hq ⟨_,e⟩),EE]at ho;split at ho
    .cases ho
    .exact ho
   exact .inr ⟨(h.aJ _ _ gH).1,aB,gH⟩
 obtain⟨β2,hβn,hβo⟩:∃β2:Name->Option a8,(∀p,aw none (ae.map fun x=>(x.1,some x.2)) p≠none->β2 (τ p)=β' p)∧∀q,nm s.used q->β2 q=β q:=by
  refine⟨fun q=>match q with|a::t=>if a=d then β' t else β (a::t)|[]=>β [],fun p hp=>?_,fun q hq=>?_⟩
  .by_cases hc:chp.any (fun q=>q.1 == p)=true
   .rw[hτp p hc];obtain⟨o,ho,h1,⟨a,t,e,ha⟩,h3⟩:=vD p hc;have ag:=hs.stay p (qI h3);rw[e];have had:a≠d:=fun e2=>hd (e2▸ha);simp only[if_neg had];rw[<-e,ag];exact(hβc p hc).symm
   .rw[hτn p hc];simp
  .obtain⟨a,t,rfl,ha⟩:=hq;have had:a≠d:=fun e2=>hd (e2▸ha);simp[had]
 have Bz:∀b,iY b->b<w.heap.size∧¬B.A b∧(B.H0.size<=b∨B.O0 b)∧s.own B.A β b:=by
  intro b hb;obtain⟨p,k,hp,hk,rfl⟩:=(hO b).1 hb;obtain⟨o,_,h1,_⟩:=vD p hp;obtain⟨g1,g2,g3⟩:=h.blocks (σ p) k (by rw[h1];simp) hk;exact⟨g1,g2,g3,.inr ⟨σ p,k,by rw[h1];simp,hk,rfl⟩⟩
 have y7:∀p o,aw none (ae.map fun x=>(x.1,some x.2)) p=some o->(mk [(0,r)] ae u').hp p=some o:=fun p o h=>h
 have EF:∀p o k,aw none (ae.map fun x=>(x.1,some x.2)) p=some o->β' p=some k->k.b<w'.heap.size∧¬A' k.b∧(w.heap.size<=k.b∨iY k.b):=fun p o k hp hk =>
  hs.blocks p k (by rw[y7 p o hp];simp) hk
 have BA:∀q o k,s.hp q=some o->(∀p,chp.any (fun x=>x.1 == p)=true->σ p≠q)->β q=some k->k.b<w.heap.size∧¬iY k.b∧A' k.b:=by
  intro q o k hq aB hk;obtain⟨g1,g2,g3⟩:=h.blocks q k (by rw[hq];simp) hk
  have bY:¬iY k.b:=by
   intro hb;obtain⟨p,l,hp,hl,e⟩:=(hO _).1 hb;obtain⟨o',_,h1,_⟩:=vD p hp;exact aB p hp (h.inj (σ p) q l k (by rw[h1];simp) (by rw[hq];simp) hl hk e)
  exact⟨g1,bY,(hA _).2 ⟨.inr ⟨q,k,by rw[hq];simp,hk,rfl⟩,bY⟩⟩
 have Ir:∀b,b<w.heap.size->¬iY b->w'.heap[b]?=w.heap[b]?:=fun b hb hn=>hs.frame b hb hn;have NW:w.heap.size<=w'.heap.size:=hs.size
 have y8:∀b,b<w.heap.size->s2.own B.A β2 b->s.own B.A β b:=by
  rintro b hb (hB|⟨q,k,hq,hk,rfl⟩)
  .exact .inl hB
  .cases ho:s2.hp q with
   |none=>exact absurd ho hq
   |some o =>
     rcases xC q o ho with⟨p,o',rfl,hp,rfl⟩|⟨hn,aB,gH⟩
     .rw[hβn p (by rw[hp];simp)]at hk;obtain⟨_,_,g⟩:=EF p o' k hp hk;obtain g|g:=g
      .omega
      .exact(Bz _ g).2.2.2
     .rw[hβo q hn]at hk;exact .inr ⟨q,k,by rw[gH];simp,hk,rfl⟩
 have X8:∀b,s2.own B.A β2 b->(mk [(0,r)] ae u').own A' β' b:=by
  rintro b hb;obtain hB|⟨q,k,hq,hk,rfl⟩:=hb
  .exact .inl ((hA b).2 ⟨.inl hB,fun eI=>(Bz b eI).2.1 hB⟩)
  .cases ho:s2.hp q with
   |none=>exact absurd ho hq
   |some o =>
     rcases xC q o ho with⟨p,o',rfl,hp,rfl⟩|⟨hn,aB,gH⟩
     .rw[hβn p (by rw[hp];simp)]at hk;exact .inr ⟨p,k,by rw[y7 p o' hp];simp,hk,rfl⟩
     .rw[hβo q hn]at hk;exact .inl (BA q o k gH aB hk).2.2
 have ux:∀v d,au w.heap (s.own B.A β) v d->au w'.heap (s2.own B.A β2) v d:=fun v d hd=>hd.mono (fun b hb hlt=>Ir b hlt fun hO=>hb (Bz b hO).2.2.2) y8;have y9:∀v d,au w'.heap ((mk [(0,r)] ae u').own A' β') v d->au w'.heap (s2.own B.A β2) v d:=fun v d hd=>hd.mono (fun _ _ _=>rfl) (fun b _=>X8 b);have Iu:s2.used=d::s.used:=by rw[<-br];rfl
 have vE:∀x∈s.used,x∈s2.used:=fun x hx=>by rw[Iu];exact ald _ hx
 have ag:∀q,nm s.used q->iQ s.hp s2.hp β β2 q:=by
  intro q hq o ho;rcases xC q o ho with⟨p,o',rfl,hp,rfl⟩|⟨hn,aB,gH⟩
  .by_cases hc:chp.any (fun x=>x.1 == p)=true
   .obtain⟨o1,NY⟩:=ED hc;have hl:=EC By _ (oI hp) o1 NY;obtain⟨g1,_,_⟩:=xB kH _ (oI NY);refine⟨o1.ren σ,by rw[hτp p hc];exact g1,?_,hβo _ hq⟩;cases o1<;>cases o'<;>first|exact hl|(simpa only[Ob.ren,Ob.like,k9]using hl)|exact hl.elim
   .rw[hτn p hc]at hq;obtain⟨a,t,e,ha⟩:=hq;cases e;exact absurd ha hd
  .exact⟨o,gH,Ob.k4 _,hβo q hn⟩
 have Iw:∀p,nm u' p->nm s2.used (τ p):=by
  intro p _;rw[Iu];by_cases hc:chp.any (fun x=>x.1 == p)=true
  .rw[hτp p hc];obtain⟨_,_,_,⟨a,t,e,ha⟩,_⟩:=vD p hc;exact⟨a,t,e,ald _ ha⟩
  .rw[hτn p hc];exact⟨d,p,rfl,alb⟩
 have dx:∀p,nm u' p->∀o',s2.hp (τ p)=some o'->∃o,(mk [(0,r)] ae u').hp p=some o∧o'=o.ren τ∧β2 (τ p)=β' p:=by
  intro p _ o' ho;rw[dJ]at ho;obtain⟨o,aV,rfl⟩:=ak8.1 ho;exact⟨o,y7 p o aV,rfl,hβn p (by rw[aV];simp)⟩
 refine⟨β2,?_⟩;rw[hτ,br];refine⟨{ bG:=h.bG,io:=hs.io,size:=alU h.size NW,frame:=fun b hb hn=>?_,slots:=fun i=>(h.slots i).mono ux vE ag,aJ:=fun q o ho=>?_,blocks:=fun q k hq hk=>?_,inj:=fun q q' k l hq bX hk hl e=>?_,us:=fun x hx=>vE x (h.us x hx),stay:=fun p hp=>?_ },?_⟩
 .rw[Ir b (alV hb h.size) fun hO=>?_]
  .exact h.frame b hb hn
  .rcases(Bz b hO).2.2.1 with g|g
   .omega
   .exact hn g
 .have ho:s2.hp q=some o:=ho;rcases xC q o ho with⟨p,o',rfl,hp,rfl⟩|⟨hn,aB,gH⟩
  .obtain⟨g1,g2⟩:=hs.aJ p o' (y7 p o' hp);exact⟨Iw p g1,g2.y6 y9 Iw dx (hβn p (by rw[hp];simp))⟩
  .obtain⟨g1,g2⟩:=h.aJ q o gH;exact⟨g1.mono vE,g2.mono ux vE ag (hβo q hn) fun k hk=>Ir k.b (BA q o k gH aB hk).1 (BA q o k gH aB hk).2.1⟩
 .have hq:s2.hp q≠none:=hq
  cases ho:s2.hp q with
  |none=>exact absurd ho hq
  |some o =>
    rcases xC q o ho with⟨p,o',rfl,hp,rfl⟩|⟨hn,aB,gH⟩
    .rw[hβn p (by rw[hp];simp)]at hk;obtain⟨g1,g2,g3⟩:=EF p o' k hp hk;obtain g3|g3:=g3
     .exact⟨g1,fun hB=>by have:=alV (B.hA _ hB) h.size;omega,.inl (alU h.size g3)⟩
     .obtain⟨_,k2,k3,_⟩:=Bz _ g3;exact⟨g1,k2,k3⟩
    .rw[hβo q hn]at hk;obtain⟨g1,g2,g3⟩:=h.blocks q k (by rw[gH];simp) hk;exact⟨alV g1 NW,g2,g3⟩
 .have hq:s2.hp q≠none:=hq;have bX:s2.hp q'≠none:=bX
  cases ho:s2.hp q with
  |none=>exact absurd ho hq
  |some o =>
    cases aV:s2.hp q' with
    |none=>exact absurd aV bX
    |some o2 =>
      rcases xC q o ho with⟨p,o',rfl,hp,rfl⟩|⟨hn,aB,gH⟩<;>rcases xC q' o2 aV with⟨p2,o3,rfl,mD,rfl⟩|⟨sS,X9,NZ⟩
      .rw[hβn p (by rw[hp];simp)]at hk;rw[hβn p2 (by rw[mD];simp)]at hl;rw[hs.inj p p2 k l (by rw[y7 p o' hp];simp) (by rw[y7 p2 o3 mD];simp) hk hl e]
      .rw[hβn p (by rw[hp];simp)]at hk;rw[hβo _ sS]at hl;exact absurd (e▸(BA _ _ l NZ X9 hl).2.2) (EF p o' k hp hk).2.1
      .rw[hβo _ hn]at hk;rw[hβn p2 (by rw[mD];simp)]at hl;exact absurd (e▸(BA _ _ k gH aB hk).2.2) (EF p2 o3 l mD hl).2.1
      .rw[hβo _ hn]at hk;rw[hβo _ sS]at hl;exact h.inj q q' k l (by rw[gH];simp) (by rw[NZ];simp) hk hl e
 .rw[hβo p (hp.mono h.us)];exact h.stay p hp
 .have:=hs.slots 0;have:=this.y6 y9 Iw dx;rw[Iu]at this;exact this
end
end Go.Ab

namespace Go.Ab
section
variable {P:Program}{cf:Cf}
def EG(s:St)(σ:Name->Name)(d:Nat)(dst:Option Nat)(chp ae:List (Name×Ob))(r:AV):St :=
 match dst with
 |some _=>iX s σ d chp ae r
 |none=>{ iX s σ d chp ae r with fr:=s.fr }
theorem N0{fr:List (Nat×AV)}{chp:List (Name×Ob)}{u:List Nat}{A:Nat->Prop}{β:Name->Option a8}{b:Nat}(h:(mk fr chp u).own A β b):A b∨∃p k o,aw none (chp.map fun x=>(x.1,some x.2)) p=some o∧β p=some k∧k.b=b:=by
 obtain h|⟨p,k,hp,hk,e⟩:=h
 .exact .inl h
 .cases ho:(mk fr chp u).hp p with
  |none=>exact absurd ho hp
  |some o=>exact .inr ⟨p,k,o,ho,hk,e⟩
theorem Ix{B:Base}{β:Name->Option a8}{s:St}{tm:Array Value}{w:World}(h:aj B β s tm w){f:FuncId}{cD:List AV}{chp:List (Name×Ob)}{cu:List Nat}{Q0:AV->List (Name×Ob)->Prop}{σ:Name->Name}{d:Nat}(hd:d∉s.used)
  (kH:mB σ cu s chp) (mC:kh σ chp) (oJ:dz cu cD=true) {vs:Array Value} (eJ:vs.size=cD.length) (hv:∀(i:Nat) x,cD[i]?=some x->VR w.heap (s.own B.A β) s.used s.hp β (vs.getD i undef) (x.ren σ)) (hc:bZ P B.G f cD chp cu Q0) :
  CallsIn Fence.wide 0 P f vs w fun e w'=>∃v,e=.returned v∧∃r ae,Q0 r ae∧(lg chp ae->∃β2,aj B β2 { iX s σ d chp ae r with fr:=s.fr } tm w' ∧
   VR w'.heap ((iX s σ d chp ae r).own B.A β2) (d::s.used) (iX s σ d chp ae r).hp β2 v (r.ren (dc σ d chp))):=by
 obtain⟨iY,hO⟩:∃iY:Nat->Prop,∀b,iY b↔∃p k,chp.any (fun q=>q.1 == p)=true∧β (σ p)=some k∧k.b=b:=⟨_,fun _=>Iff.rfl⟩
 obtain⟨A',hA⟩:∃A':Nat->Prop,∀b,A' b↔s.own B.A β b∧¬iY b:=⟨_,fun _=>Iff.rfl⟩
 have sQ:∀b,A' b->b<w.heap.size:=fun b hb=>h.Em ((hA b).1 hb).1
 have uw:∀q∈B.G,w.heap[q.1]?=some q.2∧¬iY q.1:=fun q hq=>by
  obtain⟨g1,g2⟩:=B.hG q hq;have hlt:=dI g1;refine⟨(h.frame _ hlt g2).trans g1,fun hb=>?_⟩;obtain⟨p,k,hp,hk,e⟩:=(hO _).1 hb;obtain⟨o,ho⟩:=ED hp;obtain⟨h1,_,_⟩:=xB kH _ (oI ho);obtain⟨_,_,g3⟩:=h.blocks (σ p) k (by rw[h1];simp) hk;obtain g3|g3:=g3
  .omega
  .exact g2 (e▸g3)
 have hβc:∀p,chp.any (fun q=>q.1 == p)=true->(fun p=>β (σ p)) p=β (σ p):=fun _ _=>rfl
 have live:∀p o,aw none (chp.map fun x=>(x.1,some x.2)) p=some o->s.hp (σ p)=some (o.ren σ)∧o.bn cu=true∧nm cu p:=fun p o ho=>by
  obtain⟨h1,h2,h3⟩:=xB kH _ (oI ho);exact⟨h1,h2,qI h3⟩
 have eH:∀b,(mk (dQ 0 cD) chp cu).own A' (fun p=>β (σ p)) b->s.own B.A β b:=by
  intro b hb;rcases N0 hb with hb|⟨p,k,o,ho,hk,rfl⟩
  .exact((hA b).1 hb).1
  .exact .inr ⟨σ p,k,by rw[(live p o ho).1];simp,hk,rfl⟩
 have hr:∀v d,au w.heap (s.own B.A β) v d->au w.heap ((mk (dQ 0 cD) chp cu).own A' (fun p=>β (σ p))) v d:=fun v d hd=>hd.mono (fun _ _ _=>rfl) (fun b _=>eH b);have dx:∀p o,(mk (dQ 0 cD) chp cu).hp p=some o->s.hp (σ p)=some (o.ren σ)∧(fun p=>β (σ p)) p=β (σ p):=fun p o ho=>⟨(live p o ho).1,rfl⟩
 have bh:aj { n:=cD.length,io:=B.io,G:=B.G,H0:=w.heap,O0:=iY,A:=A',U0:=cu,β0:=fun p=>β (σ p),hA:=sQ,hG:=uw } (fun p=>β (σ p)) (mk (dQ 0 cD) chp cu) vs w:=by
  refine { bG:=eJ,io:=h.io,size:=ali _,frame:=fun _ _ _=>rfl,slots:=fun t=>?_,aJ:=fun p o ho=>⟨(live p o ho).2.2,OR.ren hr dx rfl (live p o ho).2.1 (h.aJ _ _ (live p o ho).1).2⟩,blocks:=fun p k hp hk=>?_,inj:=fun p q k l hp hq hk hl e=>?_,us:=fun _ hx=>hx,stay:=fun _ _=>rfl }
  .rw[kC,qJ,if_pos (ale _),Nat.sub_zero]
   cases ht:cD[t]? with
   |none=>exact .un _
   |some x=>exact(hv t x ht).ren hr dx x rfl (vC oJ t x ht)
  .cases ho:(mk (dQ 0 cD) chp cu).hp p with
   |none=>exact absurd ho hp
   |some o =>
     have aU:iY k.b:=(hO _).2 ⟨p,k,alG.2 ⟨_,oI ho,by simp⟩,hk,rfl⟩;obtain⟨g1,_,_⟩:=h.blocks (σ p) k (by rw[(live p o ho).1];simp) hk;exact⟨g1,fun ha=>((hA _).1 ha).2 aU,.inr aU⟩
  .cases ho:(mk (dQ 0 cD) chp cu).hp p with
   |none=>exact absurd ho hp
   |some o =>
     cases aV:(mk (dQ 0 cD) chp cu).hp q with
     |none=>exact absurd aV hq
     |some o' =>
       have e2:=h.inj (σ p) (σ q) k l (by rw[(live p o ho).1];simp) (by rw[(live q o' aV).1];simp) hk hl e;exact Bw mC _ (oI ho) _ (oI aV) e2
 have gG:=fun h1 h2 h3 h4=>hc.2 _ _ vs w h1 h2 h3 h4 bh;refine(gG rfl rfl rfl rfl).mono ?_;rintro e w' ⟨v,r,ae,u',β',rfl,hQ,hs⟩;exact⟨v,rfl,r,ae,hQ,fun hl=>NV h hd kH mC hβc hO hA sQ uw hl hs⟩
theorem za{s:St}{B:Base}{β:Name->Option a8}{a:Act}{w:World}(h:aj B β s a.tmps w)(a0s:List Operand)(i:Nat)(x:AV)(hx:(a0s.map (ev s))[i]?=some x):VR w.heap (s.own B.A β) s.used s.hp β ((a0s.map a.eval).toArray.getD i undef) x:=by
 rw[ala,ak8]at hx;obtain⟨y,hy,rfl⟩:=hx;have e:(a0s.map a.eval).toArray.getD i undef=a.eval y:=by simp[akZ,hy]
 rw[e];exact h.ev y
theorem Iy{s:St}{k:List It}{Q:Exit->St->Prop}{dst:Option Nat}{fv:Operand}{args:Array Operand}{at':Array TypeId}{ty:TypeId}{pos:String}{af:Array Edge}{g:Option (Nat×Bool)}
  (d:Nat) (σ:Name->Name) (cD:List AV) (chp:List (Name×Ob)) (cu:List Nat) (Q0:AV->List (Name×Ob)->Prop) {f:FuncId} {aG:List AV}
  (bp:ev s fv=.aH f aG) (dE:args.toList.map (ev s)++aG=cg σ cD) (oJ:dz cu cD=true) (hd:d∉s.used) (cY:∀t∈dst,t<cf.n∧t=d)
  (kH:mB σ cu s chp) (mC:kh σ chp) (hc:bZ P cf.G f cD chp cu Q0) (hk:∀r ae,Q0 r ae->lg chp ae∧run P cf k Q (EG s σ d dst chp ae r)) :
  ia P cf { dst:=dst,op:=.call { callee:=.value fv,args:=args,argTypes:=at' },type:=ty,pos:=pos,after:=af,guard:=g } s k Q:=by
 intro B hB ds β a w ai h Q';refine⟨fun _ _=>trivial,?_⟩;have hf:=h.ev fv;rw[bp]at hf;generalize nF:a.eval fv=BB at hf
 cases hf with
 |aH _ cvs _ hcs mh =>
 have aF:∀vs,vs=(args.toList.map a.eval).toArray++cvs->(execOp a.eval { dst:=dst,op:=.call { callee:=.value fv,args:=args,argTypes:=at' },type:=ty,pos:=pos,after:=af,guard:=g }).run P w=.ok (.enter f vs) w:=by
  intro vs eJ
  have e:(execOp a.eval { dst:=dst,op:=.call { callee:=.value fv,args:=args,argTypes:=at' },type:=ty,pos:=pos,after:=af,guard:=g }:Sem Next)=callFunc f (#[]++args.map a.eval++cvs):=by
   show(do let d <-(Deferred.ofValue (a.eval fv) (args.map a.eval));invoke d.target d.args:Sem Next)=_;rw[nF];rfl
  rw[e,<-hc.1 vs w,eJ];congr 2;apply ani;simp
 rw[Oper.semAt_eq _ _ _ (by simp),aF _ rfl,Oper.uponIn_enter];refine⟨fun pQ=>by simp[xw]at pQ,?_⟩
 have hlen:cD.length=args.size+aG.length:=by
  have:=congrArg List.length dE;rw[k9]at this;simpa using this.symm
 have eJ:((args.toList.map a.eval).toArray++cvs).size=cD.length:=by simp[hcs,hlen]
 have hv:∀(i:Nat) x,cD[i]?=some x->VR w.heap (s.own B.A β) s.used s.hp β (((args.toList.map a.eval).toArray++cvs).getD i undef) (x.ren σ):=by
  intro i x hi;have hx:(cg σ cD)[i]?=some (x.ren σ):=by rw[oF,hi];rfl
  rw[<-dE]at hx;by_cases hlt:i<args.size
  .have aR:(args.toList.map (ev s))[i]?=some (x.ren σ):=by rw[<-hx,alj (by simpa using hlt)]
   have:=za h args.toList i _ aR;rw[show((args.toList.map a.eval).toArray++cvs).getD i undef=(args.toList.map a.eval).toArray.getD i undef by simp[akZ,alO,hlt]];exact this
  .have aR:aG[i-args.size]?=some (x.ren σ):=by rw[<-hx,aln (by simpa using amO hlt)];simp
   have:=mh _ _ aR;rw[show((args.toList.map a.eval).toArray++cvs).getD i undef=cvs.getD (i-args.size) undef by simp[akZ,alO,hlt]];exact this
 have pR:=Ix (P:=P) h (σ:=σ) hd kH mC oJ eJ hv (by rw[hB.2.2];exact hc);have rS:CallsIn (Fw cf.ro) (0-1) P f ((args.toList.map a.eval).toArray++cvs) w _:=pR;refine rS.mono ?_;rintro e w' ⟨v,rfl,r,ae,hQ,hl⟩;obtain⟨qL,Ya⟩:=hk r ae hQ;obtain⟨β2,br,nG⟩:=hl qL;refine⟨by cases dst<;>exact ai,EG s σ d dst chp ae r,β2,eB Ya,?_⟩
 cases dst with
 |none=>exact br
 |some t =>
   obtain⟨ht,rfl⟩:=cY t rfl;exact br.put (by rw[hB.1];exact ht) nG
end
end Go.Ab
namespace Go.Ab
theorem zb{u:List Nat}:∀{l:List AV},(∀(i:Nat) (x:AV),l[i]?=some x->x.bn u=true)->dz u l=true
 |[],_=>rfl
 |y::r,h=>by
   simp only[dz,ak7];exact⟨h 0 y rfl,zb fun i x hi=>h (i+1) x (by simpa using hi)⟩
theorem vF{u:List Nat}{p:Name}(h:nm u p):b9 u p=true:=by
 obtain⟨a,t,rfl,ha⟩:=h;simpa[b9]using ha
theorem VR.bn{H:Array Obj}{own:Nat->Prop}{used:List Nat}{hp:Name->Option Ob}{β:Name->Option a8}{v:Value}{x:AV}(h:VR H own used hp β v x):x.bn used=true:=by
 induction h with
 |un v=>rfl
 |d v z h=>rfl
 |vw v p off len hn h1 h=>exact vF hn
 |bx v p c hn h1 h=>exact vF hn
 |el v p i c hn h1 h=>exact vF hn
 |mp v p hn h1 h=>exact vF hn
 |its v p hn h1 h h'=>exact vF hn
 |va v p off len hn h1 h=>exact vF hn
 |ea v p i hn h1 h=>exact vF hn
 |ma v p hn h1 h=>exact vF hn
 |agg vs cs hs hc h0 ih=>exact zb ih
 |az vs cs hs h0 ih=>exact zb ih
 |aH f vs cs hs h0 ih=>exact zb ih
mutual
theorem AV.mE(τ:Name->Name)(h:∀p,τ p=p):∀x:AV,x.ren τ=x
 |.un=>rfl
 |.d _=>rfl
 |.vw p _ _=>by simp only[AV.ren,h]
 |.bx p _=>by simp only[AV.ren,h]
 |.el p _ _=>by simp only[AV.ren,h]
 |.mp p=>by simp only[AV.ren,h]
 |.it p=>by simp only[AV.ren,h]
 |.agg cs=>by simp only[AV.ren,oK τ h cs]
 |.az cs=>by simp only[AV.ren,oK τ h cs]
 |.aH _ cs=>by simp only[AV.ren,oK τ h cs]
 |.va p _ _=>by simp only[AV.ren,h]
 |.ea p _=>by simp only[AV.ren,h]
 |.ma p=>by simp only[AV.ren,h]
theorem oK(τ:Name->Name)(h:∀p,τ p=p):∀l:List AV,cg τ l=l
 |[]=>rfl
 |x::r=>by simp only[cg,AV.mE τ h x,oK τ h r]
end
theorem Ob.mE(τ:Name->Name)(h:∀p,τ p=p)(o:Ob):o.ren τ=o:=by
 cases o<;>simp only[Ob.ren,oK τ h,AV.mE τ h,List.map_id']
theorem OR.bn{H:Array Obj}{own:Nat->Prop}{used:List Nat}{hp:Name->Option Ob}{β:Name->Option a8}{p:Name}{o:Ob}(h:OR H own used hp β p o):o.bn used=true:=by
 cases o with
 |bt ty cs =>
   obtain⟨k,c,e,hk,ho,hc,hz,hl,h1,h⟩:=h;exact zb fun i x hi=>(h i x hi).bn
 |ez w xs =>
   obtain⟨_,rfl⟩|⟨k,c,e,hk,hc,hz,hl,hw,h⟩:=h
   .rfl
   .exact zb fun i x hi=>(h i x hi).bn
 |mapA ay bs es =>
   obtain⟨k,aE,hk,hc,hz,h⟩:=h;refine alr.2 fun q hq=>?_;obtain⟨i,hi⟩:=anj hq;obtain⟨en,_,_,h3⟩:=h i q hi;exact h3.bn
 |_=>rfl
theorem aj.ze{B:Base}{β β':Name->Option a8}{s s':St}{tm EH:Array Value}{w w':World}(h0:aj B β s tm w)(h:aj B β' s' EH w')(dJ:s'.hp=s.hp){t0:Nat}{x0:AV}(oD:∀t,t=t0∨s'.fr t=s.fr t)(hx:s'.fr t0=x0)(N1:x0.bn s.used=true) :
  ∃β2,aj B β2 { s' with used:=s.used } EH w':=by
 have hi:∀t,(s'.fr t).bn s.used=true:=fun t=>by
  rcases oD t with rfl|e
  .rw[hx];exact N1
  .rw[e];exact(h0.slots t).bn
 obtain⟨β2,h2,_⟩:=h.le (s2:={ s' with used:=s.used }) (τ:=fun p=>p)
  { fr:=fun t=>.inr ⟨(AV.mE _ (fun _=>rfl) _).symm,hi t⟩
    hp:=fun p o ho=>by
     have ho:s'.hp p=some o:=ho;rw[dJ]at ho;obtain⟨g1,g2⟩:=h0.aJ p o ho;exact⟨by rw[Ob.mE _ (fun _=>rfl),dJ];exact ho,g2.bn,g1⟩
    inj:=fun p q _ _ e=>e
    us:=fun x hx=>h0.us x hx
    stay:=fun _ _ _=>rfl }
 exact⟨β2,h2⟩
section
variable {P:Program}{cf:Cf}
def HP(P:Program)(G:List (Nat×Obj))(f:FuncId)(args:List D)(Q:AV->Prop):Prop:=bZ P G f (args.map .d) [] [] fun r ae=>Q r∧r.bn []=true∧ae=[]
theorem BD(u:List Nat):∀l:List D,dz u (l.map .d)=true
 |[]=>rfl
 |_::r=>by simp only[alf,dz,AV.bn,BD u r,Bool.and_self]
mutual
theorem AV.EI(u:List Nat):∀x:AV,x.bn []=true->x.bn u=true
 |.un,_=>rfl
 |.d _,_=>rfl
 |.vw p _ _,h=>by cases p<;>simp[AV.bn,b9]at h
 |.bx p _,h=>by cases p<;>simp[AV.bn,b9]at h
 |.el p _ _,h=>by cases p<;>simp[AV.bn,b9]at h
 |.mp p,h=>by cases p<;>simp[AV.bn,b9]at h
 |.it p,h=>by cases p<;>simp[AV.bn,b9]at h
 |.agg cs,h=>EJ u cs h
 |.az cs,h=>EJ u cs h
 |.aH _ cs,h=>EJ u cs h
 |.va p _ _,h=>by cases p<;>simp[AV.bn,b9]at h
 |.ea p _,h=>by cases p<;>simp[AV.bn,b9]at h
 |.ma p,h=>by cases p<;>simp[AV.bn,b9]at h
theorem EJ(u:List Nat):∀l:List AV,dz [] l=true->dz u l=true
 |[],_=>rfl
 |x::r,h=>by
   simp only[dz,ak7]at h ⊢;exact⟨AV.EI u x h.1,EJ u r h.2⟩
end
mutual
theorem AV.EK(τ:Name->Name):∀x:AV,x.bn []=true->x.ren τ=x
 |.un,_=>rfl
 |.d _,_=>rfl
 |.vw p _ _,h=>by cases p<;>simp[AV.bn,b9]at h
 |.bx p _,h=>by cases p<;>simp[AV.bn,b9]at h
 |.el p _ _,h=>by cases p<;>simp[AV.bn,b9]at h
 |.mp p,h=>by cases p<;>simp[AV.bn,b9]at h
 |.it p,h=>by cases p<;>simp[AV.bn,b9]at h
 |.agg cs,h=>by simp only[AV.ren,EL τ cs h]
 |.az cs,h=>by simp only[AV.ren,EL τ cs h]
 |.aH _ cs,h=>by simp only[AV.ren,EL τ cs h]
 |.va p _ _,h=>by cases p<;>simp[AV.bn,b9]at h
 |.ea p _,h=>by cases p<;>simp[AV.bn,b9]at h
 |.ma p,h=>by cases p<;>simp[AV.bn,b9]at h
theorem EL(τ:Name->Name):∀l:List AV,dz [] l=true->cg τ l=l
 |[],_=>rfl
 |x::r,h=>by
   simp only[dz,ak7]at h;simp only[cg,AV.EK τ x h.1,EL τ r h.2]
end
theorem Iz(l:List Nat):∃d,d∉l:=by
 have:∀(l:List Nat),∃m,∀x∈l,x<m:=by
  intro l
  induction l with
  |nil=>exact⟨0,by simp⟩
  |cons a r ih =>
    obtain⟨m,hm⟩:=ih;refine⟨a+m+1,fun x hx=>?_⟩;rcases alc.1 hx with rfl|hx
    .omega
    .have:=hm x hx;omega
 obtain⟨m,hm⟩:=this l;exact⟨m,fun h=>by have:=hm m h;omega⟩
def St.iZ(s:St)(d:Option Nat)(x:AV):St :=
 match d with
 |some t=>s.put t x
 |none=>s
theorem BF{s:St}{k:List It}{Q:Exit->St->Prop}{dst:Option Nat}{fv:Operand}{args:Array Operand}{at':Array TypeId}{ty:TypeId}{pos:String}{af:Array Edge}{g:Option (Nat×Bool)}
  {f:FuncId} {aG:List AV} {ds:List D} {Q0:AV->Prop} (hc:HP P cf.G f ds Q0)
  (bp:ev s fv=.aH f aG) (dE:args.toList.map (ev s)++aG=ds.map .d) (cY:∀t∈dst,t<cf.n) (hk:∀r,Q0 r->run P cf k Q (s.iZ dst r)) :
  ia P cf { dst:=dst,op:=.call { callee:=.value fv,args:=args,argTypes:=at' },type:=ty,pos:=pos,after:=af,guard:=g } s k Q:=by
 intro B hB gF β a w ai h Q';refine⟨fun _ _=>trivial,?_⟩;obtain⟨d,hd⟩:=Iz s.used;have hf:=h.ev fv;rw[bp]at hf;generalize nF:a.eval fv=BB at hf
 cases hf with
 |aH _ cvs _ hcs mh =>
 have aF:∀vs,vs=(args.toList.map a.eval).toArray++cvs->(execOp a.eval { dst:=dst,op:=.call { callee:=.value fv,args:=args,argTypes:=at' },type:=ty,pos:=pos,after:=af,guard:=g }).run P w=.ok (.enter f vs) w:=by
  intro vs eJ
  have e:(execOp a.eval { dst:=dst,op:=.call { callee:=.value fv,args:=args,argTypes:=at' },type:=ty,pos:=pos,after:=af,guard:=g }:Sem Next)=callFunc f (#[]++args.map a.eval++cvs):=by
   show(do let d <-(Deferred.ofValue (a.eval fv) (args.map a.eval));invoke d.target d.args:Sem Next)=_;rw[nF];rfl
  rw[e,<-hc.1 vs w,eJ];congr 2;apply ani;simp
 rw[Oper.semAt_eq _ _ _ (by simp),aF _ rfl,Oper.uponIn_enter];refine⟨fun pQ=>by simp[xw]at pQ,?_⟩
 have hlen:(ds.map AV.d).length=args.size+aG.length:=by
  have:=congrArg List.length dE;simpa using this.symm
 have eJ:((args.toList.map a.eval).toArray++cvs).size=(ds.map AV.d).length:=by simp[hcs]at hlen ⊢;omega
 have hv:∀(i:Nat) x,(ds.map AV.d)[i]?=some x->VR w.heap (s.own B.A β) s.used s.hp β (((args.toList.map a.eval).toArray++cvs).getD i undef) (x.ren id):=by
  intro i x hi;rw[AV.mE id (fun _=>rfl)];have hx:=hi;rw[<-dE]at hx;by_cases hlt:i<args.size
  .have aR:(args.toList.map (ev s))[i]?=some x:=by rw[<-hx,alj (by simpa using hlt)]
   have:=za h args.toList i _ aR;rw[show((args.toList.map a.eval).toArray++cvs).getD i undef=(args.toList.map a.eval).toArray.getD i undef by simp[akZ,alO,hlt]];exact this
  .have aR:aG[i-args.size]?=some x:=by rw[<-hx,aln (by simpa using amO hlt)];simp
   have:=mh _ _ aR;rw[show((args.toList.map a.eval).toArray++cvs).getD i undef=cvs.getD (i-args.size) undef by simp[akZ,alO,hlt]];exact this
 have pR:=Ix (P:=P) h (σ:=id) (d:=d) hd (chp:=[]) (cu:=[]) trivial trivial (BD _ _) eJ hv (by rw[hB.2.2];exact hc);have rS:CallsIn (Fw cf.ro) (0-1) P f ((args.toList.map a.eval).toArray++cvs) w _:=pR;refine rS.mono ?_;rintro e w' ⟨v,rfl,r,ae,⟨hQ,vG,rfl⟩,hl⟩;obtain⟨β2,br,nG⟩:=hl trivial;rw[AV.EK _ r vG]at nG;have BG:=AV.EI s.used r vG;refine⟨by cases dst<;>exact ai,s.iZ dst r,?_⟩
 cases dst with
 |none =>
   obtain⟨β3,h3⟩:=h.ze br rfl (t0:=0) (x0:=s.fr 0) (fun _=>.inr rfl) rfl (h.slots 0).bn;exact⟨β3,eB (hk r hQ),h3⟩
 |some t =>
   have h2:=br.put (t:=t) (by rw[hB.1];exact cY t rfl) nG
   obtain⟨β3,h3⟩:=h.ze h2 rfl (t0:=t) (x0:=r) (fun u=>by
    by_cases e:u=t
    .exact .inl e
    .exact .inr (by show dV _ _ _ _=_;simp[dV,e])) (by show dV _ _ _ _=_;simp[dV]) BG
   exact⟨β3,eB (hk r hQ),h3⟩
theorem vH {f:FuncId} {fn:Func} {c:Code} (hf:P.funcs[f]?=some fn) (hb:fn.body=some c) (hn:(fn.name == "runtime.NumGoroutine")=false) (vs:Array Value) (w:World):(callFunc f vs).run P w=.ok (.enter f vs) w:=by
 unfold callFunc;simp only[Sem.run_bind,run_program,Result.andThen_ok,hf,hn,als,if_false,hb,Option.isNone_some,Sem.run_pure]
def okV(Q:AV->Prop):R (List AV)->Prop
 |.ok l=>(e7 l).bn []=true∧Q (e7 l)
 |.need p r=>p∧okV Q r
 |.no=>False
def pq(P:Program)(rs:List ResultVar)(Q:AV->Prop)(e:Exit)(s:St):Prop :=
 match e with
 |.ret=>okV Q (kG P s rs)
 |.normal=>okV Q (kG P s rs)
 |_=>False
theorem Yb(rs:List ResultVar)(Q:AV->Prop)(s:St):pq P rs Q .ret s=okV Q (kG P s rs):=rfl
theorem Yc(rs:List ResultVar)(Q:AV->Prop)(s:St):pq P rs Q .normal s=okV Q (kG P s rs):=rfl
theorem Yd(Q:AV->Prop)(l:List AV):okV Q (.ok l)=((e7 l).bn []=true∧Q (e7 l)):=rfl
theorem Ye(Q:AV->Prop)(p:Prop)(r:R (List AV)):okV Q (.need p r)=(p∧okV Q r):=rfl
theorem Yf(x:AV):e7 [x]=x:=rfl
theorem Yg(x y:AV)(r:List AV):e7 (x::y::r)=.az (x::y::r):=rfl
theorem Yh:e7 []=.az []:=rfl
theorem IA{Q:AV->Prop}:∀{r:R (List AV)},okV Q r->RX r fun l=>∃x ae u' τ,(Q x∧x.bn []=true∧ae=[])∧∀s:St,cw [] τ (qK s (e7 l)) [(0,x)] ae u'
 |.ok l,h=>⟨e7 l,[],[],id,⟨h.2,h.1,rfl⟩,fun s=>⟨⟨⟨by show e7 l=_;rw[AV.mE id (fun _=>rfl)],h.1⟩,trivial⟩,trivial,trivial,rfl,trivial⟩⟩
 |.need _ r,h=>⟨h.1,IA h.2⟩
 |.no,h=>h.elim
theorem RX.mono{α:Type}{φ ψ:α->Prop}(h:∀x,φ x->ψ x):∀{r:R α},RX r φ->RX r ψ
 |.ok _,g=>h _ g
 |.need _ _,g=>⟨g.1,RX.mono h g.2⟩
 |.no,g=>g
theorem cj {G:List (Nat×Obj)} {f:FuncId} {fn:Func} {c:Code} {args:List D} {Q:AV->Prop} (hf:P.funcs[f]?=some fn) (hb:fn.body=some c) (eO:(fn.name == "runtime.NumGoroutine")=false) (hn:args.length<=fn.ntmps)
  (h:run P ⟨fn.ntmps,none,G,[]⟩ [.code c] (pq P fn.results.toList Q) (mk (dQ 0 (args.map .d)) [] [])):HP P G f args Q:=by
 refine NT hf hb (vH hf hb eO) (by simpa using hn) (fun e s hq=>?_) h
 cases e with
 |ret=>exact(IA hq).mono fun l ⟨x,ae,u',τ,h1,h2⟩=>⟨x,ae,u',τ,h1,h2 s⟩
 |normal=>exact(IA hq).mono fun l ⟨x,ae,u',τ,h1,h2⟩=>⟨x,ae,u',τ,h1,h2 s⟩
 |exit i=>exact hq.elim
 |goto l=>exact hq.elim
 |panic c=>exact hq.elim
 |outgrown=>exact hq.elim
end
end Go.Ab
namespace Go.Ab
structure Ext(w w':World):Prop where
 io:dH w'=dH w
 size:w.heap.size<=w'.heap.size
 old:∀b,b<w.heap.size->w'.heap[b]?=w.heap[b]?
theorem Ext.grow(w:World)(k:Nat)(os:Array Obj):Ext w (Sort.grow (w.drewN k) os):=by
 have h:=Lib.below_grow w.heap.size w (ali _) k os;exact⟨by show(_,_)=(_,_);rw[h.os,h.output],h.size,h.block⟩
def D.val:D->Option Value
 |.int k n=>some (.int k n)
 |.bool b=>some (.bool b)
 |.str s=>some (.string ⟨s.toArray⟩)
 |.aY=>some (.pointer none)
 |.ao=>some (.slice none 0 0)
 |.j8=>some (.map none)
 |.nj=>some .nilFunc
 |.lF=>some .nilIface
 |_=>none
theorem au.val{H:Array Obj}{own:Nat->Prop}{v u:Value}{d:D}(h:au H own v d)(hd:d.val=some u):v=u:=by
 cases h<;>simp[D.val]at hd<;>first|exact hd|exact hd.symm
theorem D.N2{H:Array Obj}{own:Nat->Prop}{v:Value}{d:D}(h:d.val=some v):au H own v d:=by
 cases d<;>simp[D.val]at h<;>subst h<;>constructor
def vI:List D->Option (List Value)
 |[]=>some []
 |d::r=>match d.val,vI r with
   |some v,some vs=>some (v::vs)
   |_,_=>none
theorem EM:∀{l:List D} {vs:List Value},vI l=some vs->vs.length=l.length∧∀(i:Nat) d,l[i]?=some d->d.val=vs[i]?
 |[],vs,h=>by simp only[vI,alE]at h;subst h;exact⟨rfl,by simp⟩
 |d::r,vs,h=>by
   simp only[vI]at h;split at h
   .rename_i v N3 h1 h2;simp only[alE]at h;subst h;obtain⟨g1,g2⟩:=EM h2;refine⟨by simp[g1],fun i e hi=>?_⟩
    cases i with
    |zero=>simp at hi;subst hi;simpa using h1
    |succ i=>simpa using g2 i e (by simpa using hi)
   .cases h
section
variable {P:Program}
theorem Yi{G:List (Nat×Obj)}{f:FuncId}{args:List D}{vs:List Value}{Q:AV->Prop}(he:∀vs w,(callFunc f vs).run P w=.ok (.enter f vs) w)(hv:vI args=some vs)
  (h:∀w:World,(∀q∈G,w.heap[q.1]?=some q.2)->Calls P f vs.toArray w fun e w'=>∃v d,e=.returned v∧Q (.d d)∧d.val=some v∧Ext w w'):HP P G f args Q:=by
 refine⟨he,fun B β tm w h1 h2 h3 h4 hs=>?_⟩;obtain⟨g1,g2⟩:=EM hv
 have Yj:tm=vs.toArray:=by
  have bj:tm.size=args.length:=by rw[hs.bG,h1];simp
  apply Array.ext
  .rw[bj];simp[g1]
  .intro i hi aq;have hlt:i<args.length:=by omega
   have:=hs.slots i;rw[kC,qJ,if_pos (ale _),Nat.sub_zero,ala,ak0 hlt]at this;have hr:=this.cA.val (g2 i _ (ak0 hlt)▸ak0 (by omega:i<vs.length));simpa[akZ,hi]using hr
 subst Yj
 have cF:=(callsIn_wide (n:=0)).2 (h w fun q hq=>by
  obtain⟨k1,k2⟩:=B.hG q (h4▸hq)
  rw[<-h2];exact k1)
 refine cF.mono ?_;rintro e w' ⟨v,d,rfl,hQ,cd,hext⟩;refine⟨v,.d d,[],[],β,rfl,⟨hQ,rfl,rfl⟩,?_⟩
 have bY:∀p,¬nm B.U0 p:=fun p hp=>by
  obtain⟨a,t,_,ha⟩:=hp;rw[show B.U0=[]from h3]at ha;cases ha
 have EN:∀p,(mk [(0,AV.d d)] [] []).hp p=none:=fun _=>rfl;refine { bG:=rfl,io:=hext.io.trans hs.io,size:=alU hs.size hext.size,frame:=fun b hb hn=>?_,slots:=fun t=>?_,aJ:=fun p o ho=>(by cases ho),blocks:=fun p k hp=>(by exact absurd rfl hp),inj:=fun p q k l hp=>(by exact absurd rfl hp),us:=fun x hx=>(by rw[show B.U0=[]from h3]at hx;cases hx),stay:=fun p hp=>(bY p hp).elim }
 .rw[hext.old b (alV hb hs.size)];exact hs.frame b hb hn
 .rw[kC,kD,xh];by_cases ht:t=0
  .subst ht;rw[if_pos rfl];exact .d _ _ (D.N2 cd)
  .rw[if_neg ht];exact .un _
end
end Go.Ab

namespace Go.Ab
abbrev i64(n:Int):D:=.int .i64 n
def zf(n:Int):Prop:=-9223372036854775808<=n∧n<=9223372036854775807
def lL(n:Int):Int:=IntKind.i64.wrap n
def u64(n:Int):Int:=IntKind.u64.wrap n
theorem wrap_i64(n:Int):IntKind.i64.wrap n=lL n:=rfl
theorem wrap_u64(n:Int):IntKind.u64.wrap n=u64 n:=rfl
theorem Yk(n:Int):lL n=if n % 18446744073709551616 >= 9223372036854775808 then n % 18446744073709551616-18446744073709551616 else n % 18446744073709551616:=by
 simp[lL,IntKind.wrap,IntKind.bits,IntKind.signed]
theorem aD{n:Int}(h:zf n):lL n=n:=by
 obtain⟨h1,h2⟩:=h;rw[Yk];split<;>omega
end Go.Ab
namespace Go.Ab
def js{α β:Type}[DecidableEq α]:List (α×β)->α->β->List (α×β)
 |[],i,x=>[(i,x)]
 |q::r,i,x=>if i=q.1 then(i,x)::r else q::js r i x
def jR{α β:Type}[DecidableEq α]:List (α×β)->α->List (α×β)
 |[],_=>[]
 |q::r,i=>if i=q.1 then jR r i else q::jR r i
theorem vJ{α β:Type}[DecidableEq α](z:β)(i:α)(x:β)(j:α):∀l:List (α×β),aw z (js l i x) j=if j=i then x else aw z l j
 |[]=>by simp[js,aw]
 |q::r=>by
   simp only[js];split
   .rename_i e;subst e;simp only[aw];split<;>rfl
   .rename_i e;simp only[aw,vJ z i x j r];by_cases h1:j=q.1
    .rw[if_pos h1,if_pos h1,if_neg (fun e2=>e (e2.symm.trans h1))]
    .rw[if_neg h1,if_neg h1]
theorem EO(i:Name)(x:Ob):∀l:List (Name×Ob),(js l i x).map (fun q=>(q.1,some q.2))=js (l.map fun q=>(q.1,some q.2)) i (some x)
 |[]=>rfl
 |q::r=>by
   simp only[js,alf];split
   .rfl
   .rw[alf,EO i x r]
theorem vK{α β:Type}[DecidableEq α](z:β)(i:α)(j:α):∀l:List (α×β),aw z (jR l i) j=if j=i then z else aw z l j
 |[]=>by simp[jR,aw]
 |q::r=>by
   simp only[jR];split
   .rename_i e;rw[vK z i j r,aw];by_cases h1:j=i
    .rw[if_pos h1,if_pos h1]
    .rw[if_neg h1,if_neg h1,if_neg (fun e2=>h1 (e2.trans e.symm))]
   .rename_i e;simp only[aw,vK z i j r];by_cases h1:j=q.1
    .rw[if_pos h1,if_pos h1,if_neg (fun e2=>e (e2.symm.trans h1))]
    .rw[if_neg h1,if_neg h1]
theorem vL(i:Name):∀l:List (Name×Ob),(jR l i).map (fun q=>(q.1,some q.2))=jR (l.map fun q=>(q.1,some q.2)) i
 |[]=>rfl
 |q::r=>by
   simp only[jR,alf];split
   .exact vL i r
   .rw[alf,vL i r]
theorem N4(fr hp u)(t:Nat)(x:AV):(mk fr hp u).put t x=mk (js fr t x) hp u:=by
 unfold St.put mk;congr 1;funext j;rw[vJ];rfl
theorem N5(fr hp u)(t:Nat)(o:Ob):(mk fr hp u).add t o=mk fr (js hp [t] o) (t::u):=by
 unfold St.add mk;congr 1;funext j;rw[EO,vJ];rfl
theorem IB(fr hp u)(p:Name)(o:Ob):(mk fr hp u).set p (some o)=mk fr (js hp p o) u:=by
 unfold St.set mk;congr 1;funext j;rw[EO,vJ];rfl
theorem Yl(fr hp u)(p:Name):(mk fr hp u).set p none=mk fr (jR hp p) u:=by
 unfold St.set mk;congr 1;funext j;rw[vL,vK];rfl
section
variable {P:Program}{cf:Cf}{Q:Exit->St->Prop}{s:St}{k:List It}{o:Oper}{a b:Code}{t:Nat}{all:Array Oper}{r:List Oper}
theorem N6:mf P cf (.d (.bool true)) a b k Q s=run P cf (.code a::k) Q s:=by simp[mf]
theorem N7:mf P cf (.d (.bool false)) a b k Q s=run P cf (.code b::k) Q s:=by simp[mf]
def mF(P:Program)(cf:Cf)(d:Option Nat)(all:Array Oper)(r:List Oper)(k:List It)(Q:Exit->St->Prop)(s:St):Prop :=
 match d with
 |some t=>if t<cf.n then run P cf (.ops all r::k) Q (s.put t (.az []))else False
 |none=>run P cf (.ops all r::k) Q s
theorem vM(d:Option Nat):(dp cf.n d s (.az [])).run (fun s'=>run P cf (.ops all r::k) Q s') False=mF P cf d all r k Q s:=by
 cases d with
 |none=>rfl
 |some t=>simp only[dp,mF];split<;>simp[R.run]
theorem IC:gd P cf (some (t,.d (.bool true))) true all o r s k Q=bc P cf (cV P.ti cf.n o.op o.dst (s.put t (.d (.bool true)))) { o with guard:=none } (s.put t (.d (.bool true))) (.ops all r::k) Q:=by simp[gd]
theorem IE:gd P cf (some (t,.d (.bool false))) false all o r s k Q=bc P cf (cV P.ti cf.n o.op o.dst (s.put t (.d (.bool false)))) { o with guard:=none } (s.put t (.d (.bool false))) (.ops all r::k) Q:=by simp[gd]
theorem IG:gd P cf (some (t,.d (.bool true))) false all o r s k Q=mF P cf o.dst all r k Q (s.put t (.d (.bool true))):=by simp[gd,vM]
theorem IK:gd P cf (some (t,.d (.bool false))) true all o r s k Q=mF P cf o.dst all r k Q (s.put t (.d (.bool false))):=by simp[gd,vM]
theorem Ym{want:Bool}:gd P cf (some (t,.az [])) want all o r s k Q=mF P cf o.dst all r k Q s:=by simp[gd,vM]
theorem Yn{p:Prop}[Decidable p](h1:p->run P cf (.code a::k) Q s)(h2:¬p->run P cf (.code b::k) Q s):mf P cf (.d (.bool (decide p))) a b k Q s :=
 ⟨fun h=>h1 (of_decide_eq_true h),fun h=>h2 (of_decide_eq_false h)⟩
theorem Yo{c:Bool}(h1:c=true->run P cf (.code a::k) Q s)(h2:c=false->run P cf (.code b::k) Q s):mf P cf (.d (.bool c)) a b k Q s:=⟨h1,h2⟩
theorem N8{p:Prop}[Decidable p]{want:Bool}
  (h1:p->gd P cf (some (t,.d (.bool true))) want all o r (s.put t (.d (.bool true))) k Q) (h2:¬p->gd P cf (some (t,.d (.bool false))) want all o r (s.put t (.d (.bool false))) k Q):gd P cf (some (t,.d (.bool (decide p)))) want all o r s k Q:=by
 have pp:∀x y:AV,(s.put t x).put t y=s.put t y:=fun x y=>by
  unfold St.put;congr 1;funext i;simp only[dV];split<;>rfl
 by_cases h:p
 .have:=h1 h;simp only[h,decide_true];cases want
  .rw[IG]at this ⊢;rw[pp]at this;exact this
  .rw[IC]at this ⊢;rw[pp]at this;exact this
 .have:=h2 h;simp only[h,decide_false];cases want
  .rw[IE]at this ⊢;rw[pp]at this;exact this
  .rw[IK]at this ⊢;rw[pp]at this;exact this
theorem Yp{c:Bool}{want:Bool}
  (h1:c=true->gd P cf (some (t,.d (.bool true))) want all o r (s.put t (.d (.bool true))) k Q) (h2:c=false->gd P cf (some (t,.d (.bool false))) want all o r (s.put t (.d (.bool false))) k Q):gd P cf (some (t,.d (.bool c))) want all o r s k Q:=by
 have:=N8 (p:=c=true) (Q:=Q) (s:=s) (k:=k) (o:=o) (t:=t) (all:=all) (r:=r) (P:=P) (cf:=cf) (want:=want) h1 (fun h=>h2 (by simpa using h));simpa using this
end
def vN{α:Type}:Nat->List α->List α
 |0,_=>[]
 |_+1,[]=>[]
 |n+1,a::l=>a::vN n l
def vO{α:Type}:Nat->List α->List α
 |0,l=>l
 |_+1,[]=>[]
 |n+1,_::l=>vO n l
def BH{α:Type}:List α->Nat->α->List α
 |[],_,_=>[]
 |_::l,0,x=>x::l
 |a::l,n+1,x=>a::BH l n x
def zg{α:Type}:List α->List α->List α
 |[],m=>m
 |a::l,m=>a::zg l m
def vP{α:Type}:List α->Nat
 |[]=>0
 |_::l=>vP l+1
theorem EP{α:Type}:∀(n:Nat) (l:List α),vN n l=l.take n
 |0,l=>by simp[vN]
 |_+1,[]=>rfl
 |n+1,a::l=>by simp[vN,EP n l]
theorem ER{α:Type}:∀(n:Nat) (l:List α),vO n l=l.drop n
 |0,l=>by simp[vO]
 |_+1,[]=>rfl
 |n+1,a::l=>by simp[vO,ER n l]
theorem N9{α:Type}:∀(l:List α) (n:Nat) (x:α),BH l n x=l.set n x
 |[],_,_=>rfl
 |_::l,0,x=>rfl
 |a::l,n+1,x=>by simp[BH,N9 l n x]
theorem Oa{α:Type}:∀(l m:List α),zg l m=l++m
 |[],m=>rfl
 |a::l,m=>by simp[zg,Oa l m]
theorem BI{α:Type}:∀(l:List α),vP l=l.length
 |[]=>rfl
 |a::l=>by simp[vP,BI l]
theorem Yq(i:TI)(d:D)(c:Nat):rE i d c=if i.k.dM then none else match d with
  |.agg cs=>if i.k.agg then(if c+i.sz<=vP cs then some (.agg (vN i.sz (vO c cs)))else none)else cs[c]?
  |d=>if i.k.agg then none else if c=0 then some d else none:=by
 unfold rE;split
 .rfl
 .cases d<;>simp only[EP,ER,BI]
theorem Yr(i:TI)(cs:List AV)(c:Nat):xf i cs c=if i.k.dM then .no else if i.k.agg then(if c+i.sz<=vP cs then .ok (oA (vN i.sz (vO c cs)))else .no)else R.kA cs[c]?:=by
 unfold xf;simp only[EP,ER,BI]
theorem Ys{α:Type}(l:List α)(c:Nat)(xs:List α):splice l c xs=zg (vN c l) (zg xs (vO (c+vP xs) l)):=by
 unfold splice;simp only[EP,ER,BI,Oa]
theorem Yt(i:TI)(w:W)(xs:List D)(j c:Nat)(y:D):yS i w xs j c y=if i.k.dM then none
  else if i.gD w&&rF w y&&c == 0 then some (xs.set j y)
  else if i.k.agg then none
  else match xs.getD j .aY with
   |.agg cs=>if y.bR∧c<vP cs∧i.sz=1 then some (xs.set j (.agg (BH cs c y)))else none
   |_=>none:=by
 unfold yS;simp only[N9,BI];generalize xs.getD j .aY=z;cases z<;>rfl
section
variable {P:Program}{cf:Cf}{Q:Exit->St->Prop}{s s':St}{k:List It}{o:Oper}{a b:Code}{all:Array Oper}{r:List Oper}
def xk(P:Program)(cf:Cf)(i:Nat)(k:List It)(Q:Exit->St->Prop)(s:St):Prop:=yW P cf (nq i k) i Q s
theorem Oc(i:Nat):run P cf (.code (.exit i)::k) Q s=xk P cf i k Q s:=W9 Q s k i
theorem IL(i:Nat):xk P cf i [] Q s=Q (.exit i) s:=rfl
theorem IP(i:Nat)(c:Code):xk P cf i (.code c::k) Q s=xk P cf i k Q s:=rfl
theorem Od(i:Nat):xk P cf i (.ops all r::k) Q s=xk P cf i k Q s:=rfl
theorem IQ(i:Nat):xk P cf i (.ef i::k) Q s=run P cf k Q s:=by simp[xk,nq,yW]
theorem Oe(t:Nat)(h:t<cf.n):mF P cf (some t) all r k Q s=run P cf (.ops all r::k) Q (s.put t (.az [])):=by simp[mF,h]
theorem Yu:mF P cf none all r k Q s=run P cf (.ops all r::k) Q s:=rfl
end
attribute [go_sem] pM Na Nb Nc Nd Nf Ng run_seq Nh Ni Oc IL IP Od IQ Nj Nk Ep HX Er N6 N7 IC IE IG IK Xa gV Oe Yu
attribute [go_sem] wrap_i64 wrap_u64 Yb Yc Yd Ye Yf Yg Yh AV.bn dz
attribute [go_sem] Ob.box Ob.arr HW HV yV
attribute [go_sem] cV dp gN sK vl Yt rF vm AO Eo A5 A6 xg jl uj vn AP vp rG AZ A1 AR En TK.isBool dR AU ui vq AX AY Yq Yr Ys jE cellsD j9 oA A4 yT A3 vN vO zg vP BH ev cv TK.agg TK.dM TI.gD TI.oB TI.iT TI.zero D.bR R.bind R.kA R.run A7 TI.w St.iZ
attribute [go_sem] N4 N5 IB Yl js jR kC vu aT xh kD dQ kG
attribute [go_sem] List.map_cons List.map_nil List.getElem?_cons_zero List.getElem?_cons_succ Option.map_some Option.map_none Option.isSome_some Option.getD_some reduceCtorEq List.cons.injEq and_true true_and and_self if_true if_false ite_true ite_false and_false false_and
attribute [go_sem] List.getD_cons_zero Int.cast_ofNat_Int Int.toNat_natCast List.drop_succ_cons List.drop_zero Nat.add_one_sub_one List.take_length List.length_map Option.getD_none Option.isSome_none List.flatMap_cons List.flatMap_nil
attribute [go_sem] List.not_mem_nil not_false_eq_true not_true_eq_false List.mem_cons or_false or_self false_or forall_const Bool.true_eq_false Bool.false_eq_true Bool.not_true Bool.not_false false_imp_iff true_imp_iff imp_self List.length_cons List.length_nil decide_true decide_false decide_eq_true_eq decide_eq_false_iff_not Nat.zero_add Nat.add_zero Bool.and_true Bool.true_and Bool.and_false Bool.false_and beq_self_eq_true List.all_cons List.all_nil List.toList_toArray ne_eq List.getElem?_toArray
end Go.Ab
namespace Go.Ab
section
variable {P:Program}
theorem Yv{G:List (Nat×Obj)}{f:FuncId}{ds:List D}{Q:AV->Prop}(h:HP P G f ds Q){W:World}(hG:∀q∈G,W.heap[q.1]?=some q.2){vs:Array Value}(hs:vs.size=ds.length)
  (hr:∀(i:Nat) d,ds[i]?=some d->au W.heap (fun _=>False) (vs.getD i undef) d) :
  Calls P f vs W fun e W'=>∃v r,e=.returned v∧Q r∧Ext W W'∧∃u hp β own,VR W'.heap own u hp β v r:=by
 have bY:∀(fr:List (Nat×AV)) (u:List Nat) (β:Name->Option a8) (b:Nat),¬(mk fr [] u).own (fun _=>False) β b:=by
  rintro fr u β b (hb|⟨p,k,hp,_⟩)
  .exact hb
  .exact hp rfl
 have bh:aj { n:=ds.length,io:=dH W,G:=G,H0:=W.heap,O0:=fun _=>False,A:=fun _=>False,U0:=[],β0:=fun _=>none,hA:=fun _ hb=>hb.elim,hG:=fun q hq=>⟨hG q hq,fun hb=>hb⟩ }
   (fun _=>none) (mk (dQ 0 (ds.map .d)) [] []) vs W:=by
  refine { bG:=hs,io:=rfl,size:=ali _,frame:=fun _ _ _=>rfl,slots:=fun t=>?_,aJ:=fun p o ho=>(by cases ho),blocks:=fun p k hp=>(by exact absurd rfl hp),inj:=fun p q k l hp=>(by exact absurd rfl hp),us:=fun x hx=>(by cases hx),stay:=fun p hp=>rfl };rw[kC,qJ,if_pos (ale _),Nat.sub_zero,ala]
  cases hd:ds[t]? with
  |none=>exact .un _
  |some d=>exact .d _ _ ((hr t d hd).mono (fun _ _ _=>rfl) (fun b _ hb=>(bY _ _ _ b hb).elim))
 have gG:=fun h1 h2 h3 h4=>h.2 _ _ vs W h1 h2 h3 h4 bh;refine(callsIn_wide.1 (gG (by simp) rfl rfl rfl)).mono ?_;rintro e W' ⟨v,r,ae,u',β',rfl,⟨hQ,_,rfl⟩,br⟩;refine⟨v,r,rfl,hQ,⟨br.io,br.size,fun b hb=>br.frame b hb (fun h=>h)⟩,_,_,_,_,br.slots 0⟩
theorem Ext.frame{W W':World}(h:Ext W W')(may:MemPlace->Prop):W.keptBut W' may:=by
 have eP:=h.io;simp only[dH,amd]at eP;refine⟨eP.1,eP.2,fun i hi=>?_⟩;rw[h.old i hi];split<;>simp_all
end
end Go.Ab
namespace Go.Ab
abbrev Yw(_:List It):Type:=St
abbrev Yx(_:Nat)(_:List It):Type:=St
abbrev Yy(_:Oper)(_:St)(_:List It):Type 1:=R St
abbrev Yz(_:Bool)(_:Array Oper)(_:Oper)(_:List Oper)(_:St)(_:List It):Type:=Option (Nat×AV)
abbrev YA(_ _:Code)(_:List It)(_:St):Type:=AV
abbrev YB(_:Option Nat)(_:Array Oper)(_:List Oper)(_:List It):Type:=St
structure bu(P:Program)(cf:Cf)(Q:Exit->St->Prop) where
 run:(k:List It)->Yw k->Prop
 bc:(o:Oper)->(s:St)->(k:List It)->Yy o s k->Prop
 gd:(w:Bool)->(all:Array Oper)->(o:Oper)->(r:List Oper)->(s:St)->(k:List It)->Yz w all o r s k->Prop
 mf:(a b:Code)->(k:List It)->(s:St)->YA a b k s->Prop
 xk:(i:Nat)->(k:List It)->Yx i k->Prop
 mF:(d:Option Nat)->(all:Array Oper)->(r:List Oper)->(k:List It)->YB d all r k->Prop
 run_eq:∀(k:List It) (s:St),run k s=Ab.run P cf k Q s
 fk:∀(x:R St) o s k,bc o s k x=Ab.bc P cf x o s k Q
 iG:∀(v:Option (Nat×AV)) w all o r s k,gd w all o r s k v=Ab.gd P cf v w all o r s k Q
 BJ:∀(v:AV) a b k s,mf a b k s v=Ab.mf P cf v a b k Q s
 zh:∀i k (s:St),xk i k s=Ab.xk P cf i k Q s
 vM:∀d all r k (s:St),mF d all r k s=Ab.mF P cf d all r k Q s
theorem YC(P:Program)(cf:Cf)(Q:Exit->St->Prop):Nonempty (bu P cf Q) :=
 ⟨⟨fun k s=>run P cf k Q s,fun o s k x=>bc P cf x o s k Q,fun w all o r s k v=>gd P cf v w all o r s k Q,fun a b k s v=>mf P cf v a b k Q s,fun i k s=>xk P cf i k Q s,fun d all r k s=>mF P cf d all r k Q s,
   fun _ _=>rfl,fun _ _ _ _=>rfl,fun _ _ _ _ _ _ _=>rfl,fun _ _ _ _ _=>rfl,fun _ _ _=>rfl,fun _ _ _ _ _=>rfl⟩⟩
section
variable {P:Program}{cf:Cf}{Q:Exit->St->Prop}(E:bu P cf Q)(s:St)(k:List It)(o:Oper)(a b:Code)(t:Nat)(all:Array Oper)(r:List Oper)
theorem YD:E.run [] s=Q .normal s:=by rw[E.run_eq,pM]
theorem YE(i:Nat):E.run (.ef i::k) s=E.run k s:=by rw[E.run_eq,E.run_eq,Na]
theorem YF:E.run (.ops all []::k) s=E.run k s:=by rw[E.run_eq,E.run_eq,Nb]
theorem YG(d:Option Nat)(op:Op)(ty:Nat)(p:String)(e:Array Edge) :
 E.run (.ops all ({ dst:=d,op:=op,type:=ty,pos:=p,after:=e,guard:=none }::r)::k) s =
  E.bc { dst:=d,op:=op,type:=ty,pos:=p,after:=e,guard:=none } s (.ops all r::k) (cV P.ti cf.n op d s):=by rw[E.run_eq,E.fk,Nc]
theorem YH(d:Option Nat)(op:Op)(ty:Nat)(p:String)(e:Array Edge)(j:Nat)(want:Bool) :
 E.run (.ops all ({ dst:=d,op:=op,type:=ty,pos:=p,after:=e,guard:=some (j,want) }::r)::k) s =
  E.gd want all { dst:=d,op:=op,type:=ty,pos:=p,after:=e,guard:=some (j,want) } r s k (pL all j s):=by rw[E.run_eq,E.iG,Nd]
theorem YI:E.run (.code .skip::k) s=E.run k s:=by rw[E.run_eq,E.run_eq,Nf]
theorem YJ(i:Nat)(ops:List Oper):E.run (.code (.region i ops.toArray false)::k) s=E.run (.ops ops.toArray ops::k) s:=by rw[E.run_eq,E.run_eq,Ng]
theorem YK:E.run (.code (.seq a b)::k) s=E.run (.code a::.code b::k) s:=by rw[E.run_eq,E.run_eq,run_seq]
theorem YL(x:Operand):E.run (.code (.cond x a b)::k) s=E.mf a b k s (ev s x):=by rw[E.run_eq,E.BJ,Nh]
theorem YM(i:Nat):E.run (.code (.block i a)::k) s=E.run (.code a::.ef i::k) s:=by rw[E.run_eq,E.run_eq,Ni]
theorem YN(i:Nat):E.run (.code (.exit i)::k) s=E.xk i k s:=by rw[E.run_eq,E.zh,Oc]
theorem YO:E.run (.code .ret::k) s=Q .ret s:=by rw[E.run_eq,Nj]
theorem IU(s':St):E.bc o s k (.ok s')=E.run k s':=by rw[E.run_eq,E.fk,Ep]
theorem Og(p:Prop)(x:R St):E.bc o s k (.need p x)=(p∧E.bc o s k x):=by rw[E.fk,E.fk,HX]
theorem YP:E.mf a b k s (.d (.bool true))=E.run (.code a::k) s:=by rw[E.BJ,E.run_eq,N6]
theorem YQ:E.mf a b k s (.d (.bool false))=E.run (.code b::k) s:=by rw[E.BJ,E.run_eq,N7]
theorem Oh:E.gd true all o r s k (some (t,.d (.bool true)))=E.bc { o with guard:=none } (s.put t (.d (.bool true))) (.ops all r::k) (cV P.ti cf.n o.op o.dst (s.put t (.d (.bool true)))):=by rw[E.iG,E.fk,IC]
theorem Oi:E.gd false all o r s k (some (t,.d (.bool false)))=E.bc { o with guard:=none } (s.put t (.d (.bool false))) (.ops all r::k) (cV P.ti cf.n o.op o.dst (s.put t (.d (.bool false)))):=by rw[E.iG,E.fk,IE]
theorem Oj:E.gd false all o r s k (some (t,.d (.bool true)))=E.mF o.dst all r k (s.put t (.d (.bool true))):=by rw[E.iG,E.vM,IG]
theorem Ol:E.gd true all o r s k (some (t,.d (.bool false)))=E.mF o.dst all r k (s.put t (.d (.bool false))):=by rw[E.iG,E.vM,IK]
theorem Om(want:Bool):E.gd want all o r s k (some (t,.az []))=E.mF o.dst all r k s:=by rw[E.iG,E.vM,Ym]
theorem ES(t:Nat)(h:t<cf.n):E.mF (some t) all r k s=E.run (.ops all r::k) (s.put t (.az [])):=by rw[E.vM,E.run_eq,Oe t h]
theorem YR(i:Nat):E.xk i [] s=Q (.exit i) s:=by rw[E.zh,IL]
theorem YS(i:Nat)(c:Code):E.xk i (.code c::k) s=E.xk i k s:=by rw[E.zh,E.zh,IP]
theorem YT(i:Nat):E.xk i (.ef i::k) s=E.run k s:=by rw[E.zh,E.run_eq,IQ]
end
attribute [go_sem] YD YE YF YG YH YI YJ YK YL YM YN YO IU Og YP YQ Oh Oi Oj Ol Om ES YR YS YT
section
variable {P:Program}{cf:Cf}{Q:Exit->St->Prop}(E:bu P cf Q){s:St}{k:List It}{o:Oper}{a b:Code}{t:Nat}{all:Array Oper}{r:List Oper}
def e8(_E:bu P cf Q)(c:Code)(s:St)(k:List It):Prop:=rH P cf c s k Q
theorem YU:E.run (.code (.loop a)::k) s=e8 E (.loop a) s k:=by rw[E.run_eq,Nk];rfl
theorem YV(i:Nat)(ops:List Oper):E.run (.code (.region i ops.toArray true)::k) s=e8 E (.region i ops.toArray true) s k:=by rw[E.run_eq,W8];rfl
theorem ie:E.bc o s k .no=ia P cf o s k Q:=by rw[E.fk,Er]
theorem ck{c:Bool}(h1:c=true->E.run (.code a::k) s)(h2:c=false->E.run (.code b::k) s):E.mf a b k s (.d (.bool c)):=by
 rw[E.BJ];exact Yo (fun h=>by rw[<-E.run_eq];exact h1 h) (fun h=>by rw[<-E.run_eq];exact h2 h)
theorem aI{p:Prop}[Decidable p](h1:p->E.run (.code a::k) s)(h2:¬p->E.run (.code b::k) s):E.mf a b k s (.d (.bool (decide p))):=by
 rw[E.BJ];exact Yn (fun h=>by rw[<-E.run_eq];exact h1 h) (fun h=>by rw[<-E.run_eq];exact h2 h)
theorem vQ{c:Bool}{want:Bool}
  (h1:c=true->E.gd want all o r (s.put t (.d (.bool true))) k (some (t,.d (.bool true)))) (h2:c=false->E.gd want all o r (s.put t (.d (.bool false))) k (some (t,.d (.bool false)))):E.gd want all o r s k (some (t,.d (.bool c))):=by
 rw[E.iG];exact Yp (fun h=>by rw[<-E.iG];exact h1 h) (fun h=>by rw[<-E.iG];exact h2 h)
theorem bH{p:Prop}[Decidable p]{want:Bool}
  (h1:p->E.gd want all o r (s.put t (.d (.bool true))) k (some (t,.d (.bool true)))) (h2:¬p->E.gd want all o r (s.put t (.d (.bool false))) k (some (t,.d (.bool false)))):E.gd want all o r s k (some (t,.d (.bool (decide p)))):=by
 rw[E.iG];exact N8 (fun h=>by rw[<-E.iG];exact h1 h) (fun h=>by rw[<-E.iG];exact h2 h)
end
theorem IV(a b:Int):(a == b)=decide (a=b):=rfl
theorem YW(a b:Int):(a != b)=decide (¬a=b):=by simp only[bne,IV,decide_not]
theorem YX:(true == false)=false:=rfl
theorem YY:(false == true)=false:=rfl
attribute [go_sem] YX YY YU YV IV YW eq_self not_true_eq_false
theorem aS{P:Program}{cf:Cf}{Q:Exit->St->Prop}{k:List It}{s:St}(h:∀E:bu P cf Q,E.run k s):run P cf k Q s:=by
 obtain⟨E⟩:=YC P cf Q;rw[<-E.run_eq];exact h E
theorem bd{P:Program}{cf:Cf}{Q:Exit->St->Prop}(E:bu P cf Q){s:St}{k:List It}{dst:Option Nat}{fv:Operand}{args:Array Operand}{at':Array TypeId}{ty:TypeId}{pos:String}{af:Array Edge}
  {f:FuncId} {aG:List AV} {ds:List D} {Q0:AV->Prop} (hc:HP P cf.G f ds Q0)
  (bp:ev s fv=.aH f aG) (dE:args.toList.map (ev s)++aG=ds.map .d) (cY:∀t∈dst,t<cf.n) (hk:∀r,Q0 r->E.run k (s.iZ dst r)) :
  E.bc { dst:=dst,op:=.call { callee:=.value fv,args:=args,argTypes:=at' },type:=ty,pos:=pos,after:=af,guard:=none } s k .no:=by
 rw[E.fk,Er];exact BF hc bp dE cY fun r hr=>by rw[<-E.run_eq];exact hk r hr
theorem bq:(∀a b:Bool,((a&&b)=true)=(a=true∧b=true))∧(∀a:Bool,((!a)=true)=(a=false))∧(∀a:Bool,((!a)=false)=(a=true)) :=
 ⟨fun a b=>by cases a<;>cases b<;>simp,fun a=>by cases a<;>simp,fun a=>by cases a<;>simp⟩
end Go.Ab

namespace Go.Ab
def vR(s:St):List (Nat×AV)->Prop
 |[]=>True
 |q::r=>s.fr q.1=q.2∧q.2.bn []=true∧vR s r
theorem On{s:St}:∀{l:List (Nat×AV)},vR s l->∀q∈l,s.fr q.1=q.2∧q.2.bn []=true
 |[],_,q,h=>by simp at h
 |_::r,h,q,hq=>by
   rcases alc.1 hq with rfl|hq
   .exact⟨h.1,h.2.1⟩
   .exact On h.2.2 q hq
theorem Oo{s:St}{fr:List (Nat×AV)}(h:vR s fr):Le [] id s (mk fr [] []) where
 fr:=fun t=>by
  rcases EB (z:=AV.un) (l:=fr) (i:=t)with e|hm
  .exact .inl e
  .obtain⟨h1,h2⟩:=On h _ hm;exact .inr ⟨by rw[AV.mE id (fun _=>rfl)];exact h1,h2⟩
 hp:=fun p o ho=>by cases ho
 inj:=fun p q hp=>by exact absurd rfl hp
 us:=fun x hx=>by cases hx
 stay:=fun p hp=>by obtain⟨a,t,_,ha⟩:=hp;cases ha
section
variable {P:Program}{cf:Cf}
theorem YZ(next:St->Prop)(k:List It)(Q:Exit->St->Prop)(s:St)(i:Nat):lq P cf next k Q (.exit i) s=xk P cf i k Q s:=rfl
theorem IW{X:Type}(I:X->St)(μ:X->Nat)(next:X->St->Prop){c:Code}{s:St}{k:List It}{Q:Exit->St->Prop}
  (h0:∃x τ,Le cf.U τ s (I x))
  (hn:∀x s',next x s'->∃y,μ y<μ x∧∃τ,Le cf.U τ s' (I y)) (hr:∀x,run P cf [.code c] (lq P cf (next x) k Q) (I x)):rH P cf (.loop c) s k Q:=by
 have key:∀N x,μ x<N->∀(B:Base),cf.fits B->∀ds β a w,a.defers=ds->aj B β (I x) a.tmps w->Code.roundsIn (Fw cf.ro) 0 P c (hold P cf (lift B ds Q) k) N a w:=by
  intro N
  induction N with
  |zero=>intro x hx;omega
  |succ N ih =>
    intro x hx B hB ds β a w ai h;rw[roundsIn_succ];refine wpIn_mono (eB (hr x) B hB ds β a w ai h) fun e a' w' hq=>?_;obtain⟨dP,s',β',hq,hs⟩:=hq
    cases e with
    |normal =>
      obtain⟨y,hy,τ,hle⟩:=hn x s' hq;obtain⟨β2,br,_⟩:=hs.le (τ:=τ) (by rw[hB.2.1];exact hle);exact ih y (by omega) B hB ds β2 a' w' dP br
    |exit i =>
      unfold lq yW at hq;show hold P cf (lift B ds Q) k (.exit i) a' w';simp only at hq;split at hq
      .rename_i k' aC;exact y4 _ i k k' a' w' aC (eB hq B hB ds β' a' w' dP hs)
      .rename_i aC;exact y3 _ i k a' w' aC ⟨dP,s',β',hq,hs⟩
    |ret=>exact xx _ k a' w' ⟨dP,s',β',hq,hs⟩
    |goto l=>exact hq.elim
    |panic c=>exact hq.elim
    |outgrown=>exact hq.elim
 obtain⟨x,τ,hle⟩:=h0;intro B hB ds β a w ai h;obtain⟨β2,br,_⟩:=h.le (τ:=τ) (by rw[hB.2.1];exact hle);exact wpIn_loop_rounds (μ x+1) (key _ x (anD _) B hB ds β2 a w ai br)
theorem Y0{X:Type}(I:X->List (Nat×AV))(μ:X->Nat){c:Code}{s:St}{k:List It}{Q:Exit->St->Prop}(hU:cf.U=[])(x0:X)(h0:vR s (I x0))
  (hr:∀x,run P cf [.code c] (lq P cf (fun s'=>∃y,μ y<μ x∧vR s' (I y)) k Q) (mk (I x) [] [])):rH P cf (.loop c) s k Q :=
 IW (fun x=>mk (I x) [] []) μ _ ⟨x0,id,by rw[hU];exact Oo h0⟩ (fun x s' ⟨y,hy,h⟩=>⟨y,hy,id,by rw[hU];exact Oo h⟩) hr
end
attribute [go_sem] vR X5 YZ X6 IL IP Od IQ
end Go.Ab
namespace Go.Ab
end Go.Ab
namespace Go.Ab
section
variable {P:Program}{cf:Cf}
theorem Y1{X:Type}(I:X->List (Nat×AV))(O:X->List (Name×Ob))(u:List Nat)(μ:X->Nat){c:Code}{s:St}{k:List It}{Q:Exit->St->Prop}(x0:X)(h0:cw cf.U id s (I x0) (O x0) u)
  (hr:∀x,run P cf [.code c] (lq P cf (fun s'=>∃y,μ y<μ x∧cw cf.U id s' (I y) (O y) u) k Q) (mk (I x) (O x) u)):rH P cf (.loop c) s k Q :=
 IW (fun x=>mk (I x) (O x) u) μ _ ⟨x0,id,h0.le⟩ (fun _ _ ⟨y,hy,h⟩=>⟨y,hy,id,h.le⟩) hr
end
end Go.Ab

