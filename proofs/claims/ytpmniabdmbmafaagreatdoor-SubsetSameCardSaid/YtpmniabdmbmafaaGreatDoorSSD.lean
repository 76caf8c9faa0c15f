/-
  The generic layer, part 14: 'run' is sound. (with the parts that follow it) (with the parts that follow it)
-/
import Derived.Test.YtpmniabdmbmafaaGreatDoorSSC
import Derived.Test.YtpmniabdmbmafaaGreatDoorSSA
import Derived.OrdersIn
import Derived.LoopNIn
import Derived.Lib.AppendIntMem
import Derived.Attr
import Derived.Below
import Derived.Laws.BytesString
import Derived.Laws.RangeString
set_option linter.all false
set_option maxHeartbeats 16000000
namespace Go.Ab
section
variable {P:Program}{cf:Cf}{ro:Option Nat}
theorem vO:(Fw ro).depth=none:=rfl
theorem aj.sD{B:Base}{β:Name->Option aU}{s:St}{tm:Array Value}{w:World}(h:aj B β s tm w){t:Nat}{x:AV}(hv:VR w.heap (s.own B.A β) s.used s.hp β (tm.getD t undef) x):aj B β (s.put t x) tm w:=by
 refine { h with slots:=fun i=>?_ };show VR w.heap (s.own B.A β) s.used s.hp β _ (eC s.fr t x i);unfold eC;split
 .rename_i e;rw[e];exact hv
 .exact h.slots i
theorem iZ{o:Oper}{a:Act}{w w':World}{nx:Next}{v:Value}(hnd:∀c,o.op≠.defer c)(aK:(execOp a.eval o).run P w=.ok nx w')(bU:nx=.value v∨nx=.skip∧v=undef)
  {next:Act->World->Prop} {Q:Exit->Act->World->Prop} (h:next (a.put o.dst v) w'):o.wpIn (Fw cf.ro) 0 P a w next Q:=by
 refine⟨fun _ _=>trivial,?_⟩;rw[Oper.semAt_eq _ _ _ hnd,aK];rcases bU with rfl|⟨rfl,rfl⟩<;>exact h
theorem vP(Q:Exit->Act->World->Prop):∀(k:List It) (a:Act) (w:World),Q .ret a w->hold P cf Q k .ret a w
 |[],_,_,h=>h
 |.code _::k,a,w,h=>vP Q k a w h
 |.ops _ _::k,a,w,h=>vP Q k a w h
 |.ff _::k,a,w,h=>vP Q k a w h
theorem xO(Q:Exit->Act->World->Prop)(i:Nat):∀(k:List It) (a:Act) (w:World),ml i k=none->Q (.exit i) a w->hold P cf Q k (.exit i) a w
 |[],_,_,_,h=>h
 |.code _::k,a,w,hk,h=>xO Q i k a w hk h
 |.ops _ _::k,a,w,hk,h=>xO Q i k a w hk h
 |.ff j::k,a,w,hk,h=>by
   simp only[ml]at hk;split at hk
   .cases hk
   .rename_i hj;simp only[hold,if_neg (fun e:i=j=>hj e.symm)];exact xO Q i k a w hk h
theorem xP(Q:Exit->Act->World->Prop)(i:Nat):∀(k k':List It) (a:Act) (w:World),ml i k=some k'->hold P cf Q k' .normal a w->hold P cf Q k (.exit i) a w
 |[],_,_,_,hk,_=>by cases hk
 |.code _::k,k',a,w,hk,h=>xP Q i k k' a w hk h
 |.ops _ _::k,k',a,w,hk,h=>xP Q i k k' a w hk h
 |.ff j::k,k',a,w,hk,h=>by
   simp only[ml]at hk;split at hk
   .rename_i hj;cases hk;subst hj;simp only[hold,if_true];exact h
   .rename_i hj;simp only[hold,if_neg (fun e:i=j=>hj e.symm)];exact xP Q i k k' a w hk h
theorem K7(Q:Exit->Act->World->Prop)(c:Code)(k:List It):∀e a w,hold P cf Q (.code c::k) e a w->Exit.then (c.wpIn (Fw cf.ro) 0 P (hold P cf Q k)) (hold P cf Q k) e a w:=by
 intro e a w h;cases e<;>exact h
theorem K8(Q:Exit->Act->World->Prop)(i:Nat)(k:List It):∀e a w,hold P cf Q (.ff i::k) e a w->Exit.inBlock i (hold P cf Q k) e a w:=by
 intro e a w h;cases e<;>exact h
theorem K9{B:Base}{ds:List Deferred}{β:Name->Option aU}{a:Act}{w:World}{s:St}{o:Oper}{all:Array Oper}{r:List Oper}{k:List It}{Q:Exit->St->Prop}(hB:cf.fits B)(ak:a.defers=ds)(h:aj B β s a.tmps w)
  (ih:∀s',run P cf (.ops all r::k) Q s'->tY P cf (.ops all r::k) Q s') {i:Nat} {l:List Nat} (hl:l.map (all[·]?)=r.map some) (hi:all[i]?=some o)
  (hw:Region.wanted o (yielded all a.tmps)=true) {o':Oper} (aM:o'={ o with guard:=none })
  (hr:(cR P.ti cf.n o.op o.dst s).run (fun s'=>run P cf (.ops all r::k) Q s') (fS P cf o s (.ops all r::k) Q)∨(cR P.ti cf.n o.op o.dst s).run (fun s'=>run P cf (.ops all r::k) Q s') (fS P cf o' s (.ops all r::k) Q)) :
  wpOpsIn (Fw cf.ro) 0 P all (hold P cf (lift B ds Q) k) (i::l) a w:=by
 simp only[wpOpsIn,hi,hw,if_true]
 have done:∀a' w',(a'.defers=ds∧∃s' β',tY P cf (.ops all r::k) Q s'∧aj B β' s' a'.tmps w')->wpOpsIn (Fw cf.ro) 0 P all (hold P cf (lift B ds Q) k) l a' w':=by
  rintro a' w' ⟨dB,s',β',hA,hs⟩;exact hA B hB ds β' a' w' dB hs l hl
 have does:Does P B o a w (fun s'=>run P cf (.ops all r::k) Q s')->o.wpIn (Fw cf.ro) 0 P a w (wpOpsIn (Fw cf.ro) 0 P all (hold P cf (lift B ds Q) k) l) (hold P cf (lift B ds Q) k):=by
  rintro⟨nx,v,w',s',β',aK,bU,hf,hs⟩
  have hnd:∀c,o.op≠.defer c:=by
   intro c hc
   have:∃d w2,(execOp a.eval o).run P w=.ok (.defer d) w2∨∃h w2,(execOp a.eval o).run P w=.halt h w2:=by
    simp only[execOp,hc,Sem.run_bind]
    cases (resolve a.eval c o.type).run P w with
    |ok d w2=>exact⟨d,w2,.inl rfl⟩
    |halt hh w2=>exact⟨default,w2,.inr ⟨hh,w2,rfl⟩⟩
   obtain⟨d,w2,h1|⟨hh,w3,h1⟩⟩:=this
   .rw[aK]at h1;cases h1;rcases bU with h2|⟨h2,_⟩<;>cases h2
   .rw[aK]at h1;cases h1
  refine iZ hnd aK bU (done _ _ ⟨?_,s',β',ih s' hf,hs⟩);cases o.dst<;>exact ak
 obtain hr|hr:=hr
 .rw[<-hB.1]at hr;rcases xN h hr with hz|hd
  .exact Oper.wpIn_mono done (hz B hB ds β a w ak h _)
  .exact does hd
 .rw[<-hB.1]at hr;rcases xN h hr with hz|hd
  .subst aM;exact Oper.wpIn_mono done (hz B hB ds β a w ak h (hold P cf (lift B ds Q) k))
  .exact does hd
theorem U2:∀(N:Nat) (k:List It) (Q:Exit->St->Prop) (s:St),jJ k<=N->run P cf k Q s->tY P cf k Q s:=by
 intro N
 induction N with
 |zero =>
   intro k Q s hN hr
   cases k with
   |nil =>
     rw[run]at hr;exact fun B hB ds β a w ak h=>⟨ak,s,β,hr,h⟩
   |cons i k=>simp only[jJ]at hN;have:=i.zA;omega
 |succ N ih =>
   intro k Q s hN hr
   cases k with
   |nil =>
     rw[run]at hr;exact fun B hB ds β a w ak h=>⟨ak,s,β,hr,h⟩
   |cons i k =>
     have go:∀k' s',jJ k'<=N->run P cf k' Q s'->tY P cf k' Q s':=fun k' s' az=>ih k' Q s' az;simp only[jJ]at hN
     cases i with
     |ff i =>
       simp only[It.fN]at hN;rw[run]at hr;exact fun B hB ds β a w ak h=>go k s (by omega) hr B hB ds β a w ak h
     |ops all r =>
       simp only[It.fN]at hN
       cases r with
       |nil =>
         rw[run]at hr;intro B hB ds β a w ak h l hl;have:l=[]:=by simpa using hl
         subst this;exact go k s (by simp at hN;omega) hr B hB ds β a w ak h
       |cons o r =>
         simp only[List.length_cons]at hN;have eD:∀s',run P cf (.ops all r::k) Q s'->tY P cf (.ops all r::k) Q s':=fun s'=>go _ s' (by simp only[jJ,It.fN];omega);intro B hB ds β a w ak h l hl
         cases l with
         |nil=>simp at hl
         |cons i l =>
           simp only[aid,ajc]at hl;obtain⟨hi,hl⟩:=hl;rw[run]at hr
           cases hg:o.guard with
           |none =>
             rw[hg]at hr;exact K9 hB ak h eD hl hi (by simp[Region.wanted,hg]) rfl (.inl hr)
           |some q =>
             obtain⟨j,want⟩:=q;rw[hg]at hr;simp only at hr;split at hr
             .rename_i t b ie
              obtain⟨oj,hj,iJ,js⟩:∃oj,all[j]?=some oj∧oj.dst=some t∧s.fr t=.d (.bool b):=by
               unfold nO at ie;split at ie
               .rename_i oj hj;simp only[ah4,ajM]at ie;obtain⟨t',kD,rfl,hv⟩:=ie;exact⟨oj,hj,kD,hv⟩
               .cases ie
              have hv:=h.slots t;rw[js]at hv;have hb:=hv.bool
              have hlt:t<a.tmps.size:=by
               rcases aiG t a.tmps.size with hlt|cy
               .exact hlt
               .simp[ahY,aiM cy]at hb;cases hb
              have hy:yielded all a.tmps j=some b:=by
               simp[yielded,hj,iJ,aiH hlt];simp[ahY,hlt]at hb;rw[hb]
              by_cases Ct:b=want
              .have bc:aj B β (s.put t (.d (.bool want))) a.tmps w:=h.sD (by rw[<-Ct];exact hv);exact K9 hB ak bc eD hl hi (by simp[Region.wanted,hg,hy,Ct]) rfl (.inr (hr.1 Ct))
              .have uq:b=!want:=by cases b<;>cases want<;>simp_all
               have bc:aj B β (s.put t (.d (.bool (!want)))) a.tmps w:=h.sD (by rw[<-uq];exact hv);have F9:Region.wanted o (yielded all a.tmps)=false:=by simp[Region.wanted,hg,hy,Ct]
               simp only[wpOpsIn,hi,F9,aip,if_false];refine⟨fun _ _=>trivial,?_⟩;rcases zO (hr.2 uq)with hz|⟨hd,hf⟩
               .exact hz.elim
               .refine eD _ hf B hB ds β (a.put o.dst undef) w ?_ (bc.cV (by rw[hB.1];exact hd) (.aA #[] [] rfl (by simp))) l hl;cases o.dst<;>exact ak
             .rename_i t ie
              obtain⟨oj,hj,iJ,js⟩:∃oj,all[j]?=some oj∧oj.dst=some t∧s.fr t=.aA []:=by
               unfold nO at ie;split at ie
               .rename_i oj hj;simp only[ah4,ajM]at ie;obtain⟨t',kD,rfl,hv⟩:=ie;exact⟨oj,hj,kD,hv⟩
               .cases ie
              have hv:=h.slots t;rw[js]at hv
              have hy:yielded all a.tmps j=none:=by
               rcases aiG t a.tmps.size with hlt|cy
               .have hb:a.tmps.getD t undef=.tuple #[]:=by
                 generalize a.tmps.getD t undef=v at hv
                 cases hv with
                 |aA vs _ hs _ =>
                   have:vs=#[]:=ajx hs;rw[this]
                simp[ahY,hlt]at hb;simp[yielded,hj,iJ,aiH hlt,hb]
               .simp[yielded,hj,iJ,aiM cy]
              have F9:Region.wanted o (yielded all a.tmps)=false:=by simp[Region.wanted,hg,hy]
              simp only[wpOpsIn,hi,F9,aip,if_false];refine⟨fun _ _=>trivial,?_⟩;rcases zO hr with hz|⟨hd,hf⟩
              .exact hz.elim
              .refine eD _ hf B hB ds β (a.put o.dst undef) w ?_ (h.cV (by rw[hB.1];exact hd) (.aA #[] [] rfl (by simp))) l hl;cases o.dst<;>exact ak
             .exact hr.elim
     |code c =>
       simp only[It.fN]at hN;have La:=zA c
       cases c with
       |skip =>
         rw[run]at hr;exact fun B hB ds β a w ak h=>wpIn_skip (go k s (by omega) hr B hB ds β a w ak h)
       |region id ops draw =>
         cases draw with
         |false =>
           rw[run]at hr;intro B hB ds β a w ak h;refine wpIn_region ?_;refine go (.ops ops ops.toList::k) s (by simp only[jJ,It.fN,fN]at hN ⊢;omega) hr B hB ds β a w ak h _ ?_;apply aiY;intro j;simp only[aii,aiI];by_cases hj:j<ops.size
           .simp[hj]
           .simp[hj]
         |true=>rw[run]at hr;exact hr
       |seq x y =>
         rw[run]at hr;intro B hB ds β a w ak h;have:=go (.code x::.code y::k) s (by simp only[jJ,It.fN,fN]at hN ⊢;omega) hr B hB ds β a w ak h;exact wpIn_seq (wpIn_mono this (K7 _ y k))
       |cond c x y =>
         rw[run]at hr;intro B hB ds β a w ak h;split at hr
         .rename_i t ht;have hc:=h.ev c;rw[ht]at hc;refine wpIn_cond hc.bool ?_
          cases t with
          |true=>exact go (.code x::k) s (by simp only[jJ,It.fN,fN]at hN ⊢;omega) (hr.1 rfl) B hB ds β a w ak h
          |false=>exact go (.code y::k) s (by simp only[jJ,It.fN,fN]at hN ⊢;omega) (hr.2 rfl) B hB ds β a w ak h
         .exact hr.elim
       |block i x =>
         rw[run]at hr;intro B hB ds β a w ak h;have:=go (.code x::.ff i::k) s (by simp only[jJ,It.fN,fN]at hN ⊢;omega) hr B hB ds β a w ak h;exact wpIn_block (wpIn_mono this (K8 _ i k))
       |exit i =>
         rw[run]at hr;intro B hB ds β a w ak h;refine wpIn_exit ?_;split at hr
         .rename_i k' az;have hle:=zB _ _ _ az;exact xP _ i k k' a w az (go k' s (by omega) hr B hB ds β a w ak h)
         .rename_i az;exact xO _ i k a w az ⟨ak,s,β,hr,h⟩
       |ret =>
         rw[run]at hr;exact fun B hB ds β a w ak h=>wpIn_ret (vP _ k a w ⟨ak,s,β,hr,h⟩)
       |loop c=>rw[run]at hr;exact hr;all_goals simp
       |rangeFunc f p a0s b=>rw[run]at hr;exact hr;all_goals simp
       |scope c=>rw[run]at hr;exact hr;all_goals simp
       |label l=>rw[run]at hr;exact hr;all_goals simp
       |goto l=>rw[run]at hr;exact hr;all_goals simp
       |refuse y=>rw[run]at hr;exact hr;all_goals simp
theorem eT{k:List It}{Q:Exit->St->Prop}{s:St}(h:run P cf k Q s):tY P cf k Q s:=U2 (jJ k) k Q s (ain _) h
end
end Go.Ab
namespace Go.Ab
mutual
def AV.ren(τ:Name->Name):AV->AV
 |.un=>.un
 |.d x=>.d x
 |.vw p o l=>.vw (τ p) o l
 |.bx p c=>.bx (τ p) c
 |.el p i c=>.el (τ p) i c
 |.mp p=>.mp (τ p)
 |.it p=>.it (τ p)
 |.agg cs=>.agg (bZ τ cs)
 |.aA cs=>.aA (bZ τ cs)
 |.aW f cs=>.aW f (bZ τ cs)
 |.va p o l=>.va (τ p) o l
 |.ea p i=>.ea (τ p) i
 |.ma p=>.ma (τ p)
def bZ(τ:Name->Name):List AV->List AV
 |[]=>[]
 |x::r=>x.ren τ::bZ τ r
end
def Ob.ren(τ:Name->Name):Ob->Ob
 |.bu ty w xs=>.bu ty w xs
 |.bz ty cs=>.bz ty (bZ τ cs)
 |.map es=>.map es
 |.pV s i=>.pV s i
 |.pX m c es=>.pX m c es
 |.dZ w xs=>.dZ w (bZ τ xs)
 |.mapA aZ bs es=>.mapA aZ bs (es.map fun q=>(q.1,q.2.ren τ))
def bX(used:List Nat):Name->Bool
 |[]=>false
 |h::_=>used.contains h
mutual
def AV.bn(u:List Nat):AV->Bool
 |.un=>true
 |.d _=>true
 |.vw p _ _=>bX u p
 |.bx p _=>bX u p
 |.el p _ _=>bX u p
 |.mp p=>bX u p
 |.it p=>bX u p
 |.agg cs=>dU u cs
 |.aA cs=>dU u cs
 |.aW _ cs=>dU u cs
 |.va p _ _=>bX u p
 |.ea p _=>bX u p
 |.ma p=>bX u p
def dU(u:List Nat):List AV->Bool
 |[]=>true
 |x::r=>x.bn u&&dU u r
end
def Ob.bn(u:List Nat):Ob->Bool
 |.bz _ cs=>dU u cs
 |.dZ _ xs=>dU u xs
 |.mapA _ _ es=>es.all fun q=>q.2.bn u
 |_=>true
theorem oQ{u:List Nat}{p:Name}(h:bX u p=true):nm u p:=by
 cases p with
 |nil=>cases h
 |cons a t=>exact⟨a,t,rfl,by simpa[bX]using h⟩
theorem kE(τ:Name->Name):∀l:List AV,(bZ τ l).length=l.length
 |[]=>rfl
 |_::r=>by simp[bZ,kE τ r]
theorem mZ(τ:Name->Name):∀(l:List AV) (i:Nat),(bZ τ l)[i]?=(l[i]?).map (AV.ren τ)
 |[],i=>by simp[bZ]
 |x::r,0=>by simp[bZ]
 |x::r,i+1=>by simp[bZ,mZ τ r i]
theorem ur{u:List Nat}:∀{l:List AV},dU u l=true->∀(i:Nat) (x:AV),l[i]?=some x->x.bn u=true
 |[],_,i,x,h=>by simp at h
 |y::r,h,0,x,hx=>by simp[dU]at h hx;subst hx;exact h.1
 |y::r,h,i+1,x,hx=>by simp only[dU,aia]at h;exact ur h.2 i x (by simpa using hx)
section
variable {H:Array Obj}{own own':Nat->Prop}{used kU:List Nat}{hp ae:Name->Option Ob}{β β':Name->Option aU}
theorem VR.ren{τ:Name->Name}(hr:∀v d,au H own v d->au H own' v d)(db:∀p o,ae p=some o->hp (τ p)=some (o.ren τ)∧β' p=β (τ p)) :
  ∀{v:Value} {y:AV},VR H own used hp β v y->∀x:AV,y=x.ren τ->x.bn kU=true->VR H own' kU ae β' v x:=by
 intro v y h
 induction h with
 |un v=>intro x e hu;cases x<;>simp[AV.ren]at e;exact .un v
 |d v z h=>intro x e hu;cases x<;>simp[AV.ren]at e;subst e;exact .d v _ (hr v _ h)
 |vw v p off len hn h1 h =>
   intro x e hu;cases x<;>simp[AV.ren]at e;obtain⟨rfl,rfl,rfl⟩:=e;refine .vw v _ _ _ (oQ hu) h1 fun ty w xs hx=>?_;obtain⟨ho,hb⟩:=db _ _ hx;rw[hb];exact h _ w xs ho
 |bx v p c hn h1 h =>
   intro x e hu;cases x<;>simp[AV.ren]at e;obtain⟨rfl,rfl⟩:=e;refine .bx v _ _ (oQ hu) h1 fun ty cs hx=>?_;obtain⟨ho,hb⟩:=db _ _ hx;rw[hb];exact h _ _ ho
 |el v p i c hn h1 h =>
   intro x e hu;cases x<;>simp[AV.ren]at e;obtain⟨rfl,rfl,rfl⟩:=e;refine .el v _ _ _ (oQ hu) h1 fun ty w xs hx=>?_;obtain⟨ho,hb⟩:=db _ _ hx;rw[hb];exact h _ w xs ho
 |mp v p hn h1 h =>
   intro x e hu;cases x<;>simp[AV.ren]at e;subst e;refine .mp v _ (oQ hu) h1 fun es hx=>?_;obtain⟨ho,hb⟩:=db _ _ hx;rw[hb];exact h _ ho
 |its v p hn h1 h h' =>
   intro x e hu;cases x<;>simp[AV.ren]at e;subst e;refine .its v _ (oQ hu) h1 (fun s i hx=>?_) (fun m c i hx=>?_)
   .obtain⟨ho,hb⟩:=db _ _ hx;rw[hb];exact h _ _ ho
   .obtain⟨ho,hb⟩:=db _ _ hx;rw[hb];exact h' _ _ _ ho
 |va v p off len hn h1 h =>
   intro x e hu;cases x<;>simp[AV.ren]at e;obtain⟨rfl,rfl,rfl⟩:=e;refine .va v _ _ _ (oQ hu) h1 fun w xs hx=>?_;obtain⟨ho,hb⟩:=db _ _ hx;rw[hb];have:=h _ _ ho;rw[kE]at this;exact this
 |ea v p i hn h1 h =>
   intro x e hu;cases x<;>simp[AV.ren]at e;obtain⟨rfl,rfl⟩:=e;refine .ea v _ _ (oQ hu) h1 fun w xs hx=>?_;obtain⟨ho,hb⟩:=db _ _ hx;rw[hb];have:=h _ _ ho;rw[kE]at this;exact this
 |ma v p hn h1 h =>
   intro x e hu;cases x<;>simp[AV.ren]at e;subst e;refine .ma v _ (oQ hu) h1 fun aZ bs es hx=>?_;obtain⟨ho,hb⟩:=db _ _ hx;rw[hb];exact h _ _ _ ho
 |agg vs cs hs hc h0 ih =>
   intro x e hu;cases x<;>simp[AV.ren]at e;subst e;rename_i ds;refine .agg vs ds (by rw[hs,kE]) hc fun i x hi=>ih i _ (by rw[mZ,hi];rfl) x rfl (ur hu i x hi)
 |aA vs cs hs h0 ih =>
   intro x e hu;cases x<;>simp[AV.ren]at e;subst e;rename_i ds;refine .aA vs ds (by rw[hs,kE]) fun i x hi=>ih i _ (by rw[mZ,hi];rfl) x rfl (ur hu i x hi)
 |aW f vs cs hs h0 ih =>
   intro x e hu;cases x<;>simp[AV.ren]at e;obtain⟨rfl,rfl⟩:=e;rename_i ds;refine .aW _ vs ds (by rw[hs,kE]) fun i x hi=>ih i _ (by rw[mZ,hi];rfl) x rfl (ur hu i x hi)
theorem OR.ren{τ:Name->Name}(hr:∀v d,au H own v d->au H own' v d)(db:∀p o,ae p=some o->hp (τ p)=some (o.ren τ)∧β' p=β (τ p)){p:Name}{o:Ob}(hb:β' p=β (τ p))(hu:o.bn kU=true)
  (h:OR H own used hp β (τ p) (o.ren τ)):OR H own' kU ae β' p o:=by
 cases o with
 |bu ty w xs =>
   obtain⟨h1,h2⟩|⟨k,c,e,hk,hc,hz,hl,hw,h⟩:=h
   .exact .inl ⟨hb.trans h1,h2⟩
   .exact .inr ⟨k,c,e,hb.trans hk,hc,hz,hl,hw,fun i x j d hi hj=>hr _ _ (h i x j d hi hj)⟩
 |bz ty cs =>
   obtain⟨k,c,e,hk,ho,hc,hz,hl,h1,h⟩:=h;refine⟨k,c,e,hb.trans hk,ho,hc,hz,by rw[hl,kE],h1,fun j x hj=>?_⟩;exact(h j (x.ren τ) (by rw[mZ,hj];rfl)).ren hr db x rfl (ur hu j x hj)
 |map es =>
   obtain⟨k,aS,clock,hk,hc,hz,h⟩:=h;refine⟨k,aS,clock,hb.trans hk,hc,hz,fun i x hi=>?_⟩;obtain⟨en,h1,h2,h3⟩:=h i x hi;exact⟨en,h1,hr _ _ h2,hr _ _ h3⟩
 |pV s pos =>
   obtain⟨k,hk,hc⟩:=h;exact⟨k,hb.trans hk,hc⟩
 |pX _ _ _ =>
   obtain⟨k,b,since,seen,last,hk,hc,hm,hi⟩:=h;exact⟨k,b,since,seen,last,hb.trans hk,hc,hr _ _ hm,hi⟩
 |dZ w xs =>
   obtain⟨h1,h2⟩|⟨k,c,e,hk,hc,hz,hl,hw,h⟩:=h
   .refine .inl ⟨hb.trans h1,?_⟩
    cases xs with
    |nil=>rfl
    |cons x r=>simp[bZ]at h2
   .rw[kE]at hl hw;exact .inr ⟨k,c,e,hb.trans hk,hc,hz,hl,hw,fun i x hi=>(h i (x.ren τ) (by rw[mZ,hi];rfl)).ren hr db x rfl (ur hu i x hi)⟩
 |mapA aZ bs es =>
   obtain⟨k,aS,hk,hc,hz,h⟩:=h;rw[aik]at hz;refine⟨k,aS,hb.trans hk,hc,hz,fun i x hi=>?_⟩;obtain⟨en,h1,h2,h3⟩:=h i (x.1,x.2.ren τ) (by rw[aii,hi];rfl);exact⟨en,h1,hr _ _ h2,h3.ren hr db x.2 rfl (aio.1 hu x (aiz hi))⟩
end
structure Le(U:List Nat)(τ:Name->Name)(s s2:St):Prop where
 fr:∀t,s2.fr t=.un∨s.fr t=(s2.fr t).ren τ∧(s2.fr t).bn s2.used=true
 hp:∀p o,s2.hp p=some o->s.hp (τ p)=some (o.ren τ)∧o.bn s2.used=true∧nm s2.used p
 inj:∀p q,s2.hp p≠none->s2.hp q≠none->τ p=τ q->p=q
 us:∀x∈U,x∈s2.used
 stay:∀p,nm U p->s2.hp p≠none->τ p=p
theorem aj.le{B:Base}{β:Name->Option aU}{s s2:St}{tm:Array Value}{w:World}{τ:Name->Name}(h:aj B β s tm w)(hle:Le B.U0 τ s s2):∃β2,aj B β2 s2 tm w∧∀p,s2.hp p≠none->β2 p=β (τ p):=by
 have key:∃β2:Name->Option aU,(∀p,s2.hp p≠none->β2 p=β (τ p))∧∀p,s2.hp p=none->β2 p=β p:=by
  refine⟨fun p=>if(s2.hp p).isSome then β (τ p)else β p,fun p hp=>?_,fun p hp=>?_⟩
  .cases h:s2.hp p with
   |none=>exact absurd h hp
   |some o=>simp[h]
  .simp[hp]
 obtain⟨β2,hb,fg⟩:=key;have db:∀p o,s2.hp p=some o->s.hp (τ p)=some (o.ren τ)∧β2 p=β (τ p):=fun p o hp=>⟨(hle.hp p o hp).1,hb p (by rw[hp];simp)⟩
 have dS:∀b,s2.own B.A β2 b->s.own B.A β b:=by
  rintro b (hA|⟨p,k,hp,hk,rfl⟩)
  .exact .inl hA
  .cases ho:s2.hp p with
   |none=>exact absurd ho hp
   |some o =>
     obtain⟨h1,h2⟩:=db p o ho;exact .inr ⟨τ p,k,by rw[h1];simp,by rw[<-h2];exact hk,rfl⟩
 have hr:∀v d,au w.heap (s.own B.A β) v d->au w.heap (s2.own B.A β2) v d:=fun v d hd=>hd.mono (fun _ _ _=>rfl) (fun b _=>dS b);refine⟨β2,{ bE:=h.bE,io:=h.io,size:=h.size,frame:=h.frame,slots:=fun i=>?_,aO:=fun p o hp=>?_,blocks:=fun p k hp hk=>?_,inj:=fun p q k l hp hq hk hl e=>?_,us:=hle.us,stay:=fun p hp=>?_ },hb⟩
 .rcases hle.fr i with e|⟨e,hu⟩
  .rw[e];exact .un _
  .exact(h.slots i).ren hr db _ e hu
 .obtain⟨h1,h2,h3⟩:=hle.hp p o hp;exact⟨h3,OR.ren hr db (hb p (by rw[hp];simp)) h2 (h.aO _ _ h1).2⟩
 .rw[hb p hp]at hk
  cases ho:s2.hp p with
  |none=>exact absurd ho hp
  |some o=>exact h.blocks (τ p) k (by rw[(hle.hp p o ho).1];simp) hk
 .rw[hb p hp]at hk;rw[hb q hq]at hl
  have live:∀p,s2.hp p≠none->s.hp (τ p)≠none:=fun p hp=>by
   cases ho:s2.hp p with
   |none=>exact absurd ho hp
   |some o=>rw[(hle.hp p o ho).1];simp
  exact hle.inj p q hp hq (h.inj _ _ k l (live p hp) (live q hq) hk hl e)
 .cases ho:s2.hp p with
  |none=>rw[fg p ho];exact h.stay p hp
  |some o =>
    have kx:s2.hp p≠none:=by rw[ho];simp
    rw[hb p kx,hle.stay p hp kx];exact h.stay p hp
def ar(l:List (Name×Name))(p:Name):Name:=aE p l p
def my(τ:Name->Name)(u:List Nat)(s:St):List (Nat×AV)->Prop
 |[]=>True
 |q::r=>(s.fr q.1=q.2.ren τ∧q.2.bn u=true)∧my τ u s r
def nV(τ:Name->Name)(u:List Nat)(s:St):List (Name×Ob)->Prop
 |[]=>True
 |q::r=>(s.hp (τ q.1)=some (q.2.ren τ)∧q.2.bn u=true∧bX u q.1=true)∧nV τ u s r
def nW(τ:Name->Name):List (Name×Ob)->Prop
 |[]=>True
 |q::r=>(∀x∈r,τ q.1≠τ x.1)∧nW τ r
def qb(U:List Nat)(τ:Name->Name):List (Name×Ob)->Prop
 |[]=>True
 |q::r=>(bX U q.1=true->τ q.1=q.1)∧qb U τ r
def cF(U:List Nat)(τ:Name->Name)(s:St)(fr:List (Nat×AV))(hp:List (Name×Ob))(u:List Nat):Prop :=
 my τ u s fr∧nV τ u s hp∧nW τ hp∧(U.all fun x=>u.contains x)=true∧qb U τ hp
theorem Cu{α β:Type}[DecidableEq α]{z:β}:∀{l:List (α×β)} {i:α},aE z l i=z∨(i,aE z l i)∈l
 |[],i=>.inl rfl
 |q::r,i=>by
   simp only[aE];split
   .rename_i e;subst e;exact .inr ah0
   .rcases Cu (z:=z) (l:=r) (i:=i)with h|h
    .exact .inl h
    .exact .inr (ah8 _ h)
theorem Lb{τ:Name->Name}{u:List Nat}{s:St}:∀{l:List (Nat×AV)},my τ u s l->∀q∈l,s.fr q.1=q.2.ren τ∧q.2.bn u=true
 |[],_,q,h=>by simp at h
 |_::r,h,q,hq=>by
   rcases ah6.1 hq with rfl|hq
   .exact h.1
   .exact Lb h.2 q hq
theorem Lc{τ:Name->Name}{u:List Nat}{s:St}:∀{l:List (Name×Ob)},nV τ u s l->∀q∈l,s.hp (τ q.1)=some (q.2.ren τ)∧q.2.bn u=true∧bX u q.1=true
 |[],_,q,h=>by simp at h
 |_::r,h,q,hq=>by
   rcases ah6.1 hq with rfl|hq
   .exact h.1
   .exact Lc h.2 q hq
theorem zS{τ:Name->Name}:∀{l:List (Name×Ob)},nW τ l->∀q∈l,∀r∈l,τ q.1=τ r.1->q.1=r.1
 |[],_,q,h,_,_,_=>by simp at h
 |a::l,h,q,hq,r,hr,e=>by
   rcases ah6.1 hq with h1|h1<;>rcases ah6.1 hr with h2|h2
   .rw[h1,h2]
   .rw[h1]at e;exact absurd e (h.1 r h2)
   .rw[h2]at e;exact absurd e.symm (h.1 q h1)
   .exact zS h.2 q h1 r h2 e
theorem Ld{U:List Nat}{τ:Name->Name}:∀{l:List (Name×Ob)},qb U τ l->∀q∈l,bX U q.1=true->τ q.1=q.1
 |[],_,q,h,_=>by simp at h
 |_::r,h,q,hq,hn=>by
   rcases ah6.1 hq with rfl|hq
   .exact h.1 hn
   .exact Ld h.2 q hq hn
theorem zT{fr:List (Nat×AV)}{hp:List (Name×Ob)}{u:List Nat}{p:Name}{o:Ob}(h:(mk fr hp u).hp p=some o):(p,o)∈hp:=by
 have:=Cu (z:=(none:Option Ob)) (l:=hp.map fun q=>(q.1,some q.2)) (i:=p);have e:aE none (hp.map fun q=>(q.1,some q.2)) p=some o:=h;rw[e]at this;obtain h|h:=this
 .cases h
 .obtain⟨q,hq,e⟩:=ah9.1 h;cases e;exact hq
theorem cF.le{U:List Nat}{τ:Name->Name}{s:St}{fr:List (Nat×AV)}{hp:List (Name×Ob)}{u:List Nat}(h:cF U τ s fr hp u):Le U τ s (mk fr hp u):=by
 obtain⟨h1,h2,h3,h4,h5⟩:=h
 have live:∀p,(mk fr hp u).hp p≠none->∃o,(p,o)∈hp:=fun p ae=>by
  cases ho:(mk fr hp u).hp p with
  |none=>exact absurd ho ae
  |some o=>exact⟨o,zT ho⟩
 refine⟨fun t=>?_,fun p o ae=>?_,fun p q ae cg e=>?_,fun x hx=>?_,fun p ae hl=>?_⟩
 .rcases Cu (z:=AV.un) (l:=fr) (i:=t)with e|hm
  .exact .inl e
  .exact .inr (Lb h1 _ hm)
 .obtain⟨a,b,c⟩:=Lc h2 _ (zT ae);exact⟨a,b,oQ c⟩
 .obtain⟨o,ho⟩:=live p ae;obtain⟨o',aM⟩:=live q cg;exact zS h3 _ ho _ aM e
 .have:=aio.1 h4 x hx;show x∈u;simpa using this
 .obtain⟨o,ho⟩:=live p hl;refine Ld h5 _ ho ?_;obtain⟨a,t,rfl,ha⟩:=ae;simpa[bX]using ha
section
variable {P:Program}{cf:Cf}
def lq(P:Program)(cf:Cf)(next:St->Prop)(k:List It)(Q:Exit->St->Prop)(e:Exit)(s:St):Prop :=
 match e with
 |.normal=>next s
 |.exit i=>xD P cf (ml i k) i Q s
 |.ret=>Q .ret s
 |_=>False
theorem U3(next:St->Prop)(k:List It)(Q:Exit->St->Prop)(s:St):lq P cf next k Q .normal s=next s:=rfl
theorem U4(next:St->Prop)(k:List It)(Q:Exit->St->Prop)(s:St):lq P cf next k Q .ret s=Q .ret s:=rfl
theorem fS.le{o:Oper}{s s2:St}{k:List It}{Q:Exit->St->Prop}{τ:Name->Name}(hle:Le cf.U τ s s2)(h:fS P cf o s2 k Q):fS P cf o s k Q :=
 fun B hB ds β a w ak hs Q'=>let ⟨β2,br,_⟩:=hs.le (τ:=τ) (by rw[hB.2.1];exact hle);h B hB ds β2 a w ak br Q'
end
end Go.Ab
namespace Go.Ab
def dM:Nat->List AV->List (Nat×AV)
 |_,[]=>[]
 |i,x::r=>(i,x)::dM (i+1) r
def bA(P:Program)(G:List (Nat×Obj))(f:FuncId)(args:List AV)(hp:List (Name×Ob))(u:List Nat)(Q:AV->List (Name×Ob)->Prop):Prop :=
 (∀vs w,(callFunc f vs).run P w=.ok (.enter f vs) w) ∧
 ∀(B:Base) (β:Name->Option aU) (vs:Array Value) (w:World),B.n=args.length->B.H0=w.heap->B.U0=u->B.G=G->aj B β (mk (dM 0 args) hp u) vs w ->
  CallsIn Fence.wide 0 P f vs w fun e w'=>∃v r ae u' β',e=.returned v∧Q r ae∧aj { B with n:=1 } β' (mk [(0,r)] ae u') #[v] w'
theorem bA.mono{P:Program}{G:List (Nat×Obj)}{f:FuncId}{args:List AV}{hp:List (Name×Ob)}{u:List Nat}{Q Q':AV->List (Name×Ob)->Prop}(h:bA P G f args hp u Q)(hq:∀r ae,Q r ae->Q' r ae):bA P G f args hp u Q' :=
 ⟨h.1,fun B β vs w h1 h2 h3 h4 h5=>(h.2 B β vs w h1 h2 h3 h4 h5).mono fun _ _ ⟨v,r,ae,u',β',he,hQ,hs⟩=>⟨v,r,ae,u',β',he,hq _ _ hQ,hs⟩⟩
theorem qc:∀(l:List AV) (i t:Nat),aE AV.un (dM i l) t=if i<=t then(l[t-i]?).getD .un else .un
 |[],i,t=>by simp[dM,aE]
 |x::r,i,t=>by
   simp only[dM,aE,qc r (i+1) t];by_cases h1:t=i
   .subst h1;simp
   .rw[if_neg h1];by_cases h2:i+1<=t
    .rw[if_pos h2,if_pos (by omega),show t-i=(t-(i+1))+1 by omega,List.getElem?_cons_succ]
    .rw[if_neg h2,if_neg (by omega)]
def jY(P:Program)(s:St):List ResultVar->R (List AV)
 |[]=>.ok []
 |.tmp t::r=>(jY P s r).bind fun l=>.ok (s.fr t::l)
 |.cell p ty::r=>(qV (P.ti ty) s.hp (s.fr p)).bind fun x=>(jY P s r).bind fun l=>.ok (x::l)
def eK:List AV->AV
 |[x]=>x
 |l=>.aA l
def RX{α:Type}:R α->(α->Prop)->Prop
 |.ok a,φ=>φ a
 |.need p r,φ=>p∧RX r φ
 |.no,_=>False
def oR(s:St)(x:AV):St:={ s with fr:=fun t=>if t=0 then x else .un }
def fq(P:Program)(rs:List ResultVar)(u:List Nat)(Q:AV->List (Name×Ob)->Prop)(e:Exit)(s:St):Prop :=
 match e with
 |.ret=>RX (jY P s rs) fun l=>∃r ae u' τ,Q r ae∧cF u τ (oR s (eK l)) [(0,r)] ae u'
 |.normal=>RX (jY P s rs) fun l=>∃r ae u' τ,Q r ae∧cF u τ (oR s (eK l)) [(0,r)] ae u'
 |_=>False
section
variable {P:Program}
def xQ(tm:Array Value):ResultVar->Sem Value
 |.tmp t=>pure (tm.getD t undef)
 |.cell a t=>do loadVar t (<-asAddr (tm.getD a undef))
theorem RX.RV{α:Type}{φ ψ:α->Prop}:∀{r:R α},RX r φ->RV r ψ->∃a,φ a∧ψ a
 |.ok a,h,g=>⟨a,h,g⟩
 |.need _ _,h,g=>RX.RV h.2 (g h.1)
 |.no,h,_=>h.elim
theorem Ga{B:Base}{β:Name->Option aU}{s:St}{tm:Array Value}{w:World}(h:aj B β s tm w):∀(rs:List ResultVar),
  RV (jY P s rs) fun l=>∃vs:List Value,(rs.mapM (xQ tm)).run P w=.ok vs w∧vs.length=l.length ∧
   ∀(i:Nat) x,l[i]?=some x->VR w.heap (s.own B.A β) s.used s.hp β (vs.getD i undef) x
 |[]=>⟨[],by simp,rfl,by simp⟩
 |.tmp t::r=>RV.bind (fun l ⟨vs,h1,h2,h3⟩=>⟨tm.getD t undef::vs,by simp[akA,xQ,h1],by simp[h2],fun i x hi=>by
  cases i with
  |zero=>simp at hi;subst hi;exact h.slots t
  |succ i=>simpa using h3 i x (by simpa using hi)⟩) (Ga h r)
 |.cell p ty::r=>RV.bind (fun y ⟨v,hv,hy⟩=>RV.bind (fun l ⟨vs,h1,h2,h3⟩=>⟨v::vs,by
  have:(xQ tm (.cell p ty)).run P w=.ok v w:=by
   show(do loadVar ty (<-asAddr (tm.getD p undef)):Sem Value).run P w=.ok v w
   cases hp:tm.getD p undef with
   |pointer a =>
     cases a with
     |none=>rw[hp]at hv;simp[Instr.loadAt,Instr.sureAddr]at hv
     |some a=>rw[hp]at hv;simpa only[Instr.loadAt,Instr.sureAddr,asAddr,Sem.run_bind,Sem.run_pure,Result.andThen_ok]using hv
   |_=>rw[hp]at hv;simp[Instr.loadAt,Instr.sureAddr]at hv
  simp[akA,this,h1],by simp[h2],fun i x hi=>by
  cases i with
  |zero=>simp at hi;subst hi;exact hy
  |succ i=>simpa using h3 i x (by simpa using hi)⟩) (Ga h r)) (KL (P:=P) (t:=ty) h (h.slots p))
theorem Gb{B:Base}{β:Name->Option aU}{s:St}{tm:Array Value}{w:World}(h:aj B β s tm w)(fn:Func){φ:List AV->Prop}(hr:RX (jY P s fn.results.toList) φ) :
  ∃l v,φ l∧(results fn tm).run P w=.ok v w∧VR w.heap (s.own B.A β) s.used s.hp β v (eK l):=by
 obtain⟨l,hφ,vs,h1,h2,h3⟩:=RX.RV hr (Ga (P:=P) h fn.results.toList);refine⟨l,(if vs.length=1 then vs.getD 0 undef else .tuple vs.toArray),hφ,?_,?_⟩
 .have hm:(fn.results.mapM (xQ tm)).run P w=.ok vs.toArray w:=by
   rw[Array.mapM_eq_mapM_toList];simp only[Sem.run_map,h1,Result.andThen_ok]
  have e:results fn tm=(do let vs <-fn.results.mapM (xQ tm);pure (if h:vs.size=1 then vs[0]else .tuple vs)):=by
   unfold results
   have:(fun x:ResultVar=>match x with | .tmp t=>(pure (tm.getD t undef):Sem Value) | .cell a t=>do loadVar t (<-asAddr (tm.getD a undef)))=xQ tm:=by
    funext x;cases x<;>rfl
   rw[<-this];rfl
  rw[e,Sem.run_bind,hm];simp only[Result.andThen_ok,Sem.run_pure,ajK];by_cases hl:vs.length=1
  .match vs,hl with
   |[v],_=>simp
  .rw[if_neg hl];simp[hl]
 .match l,h2,h3 with
  |[x],h2,h3 =>
    simp only[List.length_cons,List.length_nil]at h2;rw[if_pos h2];exact h3 0 x rfl
  |[],h2,h3 =>
    rw[if_neg (by rw[h2];simp)];exact .aA _ _ (by simpa using h2) (fun i x hi=>by simp at hi)
  |x::y::r,h2,h3 =>
    rw[if_neg (by rw[h2];simp)];refine .aA _ _ (by simpa using h2) (fun i z hi=>?_);have:=h3 i z hi;simpa[ahY,ahX]using this
theorem Lg{G:List (Nat×Obj)}{f:FuncId}{fn:Func}{c:Code}{args:List AV}{hp:List (Name×Ob)}{u:List Nat}{Q:AV->List (Name×Ob)->Prop}(hf:P.funcs[f]?=some fn)(hb:fn.body=some c)
  (he:∀vs w,(callFunc f vs).run P w=.ok (.enter f vs) w) (hn:args.length<=fn.ntmps)
  {Q0:Exit->St->Prop} (U5:∀e s,Q0 e s->fq P fn.results.toList u Q e s)
  (h:run P ⟨fn.ntmps,none,G,u⟩ [.code c] Q0 (mk (dM 0 args) hp u)):bA P G f args hp u Q:=by
 refine⟨he,fun B β vs w h1 h2 h3 h4 hs=>?_⟩;have bh:vs.size=args.length:=hs.bE.trans h1
 have bc:aj { B with n:=fn.ntmps } β (mk (dM 0 args) hp u) (vs++Array.replicate (fn.ntmps-vs.size) undef) w:=by
  refine { hs with bE:=by simp;omega,slots:=fun t=>?_ };have:=hs.slots t;by_cases ht:t<vs.size
  .have e:(vs++Array.replicate (fn.ntmps-vs.size) undef).getD t undef=vs.getD t undef:=by
    simp[ahY,aiN,ht]
   rw[e];exact this
  .have e:(mk (dM 0 args) hp u).fr t=.un:=by
    rw[kV,qc,if_pos (aie _),aiE (by omega)];rfl
   rw[e];exact .un _
 have aK:=eT h { B with n:=fn.ntmps } ⟨rfl,h3,h4⟩ [] β { tmps:=vs++Array.replicate (fn.ntmps-vs.size) undef,defers:=[] } w rfl bc;refine callsIn_of_wp hf hb trivial (wpIn_mono (F:=Fence.wide) aK fun e a' w' hq=>?_);obtain⟨hd,s',β',hq,bm⟩:=hq;have hq:=U5 _ _ hq
 have fin:RX (jY P s' fn.results.toList) (fun l=>∃r ae u' τ,Q r ae∧cF u τ (oR s' (eK l)) [(0,r)] ae u') ->
   a'.defers=[]∧∃v,(results fn a'.tmps).run P w'=.ok v w'∧∃v' r ae u' β',Ending.returned v=.returned v'∧Q r ae∧aj { B with n:=1 } β' (mk [(0,r)] ae u') #[v'] w':=by
  intro hx;obtain⟨l,v,⟨r,ae,u',τ,hQ,hle⟩,hr,hv⟩:=Gb bm fn hx
  have Gc:aj { B with n:=1 } β' (oR s' (eK l)) #[v] w':=by
   refine { bE:=rfl,io:=bm.io,size:=bm.size,frame:=bm.frame,slots:=fun t=>?_,aO:=bm.aO,blocks:=bm.blocks,inj:=bm.inj,us:=bm.us,stay:=bm.stay };show VR w'.heap (s'.own B.A β') s'.used s'.hp β' _ (if t=0 then eK l else .un);by_cases ht:t=0
   .subst ht;rw[if_pos rfl];exact hv
   .rw[if_neg ht];exact .un _
  obtain⟨β2,br,_⟩:=Gc.le (τ:=τ) (by show Le B.U0 τ _ _;rw[h3];exact hle.le);exact⟨hd,v,hr,v,r,ae,u',β2,rfl,hQ,br⟩
 cases e with
 |normal=>exact fin hq
 |ret=>exact fin hq
 |exit i=>exact hq.elim
 |goto l=>exact hq.elim
 |panic c=>exact hq.elim
 |outgrown=>exact hq.elim
def fj(σ:Name->Name)(d:Nat)(chp:List (Name×Ob))(p:Name):Name:=if chp.any (fun q=>q.1 == p)then σ p else d::p
def ja(s:St)(σ:Name->Name)(d:Nat)(chp ae:List (Name×Ob))(r:AV):St :=
 { fr:=eC s.fr d (r.ren (fj σ d chp)),used:=d::s.used, hp:=fun q=>aE (aE (s.hp q) (chp.map fun x=>(σ x.1,none)) q) (ae.map fun x=>(fj σ d chp x.1,some (x.2.ren (fj σ d chp)))) q }
theorem VR.xR{H:Array Obj}{own own':Nat->Prop}{used kU:List Nat}{hp ae:Name->Option Ob}{β β':Name->Option aU}{σ:Name->Name}(hr:∀v d,au H own v d->au H own' v d)
  (hu:∀p,nm used p->nm kU (σ p)) (db:∀p,nm used p->∀o',ae (σ p)=some o'->∃o,hp p=some o∧o'=o.ren σ∧β' (σ p)=β p) :
  ∀{v:Value} {x:AV},VR H own used hp β v x->VR H own' kU ae β' v (x.ren σ):=by
 intro v x h
 induction h with
 |un v=>exact .un v
 |d v z h=>exact .d v _ (hr v _ h)
 |vw v p off len hn h1 h =>
   refine .vw v _ _ _ (hu p hn) h1 fun ty w xs hx=>?_;obtain⟨o,ho,e,hb⟩:=db p hn _ hx;cases o<;>simp[Ob.ren]at e;obtain⟨rfl,rfl,rfl⟩:=e;rw[hb];exact h _ _ _ ho
 |bx v p c hn h1 h =>
   refine .bx v _ _ (hu p hn) h1 fun ty cs hx=>?_;obtain⟨o,ho,e,hb⟩:=db p hn _ hx;cases o<;>simp[Ob.ren]at e;rw[hb];exact h _ _ ho
 |el v p i c hn h1 h =>
   refine .el v _ _ _ (hu p hn) h1 fun ty w xs hx=>?_;obtain⟨o,ho,e,hb⟩:=db p hn _ hx;cases o<;>simp[Ob.ren]at e;obtain⟨rfl,rfl,rfl⟩:=e;rw[hb];exact h _ _ _ ho
 |mp v p hn h1 h =>
   refine .mp v _ (hu p hn) h1 fun es hx=>?_;obtain⟨o,ho,e,hb⟩:=db p hn _ hx;cases o<;>simp[Ob.ren]at e;rw[hb];exact h _ ho
 |its v p hn h1 h h' =>
   refine .its v _ (hu p hn) h1 (fun s i hx=>?_) (fun m c i hx=>?_)
   .obtain⟨o,ho,e,hb⟩:=db p hn _ hx;cases o<;>simp[Ob.ren]at e;rw[hb];exact h _ _ ho
   .obtain⟨o,ho,e,hb⟩:=db p hn _ hx;cases o<;>simp[Ob.ren]at e;rw[hb];exact h' _ _ _ ho
 |va v p off len hn h1 h =>
   refine .va v _ _ _ (hu p hn) h1 fun w xs hx=>?_;obtain⟨o,ho,e,hb⟩:=db p hn _ hx;cases o<;>simp[Ob.ren]at e;obtain⟨rfl,rfl⟩:=e;rw[hb,kE];exact h _ _ ho
 |ea v p i hn h1 h =>
   refine .ea v _ _ (hu p hn) h1 fun w xs hx=>?_;obtain⟨o,ho,e,hb⟩:=db p hn _ hx;cases o<;>simp[Ob.ren]at e;obtain⟨rfl,rfl⟩:=e;rw[hb,kE];exact h _ _ ho
 |ma v p hn h1 h =>
   refine .ma v _ (hu p hn) h1 fun aZ bs es hx=>?_;obtain⟨o,ho,e,hb⟩:=db p hn _ hx;cases o<;>simp[Ob.ren]at e;rw[hb];exact h _ _ _ ho
 |agg vs cs hs hc h0 ih => 
   refine .agg vs _ (by rw[hs,kE]) hc fun i x hi=>?_;rw[mZ,ah4]at hi;obtain⟨y,hy,rfl⟩:=hi;exact ih i y hy
 |aA vs cs hs h0 ih => 
   refine .aA vs _ (by rw[hs,kE]) fun i x hi=>?_;rw[mZ,ah4]at hi;obtain⟨y,hy,rfl⟩:=hi;exact ih i y hy
 |aW f vs cs hs h0 ih => 
   refine .aW f vs _ (by rw[hs,kE]) fun i x hi=>?_;rw[mZ,ah4]at hi;obtain⟨y,hy,rfl⟩:=hi;exact ih i y hy
theorem OR.xR{H:Array Obj}{own own':Nat->Prop}{used kU:List Nat}{hp ae:Name->Option Ob}{β β':Name->Option aU}{σ:Name->Name}(hr:∀v d,au H own v d->au H own' v d)
  (hu:∀p,nm used p->nm kU (σ p)) (db:∀p,nm used p->∀o',ae (σ p)=some o'->∃o,hp p=some o∧o'=o.ren σ∧β' (σ p)=β p) {p:Name} {o:Ob} (hb:β' (σ p)=β p) (h:OR H own used hp β p o) :
  OR H own' kU ae β' (σ p) (o.ren σ):=by
 cases o with
 |bu ty w xs =>
   obtain⟨h1,h2⟩|⟨k,c,e,hk,hc,hz,hl,hw,h⟩:=h
   .exact .inl ⟨hb.trans h1,h2⟩
   .exact .inr ⟨k,c,e,hb.trans hk,hc,hz,hl,hw,fun i x j d hi hj=>hr _ _ (h i x j d hi hj)⟩
 |bz ty cs =>
   obtain⟨k,c,e,hk,ho,hc,hz,hl,h1,h⟩:=h;refine⟨k,c,e,hb.trans hk,ho,hc,hz,by rw[hl,kE],h1,fun j x hj=>?_⟩;rw[mZ,ah4]at hj;obtain⟨y,hy,rfl⟩:=hj;exact(h j y hy).xR hr hu db
 |map es =>
   obtain⟨k,aS,clock,hk,hc,hz,h⟩:=h;refine⟨k,aS,clock,hb.trans hk,hc,hz,fun i x hi=>?_⟩;obtain⟨en,h1,h2,h3⟩:=h i x hi;exact⟨en,h1,hr _ _ h2,hr _ _ h3⟩
 |pV s pos =>
   obtain⟨k,hk,hc⟩:=h;exact⟨k,hb.trans hk,hc⟩
 |pX _ _ _ =>
   obtain⟨k,b,since,seen,last,hk,hc,hm,hi⟩:=h;exact⟨k,b,since,seen,last,hb.trans hk,hc,hr _ _ hm,hi⟩
 |dZ w xs =>
   obtain⟨h1,h2⟩|⟨k,c,e,hk,hc,hz,hl,hw,h⟩:=h
   .exact .inl ⟨hb.trans h1,by rw[h2];rfl⟩
   .refine .inr ⟨k,c,e,hb.trans hk,hc,hz,by rw[kE];exact hl,by rw[kE];exact hw,fun i x hi=>?_⟩;rw[mZ,ah4]at hi;obtain⟨y,hy,rfl⟩:=hi;exact(h i y hy).xR hr hu db
 |mapA aZ bs es =>
   obtain⟨k,aS,hk,hc,hz,h⟩:=h;refine⟨k,aS,hb.trans hk,hc,by rw[aik];exact hz,fun i x hi=>?_⟩;rw[aii,ah4]at hi;obtain⟨y,hy,rfl⟩:=hi;obtain⟨en,h1,h2,h3⟩:=h i y hy;exact⟨en,h1,hr _ _ h2,h3.xR hr hu db⟩
end
end Go.Ab
namespace Go.Ab
def lU(σ:Name->Name)(u:List Nat)(s:St):List (Name×Ob)->Prop
 |[]=>True
 |q::r=>(s.hp (σ q.1)=some (q.2.ren σ)∧q.2.bn u=true∧bX u q.1=true)∧lU σ u s r
theorem vQ{σ:Name->Name}{u:List Nat}{s:St}:∀{l:List (Name×Ob)},lU σ u s l->∀q∈l,s.hp (σ q.1)=some (q.2.ren σ)∧q.2.bn u=true∧bX u q.1=true
 |[],_,q,h=>by simp at h
 |_::r,h,q,hq=>by
   rcases ah6.1 hq with rfl|hq
   .exact h.1
   .exact vQ h.2 q hq
def nX(chp:List (Name×Ob)):List (Name×Ob)->Prop
 |[]=>True
 |q::r=>(match aE none (chp.map fun x=>(x.1,some x.2)) q.1 with
  |some o=>o.like q.2
  |none=>True)∧nX chp r
theorem Lh{chp:List (Name×Ob)}:∀{l:List (Name×Ob)},nX chp l->∀q∈l,∀o,aE none (chp.map fun x=>(x.1,some x.2)) q.1=some o->o.like q.2
 |[],_,q,h,_,_=>by simp at h
 |a::r,h,q,hq,o,ho=>by
   rcases ah6.1 hq with rfl|hq
   .have:=h.1;rw[ho]at this;exact this
   .exact Lh h.2 q hq o ho
theorem nf{l:List (Name×Ob)}{p:Name}{o:Ob}(h:aE none (l.map fun x=>(x.1,some x.2)) p=some o):(p,o)∈l:=zT (fr:=[]) (u:=[]) h
theorem Cv{l:List (Name×Ob)}{p:Name}(h:l.any (fun q=>q.1 == p)=true):∃o,aE none (l.map fun x=>(x.1,some x.2)) p=some o:=by
 induction l with
 |nil=>simp at h
 |cons q r ih =>
   simp only[aid,aE];by_cases e:p=q.1
   .exact⟨q.2,by rw[if_pos e]⟩
   .rw[if_neg e];refine ih ?_;simp only[List.any_cons,aiL,beq_iff_eq]at h;exact h.resolve_left fun h=>e h.symm
theorem Li(f:Name->Name)(g:Ob->Ob)(z:Option Ob)(p:Name):∀(l:List (Name×Ob)),(∀q∈l,f q.1=f p->q.1=p) ->
  aE z (l.map fun x=>(f x.1,some (g x.2))) (f p)=match aE none (l.map fun x=>(x.1,some x.2)) p with
   |some o=>some (g o)
   |none=>z
 |[],_=>rfl
 |q::r,h=>by
   simp only[aid,aE];by_cases e:p=q.1
   .rw[if_pos (by rw[e]),if_pos e]
   .rw[if_neg (fun e'=>e (h q ah0 e'.symm).symm),if_neg e];exact Li f g z p r fun x hx=>h x (ah8 _ hx)
theorem Cw(f:Name->Name)(z:Option Ob)(q:Name):∀(l:List (Name×Ob)),aE z (l.map fun x=>(f x.1,(none:Option Ob))) q=if(l.any fun x=>f x.1 == q)=true then none else z
 |[]=>rfl
 |x::r=>by
   rw[aid,lP,List.any_cons,Cw f z q r];by_cases e:q=f x.1
   .rw[if_pos e,if_pos];subst e;simp
   .have h2:(f x.1 == q)=false:=by
     rw[beq_eq_false_iff_ne];exact fun h=>e h.symm
    rw[if_neg e,h2,ajI]
theorem Gd(f:Name->Name)(g:Ob->Ob)(z:Option Ob)(q:Name):∀(l:List (Name×Ob)),(∀x∈l,f x.1≠q)->aE z (l.map fun x=>(f x.1,some (g x.2))) q=z
 |[],_=>rfl
 |x::r,h=>by
   simp only[aid,aE];rw[if_neg (fun e=>h x ah0 e.symm)];exact Gd f g z q r fun y hy=>h y (ah8 _ hy)
section
variable {P:Program}{cf:Cf}
theorem Lj{B:Base}{β:Name->Option aU}{s:St}{tm:Array Value}{w w':World}(h:aj B β s tm w){σ:Name->Name}{d:Nat}(hd:d∉s.used){chp ae:List (Name×Ob)}{cu u':List Nat}
  (jZ:lU σ cu s chp) (lV:nW σ chp) {A' ig:Nat->Prop} {G':List (Nat×Obj)} {βc:Name->Option aU} (hβc:∀p,chp.any (fun q=>q.1 == p)=true->βc p=β (σ p))
  (hO:∀b,ig b↔∃p k,chp.any (fun q=>q.1 == p)=true∧β (σ p)=some k∧k.b=b) (hA:∀b,A' b↔s.own B.A β b∧¬ig b) (xS:∀b,A' b->b<w.heap.size) (sE:∀q∈G',w.heap[q.1]?=some q.2∧¬ig q.1)
  {r:AV} {β':Name->Option aU} {v:Value} (Ge:nX chp ae)
  (hs:aj { n:=1,io:=B.io,G:=G',H0:=w.heap,O0:=ig,A:=A',U0:=cu,β0:=βc,hA:=xS,hG:=sE } β' (mk [(0,r)] ae u') #[v] w') :
  ∃β2,(aj B β2 { ja s σ d chp ae r with fr:=s.fr } tm w'∧VR w'.heap ((ja s σ d chp ae r).own B.A β2) (d::s.used) (ja s σ d chp ae r).hp β2 v (r.ren (fj σ d chp))):=by
 obtain⟨τ,hτ⟩:∃τ,fj σ d chp=τ:=⟨_,rfl⟩
 obtain⟨s2,br⟩:∃s2,ja s σ d chp ae r=s2:=⟨_,rfl⟩
 have hτp:∀p,chp.any (fun q=>q.1 == p)=true->τ p=σ p:=fun p hp=>by rw[<-hτ];simp only[fj];rw[if_pos hp]
 have hτn:∀p,¬chp.any (fun q=>q.1 == p)=true->τ p=d::p:=fun p hp=>by rw[<-hτ];simp only[fj];rw[if_neg hp]
 have uu:∀p,chp.any (fun q=>q.1 == p)=true->∃o,(p,o)∈chp∧s.hp (σ p)=some (o.ren σ)∧nm s.used (σ p)∧bX cu p=true:=by
  intro p hp;obtain⟨o,ho⟩:=Cv hp;obtain⟨h1,h2,h3⟩:=vQ jZ _ (nf ho);exact⟨o,nf ho,h1,(h.aO _ _ h1).1,h3⟩
 have hσd:∀p l,chp.any (fun q=>q.1 == p)=true->σ p≠d::l:=by
  intro p l hp e;obtain⟨_,_,_,⟨a,t,e2,ha⟩,_⟩:=uu p hp;rw[e]at e2;cases e2;exact hd ha
 have hτinj:∀p q,τ p=τ q->p=q:=by
  intro p q e;by_cases hp:chp.any (fun q=>q.1 == p)=true<;>by_cases hq:chp.any (fun x=>x.1 == q)=true
  .rw[hτp p hp,hτp q hq]at e;obtain⟨o,ho,_⟩:=uu p hp;obtain⟨o',aM,_⟩:=uu q hq;exact zS lV _ ho _ aM e
  .rw[hτp p hp,hτn q hq]at e;exact absurd e (hσd p q hp)
  .rw[hτn p hp,hτp q hq]at e;exact absurd e.symm (hσd q p hq)
  .rw[hτn p hp,hτn q hq]at e;exact(akZ e).2
 have dz:∀p,s2.hp (τ p)=(aE none (ae.map fun x=>(x.1,some x.2)) p).map (Ob.ren τ):=by
  intro p;rw[<-br];show aE (aE (s.hp (τ p)) (chp.map fun x=>(σ x.1,none)) (τ p)) (ae.map fun x=>(fj σ d chp x.1,some (x.2.ren (fj σ d chp)))) (τ p)=_;rw[hτ,Li τ (Ob.ren τ) _ p ae (fun q _ e=>hτinj _ _ e),Cw]
  cases aE none (ae.map fun x=>(x.1,some x.2)) p with
  |some o=>rfl
  |none =>
    simp only[Option.map_none];split
    .rfl
    .rename_i bH;by_cases hp:chp.any (fun q=>q.1 == p)=true
     .exfalso;apply bH;obtain⟨o,ho,_⟩:=uu p hp;exact aiA.2 ⟨_,ho,by simp[hτp p hp]⟩
     .rw[hτn p hp]
      cases sr:s.hp (d::p)with
      |none=>rfl
      |some o =>
        obtain⟨a,t,e,ha⟩:=(h.aO _ _ sr).1;cases e;exact absurd ha hd
 have hho:∀q,nm s.used q->(∀p,chp.any (fun x=>x.1 == p)=true->σ p≠q)->s2.hp q=s.hp q:=by
  intro q hq aJ;rw[<-br];show aE (aE (s.hp q) (chp.map fun x=>(σ x.1,none)) q) (ae.map fun x=>(fj σ d chp x.1,some (x.2.ren (fj σ d chp)))) q=_;rw[hτ,Gd τ (Ob.ren τ) _ q ae,Cw,if_neg]
  .intro ha;obtain⟨x,hx,e⟩:=aiA.1 ha;exact aJ x.1 (aiA.2 ⟨x,hx,by simp⟩) (by simpa using e)
  .intro x _ e;by_cases hp:chp.any (fun q=>q.1 == x.1)=true
   .rw[hτp _ hp]at e;exact aJ _ hp e
   .rw[hτn _ hp]at e;obtain⟨a,t,e2,ha⟩:=hq;rw[<-e]at e2;cases e2;exact hd ha
 have vR:∀q o,s2.hp q=some o->(∃p o',q=τ p∧aE none (ae.map fun x=>(x.1,some x.2)) p=some o'∧o=o'.ren τ)∨(nm s.used q∧(∀p,chp.any (fun x=>x.1 == p)=true->σ p≠q)∧s.hp q=some o):=by
  intro q o ho;by_cases hq:∃p,τ p=q
  .obtain⟨p,rfl⟩:=hq;rw[dz]at ho;obtain⟨o',aM,rfl⟩:=ah4.1 ho;exact .inl ⟨p,o',rfl,aM,rfl⟩
  .have aJ:∀p,chp.any (fun x=>x.1 == p)=true->σ p≠q:=fun p hp e=>hq ⟨p,by rw[hτp p hp];exact e⟩
   have fO:s.hp q=some o:=by
    rw[<-br]at ho;have ho:aE (aE (s.hp q) (chp.map fun x=>(σ x.1,none)) q) (ae.map fun x=>(fj σ d chp x.1,some (x.2.ren (fj σ d chp)))) q=some o:=ho;rw[hτ,Gd τ (Ob.ren τ) _ q ae (fun x _ e=>hq ⟨_,e⟩),Cw]at ho;split at ho
    .cases ho
    .exact ho
   exact .inr ⟨(h.aO _ _ fO).1,aJ,fO⟩
 obtain⟨β2,hβn,hβo⟩:∃β2:Name->Option aU,(∀p,aE none (ae.map fun x=>(x.1,some x.2)) p≠none->β2 (τ p)=β' p)∧∀q,nm s.used q->β2 q=β q:=by
  refine⟨fun q=>match q with|a::t=>if a=d then β' t else β (a::t)|[]=>β [],fun p hp=>?_,fun q hq=>?_⟩
  .by_cases hc:chp.any (fun q=>q.1 == p)=true
   .rw[hτp p hc];obtain⟨o,ho,h1,⟨a,t,e,ha⟩,h3⟩:=uu p hc;have ah:=hs.stay p (oQ h3);rw[e];have had:a≠d:=fun e2=>hd (e2▸ha);simp only[if_neg had];rw[<-e,ah];exact(hβc p hc).symm
   .rw[hτn p hc];simp
  .obtain⟨a,t,rfl,ha⟩:=hq;have had:a≠d:=fun e2=>hd (e2▸ha);simp[had]
 have zU:∀b,ig b->b<w.heap.size∧¬B.A b∧(B.H0.size<=b∨B.O0 b)∧s.own B.A β b:=by
  intro b hb;obtain⟨p,k,hp,hk,rfl⟩:=(hO b).1 hb;obtain⟨o,_,h1,_⟩:=uu p hp;obtain⟨g1,g2,g3⟩:=h.blocks (σ p) k (by rw[h1];simp) hk;exact⟨g1,g2,g3,.inr ⟨σ p,k,by rw[h1];simp,hk,rfl⟩⟩
 have xT:∀p o,aE none (ae.map fun x=>(x.1,some x.2)) p=some o->(mk [(0,r)] ae u').hp p=some o:=fun p o h=>h
 have Cx:∀p o k,aE none (ae.map fun x=>(x.1,some x.2)) p=some o->β' p=some k->k.b<w'.heap.size∧¬A' k.b∧(w.heap.size<=k.b∨ig k.b):=fun p o k hp hk =>
  hs.blocks p k (by rw[xT p o hp];simp) hk
 have zV:∀q o k,s.hp q=some o->(∀p,chp.any (fun x=>x.1 == p)=true->σ p≠q)->β q=some k->k.b<w.heap.size∧¬ig k.b∧A' k.b:=by
  intro q o k hq aJ hk;obtain⟨g1,g2,g3⟩:=h.blocks q k (by rw[hq];simp) hk
  have bH:¬ig k.b:=by
   intro hb;obtain⟨p,l,hp,hl,e⟩:=(hO _).1 hb;obtain⟨o',_,h1,_⟩:=uu p hp;exact aJ p hp (h.inj (σ p) q l k (by rw[h1];simp) (by rw[hq];simp) hl hk e)
  exact⟨g1,bH,(hA _).2 ⟨.inr ⟨q,k,by rw[hq];simp,hk,rfl⟩,bH⟩⟩
 have Gf:∀b,b<w.heap.size->¬ig b->w'.heap[b]?=w.heap[b]?:=fun b hb hn=>hs.frame b hb hn;have Lk:w.heap.size<=w'.heap.size:=hs.size
 have xU:∀b,b<w.heap.size->s2.own B.A β2 b->s.own B.A β b:=by
  rintro b hb (hB|⟨q,k,hq,hk,rfl⟩)
  .exact .inl hB
  .cases ho:s2.hp q with
   |none=>exact absurd ho hq
   |some o =>
     rcases vR q o ho with⟨p,o',rfl,hp,rfl⟩|⟨hn,aJ,fO⟩
     .rw[hβn p (by rw[hp];simp)]at hk;obtain⟨_,_,g⟩:=Cx p o' k hp hk;obtain g|g:=g
      .omega
      .exact(zU _ g).2.2.2
     .rw[hβo q hn]at hk;exact .inr ⟨q,k,by rw[fO];simp,hk,rfl⟩
 have U6:∀b,s2.own B.A β2 b->(mk [(0,r)] ae u').own A' β' b:=by
  rintro b hb;obtain hB|⟨q,k,hq,hk,rfl⟩:=hb
  .exact .inl ((hA b).2 ⟨.inl hB,fun fg=>(zU b fg).2.1 hB⟩)
  .cases ho:s2.hp q with
   |none=>exact absurd ho hq
   |some o =>
     rcases vR q o ho with⟨p,o',rfl,hp,rfl⟩|⟨hn,aJ,fO⟩
     .rw[hβn p (by rw[hp];simp)]at hk;exact .inr ⟨p,k,by rw[xT p o' hp];simp,hk,rfl⟩
     .rw[hβo q hn]at hk;exact .inl (zV q o k fO aJ hk).2.2
 have sF:∀v d,au w.heap (s.own B.A β) v d->au w'.heap (s2.own B.A β2) v d:=fun v d hd=>hd.mono (fun b hb hlt=>Gf b hlt fun hO=>hb (zU b hO).2.2.2) xU;have xV:∀v d,au w'.heap ((mk [(0,r)] ae u').own A' β') v d->au w'.heap (s2.own B.A β2) v d:=fun v d hd=>hd.mono (fun _ _ _=>rfl) (fun b _=>U6 b);have Gg:s2.used=d::s.used:=by rw[<-br];rfl
 have xW:∀x∈s.used,x∈s2.used:=fun x hx=>by rw[Gg];exact ah8 _ hx
 have ah:∀q,nm s.used q->iG s.hp s2.hp β β2 q:=by
  intro q hq o ho;rcases vR q o ho with⟨p,o',rfl,hp,rfl⟩|⟨hn,aJ,fO⟩
  .by_cases hc:chp.any (fun x=>x.1 == p)=true
   .obtain⟨o1,uv⟩:=Cv hc;have hl:=Lh Ge _ (nf hp) o1 uv;obtain⟨g1,_,_⟩:=vQ jZ _ (nf uv);refine⟨o1.ren σ,by rw[hτp p hc];exact g1,?_,hβo _ hq⟩;cases o1<;>cases o'<;>first|exact hl|(simpa only[Ob.ren,Ob.like,kE]using hl)|exact hl.elim
   .rw[hτn p hc]at hq;obtain⟨a,t,e,ha⟩:=hq;cases e;exact absurd ha hd
  .exact⟨o,fO,Ob.mS _,hβo q hn⟩
 have Gh:∀p,nm u' p->nm s2.used (τ p):=by
  intro p _;rw[Gg];by_cases hc:chp.any (fun x=>x.1 == p)=true
  .rw[hτp p hc];obtain⟨_,_,_,⟨a,t,e,ha⟩,_⟩:=uu p hc;exact⟨a,t,e,ah8 _ ha⟩
  .rw[hτn p hc];exact⟨d,p,rfl,ah0⟩
 have db:∀p,nm u' p->∀o',s2.hp (τ p)=some o'->∃o,(mk [(0,r)] ae u').hp p=some o∧o'=o.ren τ∧β2 (τ p)=β' p:=by
  intro p _ o' ho;rw[dz]at ho;obtain⟨o,aM,rfl⟩:=ah4.1 ho;exact⟨o,xT p o aM,rfl,hβn p (by rw[aM];simp)⟩
 refine⟨β2,?_⟩;rw[hτ,br];refine⟨{ bE:=h.bE,io:=hs.io,size:=aix h.size Lk,frame:=fun b hb hn=>?_,slots:=fun i=>(h.slots i).mono sF xW ah,aO:=fun q o ho=>?_,blocks:=fun q k hq hk=>?_,inj:=fun q q' k l hq cg hk hl e=>?_,us:=fun x hx=>xW x (h.us x hx),stay:=fun p hp=>?_ },?_⟩
 .rw[Gf b (aiK hb h.size) fun hO=>?_]
  .exact h.frame b hb hn
  .rcases(zU b hO).2.2.1 with g|g
   .omega
   .exact hn g
 .have ho:s2.hp q=some o:=ho;rcases vR q o ho with⟨p,o',rfl,hp,rfl⟩|⟨hn,aJ,fO⟩
  .obtain⟨g1,g2⟩:=hs.aO p o' (xT p o' hp);exact⟨Gh p g1,g2.xR xV Gh db (hβn p (by rw[hp];simp))⟩
  .obtain⟨g1,g2⟩:=h.aO q o fO;exact⟨g1.mono xW,g2.mono sF xW ah (hβo q hn) fun k hk=>Gf k.b (zV q o k fO aJ hk).1 (zV q o k fO aJ hk).2.1⟩
 .have hq:s2.hp q≠none:=hq
  cases ho:s2.hp q with
  |none=>exact absurd ho hq
  |some o =>
    rcases vR q o ho with⟨p,o',rfl,hp,rfl⟩|⟨hn,aJ,fO⟩
    .rw[hβn p (by rw[hp];simp)]at hk;obtain⟨g1,g2,g3⟩:=Cx p o' k hp hk;obtain g3|g3:=g3
     .exact⟨g1,fun hB=>by have:=aiK (B.hA _ hB) h.size;omega,.inl (aix h.size g3)⟩
     .obtain⟨_,k2,k3,_⟩:=zU _ g3;exact⟨g1,k2,k3⟩
    .rw[hβo q hn]at hk;obtain⟨g1,g2,g3⟩:=h.blocks q k (by rw[fO];simp) hk;exact⟨aiK g1 Lk,g2,g3⟩
 .have hq:s2.hp q≠none:=hq;have cg:s2.hp q'≠none:=cg
  cases ho:s2.hp q with
  |none=>exact absurd ho hq
  |some o =>
    cases aM:s2.hp q' with
    |none=>exact absurd aM cg
    |some o2 =>
      rcases vR q o ho with⟨p,o',rfl,hp,rfl⟩|⟨hn,aJ,fO⟩<;>rcases vR q' o2 aM with⟨p2,o3,rfl,qd,rfl⟩|⟨xX,U7,Ll⟩
      .rw[hβn p (by rw[hp];simp)]at hk;rw[hβn p2 (by rw[qd];simp)]at hl;rw[hs.inj p p2 k l (by rw[xT p o' hp];simp) (by rw[xT p2 o3 qd];simp) hk hl e]
      .rw[hβn p (by rw[hp];simp)]at hk;rw[hβo _ xX]at hl;exact absurd (e▸(zV _ _ l Ll U7 hl).2.2) (Cx p o' k hp hk).2.1
      .rw[hβo _ hn]at hk;rw[hβn p2 (by rw[qd];simp)]at hl;exact absurd (e▸(zV _ _ k fO aJ hk).2.2) (Cx p2 o3 l qd hl).2.1
      .rw[hβo _ hn]at hk;rw[hβo _ xX]at hl;exact h.inj q q' k l (by rw[fO];simp) (by rw[Ll];simp) hk hl e
 .rw[hβo p (hp.mono h.us)];exact h.stay p hp
 .have:=hs.slots 0;have:=this.xR xV Gh db;rw[Gg]at this;exact this
end
end Go.Ab

namespace Go.Ab
section
variable {P:Program}{cf:Cf}
def Cy(s:St)(σ:Name->Name)(d:Nat)(dst:Option Nat)(chp ae:List (Name×Ob))(r:AV):St :=
 match dst with
 |some _=>ja s σ d chp ae r
 |none=>{ ja s σ d chp ae r with fr:=s.fr }
theorem Lm{fr:List (Nat×AV)}{chp:List (Name×Ob)}{u:List Nat}{A:Nat->Prop}{β:Name->Option aU}{b:Nat}(h:(mk fr chp u).own A β b):A b∨∃p k o,aE none (chp.map fun x=>(x.1,some x.2)) p=some o∧β p=some k∧k.b=b:=by
 obtain h|⟨p,k,hp,hk,e⟩:=h
 .exact .inl h
 .cases ho:(mk fr chp u).hp p with
  |none=>exact absurd ho hp
  |some o=>exact .inr ⟨p,k,o,ho,hk,e⟩
theorem Ln{B:Base}{β:Name->Option aU}{s:St}{tm:Array Value}{w:World}(h:aj B β s tm w){f:FuncId}{cW:List AV}{chp:List (Name×Ob)}{cu:List Nat}{Q0:AV->List (Name×Ob)->Prop}{σ:Name->Name}{d:Nat}(hd:d∉s.used)
  (jZ:lU σ cu s chp) (lV:nW σ chp) (oS:dU cu cW=true) {vs:Array Value} (eJ:vs.size=cW.length) (hv:∀(i:Nat) x,cW[i]?=some x->VR w.heap (s.own B.A β) s.used s.hp β (vs.getD i undef) (x.ren σ)) (hc:bA P B.G f cW chp cu Q0) :
  CallsIn Fence.wide 0 P f vs w fun e w'=>∃v,e=.returned v∧∃r ae,Q0 r ae∧(nX chp ae->∃β2,aj B β2 { ja s σ d chp ae r with fr:=s.fr } tm w' ∧
   VR w'.heap ((ja s σ d chp ae r).own B.A β2) (d::s.used) (ja s σ d chp ae r).hp β2 v (r.ren (fj σ d chp))):=by
 obtain⟨ig,hO⟩:∃ig:Nat->Prop,∀b,ig b↔∃p k,chp.any (fun q=>q.1 == p)=true∧β (σ p)=some k∧k.b=b:=⟨_,fun _=>Iff.rfl⟩
 obtain⟨A',hA⟩:∃A':Nat->Prop,∀b,A' b↔s.own B.A β b∧¬ig b:=⟨_,fun _=>Iff.rfl⟩
 have xS:∀b,A' b->b<w.heap.size:=fun b hb=>h.Cg ((hA b).1 hb).1
 have sE:∀q∈B.G,w.heap[q.1]?=some q.2∧¬ig q.1:=fun q hq=>by
  obtain⟨g1,g2⟩:=B.hG q hq;have hlt:=dK g1;refine⟨(h.frame _ hlt g2).trans g1,fun hb=>?_⟩;obtain⟨p,k,hp,hk,e⟩:=(hO _).1 hb;obtain⟨o,ho⟩:=Cv hp;obtain⟨h1,_,_⟩:=vQ jZ _ (nf ho);obtain⟨_,_,g3⟩:=h.blocks (σ p) k (by rw[h1];simp) hk;obtain g3|g3:=g3
  .omega
  .exact g2 (e▸g3)
 have hβc:∀p,chp.any (fun q=>q.1 == p)=true->(fun p=>β (σ p)) p=β (σ p):=fun _ _=>rfl
 have live:∀p o,aE none (chp.map fun x=>(x.1,some x.2)) p=some o->s.hp (σ p)=some (o.ren σ)∧o.bn cu=true∧nm cu p:=fun p o ho=>by
  obtain⟨h1,h2,h3⟩:=vQ jZ _ (nf ho);exact⟨h1,h2,oQ h3⟩
 have dS:∀b,(mk (dM 0 cW) chp cu).own A' (fun p=>β (σ p)) b->s.own B.A β b:=by
  intro b hb;rcases Lm hb with hb|⟨p,k,o,ho,hk,rfl⟩
  .exact((hA b).1 hb).1
  .exact .inr ⟨σ p,k,by rw[(live p o ho).1];simp,hk,rfl⟩
 have hr:∀v d,au w.heap (s.own B.A β) v d->au w.heap ((mk (dM 0 cW) chp cu).own A' (fun p=>β (σ p))) v d:=fun v d hd=>hd.mono (fun _ _ _=>rfl) (fun b _=>dS b);have db:∀p o,(mk (dM 0 cW) chp cu).hp p=some o->s.hp (σ p)=some (o.ren σ)∧(fun p=>β (σ p)) p=β (σ p):=fun p o ho=>⟨(live p o ho).1,rfl⟩
 have bm:aj { n:=cW.length,io:=B.io,G:=B.G,H0:=w.heap,O0:=ig,A:=A',U0:=cu,β0:=fun p=>β (σ p),hA:=xS,hG:=sE } (fun p=>β (σ p)) (mk (dM 0 cW) chp cu) vs w:=by
  refine { bE:=eJ,io:=h.io,size:=ain _,frame:=fun _ _ _=>rfl,slots:=fun t=>?_,aO:=fun p o ho=>⟨(live p o ho).2.2,OR.ren hr db rfl (live p o ho).2.1 (h.aO _ _ (live p o ho).1).2⟩,blocks:=fun p k hp hk=>?_,inj:=fun p q k l hp hq hk hl e=>?_,us:=fun _ hx=>hx,stay:=fun _ _=>rfl }
  .rw[kV,qc,if_pos (aie _),Nat.sub_zero]
   cases ht:cW[t]? with
   |none=>exact .un _
   |some x=>exact(hv t x ht).ren hr db x rfl (ur oS t x ht)
  .cases ho:(mk (dM 0 cW) chp cu).hp p with
   |none=>exact absurd ho hp
   |some o =>
     have de:ig k.b:=(hO _).2 ⟨p,k,aiA.2 ⟨_,nf ho,by simp⟩,hk,rfl⟩;obtain⟨g1,_,_⟩:=h.blocks (σ p) k (by rw[(live p o ho).1];simp) hk;exact⟨g1,fun ha=>((hA _).1 ha).2 de,.inr de⟩
  .cases ho:(mk (dM 0 cW) chp cu).hp p with
   |none=>exact absurd ho hp
   |some o =>
     cases aM:(mk (dM 0 cW) chp cu).hp q with
     |none=>exact absurd aM hq
     |some o' =>
       have e2:=h.inj (σ p) (σ q) k l (by rw[(live p o ho).1];simp) (by rw[(live q o' aM).1];simp) hk hl e;exact zS lV _ (nf ho) _ (nf aM) e2
 have eD:=fun h1 h2 h3 h4=>hc.2 _ _ vs w h1 h2 h3 h4 bm;refine(eD rfl rfl rfl rfl).mono ?_;rintro e w' ⟨v,r,ae,u',β',rfl,hQ,hs⟩;exact⟨v,rfl,r,ae,hQ,fun hl=>Lj h hd jZ lV hβc hO hA xS sE hl hs⟩
theorem xY{s:St}{B:Base}{β:Name->Option aU}{a:Act}{w:World}(h:aj B β s a.tmps w)(a0s:List Operand)(i:Nat)(x:AV)(hx:(a0s.map (ev s))[i]?=some x):VR w.heap (s.own B.A β) s.used s.hp β ((a0s.map a.eval).toArray.getD i undef) x:=by
 rw[aii,ah4]at hx;obtain⟨y,hy,rfl⟩:=hx;have e:(a0s.map a.eval).toArray.getD i undef=a.eval y:=by simp[ahY,hy]
 rw[e];exact h.ev y
theorem Gi{s:St}{k:List It}{Q:Exit->St->Prop}{dst:Option Nat}{fv:Operand}{args:Array Operand}{at':Array TypeId}{ty:TypeId}{pos:String}{af:Array Edge}{g:Option (Nat×Bool)}
  (d:Nat) (σ:Name->Name) (cW:List AV) (chp:List (Name×Ob)) (cu:List Nat) (Q0:AV->List (Name×Ob)->Prop) {f:FuncId} {aR:List AV}
  (bd:ev s fv=.aW f aR) (dC:args.toList.map (ev s)++aR=bZ σ cW) (oS:dU cu cW=true) (hd:d∉s.used) (dD:∀t∈dst,t<cf.n∧t=d)
  (jZ:lU σ cu s chp) (lV:nW σ chp) (hc:bA P cf.G f cW chp cu Q0) (hk:∀r ae,Q0 r ae->nX chp ae∧run P cf k Q (Cy s σ d dst chp ae r)) :
  fS P cf { dst:=dst,op:=.call { callee:=.value fv,args:=args,argTypes:=at' },type:=ty,pos:=pos,after:=af,guard:=g } s k Q:=by
 intro B hB ds β a w ak h Q';refine⟨fun _ _=>trivial,?_⟩;have hf:=h.ev fv;rw[bd]at hf;generalize k9:a.eval fv=xZ at hf
 cases hf with
 |aW _ cvs _ hcs jV =>
 have aK:∀vs,vs=(args.toList.map a.eval).toArray++cvs->(execOp a.eval { dst:=dst,op:=.call { callee:=.value fv,args:=args,argTypes:=at' },type:=ty,pos:=pos,after:=af,guard:=g }).run P w=.ok (.enter f vs) w:=by
  intro vs eJ
  have e:(execOp a.eval { dst:=dst,op:=.call { callee:=.value fv,args:=args,argTypes:=at' },type:=ty,pos:=pos,after:=af,guard:=g }:Sem Next)=callFunc f (#[]++args.map a.eval++cvs):=by
   show(do let d <-(Deferred.ofValue (a.eval fv) (args.map a.eval));invoke d.target d.args:Sem Next)=_;rw[k9];rfl
  rw[e,<-hc.1 vs w,eJ];congr 2;apply akj;simp
 rw[Oper.semAt_eq _ _ _ (by simp),aK _ rfl,Oper.uponIn_enter];refine⟨fun nY=>by simp[vO]at nY,?_⟩
 have hlen:cW.length=args.size+aR.length:=by
  have:=congrArg List.length dC;rw[kE]at this;simpa using this.symm
 have eJ:((args.toList.map a.eval).toArray++cvs).size=cW.length:=by simp[hcs,hlen]
 have hv:∀(i:Nat) x,cW[i]?=some x->VR w.heap (s.own B.A β) s.used s.hp β (((args.toList.map a.eval).toArray++cvs).getD i undef) (x.ren σ):=by
  intro i x hi;have hx:(bZ σ cW)[i]?=some (x.ren σ):=by rw[mZ,hi];rfl
  rw[<-dC]at hx;by_cases hlt:i<args.size
  .have aV:(args.toList.map (ev s))[i]?=some (x.ren σ):=by rw[<-hx,aih (by simpa using hlt)]
   have:=xY h args.toList i _ aV;rw[show((args.toList.map a.eval).toArray++cvs).getD i undef=(args.toList.map a.eval).toArray.getD i undef by simp[ahY,aiN,hlt]];exact this
  .have aV:aR[i-args.size]?=some (x.ren σ):=by rw[<-hx,aim (by simpa using aju hlt)];simp
   have:=jV _ _ aV;rw[show((args.toList.map a.eval).toArray++cvs).getD i undef=cvs.getD (i-args.size) undef by simp[ahY,aiN,hlt]];exact this
 have nZ:=Ln (P:=P) h (σ:=σ) hd jZ lV oS eJ hv (by rw[hB.2.2];exact hc);have qe:CallsIn (Fw cf.ro) (0-1) P f ((args.toList.map a.eval).toArray++cvs) w _:=nZ;refine qe.mono ?_;rintro e w' ⟨v,rfl,r,ae,hQ,hl⟩;obtain⟨lW,U8⟩:=hk r ae hQ;obtain⟨β2,br,mA⟩:=hl lW;refine⟨by cases dst<;>exact ak,Cy s σ d dst chp ae r,β2,eT U8,?_⟩
 cases dst with
 |none=>exact br
 |some t =>
   obtain⟨ht,rfl⟩:=dD t rfl;exact br.put (by rw[hB.1];exact ht) mA
end
end Go.Ab
namespace Go.Ab
theorem x4{u:List Nat}:∀{l:List AV},(∀(i:Nat) (x:AV),l[i]?=some x->x.bn u=true)->dU u l=true
 |[],_=>rfl
 |y::r,h=>by
   simp only[dU,aia];exact⟨h 0 y rfl,x4 fun i x hi=>h (i+1) x (by simpa using hi)⟩
theorem uw{u:List Nat}{p:Name}(h:nm u p):bX u p=true:=by
 obtain⟨a,t,rfl,ha⟩:=h;simpa[bX]using ha
theorem VR.bn{H:Array Obj}{own:Nat->Prop}{used:List Nat}{hp:Name->Option Ob}{β:Name->Option aU}{v:Value}{x:AV}(h:VR H own used hp β v x):x.bn used=true:=by
 induction h with
 |un v=>rfl
 |d v z h=>rfl
 |vw v p off len hn h1 h=>exact uw hn
 |bx v p c hn h1 h=>exact uw hn
 |el v p i c hn h1 h=>exact uw hn
 |mp v p hn h1 h=>exact uw hn
 |its v p hn h1 h h'=>exact uw hn
 |va v p off len hn h1 h=>exact uw hn
 |ea v p i hn h1 h=>exact uw hn
 |ma v p hn h1 h=>exact uw hn
 |agg vs cs hs hc h0 ih=>exact x4 ih
 |aA vs cs hs h0 ih=>exact x4 ih
 |aW f vs cs hs h0 ih=>exact x4 ih
mutual
theorem AV.lX(τ:Name->Name)(h:∀p,τ p=p):∀x:AV,x.ren τ=x
 |.un=>rfl
 |.d _=>rfl
 |.vw p _ _=>by simp only[AV.ren,h]
 |.bx p _=>by simp only[AV.ren,h]
 |.el p _ _=>by simp only[AV.ren,h]
 |.mp p=>by simp only[AV.ren,h]
 |.it p=>by simp only[AV.ren,h]
 |.agg cs=>by simp only[AV.ren,vS τ h cs]
 |.aA cs=>by simp only[AV.ren,vS τ h cs]
 |.aW _ cs=>by simp only[AV.ren,vS τ h cs]
 |.va p _ _=>by simp only[AV.ren,h]
 |.ea p _=>by simp only[AV.ren,h]
 |.ma p=>by simp only[AV.ren,h]
theorem vS(τ:Name->Name)(h:∀p,τ p=p):∀l:List AV,bZ τ l=l
 |[]=>rfl
 |x::r=>by simp only[bZ,AV.lX τ h x,vS τ h r]
end
theorem Ob.lX(τ:Name->Name)(h:∀p,τ p=p)(o:Ob):o.ren τ=o:=by
 cases o<;>simp only[Ob.ren,vS τ h,AV.lX τ h,List.map_id']
theorem OR.bn{H:Array Obj}{own:Nat->Prop}{used:List Nat}{hp:Name->Option Ob}{β:Name->Option aU}{p:Name}{o:Ob}(h:OR H own used hp β p o):o.bn used=true:=by
 cases o with
 |bz ty cs =>
   obtain⟨k,c,e,hk,ho,hc,hz,hl,h1,h⟩:=h;exact x4 fun i x hi=>(h i x hi).bn
 |dZ w xs =>
   obtain⟨_,rfl⟩|⟨k,c,e,hk,hc,hz,hl,hw,h⟩:=h
   .rfl
   .exact x4 fun i x hi=>(h i x hi).bn
 |mapA aZ bs es =>
   obtain⟨k,aS,hk,hc,hz,h⟩:=h;refine aio.2 fun q hq=>?_;obtain⟨i,hi⟩:=List.getElem?_of_mem hq;obtain⟨en,_,_,h3⟩:=h i q hi;exact h3.bn
 |_=>rfl
theorem aj.x5{B:Base}{β β':Name->Option aU}{s s':St}{tm Cz:Array Value}{w w':World}(h0:aj B β s tm w)(h:aj B β' s' Cz w')(dz:s'.hp=s.hp){t0:Nat}{x0:AV}(lS:∀t,t=t0∨s'.fr t=s.fr t)(hx:s'.fr t0=x0)(Lp:x0.bn s.used=true) :
  ∃β2,aj B β2 { s' with used:=s.used } Cz w':=by
 have hi:∀t,(s'.fr t).bn s.used=true:=fun t=>by
  rcases lS t with rfl|e
  .rw[hx];exact Lp
  .rw[e];exact(h0.slots t).bn
 obtain⟨β2,h2,_⟩:=h.le (s2:={ s' with used:=s.used }) (τ:=fun p=>p)
  { fr:=fun t=>.inr ⟨(AV.lX _ (fun _=>rfl) _).symm,hi t⟩
    hp:=fun p o ho=>by
     have ho:s'.hp p=some o:=ho;rw[dz]at ho;obtain⟨g1,g2⟩:=h0.aO p o ho;exact⟨by rw[Ob.lX _ (fun _=>rfl),dz];exact ho,g2.bn,g1⟩
    inj:=fun p q _ _ e=>e
    us:=fun x hx=>h0.us x hx
    stay:=fun _ _ _=>rfl }
 exact⟨β2,h2⟩
section
variable {P:Program}{cf:Cf}
def HP(P:Program)(G:List (Nat×Obj))(f:FuncId)(args:List D)(Q:AV->Prop):Prop:=bA P G f (args.map .d) [] [] fun r ae=>Q r∧r.bn []=true∧ae=[]
theorem zW(u:List Nat):∀l:List D,dU u (l.map .d)=true
 |[]=>rfl
 |_::r=>by simp only[aid,dU,AV.bn,zW u r,Bool.and_self]
mutual
theorem AV.CA(u:List Nat):∀x:AV,x.bn []=true->x.bn u=true
 |.un,_=>rfl
 |.d _,_=>rfl
 |.vw p _ _,h=>by cases p<;>simp[AV.bn,bX]at h
 |.bx p _,h=>by cases p<;>simp[AV.bn,bX]at h
 |.el p _ _,h=>by cases p<;>simp[AV.bn,bX]at h
 |.mp p,h=>by cases p<;>simp[AV.bn,bX]at h
 |.it p,h=>by cases p<;>simp[AV.bn,bX]at h
 |.agg cs,h=>CB u cs h
 |.aA cs,h=>CB u cs h
 |.aW _ cs,h=>CB u cs h
 |.va p _ _,h=>by cases p<;>simp[AV.bn,bX]at h
 |.ea p _,h=>by cases p<;>simp[AV.bn,bX]at h
 |.ma p,h=>by cases p<;>simp[AV.bn,bX]at h
theorem CB(u:List Nat):∀l:List AV,dU [] l=true->dU u l=true
 |[],_=>rfl
 |x::r,h=>by
   simp only[dU,aia]at h ⊢;exact⟨AV.CA u x h.1,CB u r h.2⟩
end
mutual
theorem AV.CC(τ:Name->Name):∀x:AV,x.bn []=true->x.ren τ=x
 |.un,_=>rfl
 |.d _,_=>rfl
 |.vw p _ _,h=>by cases p<;>simp[AV.bn,bX]at h
 |.bx p _,h=>by cases p<;>simp[AV.bn,bX]at h
 |.el p _ _,h=>by cases p<;>simp[AV.bn,bX]at h
 |.mp p,h=>by cases p<;>simp[AV.bn,bX]at h
 |.it p,h=>by cases p<;>simp[AV.bn,bX]at h
 |.agg cs,h=>by simp only[AV.ren,CF τ cs h]
 |.aA cs,h=>by simp only[AV.ren,CF τ cs h]
 |.aW _ cs,h=>by simp only[AV.ren,CF τ cs h]
 |.va p _ _,h=>by cases p<;>simp[AV.bn,bX]at h
 |.ea p _,h=>by cases p<;>simp[AV.bn,bX]at h
 |.ma p,h=>by cases p<;>simp[AV.bn,bX]at h
theorem CF(τ:Name->Name):∀l:List AV,dU [] l=true->bZ τ l=l
 |[],_=>rfl
 |x::r,h=>by
   simp only[dU,aia]at h;simp only[bZ,AV.CC τ x h.1,CF τ r h.2]
end
theorem Gj(l:List Nat):∃d,d∉l:=by
 have:∀(l:List Nat),∃m,∀x∈l,x<m:=by
  intro l
  induction l with
  |nil=>exact⟨0,by simp⟩
  |cons a r ih =>
    obtain⟨m,hm⟩:=ih;refine⟨a+m+1,fun x hx=>?_⟩;rcases ah6.1 hx with rfl|hx
    .omega
    .have:=hm x hx;omega
 obtain⟨m,hm⟩:=this l;exact⟨m,fun h=>by have:=hm m h;omega⟩
def St.jt(s:St)(d:Option Nat)(x:AV):St :=
 match d with
 |some t=>s.put t x
 |none=>s
theorem CG{s:St}{k:List It}{Q:Exit->St->Prop}{dst:Option Nat}{fv:Operand}{args:Array Operand}{at':Array TypeId}{ty:TypeId}{pos:String}{af:Array Edge}{g:Option (Nat×Bool)}
  {f:FuncId} {aR:List AV} {ds:List D} {Q0:AV->Prop} (hc:HP P cf.G f ds Q0)
  (bd:ev s fv=.aW f aR) (dC:args.toList.map (ev s)++aR=ds.map .d) (dD:∀t∈dst,t<cf.n) (hk:∀r,Q0 r->run P cf k Q (s.jt dst r)) :
  fS P cf { dst:=dst,op:=.call { callee:=.value fv,args:=args,argTypes:=at' },type:=ty,pos:=pos,after:=af,guard:=g } s k Q:=by
 intro B hB gm β a w ak h Q';refine⟨fun _ _=>trivial,?_⟩;obtain⟨d,hd⟩:=Gj s.used;have hf:=h.ev fv;rw[bd]at hf;generalize k9:a.eval fv=xZ at hf
 cases hf with
 |aW _ cvs _ hcs jV =>
 have aK:∀vs,vs=(args.toList.map a.eval).toArray++cvs->(execOp a.eval { dst:=dst,op:=.call { callee:=.value fv,args:=args,argTypes:=at' },type:=ty,pos:=pos,after:=af,guard:=g }).run P w=.ok (.enter f vs) w:=by
  intro vs eJ
  have e:(execOp a.eval { dst:=dst,op:=.call { callee:=.value fv,args:=args,argTypes:=at' },type:=ty,pos:=pos,after:=af,guard:=g }:Sem Next)=callFunc f (#[]++args.map a.eval++cvs):=by
   show(do let d <-(Deferred.ofValue (a.eval fv) (args.map a.eval));invoke d.target d.args:Sem Next)=_;rw[k9];rfl
  rw[e,<-hc.1 vs w,eJ];congr 2;apply akj;simp
 rw[Oper.semAt_eq _ _ _ (by simp),aK _ rfl,Oper.uponIn_enter];refine⟨fun nY=>by simp[vO]at nY,?_⟩
 have hlen:(ds.map AV.d).length=args.size+aR.length:=by
  have:=congrArg List.length dC;simpa using this.symm
 have eJ:((args.toList.map a.eval).toArray++cvs).size=(ds.map AV.d).length:=by simp[hcs]at hlen ⊢;omega
 have hv:∀(i:Nat) x,(ds.map AV.d)[i]?=some x->VR w.heap (s.own B.A β) s.used s.hp β (((args.toList.map a.eval).toArray++cvs).getD i undef) (x.ren id):=by
  intro i x hi;rw[AV.lX id (fun _=>rfl)];have hx:=hi;rw[<-dC]at hx;by_cases hlt:i<args.size
  .have aV:(args.toList.map (ev s))[i]?=some x:=by rw[<-hx,aih (by simpa using hlt)]
   have:=xY h args.toList i _ aV;rw[show((args.toList.map a.eval).toArray++cvs).getD i undef=(args.toList.map a.eval).toArray.getD i undef by simp[ahY,aiN,hlt]];exact this
  .have aV:aR[i-args.size]?=some x:=by rw[<-hx,aim (by simpa using aju hlt)];simp
   have:=jV _ _ aV;rw[show((args.toList.map a.eval).toArray++cvs).getD i undef=cvs.getD (i-args.size) undef by simp[ahY,aiN,hlt]];exact this
 have nZ:=Ln (P:=P) h (σ:=id) (d:=d) hd (chp:=[]) (cu:=[]) trivial trivial (zW _ _) eJ hv (by rw[hB.2.2];exact hc);have qe:CallsIn (Fw cf.ro) (0-1) P f ((args.toList.map a.eval).toArray++cvs) w _:=nZ;refine qe.mono ?_;rintro e w' ⟨v,rfl,r,ae,⟨hQ,ux,rfl⟩,hl⟩;obtain⟨β2,br,mA⟩:=hl trivial;rw[AV.CC _ r ux]at mA;have zX:=AV.CA s.used r ux;refine⟨by cases dst<;>exact ak,s.jt dst r,?_⟩
 cases dst with
 |none =>
   obtain⟨β3,h3⟩:=h.x5 br rfl (t0:=0) (x0:=s.fr 0) (fun _=>.inr rfl) rfl (h.slots 0).bn;exact⟨β3,eT (hk r hQ),h3⟩
 |some t =>
   have h2:=br.put (t:=t) (by rw[hB.1];exact dD t rfl) mA
   obtain⟨β3,h3⟩:=h.x5 h2 rfl (t0:=t) (x0:=r) (fun u=>by
    by_cases e:u=t
    .exact .inl e
    .exact .inr (by show eC _ _ _ _=_;simp[eC,e])) (by show eC _ _ _ _=_;simp[eC]) zX
   exact⟨β3,eT (hk r hQ),h3⟩
theorem ra {f:FuncId} {fn:Func} {c:Code} (hf:P.funcs[f]?=some fn) (hb:fn.body=some c) (hn:(fn.name == "runtime.NumGoroutine")=false) (vs:Array Value) (w:World):(callFunc f vs).run P w=.ok (.enter f vs) w:=by
 unfold callFunc;simp only[Sem.run_bind,run_program,Result.andThen_ok,hf,hn,aip,if_false,hb,Option.isNone_some,Sem.run_pure]
def okV(Q:AV->Prop):R (List AV)->Prop
 |.ok l=>(eK l).bn []=true∧Q (eK l)
 |.need p r=>p∧okV Q r
 |.no=>False
def pq(P:Program)(rs:List ResultVar)(Q:AV->Prop)(e:Exit)(s:St):Prop :=
 match e with
 |.ret=>okV Q (jY P s rs)
 |.normal=>okV Q (jY P s rs)
 |_=>False
theorem U9(rs:List ResultVar)(Q:AV->Prop)(s:St):pq P rs Q .ret s=okV Q (jY P s rs):=rfl
theorem Va(rs:List ResultVar)(Q:AV->Prop)(s:St):pq P rs Q .normal s=okV Q (jY P s rs):=rfl
theorem Vb(Q:AV->Prop)(l:List AV):okV Q (.ok l)=((eK l).bn []=true∧Q (eK l)):=rfl
theorem Vc(Q:AV->Prop)(p:Prop)(r:R (List AV)):okV Q (.need p r)=(p∧okV Q r):=rfl
theorem Vd(x:AV):eK [x]=x:=rfl
theorem Ve(x y:AV)(r:List AV):eK (x::y::r)=.aA (x::y::r):=rfl
theorem Vf:eK []=.aA []:=rfl
theorem Gk{Q:AV->Prop}:∀{r:R (List AV)},okV Q r->RX r fun l=>∃x ae u' τ,(Q x∧x.bn []=true∧ae=[])∧∀s:St,cF [] τ (oR s (eK l)) [(0,x)] ae u'
 |.ok l,h=>⟨eK l,[],[],id,⟨h.2,h.1,rfl⟩,fun s=>⟨⟨⟨by show eK l=_;rw[AV.lX id (fun _=>rfl)],h.1⟩,trivial⟩,trivial,trivial,rfl,trivial⟩⟩
 |.need _ r,h=>⟨h.1,Gk h.2⟩
 |.no,h=>h.elim
theorem RX.mono{α:Type}{φ ψ:α->Prop}(h:∀x,φ x->ψ x):∀{r:R α},RX r φ->RX r ψ
 |.ok _,g=>h _ g
 |.need _ _,g=>⟨g.1,RX.mono h g.2⟩
 |.no,g=>g
theorem cJ {G:List (Nat×Obj)} {f:FuncId} {fn:Func} {c:Code} {args:List D} {Q:AV->Prop} (hf:P.funcs[f]?=some fn) (hb:fn.body=some c) (eI:(fn.name == "runtime.NumGoroutine")=false) (hn:args.length<=fn.ntmps)
  (h:run P ⟨fn.ntmps,none,G,[]⟩ [.code c] (pq P fn.results.toList Q) (mk (dM 0 (args.map .d)) [] [])):HP P G f args Q:=by
 refine Lg hf hb (ra hf hb eI) (by simpa using hn) (fun e s hq=>?_) h
 cases e with
 |ret=>exact(Gk hq).mono fun l ⟨x,ae,u',τ,h1,h2⟩=>⟨x,ae,u',τ,h1,h2 s⟩
 |normal=>exact(Gk hq).mono fun l ⟨x,ae,u',τ,h1,h2⟩=>⟨x,ae,u',τ,h1,h2 s⟩
 |exit i=>exact hq.elim
 |goto l=>exact hq.elim
 |panic c=>exact hq.elim
 |outgrown=>exact hq.elim
end
end Go.Ab
namespace Go.Ab
structure Ext(w w':World):Prop where
 io:dy w'=dy w
 size:w.heap.size<=w'.heap.size
 old:∀b,b<w.heap.size->w'.heap[b]?=w.heap[b]?
theorem Ext.grow(w:World)(k:Nat)(os:Array Obj):Ext w (Sort.grow (w.drewN k) os):=by
 have h:=Lib.below_grow w.heap.size w (ain _) k os;exact⟨by show(_,_)=(_,_);rw[h.os,h.output],h.size,h.block⟩
def D.val:D->Option Value
 |.int k n=>some (.int k n)
 |.bool b=>some (.bool b)
 |.str s=>some (.string ⟨s.toArray⟩)
 |.aY=>some (.pointer none)
 |.ai=>some (.slice none 0 0)
 |.jT=>some (.map none)
 |.lJ=>some .nilFunc
 |.lK=>some .nilIface
 |_=>none
theorem au.val{H:Array Obj}{own:Nat->Prop}{v u:Value}{d:D}(h:au H own v d)(hd:d.val=some u):v=u:=by
 cases h<;>simp[D.val]at hd<;>first|exact hd|exact hd.symm
theorem D.Vg{H:Array Obj}{own:Nat->Prop}{v:Value}{d:D}(h:d.val=some v):au H own v d:=by
 cases d<;>simp[D.val]at h<;>subst h<;>constructor
def zY:List D->Option (List Value)
 |[]=>some []
 |d::r=>match d.val,zY r with
   |some v,some vs=>some (v::vs)
   |_,_=>none
theorem Lq:∀{l:List D} {vs:List Value},zY l=some vs->vs.length=l.length∧∀(i:Nat) d,l[i]?=some d->d.val=vs[i]?
 |[],vs,h=>by simp only[zY,aiv]at h;subst h;exact⟨rfl,by simp⟩
 |d::r,vs,h=>by
   simp only[zY]at h;split at h
   .rename_i v Gl h1 h2;simp only[aiv]at h;subst h;obtain⟨g1,g2⟩:=Lq h2;refine⟨by simp[g1],fun i e hi=>?_⟩
    cases i with
    |zero=>simp at hi;subst hi;simpa using h1
    |succ i=>simpa using g2 i e (by simpa using hi)
   .cases h
section
variable {P:Program}
theorem Vh{G:List (Nat×Obj)}{f:FuncId}{args:List D}{vs:List Value}{Q:AV->Prop}(he:∀vs w,(callFunc f vs).run P w=.ok (.enter f vs) w)(hv:zY args=some vs)
  (h:∀w:World,(∀q∈G,w.heap[q.1]?=some q.2)->Calls P f vs.toArray w fun e w'=>∃v d,e=.returned v∧Q (.d d)∧d.val=some v∧Ext w w'):HP P G f args Q:=by
 refine⟨he,fun B β tm w h1 h2 h3 h4 hs=>?_⟩;obtain⟨g1,g2⟩:=Lq hv
 have Vi:tm=vs.toArray:=by
  have bh:tm.size=args.length:=by rw[hs.bE,h1];simp
  apply Array.ext
  .rw[bh];simp[g1]
  .intro i hi ao;have hlt:i<args.length:=by omega
   have:=hs.slots i;rw[kV,qc,if_pos (aie _),Nat.sub_zero,aii,aib hlt]at this;have hr:=this.cU.val (g2 i _ (aib hlt)▸aib (by omega:i<vs.length));simpa[ahY,hi]using hr
 subst Vi
 have ju:=(callsIn_wide (n:=0)).2 (h w fun q hq=>by
  obtain⟨k1,k2⟩:=B.hG q (h4▸hq)
  rw[<-h2];exact k1)
 refine ju.mono ?_;rintro e w' ⟨v,d,rfl,hQ,cD,hext⟩;refine⟨v,.d d,[],[],β,rfl,⟨hQ,rfl,rfl⟩,?_⟩
 have bH:∀p,¬nm B.U0 p:=fun p hp=>by
  obtain⟨a,t,_,ha⟩:=hp;rw[show B.U0=[]from h3]at ha;cases ha
 have Lr:∀p,(mk [(0,AV.d d)] [] []).hp p=none:=fun _=>rfl;refine { bE:=rfl,io:=hext.io.trans hs.io,size:=aix hs.size hext.size,frame:=fun b hb hn=>?_,slots:=fun t=>?_,aO:=fun p o ho=>(by cases ho),blocks:=fun p k hp=>(by exact absurd rfl hp),inj:=fun p q k l hp=>(by exact absurd rfl hp),us:=fun x hx=>(by rw[show B.U0=[]from h3]at hx;cases hx),stay:=fun p hp=>(bH p hp).elim }
 .rw[hext.old b (aiK hb hs.size)];exact hs.frame b hb hn
 .rw[kV,lP,xE];by_cases ht:t=0
  .subst ht;rw[if_pos rfl];exact .d _ _ (D.Vg cD)
  .rw[if_neg ht];exact .un _
end
end Go.Ab

namespace Go.Ab
abbrev i64(n:Int):D:=.int .i64 n
def zZ(n:Int):Prop:=-9223372036854775808<=n∧n<=9223372036854775807
def lY(n:Int):Int:=IntKind.i64.wrap n
def u64(n:Int):Int:=IntKind.u64.wrap n
theorem wrap_i64(n:Int):IntKind.i64.wrap n=lY n:=rfl
theorem wrap_u64(n:Int):IntKind.u64.wrap n=u64 n:=rfl
theorem Vj(n:Int):lY n=if n % 18446744073709551616 >= 9223372036854775808 then n % 18446744073709551616-18446744073709551616 else n % 18446744073709551616:=by
 simp[lY,IntKind.wrap,IntKind.bits,IntKind.signed]
theorem aD{n:Int}(h:zZ n):lY n=n:=by
 obtain⟨h1,h2⟩:=h;rw[Vj];split<;>omega
end Go.Ab
namespace Go.Ab
def jM{α β:Type}[DecidableEq α]:List (α×β)->α->β->List (α×β)
 |[],i,x=>[(i,x)]
 |q::r,i,x=>if i=q.1 then(i,x)::r else q::jM r i x
def jb{α β:Type}[DecidableEq α]:List (α×β)->α->List (α×β)
 |[],_=>[]
 |q::r,i=>if i=q.1 then jb r i else q::jb r i
theorem vT{α β:Type}[DecidableEq α](z:β)(i:α)(x:β)(j:α):∀l:List (α×β),aE z (jM l i x) j=if j=i then x else aE z l j
 |[]=>by simp[jM,aE]
 |q::r=>by
   simp only[jM];split
   .rename_i e;subst e;simp only[aE];split<;>rfl
   .rename_i e;simp only[aE,vT z i x j r];by_cases h1:j=q.1
    .rw[if_pos h1,if_pos h1,if_neg (fun e2=>e (e2.symm.trans h1))]
    .rw[if_neg h1,if_neg h1]
theorem CH(i:Name)(x:Ob):∀l:List (Name×Ob),(jM l i x).map (fun q=>(q.1,some q.2))=jM (l.map fun q=>(q.1,some q.2)) i (some x)
 |[]=>rfl
 |q::r=>by
   simp only[jM,aid];split
   .rfl
   .rw[aid,CH i x r]
theorem uy{α β:Type}[DecidableEq α](z:β)(i:α)(j:α):∀l:List (α×β),aE z (jb l i) j=if j=i then z else aE z l j
 |[]=>by simp[jb,aE]
 |q::r=>by
   simp only[jb];split
   .rename_i e;rw[uy z i j r,aE];by_cases h1:j=i
    .rw[if_pos h1,if_pos h1]
    .rw[if_neg h1,if_neg h1,if_neg (fun e2=>h1 (e2.trans e.symm))]
   .rename_i e;simp only[aE,uy z i j r];by_cases h1:j=q.1
    .rw[if_pos h1,if_pos h1,if_neg (fun e2=>e (e2.symm.trans h1))]
    .rw[if_neg h1,if_neg h1]
theorem uz(i:Name):∀l:List (Name×Ob),(jb l i).map (fun q=>(q.1,some q.2))=jb (l.map fun q=>(q.1,some q.2)) i
 |[]=>rfl
 |q::r=>by
   simp only[jb,aid];split
   .exact uz i r
   .rw[aid,uz i r]
theorem Gm(fr hp u)(t:Nat)(x:AV):(mk fr hp u).put t x=mk (jM fr t x) hp u:=by
 unfold St.put mk;congr 1;funext j;rw[vT];rfl
theorem Gn(fr hp u)(t:Nat)(o:Ob):(mk fr hp u).add t o=mk fr (jM hp [t] o) (t::u):=by
 unfold St.add mk;congr 1;funext j;rw[CH,vT];rfl
theorem Lt(fr hp u)(p:Name)(o:Ob):(mk fr hp u).set p (some o)=mk fr (jM hp p o) u:=by
 unfold St.set mk;congr 1;funext j;rw[CH,vT];rfl
theorem Vk(fr hp u)(p:Name):(mk fr hp u).set p none=mk fr (jb hp p) u:=by
 unfold St.set mk;congr 1;funext j;rw[uz,uy];rfl
section
variable {P:Program}{cf:Cf}{Q:Exit->St->Prop}{s:St}{k:List It}{o:Oper}{a b:Code}{t:Nat}{all:Array Oper}{r:List Oper}
theorem Lu:lO P cf (.d (.bool true)) a b k Q s=run P cf (.code a::k) Q s:=by simp[lO]
theorem Lv:lO P cf (.d (.bool false)) a b k Q s=run P cf (.code b::k) Q s:=by simp[lO]
def lZ(P:Program)(cf:Cf)(d:Option Nat)(all:Array Oper)(r:List Oper)(k:List It)(Q:Exit->St->Prop)(s:St):Prop :=
 match d with
 |some t=>if t<cf.n then run P cf (.ops all r::k) Q (s.put t (.aA []))else False
 |none=>run P cf (.ops all r::k) Q s
theorem uA(d:Option Nat):(c9 cf.n d s (.aA [])).run (fun s'=>run P cf (.ops all r::k) Q s') False=lZ P cf d all r k Q s:=by
 cases d with
 |none=>rfl
 |some t=>simp only[c9,lZ];split<;>simp[R.run]
theorem Gp:gd P cf (some (t,.d (.bool true))) true all o r s k Q=aX P cf (cR P.ti cf.n o.op o.dst (s.put t (.d (.bool true)))) { o with guard:=none } (s.put t (.d (.bool true))) (.ops all r::k) Q:=by simp[gd]
theorem Gq:gd P cf (some (t,.d (.bool false))) false all o r s k Q=aX P cf (cR P.ti cf.n o.op o.dst (s.put t (.d (.bool false)))) { o with guard:=none } (s.put t (.d (.bool false))) (.ops all r::k) Q:=by simp[gd]
theorem Gr:gd P cf (some (t,.d (.bool true))) false all o r s k Q=lZ P cf o.dst all r k Q (s.put t (.d (.bool true))):=by simp[gd,uA]
theorem Gs:gd P cf (some (t,.d (.bool false))) true all o r s k Q=lZ P cf o.dst all r k Q (s.put t (.d (.bool false))):=by simp[gd,uA]
theorem Vl{want:Bool}:gd P cf (some (t,.aA [])) want all o r s k Q=lZ P cf o.dst all r k Q s:=by simp[gd,uA]
theorem Vm{p:Prop}[Decidable p](h1:p->run P cf (.code a::k) Q s)(h2:¬p->run P cf (.code b::k) Q s):lO P cf (.d (.bool (decide p))) a b k Q s :=
 ⟨fun h=>h1 (of_decide_eq_true h),fun h=>h2 (of_decide_eq_false h)⟩
theorem Vn{c:Bool}(h1:c=true->run P cf (.code a::k) Q s)(h2:c=false->run P cf (.code b::k) Q s):lO P cf (.d (.bool c)) a b k Q s:=⟨h1,h2⟩
theorem Lw{p:Prop}[Decidable p]{want:Bool}
  (h1:p->gd P cf (some (t,.d (.bool true))) want all o r (s.put t (.d (.bool true))) k Q) (h2:¬p->gd P cf (some (t,.d (.bool false))) want all o r (s.put t (.d (.bool false))) k Q):gd P cf (some (t,.d (.bool (decide p)))) want all o r s k Q:=by
 have pp:∀x y:AV,(s.put t x).put t y=s.put t y:=fun x y=>by
  unfold St.put;congr 1;funext i;simp only[eC];split<;>rfl
 by_cases h:p
 .have:=h1 h;simp only[h,decide_true];cases want
  .rw[Gr]at this ⊢;rw[pp]at this;exact this
  .rw[Gp]at this ⊢;rw[pp]at this;exact this
 .have:=h2 h;simp only[h,decide_false];cases want
  .rw[Gq]at this ⊢;rw[pp]at this;exact this
  .rw[Gs]at this ⊢;rw[pp]at this;exact this
theorem Vo{c:Bool}{want:Bool}
  (h1:c=true->gd P cf (some (t,.d (.bool true))) want all o r (s.put t (.d (.bool true))) k Q) (h2:c=false->gd P cf (some (t,.d (.bool false))) want all o r (s.put t (.d (.bool false))) k Q):gd P cf (some (t,.d (.bool c))) want all o r s k Q:=by
 have:=Lw (p:=c=true) (Q:=Q) (s:=s) (k:=k) (o:=o) (t:=t) (all:=all) (r:=r) (P:=P) (cf:=cf) (want:=want) h1 (fun h=>h2 (by simpa using h));simpa using this
end
def uB{α:Type}:Nat->List α->List α
 |0,_=>[]
 |_+1,[]=>[]
 |n+1,a::l=>a::uB n l
def uC{α:Type}:Nat->List α->List α
 |0,l=>l
 |_+1,[]=>[]
 |n+1,_::l=>uC n l
def Aa{α:Type}:List α->Nat->α->List α
 |[],_,_=>[]
 |_::l,0,x=>x::l
 |a::l,n+1,x=>a::Aa l n x
def x6{α:Type}:List α->List α->List α
 |[],m=>m
 |a::l,m=>a::x6 l m
def uD{α:Type}:List α->Nat
 |[]=>0
 |_::l=>uD l+1
theorem CJ{α:Type}:∀(n:Nat) (l:List α),uB n l=l.take n
 |0,l=>by simp[uB]
 |_+1,[]=>rfl
 |n+1,a::l=>by simp[uB,CJ n l]
theorem CK{α:Type}:∀(n:Nat) (l:List α),uC n l=l.drop n
 |0,l=>by simp[uC]
 |_+1,[]=>rfl
 |n+1,a::l=>by simp[uC,CK n l]
theorem Ly{α:Type}:∀(l:List α) (n:Nat) (x:α),Aa l n x=l.set n x
 |[],_,_=>rfl
 |_::l,0,x=>rfl
 |a::l,n+1,x=>by simp[Aa,Ly l n x]
theorem LA{α:Type}:∀(l m:List α),x6 l m=l++m
 |[],m=>rfl
 |a::l,m=>by simp[x6,LA l m]
theorem Ac{α:Type}:∀(l:List α),uD l=l.length
 |[]=>rfl
 |a::l=>by simp[uD,Ac l]
theorem Vp(i:TI)(d:D)(c:Nat):pY i d c=if i.k.dA then none else match d with
  |.agg cs=>if i.k.agg then(if c+i.sz<=uD cs then some (.agg (uB i.sz (uC c cs)))else none)else cs[c]?
  |d=>if i.k.agg then none else if c=0 then some d else none:=by
 unfold pY;split
 .rfl
 .cases d<;>simp only[CJ,CK,Ac]
theorem Vq(i:TI)(cs:List AV)(c:Nat):vE i cs c=if i.k.dA then .no else if i.k.agg then(if c+i.sz<=uD cs then .ok (mT (uB i.sz (uC c cs)))else .no)else R.jU cs[c]?:=by
 unfold vE;simp only[CJ,CK,Ac]
theorem Vr{α:Type}(l:List α)(c:Nat)(xs:List α):splice l c xs=x6 (uB c l) (x6 xs (uC (c+uD xs) l)):=by
 unfold splice;simp only[CJ,CK,Ac,LA]
theorem Vs(i:TI)(w:W)(xs:List D)(j c:Nat)(y:D):xA i w xs j c y=if i.k.dA then none
  else if i.fM w&&pZ w y&&c == 0 then some (xs.set j y)
  else if i.k.agg then none
  else match xs.getD j .aY with
   |.agg cs=>if y.ct∧c<uD cs∧i.sz=1 then some (xs.set j (.agg (Aa cs c y)))else none
   |_=>none:=by
 unfold xA;simp only[Ly,Ac];generalize xs.getD j .aY=z;cases z<;>rfl
section
variable {P:Program}{cf:Cf}{Q:Exit->St->Prop}{s s':St}{k:List It}{o:Oper}{a b:Code}{all:Array Oper}{r:List Oper}
def xk(P:Program)(cf:Cf)(i:Nat)(k:List It)(Q:Exit->St->Prop)(s:St):Prop:=xD P cf (ml i k) i Q s
theorem LB(i:Nat):run P cf (.code (.exit i)::k) Q s=xk P cf i k Q s:=T4 Q s k i
theorem Gt(i:Nat):xk P cf i [] Q s=Q (.exit i) s:=rfl
theorem Gu(i:Nat)(c:Code):xk P cf i (.code c::k) Q s=xk P cf i k Q s:=rfl
theorem LC(i:Nat):xk P cf i (.ops all r::k) Q s=xk P cf i k Q s:=rfl
theorem Gv(i:Nat):xk P cf i (.ff i::k) Q s=run P cf k Q s:=by simp[xk,ml,xD]
theorem LD(t:Nat)(h:t<cf.n):lZ P cf (some t) all r k Q s=run P cf (.ops all r::k) Q (s.put t (.aA [])):=by simp[lZ,h]
theorem Vt:lZ P cf none all r k Q s=run P cf (.ops all r::k) Q s:=rfl
end
attribute [go_sem] mU Kw Kx Ky Kz KA KB run_seq KC KD LB Gt Gu LC Gv KE KF Ck FK FL Lu Lv Gp Gq Gr Gs T5 gV LD Vt
attribute [go_sem] wrap_i64 wrap_u64 U9 Va Vb Vc Vd Ve Vf AV.bn dU
attribute [go_sem] Ob.box Ob.arr FJ FI xC
attribute [go_sem] cR c9 jI qV tT Vs pZ tU zk Cj zx zy vF kr sk tV zl tW p3 zr zt zm Ch TK.isBool dR zn sj tX zp zq Vp Vq Vr iW cellsD lM mT zw xB zu uB uC x6 uD Aa ev cv TK.agg TK.dA TI.fM TI.nN TI.lN TI.zero D.ct R.bind R.jU R.run zz TI.w St.jt
attribute [go_sem] Gm Gn Lt Vk jM jb kV tZ ay xE lP dM jY
attribute [go_sem] List.map_cons List.map_nil List.getElem?_cons_zero List.getElem?_cons_succ Option.map_some Option.map_none Option.isSome_some Option.getD_some reduceCtorEq List.cons.injEq and_true true_and and_self if_true if_false ite_true ite_false and_false false_and
attribute [go_sem] List.getD_cons_zero Int.cast_ofNat_Int Int.toNat_natCast List.drop_succ_cons List.drop_zero Nat.add_one_sub_one List.take_length List.length_map Option.getD_none Option.isSome_none List.flatMap_cons List.flatMap_nil
attribute [go_sem] List.not_mem_nil not_false_eq_true not_true_eq_false List.mem_cons or_false or_self false_or forall_const Bool.true_eq_false Bool.false_eq_true Bool.not_true Bool.not_false false_imp_iff true_imp_iff imp_self List.length_cons List.length_nil decide_true decide_false decide_eq_true_eq decide_eq_false_iff_not Nat.zero_add Nat.add_zero Bool.and_true Bool.true_and Bool.and_false Bool.false_and beq_self_eq_true List.all_cons List.all_nil List.toList_toArray ne_eq List.getElem?_toArray
end Go.Ab
namespace Go.Ab
section
variable {P:Program}
theorem Vu{G:List (Nat×Obj)}{f:FuncId}{ds:List D}{Q:AV->Prop}(h:HP P G f ds Q){W:World}(hG:∀q∈G,W.heap[q.1]?=some q.2){vs:Array Value}(hs:vs.size=ds.length)
  (hr:∀(i:Nat) d,ds[i]?=some d->au W.heap (fun _=>False) (vs.getD i undef) d) :
  Calls P f vs W fun e W'=>∃v r,e=.returned v∧Q r∧Ext W W'∧∃u hp β own,VR W'.heap own u hp β v r:=by
 have bH:∀(fr:List (Nat×AV)) (u:List Nat) (β:Name->Option aU) (b:Nat),¬(mk fr [] u).own (fun _=>False) β b:=by
  rintro fr u β b (hb|⟨p,k,hp,_⟩)
  .exact hb
  .exact hp rfl
 have bm:aj { n:=ds.length,io:=dy W,G:=G,H0:=W.heap,O0:=fun _=>False,A:=fun _=>False,U0:=[],β0:=fun _=>none,hA:=fun _ hb=>hb.elim,hG:=fun q hq=>⟨hG q hq,fun hb=>hb⟩ }
   (fun _=>none) (mk (dM 0 (ds.map .d)) [] []) vs W:=by
  refine { bE:=hs,io:=rfl,size:=ain _,frame:=fun _ _ _=>rfl,slots:=fun t=>?_,aO:=fun p o ho=>(by cases ho),blocks:=fun p k hp=>(by exact absurd rfl hp),inj:=fun p q k l hp=>(by exact absurd rfl hp),us:=fun x hx=>(by cases hx),stay:=fun p hp=>rfl };rw[kV,qc,if_pos (aie _),Nat.sub_zero,aii]
  cases hd:ds[t]? with
  |none=>exact .un _
  |some d=>exact .d _ _ ((hr t d hd).mono (fun _ _ _=>rfl) (fun b _ hb=>(bH _ _ _ b hb).elim))
 have eD:=fun h1 h2 h3 h4=>h.2 _ _ vs W h1 h2 h3 h4 bm;refine(callsIn_wide.1 (eD (by simp) rfl rfl rfl)).mono ?_;rintro e W' ⟨v,r,ae,u',β',rfl,⟨hQ,_,rfl⟩,br⟩;refine⟨v,r,rfl,hQ,⟨br.io,br.size,fun b hb=>br.frame b hb (fun h=>h)⟩,_,_,_,_,br.slots 0⟩
theorem Ext.frame{W W':World}(h:Ext W W')(may:MemPlace->Prop):W.keptBut W' may:=by
 have ic:=h.io;simp only[dy,ajM]at ic;refine⟨ic.1,ic.2,fun i hi=>?_⟩;rw[h.old i hi];split<;>simp_all
end
end Go.Ab
namespace Go.Ab
abbrev Vv(_:List It):Type:=St
abbrev Vw(_:Nat)(_:List It):Type:=St
abbrev Vx(_:Oper)(_:St)(_:List It):Type 1:=R St
abbrev Vy(_:Bool)(_:Array Oper)(_:Oper)(_:List Oper)(_:St)(_:List It):Type:=Option (Nat×AV)
abbrev Vz(_ _:Code)(_:List It)(_:St):Type:=AV
abbrev VA(_:Option Nat)(_:Array Oper)(_:List Oper)(_:List It):Type:=St
structure bB(P:Program)(cf:Cf)(Q:Exit->St->Prop) where
 run:(k:List It)->Vv k->Prop
 aX:(o:Oper)->(s:St)->(k:List It)->Vx o s k->Prop
 gd:(w:Bool)->(all:Array Oper)->(o:Oper)->(r:List Oper)->(s:St)->(k:List It)->Vy w all o r s k->Prop
 lO:(a b:Code)->(k:List It)->(s:St)->Vz a b k s->Prop
 xk:(i:Nat)->(k:List It)->Vw i k->Prop
 lZ:(d:Option Nat)->(all:Array Oper)->(r:List Oper)->(k:List It)->VA d all r k->Prop
 run_eq:∀(k:List It) (s:St),run k s=Ab.run P cf k Q s
 eE:∀(x:R St) o s k,aX o s k x=Ab.aX P cf x o s k Q
 ik:∀(v:Option (Nat×AV)) w all o r s k,gd w all o r s k v=Ab.gd P cf v w all o r s k Q
 Ad:∀(v:AV) a b k s,lO a b k s v=Ab.lO P cf v a b k Q s
 x7:∀i k (s:St),xk i k s=Ab.xk P cf i k Q s
 uA:∀d all r k (s:St),lZ d all r k s=Ab.lZ P cf d all r k Q s
theorem LF(P:Program)(cf:Cf)(Q:Exit->St->Prop):Nonempty (bB P cf Q) :=
 ⟨⟨fun k s=>run P cf k Q s,fun o s k x=>aX P cf x o s k Q,fun w all o r s k v=>gd P cf v w all o r s k Q,fun a b k s v=>lO P cf v a b k Q s,fun i k s=>xk P cf i k Q s,fun d all r k s=>lZ P cf d all r k Q s,
   fun _ _=>rfl,fun _ _ _ _=>rfl,fun _ _ _ _ _ _ _=>rfl,fun _ _ _ _ _=>rfl,fun _ _ _=>rfl,fun _ _ _ _ _=>rfl⟩⟩
section
variable {P:Program}{cf:Cf}{Q:Exit->St->Prop}(E:bB P cf Q)(s:St)(k:List It)(o:Oper)(a b:Code)(t:Nat)(all:Array Oper)(r:List Oper)
theorem VB:E.run [] s=Q .normal s:=by rw[E.run_eq,mU]
theorem VC(i:Nat):E.run (.ff i::k) s=E.run k s:=by rw[E.run_eq,E.run_eq,Kw]
theorem VD:E.run (.ops all []::k) s=E.run k s:=by rw[E.run_eq,E.run_eq,Kx]
theorem VE(d:Option Nat)(op:Op)(ty:Nat)(p:String)(e:Array Edge) :
 E.run (.ops all ({ dst:=d,op:=op,type:=ty,pos:=p,after:=e,guard:=none }::r)::k) s =
  E.aX { dst:=d,op:=op,type:=ty,pos:=p,after:=e,guard:=none } s (.ops all r::k) (cR P.ti cf.n op d s):=by rw[E.run_eq,E.eE,Ky]
theorem VF(d:Option Nat)(op:Op)(ty:Nat)(p:String)(e:Array Edge)(j:Nat)(want:Bool) :
 E.run (.ops all ({ dst:=d,op:=op,type:=ty,pos:=p,after:=e,guard:=some (j,want) }::r)::k) s =
  E.gd want all { dst:=d,op:=op,type:=ty,pos:=p,after:=e,guard:=some (j,want) } r s k (nO all j s):=by rw[E.run_eq,E.ik,Kz]
theorem VG:E.run (.code .skip::k) s=E.run k s:=by rw[E.run_eq,E.run_eq,KA]
theorem VH(i:Nat)(ops:List Oper):E.run (.code (.region i ops.toArray false)::k) s=E.run (.ops ops.toArray ops::k) s:=by rw[E.run_eq,E.run_eq,KB]
theorem VI:E.run (.code (.seq a b)::k) s=E.run (.code a::.code b::k) s:=by rw[E.run_eq,E.run_eq,run_seq]
theorem VJ(x:Operand):E.run (.code (.cond x a b)::k) s=E.lO a b k s (ev s x):=by rw[E.run_eq,E.Ad,KC]
theorem VK(i:Nat):E.run (.code (.block i a)::k) s=E.run (.code a::.ff i::k) s:=by rw[E.run_eq,E.run_eq,KD]
theorem VL(i:Nat):E.run (.code (.exit i)::k) s=E.xk i k s:=by rw[E.run_eq,E.x7,LB]
theorem VM:E.run (.code .ret::k) s=Q .ret s:=by rw[E.run_eq,KE]
theorem Gw(s':St):E.aX o s k (.ok s')=E.run k s':=by rw[E.run_eq,E.eE,Ck]
theorem LG(p:Prop)(x:R St):E.aX o s k (.need p x)=(p∧E.aX o s k x):=by rw[E.eE,E.eE,FK]
theorem VN:E.lO a b k s (.d (.bool true))=E.run (.code a::k) s:=by rw[E.Ad,E.run_eq,Lu]
theorem VO:E.lO a b k s (.d (.bool false))=E.run (.code b::k) s:=by rw[E.Ad,E.run_eq,Lv]
theorem LH:E.gd true all o r s k (some (t,.d (.bool true)))=E.aX { o with guard:=none } (s.put t (.d (.bool true))) (.ops all r::k) (cR P.ti cf.n o.op o.dst (s.put t (.d (.bool true)))):=by rw[E.ik,E.eE,Gp]
theorem LI:E.gd false all o r s k (some (t,.d (.bool false)))=E.aX { o with guard:=none } (s.put t (.d (.bool false))) (.ops all r::k) (cR P.ti cf.n o.op o.dst (s.put t (.d (.bool false)))):=by rw[E.ik,E.eE,Gq]
theorem LJ:E.gd false all o r s k (some (t,.d (.bool true)))=E.lZ o.dst all r k (s.put t (.d (.bool true))):=by rw[E.ik,E.uA,Gr]
theorem LM:E.gd true all o r s k (some (t,.d (.bool false)))=E.lZ o.dst all r k (s.put t (.d (.bool false))):=by rw[E.ik,E.uA,Gs]
theorem LN(want:Bool):E.gd want all o r s k (some (t,.aA []))=E.lZ o.dst all r k s:=by rw[E.ik,E.uA,Vl]
theorem CL(t:Nat)(h:t<cf.n):E.lZ (some t) all r k s=E.run (.ops all r::k) (s.put t (.aA [])):=by rw[E.uA,E.run_eq,LD t h]
theorem VP(i:Nat):E.xk i [] s=Q (.exit i) s:=by rw[E.x7,Gt]
theorem VQ(i:Nat)(c:Code):E.xk i (.code c::k) s=E.xk i k s:=by rw[E.x7,E.x7,Gu]
theorem VS(i:Nat):E.xk i (.ff i::k) s=E.run k s:=by rw[E.x7,E.run_eq,Gv]
end
attribute [go_sem] VB VC VD VE VF VG VH VI VJ VK VL VM Gw LG VN VO LH LI LJ LM LN CL VP VQ VS
section
variable {P:Program}{cf:Cf}{Q:Exit->St->Prop}(E:bB P cf Q){s:St}{k:List It}{o:Oper}{a b:Code}{t:Nat}{all:Array Oper}{r:List Oper}
def gw(_E:bB P cf Q)(c:Code)(s:St)(k:List It):Prop:=p4 P cf c s k Q
theorem VT:E.run (.code (.loop a)::k) s=gw E (.loop a) s k:=by rw[E.run_eq,KF];rfl
theorem VU(i:Nat)(ops:List Oper):E.run (.code (.region i ops.toArray true)::k) s=gw E (.region i ops.toArray true) s k:=by rw[E.run_eq,T3];rfl
theorem gx:E.aX o s k .no=fS P cf o s k Q:=by rw[E.eE,FL]
theorem cK{c:Bool}(h1:c=true->E.run (.code a::k) s)(h2:c=false->E.run (.code b::k) s):E.lO a b k s (.d (.bool c)):=by
 rw[E.Ad];exact Vn (fun h=>by rw[<-E.run_eq];exact h1 h) (fun h=>by rw[<-E.run_eq];exact h2 h)
theorem aH{p:Prop}[Decidable p](h1:p->E.run (.code a::k) s)(h2:¬p->E.run (.code b::k) s):E.lO a b k s (.d (.bool (decide p))):=by
 rw[E.Ad];exact Vm (fun h=>by rw[<-E.run_eq];exact h1 h) (fun h=>by rw[<-E.run_eq];exact h2 h)
theorem uE{c:Bool}{want:Bool}
  (h1:c=true->E.gd want all o r (s.put t (.d (.bool true))) k (some (t,.d (.bool true)))) (h2:c=false->E.gd want all o r (s.put t (.d (.bool false))) k (some (t,.d (.bool false)))):E.gd want all o r s k (some (t,.d (.bool c))):=by
 rw[E.ik];exact Vo (fun h=>by rw[<-E.ik];exact h1 h) (fun h=>by rw[<-E.ik];exact h2 h)
theorem bS{p:Prop}[Decidable p]{want:Bool}
  (h1:p->E.gd want all o r (s.put t (.d (.bool true))) k (some (t,.d (.bool true)))) (h2:¬p->E.gd want all o r (s.put t (.d (.bool false))) k (some (t,.d (.bool false)))):E.gd want all o r s k (some (t,.d (.bool (decide p)))):=by
 rw[E.ik];exact Lw (fun h=>by rw[<-E.ik];exact h1 h) (fun h=>by rw[<-E.ik];exact h2 h)
end
theorem LO(a b:Int):(a == b)=decide (a=b):=rfl
theorem VW(a b:Int):(a != b)=decide (¬a=b):=by simp only[bne,LO,decide_not]
theorem VX:(true == false)=false:=rfl
theorem VY:(false == true)=false:=rfl
attribute [go_sem] VX VY VT VU LO VW eq_self not_true_eq_false
theorem aT{P:Program}{cf:Cf}{Q:Exit->St->Prop}{k:List It}{s:St}(h:∀E:bB P cf Q,E.run k s):run P cf k Q s:=by
 obtain⟨E⟩:=LF P cf Q;rw[<-E.run_eq];exact h E
theorem bj{P:Program}{cf:Cf}{Q:Exit->St->Prop}(E:bB P cf Q){s:St}{k:List It}{dst:Option Nat}{fv:Operand}{args:Array Operand}{at':Array TypeId}{ty:TypeId}{pos:String}{af:Array Edge}
  {f:FuncId} {aR:List AV} {ds:List D} {Q0:AV->Prop} (hc:HP P cf.G f ds Q0)
  (bd:ev s fv=.aW f aR) (dC:args.toList.map (ev s)++aR=ds.map .d) (dD:∀t∈dst,t<cf.n) (hk:∀r,Q0 r->E.run k (s.jt dst r)) :
  E.aX { dst:=dst,op:=.call { callee:=.value fv,args:=args,argTypes:=at' },type:=ty,pos:=pos,after:=af,guard:=none } s k .no:=by
 rw[E.eE,FL];exact CG hc bd dC dD fun r hr=>by rw[<-E.run_eq];exact hk r hr
theorem bq:(∀a b:Bool,((a&&b)=true)=(a=true∧b=true))∧(∀a:Bool,((!a)=true)=(a=false))∧(∀a:Bool,((!a)=false)=(a=true)) :=
 ⟨fun a b=>by cases a<;>cases b<;>simp,fun a=>by cases a<;>simp,fun a=>by cases a<;>simp⟩
end Go.Ab

namespace Go.Ab
def uF(s:St):List (Nat×AV)->Prop
 |[]=>True
 |q::r=>s.fr q.1=q.2∧q.2.bn []=true∧uF s r
theorem LP{s:St}:∀{l:List (Nat×AV)},uF s l->∀q∈l,s.fr q.1=q.2∧q.2.bn []=true
 |[],_,q,h=>by simp at h
 |_::r,h,q,hq=>by
   rcases ah6.1 hq with rfl|hq
   .exact⟨h.1,h.2.1⟩
   .exact LP h.2.2 q hq
theorem LQ{s:St}{fr:List (Nat×AV)}(h:uF s fr):Le [] id s (mk fr [] []) where
 fr:=fun t=>by
  rcases Cu (z:=AV.un) (l:=fr) (i:=t)with e|hm
  .exact .inl e
  .obtain⟨h1,h2⟩:=LP h _ hm;exact .inr ⟨by rw[AV.lX id (fun _=>rfl)];exact h1,h2⟩
 hp:=fun p o ho=>by cases ho
 inj:=fun p q hp=>by exact absurd rfl hp
 us:=fun x hx=>by cases hx
 stay:=fun p hp=>by obtain⟨a,t,_,ha⟩:=hp;cases ha
section
variable {P:Program}{cf:Cf}
theorem VZ(next:St->Prop)(k:List It)(Q:Exit->St->Prop)(s:St)(i:Nat):lq P cf next k Q (.exit i) s=xk P cf i k Q s:=rfl
theorem Gx{X:Type}(I:X->St)(μ:X->Nat)(next:X->St->Prop){c:Code}{s:St}{k:List It}{Q:Exit->St->Prop}
  (h0:∃x τ,Le cf.U τ s (I x))
  (hn:∀x s',next x s'->∃y,μ y<μ x∧∃τ,Le cf.U τ s' (I y)) (hr:∀x,run P cf [.code c] (lq P cf (next x) k Q) (I x)):p4 P cf (.loop c) s k Q:=by
 have key:∀N x,μ x<N->∀(B:Base),cf.fits B->∀ds β a w,a.defers=ds->aj B β (I x) a.tmps w->Code.roundsIn (Fw cf.ro) 0 P c (hold P cf (lift B ds Q) k) N a w:=by
  intro N
  induction N with
  |zero=>intro x hx;omega
  |succ N ih =>
    intro x hx B hB ds β a w ak h;rw[roundsIn_succ];refine wpIn_mono (eT (hr x) B hB ds β a w ak h) fun e a' w' hq=>?_;obtain⟨dB,s',β',hq,hs⟩:=hq
    cases e with
    |normal =>
      obtain⟨y,hy,τ,hle⟩:=hn x s' hq;obtain⟨β2,br,_⟩:=hs.le (τ:=τ) (by rw[hB.2.1];exact hle);exact ih y (by omega) B hB ds β2 a' w' dB br
    |exit i =>
      unfold lq xD at hq;show hold P cf (lift B ds Q) k (.exit i) a' w';simp only at hq;split at hq
      .rename_i k' az;exact xP _ i k k' a' w' az (eT hq B hB ds β' a' w' dB hs)
      .rename_i az;exact xO _ i k a' w' az ⟨dB,s',β',hq,hs⟩
    |ret=>exact vP _ k a' w' ⟨dB,s',β',hq,hs⟩
    |goto l=>exact hq.elim
    |panic c=>exact hq.elim
    |outgrown=>exact hq.elim
 obtain⟨x,τ,hle⟩:=h0;intro B hB ds β a w ak h;obtain⟨β2,br,_⟩:=h.le (τ:=τ) (by rw[hB.2.1];exact hle);exact wpIn_loop_rounds (μ x+1) (key _ x (akq _) B hB ds β2 a w ak br)
theorem V0{X:Type}(I:X->List (Nat×AV))(μ:X->Nat){c:Code}{s:St}{k:List It}{Q:Exit->St->Prop}(hU:cf.U=[])(x0:X)(h0:uF s (I x0))
  (hr:∀x,run P cf [.code c] (lq P cf (fun s'=>∃y,μ y<μ x∧uF s' (I y)) k Q) (mk (I x) [] [])):p4 P cf (.loop c) s k Q :=
 Gx (fun x=>mk (I x) [] []) μ _ ⟨x0,id,by rw[hU];exact LQ h0⟩ (fun x s' ⟨y,hy,h⟩=>⟨y,hy,id,by rw[hU];exact LQ h⟩) hr
end
attribute [go_sem] uF U3 VZ U4 Gt Gu LC Gv
end Go.Ab
namespace Go.Ab
end Go.Ab
namespace Go.Ab
section
variable {P:Program}{cf:Cf}
theorem V1{X:Type}(I:X->List (Nat×AV))(O:X->List (Name×Ob))(u:List Nat)(μ:X->Nat){c:Code}{s:St}{k:List It}{Q:Exit->St->Prop}(x0:X)(h0:cF cf.U id s (I x0) (O x0) u)
  (hr:∀x,run P cf [.code c] (lq P cf (fun s'=>∃y,μ y<μ x∧cF cf.U id s' (I y) (O y) u) k Q) (mk (I x) (O x) u)):p4 P cf (.loop c) s k Q :=
 Gx (fun x=>mk (I x) (O x) u) μ _ ⟨x0,id,h0.le⟩ (fun _ _ ⟨y,hy,h⟩=>⟨y,hy,id,h.le⟩) hr
end
end Go.Ab

