/-
  The generic layer, part 63: the statement that ranges over a function, as a whole; how a function that holds it is left. (with the parts that follow it) (with the parts that follow it)
-/
import Derived.Test.YthfodompfpdmgaaGreatDoorVPE
import Derived.RangeFuncLeaves
import Derived.Laws.CopyRow
import Derived.Laws.IdiomCopy
import Derived.Lib.Builder
import Derived.LaidEqlPtr
import Derived.Laws.Pointers
import Derived.Laws.Externs
import Derived.Lib.UnsafeStr
set_option linter.all false
namespace Go.Ab
open Go.RowKit
section
variable {P:Program} {cf:Cf}
def asg (P:Program) (cf:Cf) (body:Code) (Q:Exit→St→Prop) (e:Exit) (s1:St):Prop:=e=.normal∧run P cf [.code body] Q s1
theorem FE {P:Program} {cf:Cf} {body:Code} {Q:Exit→St→Prop} {s1:St} (h:∀ E:Eng P cf Q,E.run [.code body] s1):asg P cf body Q .normal s1:=⟨rfl,veil h⟩
theorem Cv {B0:Base} (hro:cf.ro=none) {f:FuncId} {caps:List D} {N:Nat} {xs:Nat→List D} (hit:ItC P cf.G f caps N xs) {g:Operand} {ps:List Nat} {assign body:Code} {k:List It} {s:St} {Φ:Exit→Act→World→Prop}
  (hev:ev s g=.d (.clo f caps)) {X:Type} (Iv:Nat→X→St) (hps:∀ t∈ps,t<cf.n) (hxs:∀ n,n<N→(xs n).length=ps.length) (h0:∃ x τ,Le cf.U τ s (Iv 0 x))
  (hr:∀ n x,n<N→∀ l,run P ⟨cf.n,some l,cf.G,(Iv n x).used⟩ [.code assign] (asg P ⟨cf.n,some l,cf.G,(Iv n x).used⟩ body (rq P cf Φ B0 k (Iv (n+1)) (Iv n x))) (og (Iv n x) ps (xs n)))
  (hd:∀ x,ARY P cf Φ (CI B0) k (Iv N x)):ARY P cf Φ (CI B0) (.code (.rangeFunc g ps.toArray assign body)::k) s:=by
 obtain ⟨n0,ro,G0,U0⟩:=cf
 simp only at hro
 subst hro
 intro B hB ds β a w hds hCI hs
 refine wpIn_rangeFunc fun fn _=>?_
 have hg:=hs.ev g
 rw [hev] at hg
 obtain ⟨cvs,hsz,hcv,hval⟩:∃ cvs:Array Value,cvs.size=caps.length∧(∀ i d,caps[i]?=some d→Rep w.heap (s.own B.A β) (cvs.getD i undef) d)∧a.eval g=.func (.func f) #[] cvs:=by
  have:=hg.toD
  generalize a.eval g=v at this
  cases this with
  | clo _ vs _ h1 h2=>exact ⟨vs,h1,h2,rfl⟩
 obtain ⟨W1,hW1⟩:∃ W1,(w.alloc (.deferred (some []))).alloc (.loop { state:=.ready,pending:=none,fn,tmps:=a.tmps,params:=ps.toArray,assign,body,defers:=w.heap.size })=W1:=⟨_,rfl⟩
 have hz1:W1.heap.size=w.heap.size+2:=by rw [← hW1];simp
 have hL1:W1.heap[w.heap.size+1]?=some (.loop { state:=.ready,pending:=none,fn,tmps:=a.tmps,params:=ps.toArray,assign,body,defers:=w.heap.size }):=by
  rw [← hW1]
  have:=World.alloc_heap_new (w.alloc (.deferred (some []))) (.loop { state:=.ready,pending:=none,fn,tmps:=a.tmps,params:=ps.toArray,assign,body,defers:=w.heap.size })
  rwa [World.size_alloc] at this
 have hD1:W1.heap[w.heap.size]?=some (.deferred (some [])):=by
  rw [← hW1];exact (Below.heap_alloc _ _ _ (by simp)).trans (World.alloc_heap_new w _)
 have hold:∀ b,b<w.heap.size→W1.heap[b]?=w.heap[b]?:=fun b hb=>by
  rw [← hW1];exact (Below.heap_alloc _ _ _ (by simp;omega)).trans (Below.heap_alloc _ _ _ hb)
 have hio1:wio W1=wio w:=by rw [← hW1];rfl
 obtain ⟨x0,τ,hle⟩:=h0
 obtain ⟨β0,hs0,hβ0⟩:=hs.le (τ:=τ) (by rw [hB.2.1];exact hle)
 have hBz:B.H0.size≤w.heap.size:=hs.size
 have hown0:∀ b,bx (Iv 0 x0) β0 b→s.own B.A β b:=by
  rintro b ⟨p,k,hp,hk,rfl⟩
  cases ho:(Iv 0 x0).hp p with
  | none=>exact absurd ho hp
  | some o =>
    refine .inr ⟨τ p,k,?_,by rw [← hβ0 p hp];exact hk,rfl⟩
    rw [(hle.hp p o ho).1];simp
 let D:=w.heap.size
 let L:=w.heap.size+1
 let RB:LoopState→Option Code→(Nat→Prop)→World→Prop:=fun st pe X W =>
  W.heap[L]?=some (.loop { state:=st,pending:=pe,fn,tmps:=a.tmps,params:=ps.toArray,assign,body,defers:=D })∧W.heap[D]?=some (.deferred (some []))∧w.heap.size+2≤W.heap.size∧∀ b,X b→w.heap.size+2≤b∧b<W.heap.size
 obtain ⟨z,hzl,hzw,hzC,hzJ,hzX⟩:∃ z:Itz,z.l=L∧z.w=W1∧(z.C0=fun b=>B.A b∨b=D∨b=L∨bx (Iv 0 x0) β0 b)∧(z.J=fun n C X W=>RB .ready none X W∧∃ x,SS B a.tmps D L C X W (Iv n x)) ∧
  (z.Jx=fun _ C X W=>∃ c s',RB .done (some c) X W∧vJ P ⟨n0,none,G0,U0⟩ Φ B0 k c s'∧SS B a.tmps D L C X W s'):=⟨⟨L,W1,_,_,_⟩,rfl,rfl,rfl,rfl,rfl⟩
 have hRB:∀ st pe X W X' W',RB st pe X W→Stp W X W' X'→RB st pe X' W':=fun st pe X W X' W' ⟨h1,h2,h3,h4⟩ hst=>by
  refine ⟨(hst.same L (ah h1) (fun hx=>by have:=(h4 _ hx).1;show False;simp only [L] at this;omega)).trans h1,(hst.same D (ah h2) (fun hx=>by have:=(h4 _ hx).1;show False;simp only [D] at this;omega)).trans h2,Nat.le_trans h3 hst.size,fun b hb=>⟨?_,(hst.new b hb).2⟩⟩
  rcases (hst.new b hb).1 with h | h
  ·exact (h4 b h).1
  ·exact Nat.le_trans h3 h
 have hz:z.Ok P G0 N xs:=by
  refine ⟨?_,?_,?_,?_⟩<;>simp only [hzl,hzw,hzC,hzJ,hzX]
  ·rintro b (h | rfl | rfl | h)
   ·have:=B.hA b h;show b<W1.heap.size;omega
   ·show w.heap.size<W1.heap.size;omega
   ·show w.heap.size+1<W1.heap.size;omega
   ·have:=hs.pZ (hown0 b h);show b<W1.heap.size;omega
  ·rintro n C X W X' W' ⟨h1,x,h2⟩ hst
   exact ⟨hRB _ _ _ _ _ _ h1 hst,x,h2.stp hst (fun b hb=>(h1.2.2.2 b hb).1) (by omega) h1.2.2.1 (ah h1.2.1) (ah h1.1)⟩
  ·rintro n C X W X' W' ⟨c,s',h1,hj,h2⟩ hst
   exact ⟨c,s',hRB _ _ _ _ _ _ h1 hst,hj,h2.stp hst (fun b hb=>(h1.2.2.2 b hb).1) (by omega) h1.2.2.1 (ah h1.2.1) (ah h1.1)⟩
  ·rintro n C X W vs hn ⟨h1,x,h2⟩ hvs hrep
   obtain ⟨fn',t',as',bd',hy,hrd⟩:=zX (B0:=B0) (k:=k) (Iv:=Iv (n+1)) (D:=D) (L:=L) hB hps (hxs n hn) (hr n x hn L) h1.1 (by simp only [D,L];omega) (by simp only [L];omega) (by simp only [D];omega) h1.2.1 h2 hvs hrep
   refine ⟨fn',t',as',bd',hy,hrd.mono ?_⟩
   rintro e W' ⟨C',hc,hD',hq⟩
   have hX:∀ b,X b→w.heap.size+2≤b∧b<W'.heap.size:=fun b hb=>⟨(h1.2.2.2 b hb).1,Nat.lt_of_lt_of_le (h1.2.2.2 b hb).2 hc.2.1⟩
   refine ⟨C',hc,?_⟩
   rcases hq with ⟨rfl,hl,y,hS⟩ | ⟨rfl,c,s',hl,hj,hS⟩
   ·exact .inl ⟨rfl,⟨hl,hD',Nat.le_trans h1.2.2.1 hc.2.1,hX⟩,y,hS⟩
   ·exact .inr ⟨rfl,c,s',⟨hl,hD',Nat.le_trans h1.2.2.1 hc.2.1,hX⟩,hj,hS⟩
 have hJ0:z.J 0 z.C0 (fun _=>False) z.w:=by
  simp only [hzw,hzC,hzJ]
  refine ⟨⟨hL1,hD1,by show _≤W1.heap.size;omega,fun b hb=>hb.elim⟩,x0,?_⟩
  have hG:∀ q∈B.G,W1.heap[q.1]?=some q.2∧¬ bx (Iv 0 x0) β0 q.1:=fun q hq=>by
   obtain ⟨g1,g2⟩:=B.hG q hq
   have hlt:=ah g1
   refine ⟨(hold _ (by omega)).trans ((hs.frame _ hlt g2).trans g1),fun hb=>?_⟩
   rcases (hs0.ct hb).2.2 with h | h
   ·omega
   ·exact g2 h
  have hA1:∀ b,(B.A b∨False∨b=D∨b=L)→b<W1.heap.size:=by
   rintro b (h | h | rfl | rfl)
   ·have:=B.hA b h;omega
   ·exact h.elim
   ·show w.heap.size<_;omega
   ·show w.heap.size+1<_;omega
  let B1:Base:={ n:=B.n,io:=B.io,G:=B.G,H0:=W1.heap,O0:=bx (Iv 0 x0) β0,A:=fun b=>B.A b∨False∨b=D∨b=L,U0:=B.U0,β0:=B.β0,hG:=hG,hA:=hA1 }
  refine SS.mk' (B4:=B1) (β5:=β0) ⟨rfl,rfl,rfl,rfl,rfl,by show B.H0.size≤W1.heap.size;omega,fun b hb ho=>(hold b (by omega)).trans (hs.frame b hb ho),fun b hb ho=>?_,fun b hb=>.inl hb⟩ rfl (fun b hb=>hb) (fun b=>Iff.rfl) ?_
  ·rcases (hs0.ct ho).2.2 with h | h
   ·omega
   ·exact h
  ·refine hs0.mv rfl (hio1.trans hs.io) (Nat.le_refl _) (fun _ _ _=>rfl) (by omega) (fun b hb _=>hold b hb) (fun b hb hc=>?_) (fun p k hp hk=>.inr ⟨p,k,hp,hk,rfl⟩) hs0.us hs0.stay
   rcases hc with h | h | h | h
   ·exact h
   ·exact h.elim
   ·simp only [D] at h;omega
   ·simp only [L] at h;omega
 have hcaps:∀ i d,caps[i]?=some d→Rep z.w.heap z.C0 (cvs.getD i undef) d:=fun i d hi=>(by rw [hzw,hzC];exact (hcv i d hi).mono (fun b _ hlt=>hold b hlt) (fun b hb hc=>by
  rcases hc with h | h | h | h
  ·exact .inl h
  ·simp only [D] at h;omega
  ·simp only [L] at h;omega
  ·exact hown0 b h))
 have hGz:∀ q∈G0,z.w.heap[q.1]?=some q.2:=fun q hq=>by
  obtain ⟨g1,g2⟩:=B.hG q (by rw [hB.2.2];exact hq)
  have hlt:=ah g1
  rw [hzw];exact (hold _ (by omega)).trans ((hs.frame _ hlt g2).trans g1)
 have hcall:=hit.2 z hz cvs hsz hcaps hJ0 hGz
 rw [hzl,hzw] at hcall
 simp only [hzJ,hzX] at hcall
 refine ⟨L,[mkD D],W1,{ target:=.fn (.func f) cvs,args:=#[.func (.yield L) #[] #[]] },W1,f,#[.func (.yield L) #[] #[]]++cvs,W1,?_,?_,fun _ _=>trivial,?_,fun hdep=>by simp [fy] at hdep,?_⟩
 ·rw [← hW1];exact run_enterLoop_outer _ _ _ _ _
 ·simp only [resolve,hval]
  simp [go_sem]
 ·simp [invoke,go_sem,hit.1]
 have hcall':CallsIn (Fw none) (0-1) P f (#[.func (.yield L) #[] #[]]++cvs) W1 _:=hcall
 refine hcall'.mono ?_
 rintro e W2 ⟨⟨v,rfl⟩,C,X',hq⟩
 have key:∀ st pe s',RB st pe X' W2→SS B a.tmps D L C X' W2 s'→∃ W4 B5 β5,W4=W2.putObj L (.loop { state:=.exhausted,pending:=pe,fn,tmps:=a.tmps,params:=ps.toArray,assign,body,defers:=D })∧CI B0 B5 ([mkD D]++a.defers)∧(⟨n0,none,G0,U0⟩:Cf).fits B5∧Sim B5 β5 s' a.tmps W4:=by
  rintro st pe s' ⟨h1,h2,h3,h4⟩ ⟨β',B',hE,hH,hO,hA,hC,hsx⟩
  have hoth:∀ b,b≠L→(W2.putObj L (.loop { state:=.exhausted,pending:=pe,fn,tmps:=a.tmps,params:=ps.toArray,assign,body,defers:=D })).heap[b]?=W2.heap[b]?:=fun b hb=>World.putObj_heap_other hb
  have hlt:∀ b,b<B.H0.size→b≠L:=fun b hb=>by simp only [L];omega
  have hsz4:(W2.putObj L (.loop { state:=.exhausted,pending:=pe,fn,tmps:=a.tmps,params:=ps.toArray,assign,body,defers:=D })).heap.size=W2.heap.size:=by simp
  generalize hW4:W2.putObj L (.loop { state:=.exhausted,pending:=pe,fn,tmps:=a.tmps,params:=ps.toArray,assign,body,defers:=D })=W4 at hoth hsz4
  have hio4:wio W4=wio W2:=by rw [← hW4];rfl
  have hG5:∀ q∈B'.G,W4.heap[q.1]?=some q.2∧¬ bx s' β' q.1:=fun q hq=>by
   have g0:=ah (B.hG q (by rw [← hE.G];exact hq)).1
   have g1:=B'.hG q hq
   exact ⟨(hoth _ (hlt _ g0)).trans (by rw [← hH];exact g1.1),fun hb=>g1.2 ((hO _).2 hb)⟩
  let B5:Base:={ n:=B'.n,io:=B'.io,G:=B'.G,H0:=W4.heap,O0:=bx s' β',A:=B'.A,U0:=B'.U0,β0:=B'.β0,hA:=fun b hb=>by have:=B'.hA b hb;rw [hH] at this;omega,hG:=hG5 }
  have hE5:BExt B B5:=by
   refine ⟨hE.n,hE.io,hE.G,hE.U0,hE.β0,by show B.H0.size≤W4.heap.size;omega,fun b hb ho=>?_,fun b hb ho=>hE.O0 b hb ((hO b).2 ho),hE.A⟩
   show W4.heap[b]?=_
   rw [hoth b (hlt b hb),← hH];exact hE.frame b hb ho
  refine ⟨W4,B5,β',rfl,⟨hCI.ext.trans hE5,?_⟩,⟨hE5.n.trans hB.1,hE5.U0.trans hB.2.1,hE5.G.trans hB.2.2⟩,?_⟩
  ·obtain ⟨Ds,e1,e2,e3⟩:=hCI.mark
   have hAD:B'.A D:=(hA D).2 (.inr (.inr (.inl rfl)))
   refine ⟨D::Ds,by rw [hds,e1];rfl,List.nodup_cons.2 ⟨fun hm=>?_,e2⟩,fun D' hD'=>?_⟩
   ·have:=ah (e3 D hm).1
    simp only [D] at this;omega
   ·rcases List.mem_cons.1 hD' with rfl | hm
    ·refine ⟨(hoth D (by simp only [D,L];omega)).trans h2,hAD,Nat.le_trans hCI.ext.size hBz,fun ho=>(hsx.ct ho).2.1 hAD⟩
    ·obtain ⟨f1,f2,f3,f4⟩:=e3 D' hm
     have hl:=ah f1
     exact ⟨(hE5.frame D' hl f4).trans f1,hE5.A D' f2,f3,fun ho=>f4 (hE5.O0 D' hl ho)⟩
  ·exact hsx.mv rfl (hio4.trans hsx.io) (Nat.le_refl _) (fun _ _ _=>rfl) (by omega) (fun b hb hn=>hoth b (fun e=>hn (e ▸ (hA L).2 (.inr (.inr (.inr rfl)))))) (fun b _ h=>h) (fun p k hp hk=>.inr ⟨p,k,hp,hk,rfl⟩) hsx.us hsx.stay
 rcases hq with ⟨h1,x,hS⟩ | ⟨n,c,s',h1,hj,hS⟩
 ·obtain ⟨W4,B5,β5,e4,hc5,hf5,hs5⟩:=key _ _ _ h1 hS
  refine ⟨none,W4,?_,?_⟩
  ·rw [e4];exact run_endLoop h1.1 (by simp)
  ·exact hd x B5 hf5 _ β5 { a with defers:=[mkD D]++a.defers } W4 rfl hc5 hs5
 ·obtain ⟨W4,B5,β5,e4,hc5,hf5,hs5⟩:=key _ _ _ h1 hS
  refine ⟨some c,W4,?_,?_⟩
  ·rw [e4];exact run_endLoop h1.1 (by simp)
  ·rcases hj with ⟨i,rfl,hy⟩ | ⟨rfl,hy⟩
   ·exact wpIn_exit (jR (a:={ a with defers:=[mkD D]++a.defers }) hf5 hc5 rfl hy hs5)
   ·exact wpIn_ret (jR (a:={ a with defers:=[mkD D]++a.defers }) hf5 hc5 rfl hy hs5)
def RH (B0:Base) (Q:AV→List (Name × Ob)→Prop) (e:Ending) (w:World):Prop:=∃ v r hp' u' β',e=.returned v∧Q r hp'∧Sim { B0 with n:=1 } β' (mk [(0,r)] hp' u') #[v] w
def ΦR (P:Program) (fn:Func) (B0:Base) (Q:AV→List (Name × Ob)→Prop):Exit→Act→World→Prop:=bodyPostM Fence.wide 0 P fn (RH B0 Q)
theorem marks {fn:Func} {tmps:Array Value} {R:Ending→World→Prop}:∀ (Ds:List Nat) (w:World),Ds.Nodup→(∀ D∈Ds,w.heap[D]?=some (.deferred (some []))) →
  (∀ w',w'.heap.size=w.heap.size→wio w'=wio w→(∀ b,b ∉ Ds→w'.heap[b]?=w.heap[b]?)→∃ v,(results fn tmps).run P w'=.ok v w'∧R (.returned v) w')→LeavesInM Fence.wide 0 P fn tmps R (Ds.map mkD) .returning w
 | [],w,_,_,h=>h w rfl rfl (fun _ _=>rfl)
 | D::Ds,w,hn,hd,h=>by
   obtain ⟨h1,h2⟩:=List.nodup_cons.1 hn
   have hD:=hd D List.mem_cons_self
   refine ⟨by simp,.inl ⟨D,_,rfl,run_takeDeferred hD,marks Ds _ h2 (fun D' hD'=>?_) (fun w' z1 z2 z3=>?_)⟩⟩
   ·have hne:D'≠D:=fun e=>h1 (e ▸ hD')
    exact (World.putObj_heap_other hne).trans (hd D' (List.mem_cons_of_mem _ hD'))
   ·refine h w' (by rw [z1];simp) (z2.trans rfl) (fun b hb=>?_)
    rw [z3 b (fun hm=>hb (List.mem_cons_of_mem _ hm))]
    have hne:b≠D:=fun e=>hb (e ▸ List.mem_cons_self)
    exact World.putObj_heap_other hne
theorem CI.back {B0 B:Base} {ds:List Deferred} {β:Name→Option Blk} {s:St} {tm:Array Value} {w:World} (h:CI B0 B ds) (hs:Sim B β s tm w) {fn:Func} {R:Ending→World→Prop}
  (hR:∀ w',Sim B0 β s tm w'→∃ v,(results fn tm).run P w'=.ok v w'∧R (.returned v) w'):LeavesInM Fence.wide 0 P fn tm R ds .returning w:=by
 obtain ⟨Ds,rfl,hn,hd⟩:=h.mark
 refine marks Ds w hn (fun D hD=>?_) (fun w' z1 z2 z3=>hR w' ?_)
 ·obtain ⟨f1,f2,f3,f4⟩:=hd D hD
  exact (hs.frame D (ah f1) f4).trans f1
 ·have hz:=h.ext.size
  have hz2:=hs.size
  refine hs.mv h.ext.n.symm (z2.trans (hs.io.trans h.ext.io)) (by omega) (fun b hb ho=>?_) (by omega) (fun b hb hna=>z3 b (fun hm=>hna (hd b hm).2.1)) (fun b _ hb=>h.ext.A b hb) (fun p k hp hk=>?_) (by rw [← h.ext.U0];exact hs.us) (by rw [← h.ext.U0,← h.ext.β0];exact hs.stay)
  ·rw [z3 b (fun hm=>by have:=(hd b hm).2.2.1;omega),hs.frame b (by omega) (fun hc=>ho (h.ext.O0 b hb hc))]
   exact h.ext.frame b hb ho
  ·rcases (hs.blocks p k hp hk).2.2 with g | g
   ·exact .inl (by omega)
   ·rcases Nat.lt_or_ge k.b B0.H0.size with hlt | hge
    ·exact .inr (h.ext.O0 _ hlt g)
    ·exact .inl hge
theorem BM {B:Base} {β:Name→Option Blk} {s:St} {tm:Array Value} {w:World} {v:Value} {x:AV} (hsim:Sim B β s tm w) (hv:VR w.heap (s.own B.A β) s.used s.hp β v x):Sim { B with n:=1 } β (mH s x) #[v] w:=by
 refine { tms:=rfl,io:=hsim.io,size:=hsim.size,frame:=hsim.frame,slots:=fun t=>?_,objs:=hsim.objs,blocks:=hsim.blocks,inj:=hsim.inj,us:=hsim.us,stay:=hsim.stay }
 show VR w.heap (s.own B.A β) s.used s.hp β _ (if t=0 then x else .un)
 by_cases ht:t=0
 ·subst ht;rw [if_pos rfl];exact hv
 ·rw [if_neg ht];exact .un _
theorem Dz {B0:Base} {fn:Func} {Q:AV→Prop} {s:St} {e:Exit} (he:e=.ret∨e=.normal) (hu:B0.U0=[]) (h:pz P fn.results.toList Q .ret s):ARX cf (ΦR P fn { B0 with n:=1 } fun r hp'=>Q r∧r.inU []=true∧hp'=[]) (CI B0) e s:=by
 intro B hB ds β a w hds hc hs
 have:LeavesInM Fence.wide 0 P fn a.tmps (RH { B0 with n:=1 } fun r hp'=>Q r∧r.inU []=true∧hp'=[]) a.defers .returning w:=by
  rw [hds]
  refine hc.back hs (fun w' hs'=>?_)
  obtain ⟨l,v,⟨L,hL,hin,hQ⟩,hr,hv⟩:=ij hs' fn h
  obtain ⟨s2,hs2,hfr⟩:=mb L _ (BM hs' hv) (qH (cM l) L s _ rfl hL)
  have hle:LeL ([]:List Nat) id s2 [(0,frzs L (cM l))] [] []:=by
   refine ⟨⟨⟨?_,hin⟩,trivial⟩,trivial,trivial,rfl,trivial⟩
   rw [AV.dL id (fun _=>rfl),hfr 0]
   rfl
  obtain ⟨β2,hs3,_⟩:=hs2.le (τ:=id) (by show Le B0.U0 id _ _;rw [hu];exact hle.le)
  exact ⟨v,hr,v,_,_,_,β2,rfl,⟨hQ,hin,rfl⟩,hs3⟩
 rcases he with rfl | rfl<;>exact this
theorem Cn {G:List (Nat × Obj)} {f:FuncId} {fn:Func} {c:Code} {args:List AV} {hp:List (Name × Ob)} {u:List Nat} {Q:AV→List (Name × Ob)→Prop} (hf:P.funcs[f]?=some fn) (hb:fn.body=some c)
  (hnm:(fn.name == "runtime.NumGoroutine")=false) (hn:args.length≤fn.ntmps)
  (h:∀ B0:Base,B0.U0=u→ARY P ⟨fn.ntmps,none,G,u⟩ (ΦR P fn { B0 with n:=1 } Q) (CI B0) [.code c] (mk (aB 0 args) hp u)):HCall P G f args hp u Q:=by
 refine ⟨db hf hb hnm,fun B β vs w h1 h2 h3 h4 hs=>?_⟩
 have hsz:vs.size=args.length:=hs.tms.trans h1
 have hs':Sim { B with n:=fn.ntmps } β (mk (aB 0 args) hp u) (vs++Array.replicate (fn.ntmps-vs.size) undef) w:=by
  refine { hs with tms:=by simp;omega,slots:=fun t=>?_ }
  have:=hs.slots t
  by_cases ht:t<vs.size
  ·have e:(vs++Array.replicate (fn.ntmps-vs.size) undef).getD t undef=vs.getD t undef:=by
    simp [Array.getD_eq_getD_getElem?,Array.getElem?_append,ht]
   rw [e];exact this
  ·have e:(mk (aB 0 args) hp u).fr t=.un:=by
    rw [df,a8,if_pos (Nat.zero_le _),List.getElem?_eq_none (by omega)];rfl
   rw [e];exact .un _
 have hrun:=h { B with n:=fn.ntmps } h3 { B with n:=fn.ntmps } ⟨rfl,h3,h4⟩ [] β { tmps:=vs++Array.replicate (fn.ntmps-vs.size) undef,defers:=[] } w rfl ⟨.refl _,[],rfl,List.nodup_nil,fun D hD=>by cases hD⟩ hs'
 exact callsIn_of_wp_marks hf hb trivial hrun
theorem EW {s0:St} {fr:List (Nat × AV)} {hp:List (Name × Ob)} {u:List Nat} (h:∀ q∈hp,nmb s0.used q.1=true→∃ o,s0.hp q.1=some o∧o.like q.2):LK s0 (mk fr hp u):=by
 intro p o' hn ho
 refine h _ (fT ho) ?_
 obtain ⟨a,t,rfl,ha⟩:=hn
 simpa [nmb] using ha
end
end Go.Ab

namespace Go.Ab
section
variable {P:Program}
theorem HCall.fB {G:List (Nat × Obj)} {f:FuncId} {args:List AV} {hp:List (Name × Ob)} {u:List Nat} {Q Q':AV→List (Name × Ob)→Prop} (h:HCall P G f args hp u Q) (p:Name) (x:D)
  (hQ:∀ r hp',Q r hp'→(mk [] hp' []).hp p=some (.box (x.cells.map .d))∧(x.cells.all D.scal)=true∧Q' (r.frB p x) ((ft hp' p).map fun q=>(q.1,q.2.frB p x))):HCall P G f args hp u Q':=by
 refine ⟨h.1,fun B β vs W h1 h2 h3 h4 h5=>?_⟩
 refine (h.2 B β vs W h1 h2 h3 h4 h5).mono ?_
 rintro e w' ⟨v,r,hp',u',β',he,hq,hs⟩
 obtain ⟨g1,g2,g3⟩:=hQ r hp' hq
 have:=hs.frB (p:=p) (d:=x) g1 (List.all_eq_true.1 g2)
 rw [zR] at this
 exact ⟨v,_,_,_,β',he,g3,this⟩
theorem HCall.FR {G:List (Nat × Obj)} {f:FuncId} {ds:List D} {Q:AV→List (Name × Ob)→Prop} {Q':AV→Prop} (h:HCall P G f (ds.map .d) [] [] Q) (hQ:∀ r hp',Q r hp'→(Q' r∧r.inU []=true)∧hp'=[]):HP P G f ds Q' :=
 h.mono fun r hp' hq=>⟨(hQ r hp' hq).1.1,(hQ r hp' hq).1.2,(hQ r hp' hq).2⟩
end
section
variable {P:Program} {cf:Cf} {Q:Exit→St→Prop} {s:St} {k:List It}
theorem iU (E:Eng P cf Q) {d:Nat} {fv:Operand} {args:Array Operand} {at':Array TypeId} {ty:TypeId} {pos:String} {af:Array Edge}
  {f:FuncId} {caps:List AV} (σ:Name→Name) (cargs:List AV) (chp:List (Name × Ob)) (cu:List Nat) {Q0:AV→List (Name × Ob)→Prop} (hc:HCall P cf.G f cargs chp cu Q0)
  (hev:ev s fv=.clo f caps) (hargs:args.toList.map (ev s)++caps=bA σ cargs) (hd:d<cf.n∧d ∉ s.used) (hcu:bI cu cargs=true) (hpass:gP σ cu s chp) (hinj:gJ σ chp)
  (hk:∀ r hp',Q0 r hp'→eQ chp hp'∧E.run k (aft s σ d chp hp' r)) :
  E.stp { dst:=some d,op:=.call { callee:=.value fv,args:=args,argTypes:=at' },type:=ty,pos:=pos,after:=af,guard:=none } s k .no:=by
 rw [aM]
 refine vi d σ cargs chp cu Q0 hev hargs hcu hd.2 (fun t ht=>?_) hpass hinj hc fun r hp' hr=>?_
 ·obtain rfl:=Option.some.inj ht
  exact ⟨hd.1,rfl⟩
 ·obtain ⟨h1,h2⟩:=hk r hp' hr
  exact ⟨h1,by rw [← E.run_eq];exact h2⟩
end
section
variable {P:Program} {cf:Cf} {Q:Exit→St→Prop} {s:St} {k:List It} {κ:Type} [DecidableEq κ] {ke:κ→D} {kv:κ→Value}
theorem tB {xt kt et:Nat} {x y:Operand} {co:Bool} {dst:Option Nat} {ty:TypeId} {pos:String} {af:Array Edge} {gg:Option (Nat × Bool)} (clk:Nat) (bs:List Nat) (ms:List (κ × D)) (key:κ) (z:D) (hm:(P.ti xt).k=.map kt et) (K:fo P kt ke kv) (hz:iq P et=some z)
  (hx:ev s x=.d (mpD clk bs (menc ke ms))) (hy:ev s y=.d (ke key)) (hdst:∀ t∈dst,t<cf.n) (hk:run P cf k Q (s.ew dst (jc z co (mlook ms key)))) :
  AOk P cf { dst:=dst,op:=.lookup xt x y co,type:=ty,pos:=pos,after:=af,guard:=gg } s k Q:=by
 intro B hB ds β a w hds h Q'
 have hv:=h.ev x
 rw [hx] at hv
 have hv:=hv.toD
 have hkey:=h.ev y
 rw [hy] at hkey
 have hkey:=K.val hkey.toD
 generalize hval:a.eval x=v at hv
 unfold mpD at hv
 cases hv with
 | mpd b _ ents _ _ _ hh hno hsz hbs hkk hvv =>
 have hent:∀ (i:Nat) (q:D × D),(menc ke ms)[i]?=some q→∃ en:MapEntry,ents[i]?=some en∧Rep w.heap (s.own B.A β) en.key q.1∧Rep w.heap (s.own B.A β) en.val q.2:=by
  intro i q hi
  have hlt:i<(menc ke ms).length:=(List.getElem?_eq_some_iff.1 hi).1
  have hlt':i<ents.size:=by have:=hsz.1;simp at this;omega
  refine ⟨ents[i],by simp [hlt'],?_,?_⟩
  ·have:=hkk i q.1 (by rw [List.getElem?_map,hi];rfl)
   simpa [Array.getD_eq_getD_getElem?,hlt'] using this
  ·have:=hvv i q.2 (by rw [List.getElem?_map,hi];rfl)
   simpa [Array.getD_eq_getD_getElem?,hlt'] using this
 obtain ⟨zv,hzr,hzrep⟩:=iD hz
 have hzrep:=hzrep w.heap (s.own B.A β)
 have hks:=ix K (by have:=hsz.1;simpa using this) hent
 have hf:=K.find key ents.toList _ w hks
 have key1:∃ r,VR w.heap (s.own B.A β) s.used s.hp β r (jc z co (mlook ms key))∧(execOp a.eval { dst:=dst,op:=.lookup xt x y co,type:=ty,pos:=pos,after:=af,guard:=gg }).run P w=.ok (.value r) w:=by
  cases hi:midx (ms.map (·.1)) key with
  | none =>
    obtain ⟨h1,_⟩:=fw (d:=z) hi
    rw [hi] at hf
    refine ⟨if co then .tuple #[zv,.bool false] else zv,?_,?_⟩
    ·rw [h1]
     cases co
     ·exact .d _ _ hzrep
     ·refine .tup _ _ rfl fun i y hi=>?_
      match i,hi with
      | 0,hi=>obtain rfl:=Option.some.inj hi;exact .d _ _ hzrep
      | 1,hi=>obtain rfl:=Option.some.inj hi;exact .d _ _ (.bool _)
    ·simp only [execOp,hval,hkey,Instr.lookup,Sem.run_bind,run_underlying (cQ hm),Result.andThen_ok,MapKept.run_getObj_map hh,K.chk,Sem.run_pure]
     rw [hf]
     simp [hzr]
  | some i =>
    obtain ⟨e,h0,h1,_⟩:=eI (d:=z) hi
    rw [hi] at hf
    obtain ⟨en,he,_,hrep⟩:=hent i (ke key,e) (by simp [menc,h0])
    have he':ents.toList[i]?=some en:=by simpa using he
    refine ⟨if co then .tuple #[en.val,.bool true] else en.val,?_,?_⟩
    ·rw [h1]
     cases co
     ·exact .d _ _ hrep
     ·refine .tup _ _ rfl fun i y hi=>?_
      match i,hi with
      | 0,hi=>obtain rfl:=Option.some.inj hi;exact .d _ _ hrep
      | 1,hi=>obtain rfl:=Option.some.inj hi;exact .d _ _ (.bool _)
    ·simp only [execOp,hval,hkey,Instr.lookup,Sem.run_bind,run_underlying (cQ hm),Result.andThen_ok,MapKept.run_getObj_map hh,K.chk,Sem.run_pure]
     rw [hf]
     simp [he]
 obtain ⟨r,hr1,hr2⟩:=key1
 refine ao (by simp) hr2 (.inl rfl) ⟨by cases dst<;>exact hds,_,β,aP hk,?_⟩
 cases dst with
 | none=>exact h
 | some t=>exact h.put (by rw [hB.1];exact hdst t rfl) hr1
theorem wa (E:Eng P cf Q) {xt kt et:Nat} {x y:Operand} {co:Bool} {dst:Option Nat} {ty:TypeId} {pos:String} {af:Array Edge} (clk:Nat) (bs:List Nat) (ms:List (κ × D)) (key:κ) (z:D) (hm:(P.ti xt).k=.map kt et) (K:fo P kt ke kv) (hz:iq P et=some z)
  (hx:ev s x=.d (mpD clk bs (menc ke ms))) (hy:ev s y=.d (ke key)) (hdst:∀ t∈dst,t<cf.n) (hk:E.run k (s.ew dst (jc z co (mlook ms key)))) :
  E.stp { dst:=dst,op:=.lookup xt x y co,type:=ty,pos:=pos,after:=af,guard:=none } s k .no:=by
 rw [aM]
 rw [E.run_eq] at hk
 exact tB clk bs ms key z hm K hz hx hy hdst hk
def mdel (ms:List (κ × D)) (a:κ):List (κ × D):=match midx (ms.map (·.1)) a with
 | none=>ms
 | some i=>ms.eraseIdx i
theorem pg {α β:Type} (f:α→β):∀ (l:List α) (i:Nat),(l.eraseIdx i).map f=(l.map f).eraseIdx i
 | [],_=>rfl
 | _::_,0=>rfl
 | a::l,i+1=>by simp only [List.eraseIdx_cons_succ,List.map_cons,pg f l i]
theorem rN {ents:Array MapEntry} {clock:Nat} (h:Borns ents clock) (i:Nat):Borns (ents.eraseIdxIfInBounds i) clock:=by
 have hs:(ents.eraseIdxIfInBounds i).toList.Sublist ents.toList:=by
  unfold Array.eraseIdxIfInBounds
  split
  ·simp only [Array.toList_eraseIdx];exact List.eraseIdx_sublist _ _
  ·exact List.Sublist.refl _
 exact ⟨h.1.sublist (hs.map _),fun e he=>h.2 e (hs.subset he)⟩
theorem AU (E:Eng P cf Q) {xt kt et:Nat} {x y:Operand} {yt:TypeId} {ty:TypeId} {pos:String} {af:Array Edge} (p:Name) (ms:List (κ × D)) (key:κ) (hm:(P.ti xt).k=.map kt et) (K:fo P kt ke kv)
  (hx:ev s x=.mp p) (hp:s.hp p=some (.map (menc ke ms))) (hy:ev s y=.d (ke key)) (hk:E.run k (s.set p (some (.map (menc ke (mdel ms key)))))) :
  E.stp { dst:=none,op:=.call { callee:=.builtin .delete,args:=#[x,y],argTypes:=#[xt,yt] },type:=ty,pos:=pos,after:=af,guard:=none } s k .no:=by
 rw [aM]
 rw [E.run_eq] at hk
 intro B hB ds β a w hds h Q'
 have hv:=h.ev x
 rw [hx] at hv
 have hkey:=h.ev y
 rw [hy] at hkey
 have hkey:=K.val hkey.toD
 generalize hval:a.eval x=v at hv
 cases hv with
 | mp _ _ hn ho g =>
 obtain ⟨b,hb,rfl⟩:=g _ hp
 obtain ⟨b2,ents,clock,hb2,hh,⟨hsz,hbo⟩,hent⟩:=(h.objs p _ hp).2
 obtain rfl:=Option.some.inj (hb.symm.trans hb2)
 have hlt:=ah hh
 have hks:=ix K hsz hent
 have hf:=K.find key ents.toList _ w hks
 have hl:ents.size=ms.length:=by simpa [menc] using hsz
 have key1:∃ ents',(execOp a.eval { dst:=none,op:=.call { callee:=.builtin .delete,args:=#[x,y],argTypes:=#[xt,yt] },type:=ty,pos:=pos,after:=af,guard:=none }).run P w=.ok (.value (.tuple #[])) { w with heap:=w.heap.setIfInBounds b.b (.map ents' clock) } ∧
   (ents'.size=(menc ke (mdel ms key)).length∧Borns ents' clock)∧∀ (H:Array Obj) (own:Nat→Prop),(∀ v d,Rep w.heap (s.own B.A β) v d→Rep H own v d)→∀ (i:Nat) (x:D × D),(menc ke (mdel ms key))[i]?=some x→∃ en:MapEntry,ents'[i]?=some en∧Rep H own en.key x.1∧Rep H own en.val x.2:=by
  cases hi:midx (ms.map (·.1)) key with
  | none =>
    rw [hi] at hf
    refine ⟨ents,?_,?_,?_⟩
    ·simp only [execOp,resolve,invoke,builtin,Builtin.delete_,List.map_toArray,List.map_cons,List.map_nil,hval,hkey,Sem.run_bind,run_underlying (cQ hm),Result.andThen_ok,MapKept.run_getObj_map hh,K.chk,Sem.run_pure]
     simp [hf,setObj,Sem.run,hh,hval,hkey,run_underlying (cQ hm),MapKept.run_getObj_map hh,K.chk]
    ·unfold mdel;rw [hi];exact ⟨hsz,hbo⟩
    ·intro H own hr i q hi'
     unfold mdel at hi'
     rw [hi] at hi'
     obtain ⟨en,h3,h4,h5⟩:=hent i q hi'
     exact ⟨en,h3,hr _ _ h4,hr _ _ h5⟩
  | some i =>
    obtain ⟨e,h0,_,_⟩:=eI (d:=.nilp) hi
    rw [hi] at hf
    obtain ⟨en,he,hkr,hrep⟩:=hent i (ke key,e) (by simp [menc,h0])
    have he':ents.toList[i]?=some en:=by simpa using he
    have hil:i<ents.size:=ah he
    refine ⟨ents.eraseIdxIfInBounds i,?_,?_,?_⟩
    ·simp only [execOp,resolve,invoke,builtin,Builtin.delete_,List.map_toArray,List.map_cons,List.map_nil,hval,hkey,Sem.run_bind,run_underlying (cQ hm),Result.andThen_ok,MapKept.run_getObj_map hh,K.chk,Sem.run_pure]
     simp [hf,he,setObj,Sem.run,hh,hval,hkey,run_underlying (cQ hm),MapKept.run_getObj_map hh,K.chk]
    ·unfold mdel
     rw [hi]
     refine ⟨?_,rN hbo i⟩
     have:i<ms.length:=by omega
     simp [menc,Array.eraseIdxIfInBounds,hil,hl,List.length_eraseIdx,this]
    ·intro H own hr j q hj
     unfold mdel at hj
     rw [hi] at hj
     have e1:menc ke (ms.eraseIdx i)=(menc ke ms).eraseIdx i:=pg _ ms i
     rw [e1,List.getElem?_eraseIdx] at hj
     have e2:(ents.eraseIdxIfInBounds i)[j]?=if j<i then ents[j]? else ents[j+1]?:=by
      have:(ents.eraseIdxIfInBounds i)[j]?=(ents.toList.eraseIdx i)[j]?:=by
       simp [Array.eraseIdxIfInBounds,hil,← Array.getElem?_toList]
      rw [this,List.getElem?_eraseIdx]
      simp
     rw [e2]
     by_cases hji:j<i
     ·rw [if_pos hji] at hj ⊢
      obtain ⟨en',h3,h4,h5⟩:=hent j q hj
      exact ⟨en',h3,hr _ _ h4,hr _ _ h5⟩
     ·rw [if_neg hji] at hj ⊢
      obtain ⟨en',h3,h4,h5⟩:=hent (j+1) q hj
      exact ⟨en',h3,hr _ _ h4,hr _ _ h5⟩
 obtain ⟨ents',hrun,hsz',hent'⟩:=key1
 obtain ⟨hsim,_⟩:=h.modify (p:=p) (ob':=.map (menc ke (mdel ms key))) hp trivial (w':={ w with heap:=w.heap.setIfInBounds b.b (.map ents' clock) }) rfl (by simp)
  (fun b' hb'=>by
   have:=hb' b hb
   simp [Ne.symm this]) (fun _ hr=>⟨b,ents',clock,hb,by simp [hlt],hsz',hent' _ _ hr⟩)
 exact ao (v:=.tuple #[]) (by simp) hrun (.inl rfl) ⟨hds,_,_,aP hk,hsim⟩
end
section
variable {P:Program} {cf:Cf} {ops:Array Oper} {K:St→Ns→Prop} {s:St} {r:List Oper} {ns:Ns}
theorem VR.Fm {H:Array Obj} {own:Nat→Prop} {used:List Nat} {hp:Name→Option Ob} {β:Name→Option Blk} {v:Value} {f:Nat} {caps:List D} (h:VR H own used hp β v (.clo f (caps.map .d))):VR H own used hp β v (.d (.clo f caps)):=by
 cases h with
 | clo _ vs _ hs hc =>
   refine .d _ _ (.clo f vs caps (by simpa using hs) fun i d hi=>?_)
   exact (hc i (.d d) (by rw [List.getElem?_map,hi];rfl)).toD
theorem VR.Fy {H:Array Obj} {own:Nat→Prop} {used:List Nat} {hp:Name→Option Ob} {β:Name→Option Blk} {v:Value} {f:Nat} {caps:List D} (h:VR H own used hp β v (.d (.clo f caps))):VR H own used hp β v (.clo f (caps.map .d)):=by
 have h:=h.toD
 cases h with
 | clo _ vs _ hs hc =>
   refine .clo f vs _ (by simpa using hs) fun i x hi=>?_
   rw [List.getElem?_map,Option.map_eq_some_iff] at hi
   obtain ⟨d,hd,rfl⟩:=hi
   exact .d _ _ (hc i d hd)
theorem AY (E:XEng P cf ops K) {t:Nat} {u:Nat} {args:Array Operand} {at':Array TypeId} {ty:TypeId} {pos:String} {af:Array Edge} {g:Option (Nat × Bool)}
  {f:FuncId} {caps ds:List D} {x:AV} (hc:HP P cf.G f (ds++caps) (fun r=>r=x)) (hev:s.fr u=.d (.clo f caps)) (hu:(t == u)=false) (hna:args.all (fun y=>match y with | .tmp i=>!(i == u) | _=>true)=true)
  (hargs:args.toList.map (ev s)=ds.map .d) (hdst:t<cf.n) (hk:E.run r (s.put t x) (ns++[([],[],[])])) :
  E.stp { dst:=some t,op:=.call { callee:=.value (.tmp u),args:=args,argTypes:=at' },type:=ty,pos:=pos,after:=af,guard:=g } r s ns .no:=by
 have htu:¬ t=u:=by simpa using hu
 refine jq E (x:=x) [] (fun y hy=>by rw [Option.mem_def,Option.some.injEq] at hy;rw [← hy];exact hdst) (fun s' _ he=>?_) hk
 have hm:∀ y,y=Operand.tmp u∨y∈args→ev s' y=ev s y:=fun y hy=>he y (by
  simp only [Op.operands,Call.operands]
  rcases hy with rfl | hy<;>simp_all)
 have hev':s'.fr u=.d (.clo f caps):=(hm (.tmp u) (.inl rfl)).trans hev
 have hargs':args.toList.map (ev (s'.put u (.clo f (caps.map .d))))++caps.map .d=(ds++caps).map .d:=by
  rw [List.map_append,← hargs]
  congr 1
  refine List.map_congr_left fun y hy=>?_
  have hy':y∈args:=by simpa using hy
  have h1:=Array.all_eq_true'.1 hna y hy'
  rw [← hm y (.inr hy')]
  cases y with
  | tmp i =>
    have:¬ i=u:=by simpa using h1
    show (s'.put u _).fr i=s'.fr i
    simp [St.put,cg,this]
  | _=>rfl
 have h1:=gN (k:=[]) (Q:=fun _ s2=>s2=(s'.put u (.clo f (caps.map .d))).put t x) (dst:=some t) (fv:=.tmp u) (args:=args) (at':=at') (ty:=ty) (pos:=pos) (af:=af) (g:=g) hc
  (show (s'.put u (.clo f (caps.map .d))).fr u=_ by simp [St.put,cg]) hargs' (fun y hy=>by rw [Option.mem_def,Option.some.injEq] at hy;rw [← hy];exact hdst) (fun r hr=>by subst hr;rw [cX];rfl)
 intro B hB ds' β a w hds hs Q'
 have hs1:Sim B β (s'.put u (.clo f (caps.map .d))) a.tmps w:=hs.setv (VR.Fy (by rw [← hev'];exact hs.slots u))
 refine Oper.wpIn_mono ?_ (h1 B hB ds' β a w hds hs1 Q')
 rintro a' w' ⟨hd',s2,β',hrun,hs2⟩
 obtain ⟨_,s3,β3,rfl,hs3⟩:=hrun B hB ds' β' a' w' hd' hs2
 refine ⟨hd',s'.put t x,β3,fun B2 _ ds2 β2 a2 w2 hds2 h2=>⟨hds2,_,β2,rfl,h2⟩,?_⟩
 have hv:=hs3.slots u
 have e1:((s'.put u (.clo f (caps.map .d))).put t x).fr u=.clo f (caps.map .d):=by simp [St.put,cg,Ne.symm htu,fun h:u=t=>htu h.symm]
 rw [e1] at hv
 have h4:=hs3.setv (t:=u) (x:=.d (.clo f caps)) hv.Fm
 have e2:((s'.put u (.clo f (caps.map .d))).put t x).put u (.d (.clo f caps))=s'.put t x:=by
  unfold St.put
  congr 1
  funext i
  simp only [cg]
  by_cases h1:i=u
  ·subst h1
   rw [if_pos rfl,if_neg (fun h:i=t=>htu h.symm),hev']
  ·simp [h1]
 rw [e2] at h4
 exact h4
end
section
variable {P:Program} {cf:Cf} {Φ:Exit→Act→World→Prop} {I:Base→List Deferred→Prop} {k:List It} {s:St}
theorem A8 (p:Name) (j n:Nat) (w:W) (cs:List AV) (hp:s.hp p=some (.box cs)) (hj:cs[j]?=some (.d .nils)) (hn:n ∉ s.used) (h:ARY P cf Φ I k ((s.add n (.arr w [])).set p (some (.box (cs.set j (.vw [n] 0 0)))))):ARY P cf Φ I k s:=by
 intro B hB ds β a w' hds hi hs
 have h1:=hs.dP hn none w
 have hpn:p≠[n]:=cK (hs.objs p _ hp).1 hn
 refine h B hB ds _ a w' hds hi (h1.rebox (cs:=cs) (by simpa [St.add,aj,hpn] using hp) (by simp) fun v i x x' hx hx' hv=>?_)
 by_cases e:j=i
 ·subst e
  rw [hj] at hx
  cases hx
  rw [List.getElem?_set] at hx'
  simp at hx'
  obtain ⟨_,rfl⟩:=hx'
  exact jM (w:=w) ⟨n,[],rfl,List.mem_cons_self⟩ (by simp [St.add,aj]) hv
 ·rw [List.getElem?_set_ne e,hx] at hx'
  cases hx'
  exact hv
theorem y8 (p:Name) (x:D) (hp:s.hp p=some (.box (x.cells.map .d))) (hsc:(x.cells.all D.scal)=true) (h:ARY P cf Φ I k (s.frB p x)):ARY P cf Φ I k s :=
 fun B hB ds β a w' hds hi hs=>h B hB ds β a w' hds hi (hs.frB hp (List.all_eq_true.1 hsc))
theorem CS (p:Name) (w:W) (xs:List D) (hp:s.hp p=some (.arr w xs)) (h:ARY P cf Φ I k (s.eL p w xs)):ARY P cf Φ I k s :=
 fun B hB ds β a w' hds hi hs=>h B hB ds β a w' hds hi (hs.eL hp)
def lkO:Option Ob→Ob→Prop
 | some o,o'=>o.like o'
 | none,_=>False
theorem zi (o o':Ob):lkO (some o) o'=o.like o':=rfl
def LKL (s0:St):List (Name × Ob)→Prop
 | []=>True
 | q::r=>(nmb s0.used q.1=true→lkO (s0.hp q.1) q.2)∧LKL s0 r
theorem vY {s0:St}:∀ {l:List (Name × Ob)},LKL s0 l→∀ q∈l,nmb s0.used q.1=true→∃ o,s0.hp q.1=some o∧o.like q.2
 | [],_,q,h,_=>by cases h
 | _::r,h,q,hq,hn=>by
   rcases List.mem_cons.1 hq with rfl | hq
   ·have:=h.1 hn
    cases ho:s0.hp q.1 with
    | none=>rw [ho] at this;exact this.elim
    | some o=>rw [ho] at this;exact ⟨o,rfl,this⟩
   ·exact vY h.2 q hq hn
theorem Ff {B0:Base} {X:Type} {Iv:X→St} {fr0 fr:List (Nat × AV)} {hp0 hp:List (Name × Ob)} {u0 u:List Nat} {fr':List (Nat × AV)} {hp':List (Name × Ob)} {u':List Nat} (hl:LKL (mk fr0 hp0 u0) hp) (y:X) (τ:Name→Name) (hy:Iv y=mk fr' hp' u') (hle:LeL cf.U τ (mk fr0 hp u) fr' hp' u') :
 rq P cf Φ B0 k Iv (mk fr0 hp0 u0) .normal (mk fr hp u):=⟨EW (vY hl),y,τ,by rw [hy];exact hle.le⟩
theorem xU (s:St) (t:Nat) (ts:List Nat) (d:D) (ds:List D):og s (t::ts) (d::ds)=og (s.put t (.d d)) ts ds:=rfl
theorem zI (s:St) (ds:List D):og s [] ds=s:=by cases ds<;>rfl
theorem xR (a b:Nat) (l m:List Nat):((a::l) == (b::m))=(a == b && l == m):=rfl
theorem Bs:(([]:List Nat) == [])=true:=rfl
theorem Bn (b:Nat) (m:List Nat):(([]:List Nat) == b::m)=false:=rfl
theorem AW (b:Nat) (m:List Nat):(b::m == ([]:List Nat))=false:=rfl
attribute [go_sem] xR Bs Bn AW Bool.false_and Bool.and_false Bool.true_and Bool.and_true Bool.or_self Bool.and_self AL LKL zi xU zI
end
section
variable {P:Program} {cf:Cf} {ops:Array Oper} {K:St→Ns→Prop} {s:St} {r:List Oper} {ns:Ns}
end
end Go.Ab

namespace Go.Ab
section
variable {P:Program} {cf:Cf} {ops opsP:Array Oper}
theorem yz {ro:Option Nat} {Q:Exit→Act→World→Prop} {m:Nat} (haft:∀ i o,ops[i]?=some o→∀ e∈o.after,Region.binds .any e=true→e.on<i) (htl:∀ j i,m≤j→j<ops.size→i<j→Anc ops j i) :
  ∀ (d j fuel:Nat) (listed:Array Bool) (a:Act) (w:World),j+d=ops.size→m≤j→d≤fuel→Up ops listed (List.range j)→wpOpsIn (Fw ro) 0 P ops Q (List.range' j d) a w→wpAnyIn (Fw ro) 0 P .any ops Q fuel listed a w:=by
 intro d
 induction d with
 | zero =>
   intro j fuel listed a w hj hmj hf hu h
   have hr:Region.ready .any ops listed=[]:=by
    apply List.eq_nil_iff_forall_not_mem.2
    intro i hi
    obtain ⟨h0,o,ho,_⟩:=mem_ready.1 hi
    have hlt:i<ops.size:=by
     rcases Nat.lt_or_ge i ops.size with hlt | hge
     ·exact hlt
     ·rw [Array.getElem?_eq_none hge] at ho;cases ho
    have h3:=(hu.mem i hlt).2 (List.mem_range.2 (by omega))
    simp [h3] at h0
   cases fuel with
   | zero=>exact ⟨hr,h⟩
   | succ fuel=>exact ⟨fun _=>h,fun i hi=>by rw [hr] at hi;cases hi⟩
 | succ d ih =>
   intro j fuel listed a w hj hmj hf hu h
   cases fuel with
   | zero=>omega
   | succ fuel =>
     have hjl:j<ops.size:=by omega
     obtain ⟨o,ho⟩:∃ o,ops[j]?=some o:=⟨ops[j],by simp⟩
     have hjr:j∈Region.ready .any ops listed:=by
      rw [mem_ready]
      refine ⟨?_,o,ho,fun e he hb=>?_⟩
      ·have:=hu.mem j hjl
       have hl:j<listed.size:=by rw [hu.size];exact hjl
       cases hv:listed[j] with
       | true =>
         have:=List.mem_range.1 (this.1 (by simp [hl,hv]))
         omega
       | false=>simp [hl,hv]
      ·have h2:=haft j o ho e he hb
       have h3:=(hu.mem e.on (by omega)).2 (List.mem_range.2 h2)
       simp [h3]
     refine ⟨fun hr=>(by rw [hr] at hjr;cases hjr),fun i hi=>?_⟩
     obtain ⟨h0,oi,hoi,hw⟩:=mem_ready.1 hi
     have hlt:i<ops.size:=by
      rcases Nat.lt_or_ge i ops.size with hlt | hge
      ·exact hlt
      ·rw [Array.getElem?_eq_none hge] at hoi;cases hoi
     have hij:i=j:=by
      rcases Nat.lt_trichotomy i j with g | g | g
      ·have h3:=(hu.mem i hlt).2 (List.mem_range.2 g)
       simp [h3] at h0
      ·exact g
      ·have hwL:∀ e∈oi.after,Region.binds .any e=true→e.on∈List.range j:=fun e he hb=>by
        have h1:=hw e he hb
        have h2:=haft i oi hoi e he hb
        refine (hu.mem e.on (by omega)).1 ?_
        have hl:e.on<listed.size:=by rw [hu.size];omega
        simp [hl] at h1
        simp [hl,h1]
       have:=List.mem_range.1 (kh hu hoi hwL (htl i j (by omega) hlt g))
       omega
     subst hij
     rw [List.range'_succ,wpOpsIn_cons] at h
     refine wpOpIn_mono (fun a' w' h'=>ih (i+1) fuel _ a' w' (by omega) (by omega) (by omega) ?_ h') h
     refine ⟨by simpa using hu.size,fun x hx=>?_,fun x hx=>by have:=List.mem_range.1 hx;omega,fun x hx o' ho' e he hb=>?_⟩
     ·have hl:i<listed.size:=by rw [hu.size];exact hlt
      by_cases hij:i=x
      ·subst hij;simp [hl]
      ·rw [Array.getElem?_setIfInBounds_ne hij,hu.mem x hx,List.mem_range,List.mem_range]
       omega
     ·have h2:=haft x o' ho' e he hb
      have:=List.mem_range.1 hx
      exact List.mem_range.2 (by omega)
variable {ns:Ns} {xs:Nat→AV} {fs:Nat→Fp} {s:St}
theorem EI (hq:chk opsP ns=true) (hns:∀ i,i<opsP.size→ns.getD i ([],[],[])=fpN (fs i)) {B:Base} (hB:cf.fits B) {ds:List Deferred} {Q:Exit→Act→World→Prop}
  (hlt0:opsP.size<ops.size) (hpre:∀ i,i<opsP.size→ops[i]?=opsP[i]?) (hgd:∀ (i:Nat) (o:Oper),opsP[i]?=some o→o.guard=none)
  (haft:∀ i o,ops[i]?=some o→∀ e∈o.after,Region.binds .any e=true→e.on<i) (htl:∀ j i,opsP.size≤j→j<ops.size→i<j→Anc ops j i)
  (hall:∀ j o,opsP[j]?=some o→mX P cf opsP j o (eo opsP xs fs (List.range' 0 (j-0)) s) (xs j) (fs j))
  (hK:∀ β a w,a.defers=ds→Sim B β (eo opsP xs fs (List.range' 0 opsP.size) s) a.tmps w→wpOpsIn (Fw cf.ro) 0 P ops Q (List.range' opsP.size (ops.size-opsP.size)) a w) :
  ∀ (fuel:Nat) (listed listedP:Array Bool) (L:List Nat) (s':St) (β:Name→Option Blk) (a:Act) (w:World),Up ops listed L→Up opsP listedP L→L.Nodup→ops.size≤fuel+L.length→a.defers=ds→OKE opsP xs fs s L s'→Sim B β s' a.tmps w →
   wpAnyIn (Fw cf.ro) 0 P .any ops Q fuel listed a w:=by
 intro fuel
 induction fuel with
 | zero =>
   intro listed listedP L s' β a w hu huP hnd hn hds hL hs
   have:=fR opsP.size L hnd huP.lt
   omega
 | succ fuel ih =>
   intro listed listedP L s' β a w hu huP hnd hn hds hL hs
   have full:(∀ j,j<opsP.size→j∈L)→wpAnyIn (Fw cf.ro) 0 P .any ops Q (fuel+1) listed a w:=by
    intro hfull
    obtain ⟨⟨e1,e2⟩,e3⟩:=o5 hq hL huP.lt hfull
    have h1:=hK β a w hds (hs.reuse e1.symm e2.symm e3)
    have hmem:∀ j,j∈L↔j<opsP.size:=fun j=>⟨huP.lt j,hfull j⟩
    have hlen:=fR opsP.size L hnd huP.lt
    refine yz haft htl (ops.size-opsP.size) opsP.size (fuel+1) listed a w (by omega) (Nat.le_refl _) (by omega) ?_ h1
    exact ⟨hu.size,fun j hj=>by rw [hu.mem j hj,hmem,List.mem_range],fun j hj=>by have:=List.mem_range.1 hj;omega,fun j hj o ho e he hb=>by
     have:=haft j o ho e he hb
     have:=List.mem_range.1 hj
     exact List.mem_range.2 (by omega)⟩
   by_cases hfull:∀ j,j<opsP.size→j∈L
   ·exact full hfull
   have hmiss:∃ j,j<opsP.size∧j ∉ L:=by
    apply Decidable.byContradiction
    intro h
    exact hfull fun j hj=>Decidable.byContradiction fun hn=>h ⟨j,hj,hn⟩
   obtain ⟨j0,hj0,hj0L⟩:=hmiss
   refine ⟨fun hr=>?_,fun i hi=>?_⟩
   ·exfalso
    have key:∀ j,j<opsP.size→j∈L:=by
     intro j
     induction j using Nat.strongRecOn with
     | ind j ih2 =>
       intro hlt
       apply Decidable.byContradiction
       intro hn2
       have hjo:j<ops.size:=by omega
       obtain ⟨o,ho⟩:∃ o,ops[j]?=some o:=⟨ops[j],by simp⟩
       have:j∈Region.ready .any ops listed:=by
        rw [mem_ready]
        refine ⟨?_,o,ho,fun e he hb=>?_⟩
        ·have:=hu.mem j hjo
         have hl:j<listed.size:=by rw [hu.size];exact hjo
         cases hv:listed[j] with
         | true=>exact absurd (this.1 (by simp [hl,hv])) hn2
         | false=>simp [hl,hv]
        ·have h2:=haft j o ho e he hb
         have h3:=(hu.mem e.on (by omega)).2 (ih2 e.on h2 (by omega))
         simp [h3]
       rw [hr] at this;cases this
    exact hj0L (key j0 hj0)
   ·obtain ⟨h0,o,ho,hw⟩:=mem_ready.1 hi
    have hlt:i<ops.size:=by
     rcases Nat.lt_or_ge i ops.size with hlt | hge
     ·exact hlt
     ·rw [Array.getElem?_eq_none hge] at ho;cases ho
    have hiL:i ∉ L:=fun h=>by
     have h3:=(hu.mem i hlt).2 h
     simp [h3] at h0
    have hwL:∀ e∈o.after,Region.binds .any e=true→e.on∈L:=fun e he hb=>by
     have h1:=hw e he hb
     have h2:=haft i o ho e he hb
     refine (hu.mem e.on (by omega)).1 ?_
     have hl:e.on<listed.size:=by rw [hu.size];omega
     simp [hl] at h1
     simp [hl,h1]
    have hiP:i<opsP.size:=by
     apply Decidable.byContradiction
     intro hge
     exact hj0L (kh hu ho hwL (htl i j0 (by omega) hlt (by omega)))
    have hoP:opsP[i]?=some o:=by rw [← hpre i hiP];exact ho
    have hd:aY opsP i=o.dst:=by simp [aY,hoP]
    have hg:=hgd i o hoP
    have hconv:∀ K a w,wpOpIn (Fw cf.ro) 0 P opsP Q i K a w→wpOpIn (Fw cf.ro) 0 P ops Q i K a w:=fun K a w h=>by
     simp only [wpOpIn,hoP,ho,Region.wanted,hg,if_true] at h ⊢
     exact h
    refine hconv _ _ _ (wpOpIn_mono (fun a' w' ⟨hd',β',hs'⟩=>ih (listed.setIfInBounds i true) (listedP.setIfInBounds i true) (L++[i]) _ β' a' w' ?_ ?_ ?_ ?_ hd' (hd ▸ hL.snoc ?_) hs') ((hall i o hoP).2 _ (oU hq hns huP hL hoP hiL hwL (hall i o hoP).1) B hB ds β a w hds hs Q))
    ·refine ⟨by simpa using hu.size,fun j hj=>?_,fun j hj=>?_,fun j hj o' ho' e he hb=>?_⟩
     ·have hl:j<listed.size:=by rw [hu.size];exact hj
      by_cases hij:i=j
      ·subst hij;simp [hl]
      ·rw [Array.getElem?_setIfInBounds_ne hij,hu.mem j hj]
       simp [Ne.symm hij]
     ·rcases List.mem_append.1 hj with hj | hj
      ·exact hu.lt j hj
      ·rw [List.mem_singleton.1 hj];exact hlt
     ·rcases List.mem_append.1 hj with hj | hj
      ·exact List.mem_append_left _ (hu.closed j hj o' ho' e he hb)
      ·rw [List.mem_singleton.1 hj,ho] at ho'
       cases ho'
       exact List.mem_append_left _ (hwL e he hb)
    ·refine ⟨by simpa using huP.size,fun j hj=>?_,fun j hj=>?_,fun j hj o' ho' e he hb=>?_⟩
     ·have hl:j<listedP.size:=by rw [huP.size];exact hj
      by_cases hij:i=j
      ·subst hij;simp [hl]
      ·rw [Array.getElem?_setIfInBounds_ne hij,huP.mem j hj]
       simp [Ne.symm hij]
     ·rcases List.mem_append.1 hj with hj | hj
      ·exact huP.lt j hj
      ·rw [List.mem_singleton.1 hj];exact hiP
     ·rcases List.mem_append.1 hj with hj | hj
      ·exact List.mem_append_left _ (huP.closed j hj o' ho' e he hb)
      ·rw [List.mem_singleton.1 hj,hoP] at ho'
       cases ho'
       exact List.mem_append_left _ (hwL e he hb)
    ·rw [List.nodup_append]
     exact ⟨hnd,by simp,fun x hx y hy=>by rw [List.mem_singleton.1 hy];rintro rfl;exact hiL hx⟩
    ·simp only [List.length_append,List.length_singleton];omega
    ·intro k hk p o1 o2 h1 h2
     have hne:i≠k:=fun e=>hiL (e ▸ hk)
     rcases tG hq hns hiP (huP.lt k hk) hne h1 (.inr ⟨o2,h2⟩) with ⟨h3,_⟩ | ⟨_,h4⟩
     ·omega
     ·exact absurd (ga huP h4 hk) hiL
def j2 (ops:Array Oper) (m:Nat):Bool :=
 let A:=ancs [] ops.toList
 ((List.range ops.size).all fun i=>match ops[i]? with
   | some o=>o.after.toList.all fun e=>!Region.binds .any e || decide (e.on<i)
   | none=>true) &&
 (List.range ops.size).all fun j=>decide (j<m) || (List.range j).all fun i=>(A.getD j []).contains i
theorem tU {m:Nat} (h:j2 ops m=true):∀ i o,ops[i]?=some o→∀ e∈o.after,Region.binds .any e=true→e.on<i:=by
 intro i o ho e he hb
 have hi:i<ops.size:=by
  rcases Nat.lt_or_ge i ops.size with hlt | hge
  ·exact hlt
  ·rw [Array.getElem?_eq_none hge] at ho;cases ho
 simp only [j2,Bool.and_eq_true] at h
 have h2:=List.all_eq_true.1 h.1 i (List.mem_range.2 hi)
 simp only [ho] at h2
 have h3:=List.all_eq_true.1 h2 e (Array.mem_toList_iff.2 he)
 simpa [hb] using h3
theorem tC {m:Nat} (h:j2 ops m=true):∀ j i,m≤j→j<ops.size→i<j→Anc ops j i:=by
 intro j i hm hj hi
 simp only [j2,Bool.and_eq_true] at h
 have h2:=List.all_eq_true.1 h.2 j (List.mem_range.2 hj)
 simp only [Bool.or_eq_true,decide_eq_true_eq] at h2
 have h3:=h2.resolve_left (by omega)
 have h4:=List.all_eq_true.1 h3 i (List.mem_range.2 hi)
 exact js (ops:=ops) ops.toList [] (fun j=>by simp) (fun i k hk=>by simp at hk) _ _ (by simpa using h4)
theorem wm {id:Nat} {l q:List Oper} {s:St} {k:List It} {Q:Exit→St→Prop} (hm:P.follows .mixedOrders=true) (hq0:q≠[]) (hg:(l.all fun o=>o.guard.isNone)=true) (ht:j2 (l++q).toArray l.length=true)
  (h:xrun P cf l.toArray (fun s' ns=>chk l.toArray ns=true∧run P cf (.ops (l++q).toArray q::k) Q s') l s []):ACk P cf (.region id (l++q).toArray true) s k Q:=by
 obtain ⟨xs,fs,⟨hq,hK⟩,hall⟩:=jg (ops:=l.toArray) l 0 s [] (fun j=>by simp) h
 intro B hB ds β a w hds hs
 refine wpIn_region_any hm ?_
 have hns:∀ i,i<l.toArray.size→(([]:Ns)++(List.range' 0 l.length).map fun j=>fpN (fs j)).getD i ([],[],[])=fpN (fs i):=by
  intro i hi
  have hi:i<l.length:=by simpa using hi
  simp [hi]
 have hql:0<q.length:=List.length_pos_iff.2 hq0
 refine EI (ops:=(l++q).toArray) (opsP:=l.toArray) hq hns hB (ds:=ds) (by simp;omega) (fun i hi=>?_) (fun i o ho=>?_) (tU ht) (by simpa using tC ht) (fun j o ho=>hall j o (Nat.zero_le _) ho) (fun β a w hds hs=>?_) _ _ (Array.replicate l.toArray.size false) [] s β a _ ?_ ?_ List.nodup_nil (by simp) hds (.nil _ _ _) (hs.fU rfl rfl)
 ·have hi:i<l.length:=by simpa using hi
  simp [List.getElem?_append_left,hi]
 ·have hi:i<l.length:=by
   have:=(Array.getElem?_eq_some_iff.1 ho).1
   simpa using this
  have hm2:o∈l:=by
   have:l[i]?=some o:=by simpa using ho
   exact List.mem_of_getElem? this
  have:=List.all_eq_true.1 hg o hm2
  simpa using this
 ·refine aP hK B hB ds β a w hds (by simpa using hs) _ ?_
  apply List.ext_getElem?
  intro j
  simp only [List.getElem?_map,List.size_toArray,List.length_append]
  by_cases hj:j<q.length
  ·rw [List.getElem?_range' (by omega)]
   simp [hj]
  ·simp [hj]
 ·refine ⟨by simp,fun j hj=>?_,by simp,by simp⟩
  have hj:j<l.length+q.length:=by simpa using hj
  simp [hj]
 ·refine ⟨by simp,fun j hj=>?_,by simp,by simp⟩
  have hj:j<l.length:=by simpa using hj
  simp [hj]
theorem uA (n:Nat) {id:Nat} {l p q:List Oper} {s:St} {k:List It} {Q:Exit→St→Prop} (hm:P.follows .mixedOrders=true) (E0:Eng P cf Q) (htd:l.take n=p) (hqd:l.drop n=q) (hq0:q.isEmpty=false) (hg:(p.all fun o=>o.guard.isNone)=true) (ht:j2 l.toArray p.length=true)
  (h:∀ E:XEng P cf p.toArray (fun s' ns=>chk p.toArray ns=true∧E0.run (.ops l.toArray q::k) s'),E.run p s []):bM E0 (.region id l.toArray true) s k:=by
 have e0:p++q=l:=by rw [← htd,← hqd];exact List.take_append_drop n l
 have key:=wm (P:=P) (cf:=cf) (id:=id) (l:=p) (q:=q) (s:=s) (k:=k) (Q:=Q) hm (by intro e;rw [e] at hq0;cases hq0) hg (by rw [e0];exact ht)
 rw [e0] at key
 refine key ?_
 have e:(fun s' ns=>chk p.toArray ns=true∧E0.run (.ops l.toArray q::k) s')=fun s' ns=>chk p.toArray ns=true∧run P cf (.ops l.toArray q::k) Q s':=by funext s' ns;rw [E0.run_eq]
 obtain ⟨E⟩:=vu P cf p.toArray (fun s' ns=>chk p.toArray ns=true∧E0.run (.ops l.toArray q::k) s')
 have:=h E
 rw [E.run_eq,e] at this
 exact this
end
end Go.Ab

namespace Go.Ab
section
variable {P:Program} {cf:Cf} {Q:Exit→St→Prop} {s:St} {k:List It} {B:Base} {β:Name→Option Blk} {tm:Array Value} {w:World}
end
section
variable {P:Program} {cf:Cf} {Q:Exit→St→Prop} {s:St} {k:List It}
end
theorem HCall.sub {P:Program} {G:List (Nat × Obj)} {f:FuncId} {args args':List AV} {hp:List (Name × Ob)} {u:List Nat} {Q:AV→List (Name × Ob)→Prop} (hl:args.length=args'.length)
  (hr:∀ (i:Nat) x y,args[i]?=some x→args'[i]?=some y→x=y∨∃ wf,x=.d .nils∧y=.d (.sl wf [])) (h:HCall P G f args' hp u Q):HCall P G f args hp u Q:=by
 refine ⟨h.1,fun B β vs w h1 h2 h3 h4 h5=>h.2 B β vs w (h1.trans hl) h2 h3 h4 { tms:=h5.tms,io:=h5.io,size:=h5.size,frame:=h5.frame,slots:=fun t=>?_,objs:=h5.objs,blocks:=h5.blocks,inj:=h5.inj,us:=h5.us,stay:=h5.stay }⟩
 have hv:=h5.slots t
 rw [df,a8,if_pos (Nat.zero_le _),Nat.sub_zero] at hv ⊢
 show VR w.heap ((mk (aB 0 args) hp u).own B.A β) u _ β _ _
 cases hx:args[t]? with
 | none =>
   rw [List.getElem?_eq_none (by rw [← hl];exact List.getElem?_eq_none_iff.1 hx)]
   exact .un _
 | some x =>
   have hlt:=(List.getElem?_eq_some_iff.1 hx).1
   have hy:args'[t]?=some args'[t]:=List.getElem?_eq_getElem (by omega)
   rw [hx] at hv
   rw [hy]
   rcases hr t _ _ hx hy with e | ⟨wf,e1,e2⟩
   ·rw [← e];exact hv
   ·rw [e1] at hv
    rw [e2]
    have:=VR.nils hv
    rw [this]
    exact .d _ _ (.sl0 _ _ _)
theorem HP.sub {P:Program} {G:List (Nat × Obj)} {f:FuncId} {args args':List D} {Q:AV→Prop} (hl:args.length=args'.length)
  (hr:∀ (i:Nat) x y,args[i]?=some x→args'[i]?=some y→x=y∨∃ wf,x=.nils∧y=.sl wf []) (h:HP P G f args' Q):HP P G f args Q:=by
 refine HCall.sub (by simpa using hl) (fun i x y hx hy=>?_) h
 rw [List.getElem?_map] at hx hy
 obtain ⟨a,ha,rfl⟩:=Option.map_eq_some_iff.1 hx
 obtain ⟨b,hb,rfl⟩:=Option.map_eq_some_iff.1 hy
 rcases hr i a b ha hb with e | ⟨wf,e1,e2⟩
 ·exact .inl (by rw [e])
 ·exact .inr ⟨wf,by rw [e1],by rw [e2]⟩
theorem Bt (tf:Nat→TI) (dd:Option Nat) (s:St) (x y t):opE tf (.call { callee:=.builtin .min,args:=#[x,y],argTypes:=t }) dd s=(opV tf (.call { callee:=.builtin .min,args:=#[x,y],argTypes:=t }) s).bind fun x=>.ok (x,ef0):=fP rfl
attribute [go_sem] Bt
end Go.Ab

namespace Go.Ab
section
variable {P:Program} {cf:Cf} {Q:Exit→St→Prop} {s:St} {k:List It} {B:Base} {β:Name→Option Blk} {tm:Array Value} {w:World}
theorem Sim.Fb (h:Sim B β s tm w) {p:Name} {ob:Ob} {k:Blk} (hp:s.hp p=some ob) (hk:β p=some k) {w':World} (hio:wio w'=wio w) (hsz:w'.heap.size=w.heap.size) (hw:∀ b,b≠k.b→w'.heap[b]?=w.heap[b]?):Sim B β (s.set p none) tm w':=by
 have hsub:∀ q o,(s.set p none).hp q=some o→q≠p∧s.hp q=some o:=by
  intro q o ho
  by_cases e:q=p
  ·subst e;simp [St.set,aj] at ho
  ·exact ⟨e,by simpa [St.set,aj,e] using ho⟩
 have hne:∀ q,(s.set p none).hp q≠none→s.hp q≠none:=by
  intro q hq e
  cases ho:(s.set p none).hp q with
  | none=>exact hq ho
  | some o=>rw [(hsub q o ho).2] at e;cases e
 have hr:∀ v d,Rep w.heap (s.own B.A β) v d→Rep w'.heap ((s.set p none).own B.A β) v d:=fun v d hd=>hd.mono (fun b hb _=>hw b fun e=>hb (.inr ⟨p,k,by rw [hp];simp,hk,e.symm⟩)) (by
  rintro b _ (hA | ⟨q,k,hq,hk,e⟩)
  ·exact .inl hA
  ·exact .inr ⟨q,k,hne q hq,hk,e⟩)
 have hst:∀ q,nm s.used q→Stays s.hp (s.set p none).hp β β q:=fun q _ o' ho'=>⟨o',(hsub q o' ho').2,Ob.aQ _,rfl⟩
 refine { tms:=h.tms,io:=hio.trans h.io,size:=by rw [hsz];exact h.size,frame:=fun b hb hn=>?_,slots:=fun i=>(h.slots i).mono hr (fun _ h=>h) hst,objs:=?_,blocks:=fun q k hq hk=>(by rw [hsz];exact h.blocks q k (hne q hq) hk), inj:=fun q q' k l hq hq' hk hl e=>h.inj q q' k l (hne q hq) (hne q' hq') hk hl e,us:=h.us,stay:=h.stay }
 ·rw [hw b ?_]
  ·exact h.frame b hb hn
  ·intro e
   obtain ⟨_,_,h3⟩:=h.blocks p k (by rw [hp];simp) hk
   rcases h3 with h3 | h3
   ·omega
   ·exact hn (e ▸ h3)
 ·intro q o ho
  obtain ⟨hqp,ho'⟩:=hsub q o ho
  obtain ⟨h1,h2⟩:=h.objs q o ho'
  exact ⟨h1,h2.mono hr (fun _ h=>h) hst rfl fun l hl=>hw l.b fun e=>hqp (h.inj q p l k (by rw [ho'];simp) (by rw [hp];simp) hl hk e)⟩
theorem BV (E:Eng P cf Q) {o:Oper} (p:Name) (j n:Nat) (ty tg:Option Nat) (w:W) (cs:List AV) (hp:s.hp p=some (.boxT ty cs)) (hj:cs[j]?=some (.d .nils)) (hn:n ∉ s.used) (h:E.stp o ((s.add n (.arrT tg w [])).set p (some (.boxT ty (cs.set j (.vw [n] 0 0))))) k .no):E.stp o s k .no:=by
 rw [aM] at h ⊢
 intro B hB ds β a w' hds hs Q'
 have h1:=hs.dP hn tg w
 have hpn:p≠[n]:=cK (hs.objs p _ hp).1 hn
 refine h B hB ds (aj β [n] none) a w' hds (h1.rebox (cs:=cs) (by simpa [St.add,aj,hpn] using hp) (by simp) fun v i x x' hx hx' hv=>?_) Q'
 by_cases e:j=i
 ·subst e
  rw [hj] at hx
  cases hx
  rw [List.getElem?_set_self (List.getElem?_eq_some_iff.1 hj).1] at hx'
  cases hx'
  have:=hv.toD
  cases this
  exact .vw _ _ _ _ ⟨n,[],rfl,List.mem_cons_self⟩ rfl fun ty' w' xs hx=>by
   have:some (Ob.arrT tg w [])=some (.arrT ty' w' xs):=by rw [← hx];simp [St.add,aj]
   cases this
   exact ⟨Nat.le_refl _,none,0,rfl,.inl ⟨rfl,rfl⟩⟩
 ·rw [List.getElem?_set_ne e,hx] at hx'
  cases hx'
  exact hv
theorem oN (E:Eng P cf Q) {d t e:Nat} {x y:Operand} {ty:TypeId} {pos:String} {af:Array Edge} (tg:Option Nat) (p q:Name) (xs ys:List D) (hk:(P.ti t).k=.slice e) (hz:(P.ti e).zOk=true) (hw:(P.ti e).isW (P.ti e).w=true) (hew:(P.ti e).w=none)
  (htg:tg.getD e=e) (hd:d<cf.n∧d ∉ s.used) (hx:ev s x=.vw p 0 xs.length) (hp:s.hp p=some (.arrT tg none xs)) (hy:ev s y=.vw q 0 ys.length) (hq:s.hp q=some (.arr none ys)) (hl:(xs.length+ys.length)*(P.ti e).by1≤140737488355328)
  (h:E.run k (((s.set p none).add d (.arrT tg none (xs++ys))).put d (.vw [d] 0 (xs.length+ys.length)))) :
  E.stp { dst:=some d,op:=.call { callee:=.builtin .append,args:=#[x,y],argTypes:=#[t,t] },type:=ty,pos:=pos,after:=af,guard:=none } s k .no:=by
 rw [aM]
 rw [E.run_eq] at h
 intro B hB ds β a w hds hs Q'
 have hvx:=hs.ev x
 have hvy:=hs.ev y
 rw [hx] at hvx
 rw [hy] at hvy
 have key:=jb (P:=P) (t:=t) hs hvx hvy hk hz hw ty (some d) tg htg
 have e1:iS tg B.n (P.ti e) (some d) s (.vw p 0 xs.length) (.vw q 0 ys.length)=.need ((xs.length+ys.length)*(P.ti e).by1≤140737488355328) (.ok (((s.set p none).add d (.arrT tg none (xs++ys))).put d (.vw [d] 0 (xs.length+ys.length)))):=by
  unfold iS
  have hlo:bt (P.ti e).w s.hp (.vw q 0 ys.length)=some ys:=by simp [bt,hq,hew]
  rw [hlo]
  simp only [hp]
  rw [if_pos ⟨trivial,hew.symm⟩]
  have hd2:d<B.n∧d ∉ (s.set p none).used:=⟨by rw [hB.1];exact hd.1,hd.2⟩
  unfold dH
  simp only
  rw [if_pos hd2]
  simp
 rw [e1] at key
 obtain ⟨dd,v,w',β',hdd,hrun,hsim⟩:=key hl
 cases hdd
 exact ao (v:=v) (by simp) (by simp [execOp,resolve,invoke,builtin,hrun]) (.inl rfl) ⟨hds,_,β',aP h,hsim⟩
end
section
variable {P:Program} {cf:Cf} {Q:Exit→St→Prop} {s:St} {k:List It}
theorem rj {o:Oper} {d:Nat} {x:AV} (hd:o.dst=some d) (hdn:d<cf.n) (hnd:∀ c,o.op≠.defer c)
  (hrun:∀ (B:Base) (β:Name→Option Blk) (a:Act) (w:World),Sim B β s a.tmps w→∃ v,(execOp a.eval o).run P w=.ok (.value v) w∧VR w.heap (s.own B.A β) s.used s.hp β v x) (h:run P cf k Q (s.put d x)):AOk P cf o s k Q:=by
 intro B hB ds β a w hds hs Q'
 obtain ⟨v,h1,h2⟩:=hrun B β a w hs
 refine ao (v:=v) hnd h1 (.inl rfl) ?_
 rw [hd]
 exact ⟨hds,_,β,aP h,hs.put (by rw [hB.1];exact hdn) h2⟩
theorem mi (E:Eng P cf Q) {o:Oper} {d:Nat} {x:AV} (hd:o.dst=some d) (hdn:d<cf.n) (hnd:∀ c,o.op≠.defer c)
  (hrun:∀ (B:Base) (β:Name→Option Blk) (a:Act) (w:World),Sim B β s a.tmps w→∃ v,(execOp a.eval o).run P w=.ok (.value v) w∧VR w.heap (s.own B.A β) s.used s.hp β v x) (h:E.run k (s.put d x)):E.stp o s k .no:=by
 rw [aM]
 rw [E.run_eq] at h
 exact rj hd hdn hnd hrun h
theorem qM {t e:Nat} (h:(P.ti t).k=.ptr e):P.underlying t=some (.pointer e):=by
 obtain ⟨i,d,_,hd,hk,_⟩:=dt (P:=P) (t:=t) (by rw [h];rfl)
 rw [h] at hk
 cases d<;>simp [tk] at hk
 rw [hd,hk]
def yD (hp:Name→Option Ob):AV→Option Bool
 | .d .nilp=>some true
 | .d (.ptr _)=>some false
 | .bx p _=>match hp p with
   | some (.boxT _ _)=>some false
   | _=>none
 | _=>none
theorem ua {H:Array Obj} {own:Nat→Prop} {used:List Nat} {hp:Name→Option Ob} {β:Name→Option Blk} {v:Value} {x:AV} {b:Bool} (h:VR H own used hp β v x) (hn:yD hp x=some b):∃ ad,v=.pointer ad∧ad.isNone=b:=by
 cases x with
 | d z =>
   cases z<;>simp [yD] at hn
   ·subst hn
    have:=h.toD
    cases this;exact ⟨none,rfl,rfl⟩
   ·subst hn
    have:=h.toD
    cases this;exact ⟨_,rfl,rfl⟩
 | bx p c =>
   simp only [yD] at hn
   split at hn
   ·rename_i ty cs ho
    cases hn
    cases h with
    | bx _ _ _ _ _ hx =>
      obtain ⟨k,_,_,rfl⟩:=hx _ _ ho
      exact ⟨_,rfl,rfl⟩
   ·cases hn
 | _=>simp [yD] at hn
theorem yp (E:Eng P cf Q) {t e:TypeId} {x:Operand} {yt:TypeId} {dst:Nat} {ty:TypeId} {ps:String} {af:Array Edge} (b:Bool) (hk:(P.ti t).k=.ptr e) (hd:dst<cf.n) (hx:yD s.hp (ev s x)=some b) (h:E.run k (s.put dst (.d (.bool b)))) :
  E.stp { dst:=some dst,op:=.binOp .eql t x (.const (.pointer none)) yt,type:=ty,pos:=ps,after:=af,guard:=none } s k .no:=by
 refine mi E rfl hd (by simp) (fun B β a w hs=>⟨.bool b,?_,.d _ _ (.bool _)⟩) h
 obtain ⟨ad,hv,rfl⟩:=ua (hs.ev x) hx
 have hu:=qM hk
 refine gO ?_ ?_
 ·rw [hv];rfl
 ·rw [hv]
  exact run_eql_pointer_nil w t ad (by rw [hu];simp [Program.pointee,hu])
theorem run_neq_ptr_same {tp te:TypeId} {j:TypeInfo} (w:World) (a:Addr) (hp:P.underlying tp=some (.pointer te)) (hte:P.info? te=some j):(binOp .neq tp (.pointer (some a)) (.pointer (some a))).run P w=.ok (.bool false) w:=by
 have h:∀ d:Nat,(Op.equalIn (d+1) tp (.pointer (some a)) (.pointer (some a))).run P w=.ok true w:=fun d=>by
  simp [Op.equalIn,run_underlying hp,sizeOf,typeInfo,hte,run_sameAddr_same]
 simp only [binOp]
 simp [Op.equal,Op.maxDepth,h 9999]
theorem Cq (E:Eng P cf Q) {t e:TypeId} {x y:Operand} {yt:TypeId} {dst:Nat} {ty:TypeId} {ps:String} {af:Array Edge} (p:Name) (c:Nat) (hk:(P.ti t).k=.ptr e) (he:(P.info? e).isSome=true) (hd:dst<cf.n) (hx:ev s x=.bx p c) (hy:ev s y=.bx p c) (hp:(match s.hp p with | some (.boxT _ _)=>true | _=>false)=true)
  (h:E.run k (s.put dst (.d (.bool false)))):E.stp { dst:=some dst,op:=.binOp .neq t x y yt,type:=ty,pos:=ps,after:=af,guard:=none } s k .no:=by
 refine mi E rfl hd (by simp) (fun B β a w hs=>⟨.bool false,?_,.d _ _ (.bool _)⟩) h
 split at hp
 rotate_left
 ·cases hp
 rename_i ty' cs ho
 obtain ⟨k,hkk⟩:∃ k:Blk,∀ v,VR w.heap (s.own B.A β) s.used s.hp β v (.bx p c)→v=.pointer (some ⟨k.b,c,none⟩):=by
  obtain ⟨k,_,_,hk,_⟩:=(hs.objs p _ ho).2
  refine ⟨k,fun v hv=>?_⟩
  cases hv with
  | bx _ _ _ _ _ hx =>
    obtain ⟨k',hk',_,rfl⟩:=hx _ _ ho
    rw [hk] at hk';cases hk';rfl
 have h1:=hkk _ (hx ▸ hs.ev x)
 have h2:=hkk _ (hy ▸ hs.ev y)
 obtain ⟨j,hj⟩:=Option.isSome_iff_exists.1 he
 refine gO ?_ ?_
 ·rw [h1,h2];rfl
 ·rw [h1,h2]
  exact run_neq_ptr_same w _ (qM hk) hj
theorem Ad {B:Base} {β:Name→Option Blk} {tm:Array Value} {w:World} (hs:Sim B β s tm w) {p:Name} {t:Nat} {cs:List AV} (hp:s.hp p=some (.boxT (some t) cs)):∃ k:Blk,(∀ v c,VR w.heap (s.own B.A β) s.used s.hp β v (.bx p c)→v=.pointer (some ⟨k.b,c,none⟩))∧w.shape? k.b=some (t,cs.length):=by
 obtain ⟨k,c,e,hk,_,hc,_,hl,_⟩:=(hs.objs p _ hp).2
 refine ⟨k,fun v c hv=>?_,by simp [World.shape?,hc,hl]⟩
 cases hv with
 | bx _ _ _ _ _ hx =>
   obtain ⟨k',hk',_,rfl⟩:=hx _ _ hp
   rw [hk] at hk';cases hk';rfl
theorem FC (E:Eng P cf Q) {a' b' e:TypeId} {x:Operand} {dst:Nat} {ty:TypeId} {ps:String} {af:Array Edge} (p:Name) (c t:Nat) (cs:List AV) (hk:(P.ti a').k=.ptr e) (hu:P.underlying b'=some .unsafePointer) (he:(P.info? e).any (fun j=>j.size != 0)=true) (hd:dst<cf.n) (hx:ev s x=.bx p c)
  (hp:s.hp p=some (.boxT (some t) cs)) (hc:c<cs.length) (h:E.run k (s.put dst (.bx p c))):E.stp { dst:=some dst,op:=.convert a' b' x,type:=ty,pos:=ps,after:=af,guard:=none } s k .no:=by
 refine mi E (x:=.bx p c) rfl hd (by simp) (fun B β a w hs=>⟨a.eval x,?_,hx ▸ hs.ev x⟩) h
 obtain ⟨k,hkk,hsh⟩:=Ad hs hp
 have h1:=hkk _ _ (hx ▸ hs.ev x)
 rw [Option.any_eq_true] at he
 obtain ⟨j,hj,hj0⟩:=he
 have:=Lib.run_to_unsafe (P:=P) w (src:=a') (dst:=b') (⟨k.b,c,none⟩:Addr) (qM hk) hu hj (by simpa using hj0) hsh hc
 simp [execOp,h1,this]
theorem EP (E:Eng P cf Q) {a' b' e:TypeId} {x:Operand} {dst:Nat} {ty:TypeId} {ps:String} {af:Array Edge} (p:Name) (c t:Nat) (cs:List AV) (hk:(P.ti b').k=.ptr e) (hu:P.underlying a'=some .unsafePointer) (he:(P.info? e).isSome=true) (hd:dst<cf.n) (hx:ev s x=.bx p c)
  (hp:s.hp p=some (.boxT (some t) cs)) (m:Nat) (hm:cs.length=m) (hl:liesAt P P.depth t (m / P.cellsOf t) c e 1=true) (h:E.run k (s.put dst (.bx p c))):E.stp { dst:=some dst,op:=.convert a' b' x,type:=ty,pos:=ps,after:=af,guard:=none } s k .no:=by
 refine mi E (x:=.bx p c) rfl hd (by simp) (fun B β a w hs=>⟨a.eval x,?_,hx ▸ hs.ev x⟩) h
 obtain ⟨k,hkk,hsh⟩:=Ad hs hp
 have h1:=hkk _ _ (hx ▸ hs.ev x)
 obtain ⟨j,hj⟩:=Option.isSome_iff_exists.1 he
 rw [hm] at hsh
 have:=Lib.run_from_unsafe (P:=P) w (src:=a') (dst:=b') (⟨k.b,c,none⟩:Addr) hu (qM hk) hj hsh hl
 simp [execOp,h1,this]
theorem CF (E:Eng P cf Q) {fv x:Operand} {at':Array TypeId} {dst:Nat} {ty:TypeId} {ps:String} {af:Array Edge} (f:FuncId) (y:AV) (hr:∀ v w,(callFunc f #[v]).run P w=.ok (.value v) w) (hd:dst<cf.n) (hf:ev s fv=.clo f []) (hx:ev s x=y) (h:E.run k (s.put dst y)) :
  E.stp { dst:=some dst,op:=.call { callee:=.value fv,args:=#[x],argTypes:=at' },type:=ty,pos:=ps,after:=af,guard:=none } s k .no:=by
 refine mi E (x:=y) rfl hd (by simp) (fun B β a w hs=>⟨a.eval x,?_,hx ▸ hs.ev x⟩) h
 have hf':=hs.ev fv
 rw [hf] at hf'
 generalize hfv:a.eval fv=fval at hf'
 cases hf' with
 | clo _ cvs _ hcs hcv =>
 have hc0:cvs=#[]:=Array.eq_empty_of_size_eq_zero (by simpa using hcs)
 subst hc0
 have e:(execOp a.eval { dst:=some dst,op:=.call { callee:=.value fv,args:=#[x],argTypes:=at' },type:=ty,pos:=ps,after:=af,guard:=none }:Sem Next)=callFunc f (#[]++#[x].map a.eval++#[]):=by
  show (do let d ← (Deferred.ofValue (a.eval fv) (#[x].map a.eval));invoke d.target d.args:Sem Next)=_
  rw [hfv];rfl
 rw [e]
 simpa using hr (a.eval x) w
end
end Go.Ab

namespace Go.Ab
theorem uH {P:Program} {e:TypeId} (hc:P.cellsOf e=1) (count o n:Nat) (hn:o+n≤count):liesAt P P.depth e count o e n=true:=by
 have hd:P.depth=(2*(P.types.size+Made.depth)+1)+1:=rfl
 rw [hd]
 simp only [liesAt,Bool.or_eq_true]
 left
 rw [hd]
 simp [rowAt,hc,hn,sameLayout,Nat.mod_one]
theorem hY {P:Program} (w:World) (pt it ty e:TypeId) (hp:P.underlying pt=some (.pointer e)) (hc:P.cellsOf e=1) (g o cells:Nat) (hsh:w.shape? g=some (e,cells)) (l:List UInt8) (h0:l≠[]) (hn:o+l.length≤cells) (h63:l.length≤9223372036854775807)
  (hcell:∀ j x,l[j]?=some x→w.cell? ((⟨g,o,none⟩:Addr).add j)=some (.int .u8 x.toNat)) :
  (Builtin.unsafeString_ #[pt,it] ty #[.pointer (some ⟨g,o,none⟩),.int .i64 l.length]).run P w=.ok (.string ⟨l.toArray⟩) (w.freeze ⟨g,o,none⟩ l.length):=by
 have hl:l.length≠0:=by simpa using h0
 have hlb:=Lib.run_loadBytes (P:=P) w l ⟨g,o,none⟩ .empty hcell
 have hlies:=uH (P:=P) hc (cells / P.cellsOf e) o l.length (by rw [hc];simpa using hn)
 have h63':¬ (9223372036854775807:Int)<(l.length:Int):=by omega
 obtain ⟨z1,z2,z3,hdef⟩:∃ z1 z2 z3,Builtin.unsafeString_ #[pt,it] ty #[.pointer (some ⟨g,o,none⟩),.int .i64 l.length] =
  (do
   let n ← asInt (.int .i64 l.length)
   if n<0 then runtimePanic (.error z1)
   if n > IntKind.i64.max then unsupported (.unsafePointer z2)
   if n=0 then pure (.string .empty)
   else if ← variablesAt ⟨g,o,none⟩ (← elemOf pt) n.toNat then do
    let s ← loadBytes ⟨g,o,none⟩ .empty n.toNat
    freeze ⟨g,o,none⟩ n.toNat
    pure (.string s)
   else unsupported (.unsafePointer z3)):=⟨_,_,_,rfl⟩
 rw [hdef]
 have hmax:IntKind.i64.max=9223372036854775807:=rfl
 have hneg:¬ (l.length:Int)<0:=by omega
 simp [asInt,asIntOf,hmax,h63',hneg,hl,variablesAt,hsh,elemOf,run_underlying hp,hlies,hlb]
def byD (c:UInt8):D:=.int .u8 (c.toNat:Nat)
section
variable {P:Program} {cf:Cf} {Q:Exit→St→Prop} {s:St} {k:List It}
theorem Ca {d:Nat} {x:Operand} {at':Array TypeId} {ty:TypeId} {pos:String} {af:Array Edge} {g:Option (Nat × Bool)} (p:Name) (tg:Option Nat) (w0:W) (xs:List D) (l:Nat) (hd:d<cf.n) (hx:ev s x=.vw p 0 l) (hp:s.hp p=some (.arrT tg w0 xs)) (hl:0<l) (h:run P cf k Q (s.put d (.el p 0 0))) :
  AOk P cf { dst:=some d,op:=.call { callee:=.builtin .unsafeSliceData,args:=#[x],argTypes:=at' },type:=ty,pos:=pos,after:=af,guard:=g } s k Q:=by
 refine rj rfl hd (by simp) (fun B β a w hs=>?_) h
 have hv:=hs.ev x
 rw [hx] at hv
 generalize hax:a.eval x=vx at hv
 cases hv with
 | vw _ _ _ _ hn h1 hx' =>
   obtain ⟨hle,a0,cap,rfl,hc⟩:=hx' _ _ _ hp
   rcases hc with ⟨h0,_⟩ | ⟨k,hk,rfl,hcap,hz⟩
   ·omega
   ·refine ⟨.pointer (some ⟨k.b,k.o+0*wd w0,none⟩),?_,.el _ _ _ _ hn rfl fun ty' w' xs' hp'=>?_⟩
    ·obtain ⟨oo,hoo⟩:∃ oo,k.o+0*wd w0=oo:=⟨_,rfl⟩
     rw [hoo] at hax ⊢
     have:=Lib.run_unsafeSliceData_row (P:=P) w at' ty ⟨k.b,oo,none⟩ l cap (by omega)
     simp [execOp,resolve,invoke,builtin,hax,this]
    ·rw [hp] at hp';cases hp'
     exact ⟨by omega,k,hk,rfl⟩
theorem Dc (E:Eng P cf Q) {d pt it e:Nat} {x y:Operand} {ty:TypeId} {pos:String} {af:Array Edge} (p:Name) (l:List UInt8) (hd:d<cf.n) (hpt:P.underlying pt=some (.pointer e)) (hc:P.cellsOf e=1) (h0:l≠[]) (h63:l.length≤9223372036854775807)
  (hx:ev s x=.el p 0 0) (hp:s.hp p=some (.arrT (some e) none (l.map byD))) (hy:ev s y=.d (.int .i64 l.length)) (h:E.run k ((s.set p none).put d (.d (.str l)))) :
  E.stp { dst:=some d,op:=.call { callee:=.builtin .unsafeString,args:=#[x,y],argTypes:=#[pt,it] },type:=ty,pos:=pos,after:=af,guard:=none } s k .no:=by
 rw [aM]
 rw [E.run_eq] at h
 intro B hB ds β a w hds hs Q'
 have hv:=hs.ev x
 rw [hx] at hv
 have hw:=hs.ev y
 rw [hy] at hw
 have hw:=hw.int
 generalize hax:a.eval x=vx at hv
 cases hv with
 | el _ _ _ _ hn h1 hx' =>
 obtain ⟨hlt,k0,hk,rfl⟩:=hx' _ _ _ hp
 rcases (hs.objs p _ hp).2 with ⟨_,h0'⟩ | ⟨k1,c,e',hk1,hh,hz,hl,hok,hrep⟩
 ·simp at h0';exact absurd h0' h0
 rw [hk] at hk1
 cases hk1
 simp only [wd,Nat.mul_one,List.length_map] at hl
 have hsh:w.shape? k0.b=some (e,c.size):=by simp [World.shape?,hh]
 have hcell:∀ j x,l[j]?=some x→w.cell? ((⟨k0.b,k0.o+0*wd none+0,none⟩:Addr).add j)=some (.int .u8 x.toNat):=fun j x hj=>by
  have hjl:=(List.getElem?_eq_some_iff.1 hj).1
  have h2:=hrep j (byD x) 0 (byD x) (by simp [hj]) rfl
  have h3:k0.o+j<c.size:=by omega
  rw [show k0.o+j*wd none+0=k0.o+j by simp [wd]] at h2
  simp only [Array.getD_eq_getD_getElem?,Array.getElem?_eq_getElem h3,Option.getD_some] at h2
  have h4:c[k0.o+j]=.int .u8 x.toNat:=by
   generalize c[k0.o+j]=v at h2
   cases h2;rfl
  rw [bw]
  simp [World.cell?,hh,wd,h3,h4]
 have hrun:=hY (P:=P) w pt it ty e hpt hc k0.b (k0.o+0*wd none+0) c.size hsh l h0 (by simp [wd];omega) h63 hcell
 obtain ⟨oo,hoo⟩:∃ oo,k0.o+0*wd none+0=oo:=⟨_,rfl⟩
 rw [hoo] at hrun hax
 refine ao (v:=.string ⟨l.toArray⟩) (w':=w.freeze ⟨k0.b,oo,none⟩ l.length) (by simp) (by simp [execOp,resolve,invoke,builtin,hax,hw,hrun]) (.inl rfl) ⟨hds,_,β,aP h,?_⟩
 refine Sim.put (hs.Fb hp hk (w':=w.freeze ⟨k0.b,oo,none⟩ l.length) ?_ ?_ fun b hb=>?_) (by rw [hB.1];exact hd) (.d _ _ (.str l))
 ·unfold World.freeze;split<;>rfl
 ·unfold World.freeze;split<;>simp
 ·unfold World.freeze
  split
  ·rfl
  ·simp only [Array.getElem?_modify]
   rw [if_neg (fun e=>hb e.symm)]
section
variable {ops:Array Oper} {K:St→Ns→Prop} {r:List Oper} {ns:Ns}
theorem dm (E:XEng P cf ops K) {d:Nat} {x:Operand} {ty:TypeId} {pos:String} {af:Array Edge} (p:Name) (c:Nat) (ty':Option Nat) (cs:List AV) (hd:d<cf.n) (hx:ev s x=.bx p c) (hp:s.hp p=some (.boxT ty' cs)) (h:E.run r (s.put d (.bx p c)) (ns++[([p],[],[])])) :
  E.stp { dst:=some d,op:=.nilCheck x,type:=ty,pos:=pos,after:=af,guard:=none } r s ns .no:=by
 refine jq E (x:=.bx p c) [p] (fun t ht=>by rw [Option.mem_def,Option.some.injEq] at ht;rw [← ht];exact hd) (fun s' hh he=>?_) h
 have h1:ev s' x=.bx p c:=(he x (by simp [Op.operands])).trans hx
 have h2:s'.hp p=some (.boxT ty' cs):=(hh p (by simp)).trans hp
 refine dD (o:={ dst:=some d,op:=.nilCheck x,type:=ty,pos:=pos,after:=af,guard:=none }) rfl ?_
 have h3:opR P.ti cf.n (.nilCheck x) (some d) s'=.ok (s'.put d (.bx p c)):=by
  unfold opR AL
  simp only [h1,h2]
  simp [R.bind,br,hd]
 unfold stp
 simp only [h3,R.run]
 rw [cX];rfl
theorem ED (E:XEng P cf ops K) {d:Nat} {x:Operand} {at':Array TypeId} {ty:TypeId} {pos:String} {af:Array Edge} {g:Option (Nat × Bool)} (p:Name) (tg:Option Nat) (w0:W) (xs:List D) (l:Nat) (hd:d<cf.n) (hx:ev s x=.vw p 0 l) (hp:s.hp p=some (.arrT tg w0 xs)) (hl:0<l)
  (h:E.run r (s.put d (.el p 0 0)) (ns++[([p],[],[])])) :
  E.stp { dst:=some d,op:=.call { callee:=.builtin .unsafeSliceData,args:=#[x],argTypes:=at' },type:=ty,pos:=pos,after:=af,guard:=g } r s ns .no:=by
 refine jq E (x:=.el p 0 0) [p] (fun t ht=>by rw [Option.mem_def,Option.some.injEq] at ht;rw [← ht];exact hd) (fun s' hh he=>?_) h
 exact Ca p tg w0 xs l hd ((he x (by simp [Op.operands,Call.operands])).trans hx) ((hh p (by simp)).trans hp) hl (by rw [cX];rfl)
end
end
theorem qt (tf:Nat→TI) (dd:Option Nat) (s:St) (x:Operand):opE tf (.nilCheck x) dd s=.no:=rfl
attribute [go_sem] qt
end Go.Ab

namespace Go.Ab
section
variable {P:Program} {F:Fence} {n:Nat} {ops:Array Oper} {Q Q':Exit→Act→World→Prop}
end
section
variable {P:Program} {cf:Cf} {Φ:Exit→Act→World→Prop} {I:Base→List Deferred→Prop} {k:List It} {s:St}
end
end Go.Ab

namespace Go.Ab
attribute [go_sem] List.reverse_cons List.reverse_nil
theorem p5 {α β:Type} [DecidableEq α] (z:β) (i:α):∀ a b:List (α × β),lkA z (a++b) i=lkA (lkA z b i) a i
 | [],_=>rfl
 | q::r,b=>by rw [List.cons_append,bd,bd,p5 z i r b]
section
variable {P:Program} {cf:Cf} {ops:Array Oper} {K:St→Ns→Prop} {r:List Oper} {s:St} {ns:Ns}
theorem BF {H:Array Obj} {own:Nat→Prop} {v:Value} {wf:W} {l:List D} (h:Rep H own v (.sl wf l)):v.oneCell'=true:=by
 generalize hz:D.sl wf l=d at h
 cases h<;>first | rfl | cases hz
theorem tI {H:Array Obj} {own:Nat→Prop} {us:List Nat} {hp:Name→Option Ob} {β:Name→Option Blk} {v:Value} {wf:W} {l:List D} (h:VR H own us hp β v (.d (.sl wf l))):v.oneCell'=true:=by
 cases h with
 | d _ _ h=>exact BF h
theorem pO (E:XEng P cf ops K) {t:Nat} (u:Nat) (p:Name) (wf:W) (xs:List D) {off len:Nat} {fv:Operand} {args:Array Operand} {at':Array TypeId} {ty:TypeId} {pos:String} {af:Array Edge} {gg:Option (Nat × Bool)}
  {f:FuncId} {caps:List AV} {ds:List D} {x:AV} (hc:HP P cf.G f ds (fun r=>r=x)) (hfv:∀ s,ev s fv=.clo f caps) (hp:s.hp p=some (.arr wf xs)) (hev:s.fr u=.vw p off len) (hu:(t == u)=false) (hin:Operand.tmp u∈args)
  (hargs:args.toList.map (ev (s.put u (.d (.sl wf ((xs.drop off).take len)))))++caps=ds.map .d) (hdst:t<cf.n) (hk:E.run r ((s.set p none).put t x) (ns++[([p],[p],[])])) :
  E.stp { dst:=some t,op:=.call { callee:=.value fv,args:=args,argTypes:=at' },type:=ty,pos:=pos,after:=af,guard:=gg } r s ns .no:=by
 have htu:¬ t=u:=by simpa using hu
 have hgo:∀ s:St,(s.set p none).put t x=s.go (some t) x ⟨[(p,none)],[]⟩:=fun s=>by unfold St.go;rw [iE];rfl
 rw [E.stp_eq]
 refine ⟨x,([p],⟨[(p,none)],[]⟩),fun s' _ hh he=>?_,fun y hy=>(by cases hy),hdst,?_⟩
 ·have hm:∀ y,y∈args→ev s' y=ev s y:=fun y hy=>he y (by
   simp only [Op.operands,Call.operands]
   simp_all)
  have hp':s'.hp p=some (.arr wf xs):=(hh p (by simp)).trans hp
  have hev':s'.fr u=.vw p off len:=(hm (.tmp u) hin).trans hev
  obtain ⟨y,hy⟩:∃ y,y=AV.d (.sl wf ((xs.drop off).take len)):=⟨_,rfl⟩
  rw [← hy] at hargs
  have hargs':args.toList.map (ev ((s'.set p none).put u y))++caps=ds.map .d:=by
   rw [← hargs]
   congr 1
   refine List.map_congr_left fun z hz=>?_
   have h0:=hm z (by simpa using hz)
   cases z with
   | tmp i =>
     by_cases e:i=u
     ·subst e
      show ((s'.set p none).put i _).fr i=(s.put i _).fr i
      simp [St.put,cg]
     ·have h0':s'.fr i=s.fr i:=h0
      show ((s'.set p none).put u _).fr i=(s.put u _).fr i
      simp [St.put,St.set,cg,e,h0']
   | _=>rfl
  have h1:=gN (k:=[]) (Q:=fun _ s2=>s2=((s'.set p none).put u y).put t x) (dst:=some t) (fv:=fv) (args:=args) (at':=at') (ty:=ty) (pos:=pos) (af:=af) (g:=gg) hc
   (hfv _) hargs' (fun y hy=>by rw [Option.mem_def,Option.some.injEq] at hy;rw [← hy];exact hdst) (fun r hr=>by subst hr;rw [cX];rfl)
  intro B hB ds' β a w hds hs Q'
  have hs0:=hs.drop p
  have hs1:Sim B β ((s'.set p none).put u y) a.tmps w:=hs0.setv (by
   have:=(hs.frz hp').slots u
   rw [show (s'.frz p wf xs).fr u=(s'.fr u).frz p wf xs from rfl,hev',AV.frz,if_pos rfl,← hy] at this
   exact this)
  refine Oper.wpIn_mono ?_ (h1 B hB ds' β a w hds hs1 Q')
  rintro a' w' ⟨hd',s2,β',hrun,hs2⟩
  obtain ⟨_,s3,β3,rfl,hs3⟩:=hrun B hB ds' β' a' w' hd' hs2
  refine ⟨hd',β3,?_⟩
  rw [← hgo]
  have hv:=hs3.slots u
  have e1:(((s'.set p none).put u y).put t x).fr u=y:=by simp [St.put,cg,Ne.symm htu,fun h:u=t=>htu h.symm]
  rw [e1,hy] at hv
  have hnm:=(hs.objs p _ hp').1
  have e2:((s'.set p none).put t x)=(((s'.set p none).put u y).put t x).put u (.vw p off len):=by
   refine jx (fun _=>rfl) rfl fun i=>?_
   simp only [St.put,St.set,cg]
   by_cases h1:i=u
   ·subst h1
    have h3:¬ i=t:=fun h=>htu h.symm
    simp [h3,hev']
   ·simp [h1]
  have h5:=hs3.setv (t:=u) (x:=.vw p off len) (.vw _ _ _ _ hnm (by
   exact tI hv) (fun ty w xs h=>by
    have h:aj s'.hp p none p=some _:=h
    simp [aj] at h))
  rw [e2]
  exact h5
 ·rw [← E.run_eq,← hgo]
  exact hk
end
end Go.Ab

namespace Go.Ab
section
variable {P:Program} {cf:Cf} {ops:Array Oper} {K:St→Ns→Prop} {r:List Oper} {s:St} {ns:Ns}
theorem Ft (E:XEng P cf ops K) {d t e n:Nat} {x y:Operand} {ty:TypeId} {pos:String} {af:Array Edge} {z:D} (ht:(P.ti t).k=.slice e) (hz:(P.ti e).zero=some z) (hw:((P.ti e).isW (P.ti e).w && mT (P.ti e).w z)=true)
  (hx:ev s x=.d (.int .i64 n)) (hy:ev s y=.d (.int .i64 n)) (hb:(n:Int)*(P.ti e).by'≤140737488355328∧(n:Int)≤140737488355328) (hd:d<cf.n∧d ∉ s.used)
  (hk:E.run r ((s.add d (.arr (P.ti e).w (List.replicate n z))).put d (.vw [d] 0 n)) (ns++[([],[[d]],[d])])) :
  E.stp { dst:=some d,op:=.makeSlice t x y,type:=ty,pos:=pos,after:=af,guard:=none } r s ns .no:=by
 have hgo:∀ s':St,(s'.add d (.arr (P.ti e).w (List.replicate n z))).put d (.vw [d] 0 n)=s'.go (some d) (.vw [d] 0 n) ⟨[([d],some (.arr (P.ti e).w (List.replicate n z)))],[d]⟩:=fun s'=>by unfold St.go;rw [gD];rfl
 rw [E.stp_eq]
 refine ⟨.vw [d] 0 n,([],⟨[([d],some (.arr (P.ti e).w (List.replicate n z)))],[d]⟩),fun s' hu hh he B hB ds' β a w hds hs Q'=>?_,fun q hq=>?_,hd.1,?_⟩
 ·have h1:ev s' x=.d (.int .i64 n):=(he x (by simp [Op.operands])).trans hx
  have h2:ev s' y=.d (.int .i64 n):=(he y (by simp [Op.operands])).trans hy
  have hok:AOk P cf { dst:=some d,op:=.makeSlice t x y,type:=ty,pos:=pos,after:=af,guard:=none } s' [] (fun _ s2=>s2=(s'.add d (.arr (P.ti e).w (List.replicate n z))).put d (.vw [d] 0 n)):=by
   refine dD (o:={ dst:=some d,op:=.makeSlice t x y,type:=ty,pos:=pos,after:=af,guard:=none }) rfl ?_
   have h3:opR P.ti cf.n (.makeSlice t x y) (some d) s'=.need (0≤(n:Int)∧(n:Int)≤n∧(n:Int)*(P.ti e).by'≤140737488355328∧(n:Int)≤140737488355328) (.ok ((s'.add d (.arr (P.ti e).w (List.replicate n z))).put d (.vw [d] 0 n))):=by
    unfold opR eP dH
    simp only [h1,h2,ht,hz,hw]
    have hdu:d<cf.n∧d ∉ s'.used:=⟨hd.1,hu d (by simp)⟩
    simp [hdu.1,hdu.2]
   show stp P cf (opR P.ti cf.n (.makeSlice t x y) (some d) s') _ s' [] _
   rw [h3,mI,qS,cX]
   exact ⟨⟨by omega,Int.le_refl _,hb⟩,rfl⟩
  refine Oper.wpIn_mono ?_ (hok B hB ds' β a w hds hs Q')
  rintro a' w' ⟨hd',s2,β',hrun,hs2⟩
  obtain ⟨_,s3,β3,rfl,hs3⟩:=hrun B hB ds' β' a' w' hd' hs2
  exact ⟨hd',β3,by rw [← hgo];exact hs3⟩
 ·obtain rfl:=List.mem_singleton.1 hq
  exact hd.2
 ·rw [← E.run_eq,← hgo]
  exact hk
end
end Go.Ab

namespace Go.Ab
section
variable {P:Program} {cf:Cf} {Q:Exit→St→Prop} {s:St} {k:List It}
end
end Go.Ab

namespace Go.Ab
section
variable {P:Program} {cf:Cf} {k:List It} {s:St} {Φ:Exit→Act→World→Prop} {I:Base→List Deferred→Prop}
end
section
variable {P:Program} {cf:Cf} {N:Nat} {xs:Nat→List D} {z:Itz} {k:List It} {s:St}
end
end Go.Ab

namespace Go.Ab
section
variable {P:Program} {cf:Cf} {Q:Exit→St→Prop} {s:St} {k:List It}
end
end Go.Ab

namespace Go.Ab
inductive Fz where
 | A (p:Name) (w:W) (xs:List D)
 | B (p:Name) (d:D)
def Fz.nm:Fz→Name
 | .A p _ _=>p
 | .B p _=>p
def St.fz (s:St):Fz→St
 | .A p w xs=>s.eL p w xs
 | .B p d=>s.frB p d
def Fz.ok (s:St):Fz→Prop
 | .A p w xs=>s.hp p=some (.arr w xs)
 | .B p d=>s.hp p=some (.box (d.cells.map .d))∧(d.cells.all D.scal)=true
def St.fzL (s:St):List Fz→St
 | []=>s
 | q::L=>(s.fz q).fzL L
def sq (s:St):List Fz→Prop
 | []=>True
 | q::L=>q.ok s∧sq (s.fz q) L
theorem A4 (s:St):s.fzL []=s:=rfl
theorem Et (s:St) (p:Name) (w:W) (xs:List D) (L:List Fz):s.fzL (.A p w xs::L)=(s.eL p w xs).fzL L:=rfl
theorem Fh (s:St) (p:Name) (d:D) (L:List Fz):s.fzL (.B p d::L)=(s.frB p d).fzL L:=rfl
theorem y3 (s:St):sq s []=True:=rfl
theorem zC (s:St) (p:Name) (w:W) (xs:List D) (L:List Fz):sq s (.A p w xs::L)=(s.hp p=some (.arr w xs)∧sq (s.eL p w xs) L):=rfl
theorem yH (s:St) (p:Name) (d:D) (L:List Fz):sq s (.B p d::L)=((s.hp p=some (.box (d.cells.map .d))∧(d.cells.all D.scal)=true)∧sq (s.frB p d) L):=rfl
def St.noO (s:St):St:={ s with hp:=fun _=>none }
theorem Sim.noO {B:Base} {β:Name→Option Blk} {s:St} {tm:Array Value} {w:World} (h:Sim B β s tm w):Sim B β s.noO tm w:=by
 have hr:∀ v d,Rep w.heap (s.own B.A β) v d→Rep w.heap (s.noO.own B.A β) v d:=fun v d hd=>hd.mono (fun _ _ _=>rfl) (by
  rintro b _ (hA | ⟨q,k,hq,_⟩)
  ·exact .inl hA
  ·exact absurd rfl hq)
 exact { tms:=h.tms,io:=h.io,size:=h.size,frame:=h.frame,slots:=fun i=>VR.mono hr (fun _ h=>h) (fun q _ o' ho'=>(by cases ho')) (h.slots i),objs:=fun q o' ho'=>(by cases ho'),blocks:=fun q k hq _=>absurd rfl hq,inj:=fun q q' k k' hq _=>absurd rfl hq,us:=h.us,stay:=h.stay }
section
variable {P:Program} {cf:Cf} {Q:Exit→St→Prop} {s:St} {k:List It}
section
variable {ops:Array Oper} {K:St→Ns→Prop} {r:List Oper} {ns:Ns}
structure Alike (ns:List Name) (ts:List Nat) (s s':St):Prop where
 hp:∀ p∈ns,s'.hp p=s.hp p
 fr:∀ t∈ts,s'.fr t=s.fr t
theorem Alike.fz {ns:List Name} {ts:List Nat} {s s':St} (h:Alike ns ts s s') (q:Fz):Alike ns ts (s.fz q) (s'.fz q):=by
 cases q with
 | A p w xs =>
   refine ⟨fun x hx=>?_,fun t ht=>?_⟩
   ·show (aj s'.hp p none x).map _=(aj s.hp p none x).map _
    unfold aj
    split
    ·rfl
    ·rw [h.hp x hx]
   ·show (s'.fr t).frz p w xs=(s.fr t).frz p w xs
    rw [h.fr t ht]
 | B p d =>
   refine ⟨fun x hx=>?_,fun t ht=>?_⟩
   ·show (aj s'.hp p none x).map _=(aj s.hp p none x).map _
    unfold aj
    split
    ·rfl
    ·rw [h.hp x hx]
   ·show (s'.fr t).frB p d=(s.fr t).frB p d
    rw [h.fr t ht]
theorem Alike.ok {ns:List Name} {ts:List Nat}:∀ {L:List Fz} {s s':St},Alike ns ts s s'→(∀ q∈L,q.nm∈ns)→sq s L→sq s' L
 | [],_,_,_,_,_=>trivial
 | .A p w xs::L,s,s',h,hn,hl=>by
   rw [zC] at hl ⊢
   exact ⟨(h.hp p (hn (.A p w xs) List.mem_cons_self)).trans hl.1,Alike.ok (h.fz (.A p w xs)) (fun q hq=>hn q (List.mem_cons_of_mem _ hq)) hl.2⟩
 | .B p d::L,s,s',h,hn,hl=>by
   rw [yH] at hl ⊢
   exact ⟨⟨(h.hp p (hn (.B p d) List.mem_cons_self)).trans hl.1.1,hl.1.2⟩,Alike.ok (h.fz (.B p d)) (fun q hq=>hn q (List.mem_cons_of_mem _ hq)) hl.2⟩
theorem Alike.fzL {ns:List Name} {ts:List Nat}:∀ (L:List Fz) {s s':St},Alike ns ts s s'→Alike ns ts (s.fzL L) (s'.fzL L)
 | [],_,_,h=>h
 | q::L,_,_,h=>Alike.fzL L (h.fz q)
end
end
attribute [go_sem] A4 Et Fh y3 zC yH Fz.nm
end Go.Ab
namespace Go.Ab
variable {P:Program} {cf:Cf} {Φ:Exit→Act→World→Prop} {I:Base→List Deferred→Prop} {k:List It} {s:St}
def cutq (P:Program) (cf:Cf) (Φ:Exit→Act→World→Prop) (I:Base→List Deferred→Prop) (k:List It) {X:Type} (S:X→St) (e:Exit) (s:St):Prop :=
 match e with
 | .normal=>∃ x τ,Le cf.U τ s (S x)
 | e=>yq P cf Φ I k e s
theorem yU {X:Type} (S:X→St):cutq P cf Φ I k S .ret s=ARX cf Φ I .ret s:=rfl
attribute [go_sem] yU
end Go.Ab

namespace Go.Ab
section
variable {P:Program} {cf:Cf} {ops:Array Oper} {K:St→Ns→Prop} {r:List Oper} {s:St} {ns:Ns}
theorem Fi (E:XEng P cf ops K) {d t:Nat} {x:Operand} {ty:TypeId} {pos:String} {af:Array Edge} {cs:List AV} (hx:bz (ev s x)=some cs) (hd:d<cf.n∧d ∉ s.used)
  (hk:E.run r ((s.add d (.box cs)).put d (.bx [d] 0)) (ns++[([],[[d]],[d])])) :
  E.stp { dst:=some d,op:=.box t x,type:=ty,pos:=pos,after:=af,guard:=none } r s ns .no:=by
 have hgo:∀ s':St,(s'.add d (.box cs)).put d (.bx [d] 0)=s'.go (some d) (.bx [d] 0) ⟨[([d],some (.box cs))],[d]⟩:=fun s'=>by unfold St.go;rw [gD];rfl
 rw [E.stp_eq]
 refine ⟨.bx [d] 0,([],⟨[([d],some (.box cs))],[d]⟩),fun s' hu hh he B hB ds' β a w hds hs Q'=>?_,fun q hq=>?_,hd.1,?_⟩
 ·have h1:bz (ev s' x)=some cs:=by rw [he x (by simp [Op.operands])];exact hx
  have hok:AOk P cf { dst:=some d,op:=.box t x,type:=ty,pos:=pos,after:=af,guard:=none } s' [] (fun _ s2=>s2=(s'.add d (.box cs)).put d (.bx [d] 0)):=by
   refine dD (o:={ dst:=some d,op:=.box t x,type:=ty,pos:=pos,after:=af,guard:=none }) rfl ?_
   have h3:opR P.ti cf.n (.box t x) (some d) s'=.ok ((s'.add d (.box cs)).put d (.bx [d] 0)):=by
    unfold opR dH
    simp only [h1]
    have hdu:d<cf.n∧d ∉ s'.used:=⟨hd.1,hu d (by simp)⟩
    simp [hdu.1,hdu.2]
   show stp P cf (opR P.ti cf.n (.box t x) (some d) s') _ s' [] _
   rw [h3,qS,cX]
  refine Oper.wpIn_mono ?_ (hok B hB ds' β a w hds hs Q')
  rintro a' w' ⟨hd',s2,β',hrun,hs2⟩
  obtain ⟨_,s3,β3,rfl,hs3⟩:=hrun B hB ds' β' a' w' hd' hs2
  exact ⟨hd',β3,by rw [← hgo];exact hs3⟩
 ·obtain rfl:=List.mem_singleton.1 hq
  exact hd.2
 ·rw [← E.run_eq,← hgo]
  exact hk
end
end Go.Ab

namespace Go.Ab
section
variable {P:Program} {cf:Cf} {ops:Array Oper} {K:St→Ns→Prop} {r:List Oper} {s:St} {ns:Ns}
end
end Go.Ab

namespace Go.Ab
section
variable {P:Program} {cf:Cf} {ops:Array Oper} {K:St→Ns→Prop} {r:List Oper} {s:St} {ns:Ns}
end
end Go.Ab

namespace Go.Ab
section
variable {P:Program} {B:Base} {β:Name→Option Blk} {s:St} {tm:Array Value} {w:World} {t:Nat}
theorem Sim.tR (h:Sim B β s tm w) (ht:t ∉ s.used) {p:Name} {ob:Ob} {k:Blk} (hp:s.hp p=some ob) (hk:β p=some k) (nb:Ob) (o':Nat) {w':World} (hio:wio w'=wio w) (hsz:w'.heap.size=w.heap.size)
  (hw:∀ b,b≠k.b→w'.heap[b]?=w.heap[b]?)
  (hO:∀ β':Name→Option Blk,β' [t]=some ⟨k.b,o',k.z⟩→(∀ v x,VR w.heap (s.own B.A β) s.used s.hp β v x→VR w'.heap (s.own B.A β) (t::s.used) ((s.set p none).add t nb).hp β' v x) →
   OR w'.heap (s.own B.A β) (t::s.used) ((s.set p none).add t nb).hp β' [t] nb) :
  Sim B (aj β [t] (some ⟨k.b,o',k.z⟩)) ((s.set p none).add t nb) tm w':=by
 obtain ⟨β',hβ'⟩:∃ β',aj β [t] (some ⟨k.b,o',k.z⟩)=β':=⟨_,rfl⟩
 obtain ⟨s',hs'⟩:∃ s',(s.set p none).add t nb=s':=⟨_,rfl⟩
 have hnew:β' [t]=some ⟨k.b,o',k.z⟩:=by rw [← hβ'];simp [aj]
 have hold:∀ q,q≠[t]→β' q=β q:=fun q hq=>by rw [← hβ'];simp [aj,hq]
 have hpn:=cK (h.objs p ob hp).1 ht
 have hhn:s'.hp [t]=some nb:=by rw [← hs'];simp [St.add,aj]
 have hhp:s'.hp p=none:=by rw [← hs'];simp [St.add,St.set,aj,hpn]
 have hhq:∀ q,q≠[t]→q≠p→s'.hp q=s.hp q:=fun q h1 h2=>by rw [← hs'];simp [St.add,St.set,aj,h1,h2]
 have hus:s'.used=t::s.used:=by rw [← hs'];rfl
 have hfr:s'.fr=s.fr:=by rw [← hs'];rfl
 have hpne:s.hp p≠none:=by rw [hp];simp
 have hown:s'.own B.A β'=s.own B.A β:=by
  funext b
  refine propext (or_congr_right ⟨?_,?_⟩)
  ·rintro ⟨q,l,hq,hl,rfl⟩
   by_cases e1:q=[t]
   ·subst e1;rw [hnew] at hl;cases hl;exact ⟨p,k,hpne,hk,rfl⟩
   ·by_cases e2:q=p
    ·subst e2;exact absurd hhp hq
    ·rw [hold q e1] at hl;rw [hhq q e1 e2] at hq;exact ⟨q,l,hq,hl,rfl⟩
  ·rintro ⟨q,l,hq,hl,rfl⟩
   by_cases e2:q=p
   ·subst e2;rw [hk] at hl;cases hl;exact ⟨[t],_,by rw [hhn];simp,hnew,rfl⟩
   ·cases ho:s.hp q with
    | none=>exact absurd ho hq
    | some o =>
      have e1:=cK (h.objs q o ho).1 ht
      exact ⟨q,l,by rw [hhq q e1 e2];exact hq,by rw [hold q e1];exact hl,rfl⟩
 have hr:∀ v d,Rep w.heap (s.own B.A β) v d→Rep w'.heap (s.own B.A β) v d:=fun v d hd=>hd.mono (fun b hb _=>hw b fun e=>hb (.inr ⟨p,k,hpne,hk,e.symm⟩)) (fun _ _ h=>h)
 have hst:∀ q,nm s.used q→Stays s.hp s'.hp β β' q:=by
  intro q hq o ho
  have e1:=cK hq ht
  have e2:q≠p:=by rintro rfl;rw [hhp] at ho;cases ho
  exact ⟨o,by rwa [hhq q e1 e2] at ho,Ob.aQ _,hold q e1⟩
 have hu:∀ x∈s.used,x∈s'.used:=fun x hx=>by rw [hus];exact List.mem_cons_of_mem _ hx
 have hO':=hO β' hnew (fun v x hx=>by rw [hs',← hus];exact hx.mono hr hu hst)
 rw [hs',← hus] at hO'
 rw [hβ',hs']
 refine { tms:=h.tms,io:=hio.trans h.io,size:=by rw [hsz];exact h.size,frame:=?_,slots:=fun i=>?_,objs:=?_,blocks:=?_,inj:=?_,us:=fun x hx=>hu x (h.us x hx), stay:=fun p hp=>(hold p (cK (hp.mono h.us) ht)).trans (h.stay p hp) }
 ·intro b hb hn
  rw [hw b ?_]
  ·exact h.frame b hb hn
  ·rintro rfl
   rcases (h.blocks p k hpne hk).2.2 with h3 | h3
   ·omega
   ·exact hn h3
 ·rw [hown,hfr];exact (h.slots i).mono hr hu hst
 ·intro q o ho
  rw [hown]
  by_cases e1:q=[t]
  ·subst e1
   rw [hhn] at ho;cases ho
   exact ⟨⟨t,[],rfl,by rw [hus];exact List.mem_cons_self⟩,hO'⟩
  ·have e2:q≠p:=by rintro rfl;rw [hhp] at ho;cases ho
   rw [hhq q e1 e2] at ho
   obtain ⟨h1,h2⟩:=h.objs q o ho
   refine ⟨h1.mono hu,h2.mono hr hu hst (hold q e1) fun l hl=>hw l.b fun e=>?_⟩
   exact e2 (h.inj q p l k (by rw [ho];simp) hpne hl hk e)
 ·intro q l hq hl
  rw [hsz]
  by_cases e1:q=[t]
  ·subst e1;rw [hnew] at hl;cases hl;exact h.blocks p k hpne hk
  ·have e2:q≠p:=by rintro rfl;exact hq hhp
   rw [hold q e1] at hl;rw [hhq q e1 e2] at hq
   exact h.blocks q l hq hl
 ·intro q q' l l' hq hq' hl hl' e
  have key:∀ q l,s'.hp q≠none→β' q=some l→∃ r,(q=[t]∧r=p∨q≠[t]∧r=q∧q≠p)∧s.hp r≠none∧∃ m,β r=some m∧m.b=l.b:=by
   intro q l hq hl
   by_cases e1:q=[t]
   ·subst e1;rw [hnew] at hl;cases hl;exact ⟨p,.inl ⟨rfl,rfl⟩,hpne,k,hk,rfl⟩
   ·have e2:q≠p:=by rintro rfl;exact hq hhp
    rw [hold q e1] at hl;rw [hhq q e1 e2] at hq
    exact ⟨q,.inr ⟨e1,rfl,e2⟩,hq,l,hl,rfl⟩
  obtain ⟨r,h1,h2,m,h3,h4⟩:=key q l hq hl
  obtain ⟨r',g1,g2,m',g3,g4⟩:=key q' l' hq' hl'
  have:r=r':=h.inj r r' m m' h2 g2 h3 g3 (by rw [h4,g4,e])
  rcases h1 with ⟨rfl,rfl⟩ | ⟨h1,rfl,h5⟩<;>rcases g1 with ⟨rfl,rfl⟩ | ⟨g1,rfl,g5⟩
  ·rfl
  ·exact absurd this.symm g5
  ·exact absurd this h5
  ·exact this
theorem Sim.Az (h:Sim B β s tm w) (ht:t ∉ s.used):Sim B (aj β [t] none) (s.add t (.arrA [])) tm w:=by
 have h0:=h.dP ht none none
 have hst:∀ q,nm (s.add t (.arrT none none [])).used q→Stays (s.add t (.arrT none none [])).hp (s.add t (.arrA [])).hp (aj β [t] none) (aj β [t] none) q∨q=[t]:=by
  intro q hq
  by_cases e:q=[t]
  ·exact .inr e
  ·refine .inl fun o ho=>⟨o,?_,Ob.aQ _,rfl⟩
   simpa [St.add,aj,e] using ho
 have hno:∀ (v:Value) (x:AV),VR w.heap (s.own B.A β) s.used s.hp β v x→VR w.heap ((s.add t (.arrA [])).own B.A (aj β [t] none)) (t::s.used) (s.add t (.arrA [])).hp (aj β [t] none) v x:=by
  intro v x hx
  refine hx.mono (fun v d hd=>hd.mono (fun _ _ _=>rfl) ?_) (fun y hy=>List.mem_cons_of_mem _ hy) fun q hq o ho=>?_
  ·rintro b _ (hA | ⟨q,k,hq,hk,rfl⟩)
   ·exact .inl hA
   ·by_cases e:q=[t]
    ·subst e;simp [aj] at hk
    ·simp only [aj,if_neg e] at hk
     simp only [St.add,aj,if_neg e] at hq
     exact .inr ⟨q,k,hq,hk,rfl⟩
  ·have e:=cK hq ht
   exact ⟨o,by simpa [St.add,aj,e] using ho,Ob.aQ _,by simp [aj,e]⟩
 have hne:∀ q,(s.add t (.arrA [])).hp q≠none→q=[t]∨s.hp q≠none:=by
  intro q hq
  by_cases e:q=[t]
  ·exact .inl e
  ·exact .inr (by simpa [St.add,aj,e] using hq)
 refine { tms:=h.tms,io:=h.io,size:=h.size,frame:=h.frame,slots:=fun i=>hno _ _ (h.slots i),objs:=?_,blocks:=?_,inj:=?_,us:=fun x hx=>List.mem_cons_of_mem _ (h.us x hx),stay:=h0.stay }
 ·intro q o ho
  by_cases e:q=[t]
  ·subst e
   have:o=.arrA []:=by simpa [St.add,aj] using ho.symm
   subst this
   exact ⟨⟨t,[],rfl,List.mem_cons_self⟩,.inl ⟨by simp [aj],rfl⟩⟩
  ·have ho':s.hp q=some o:=by simpa [St.add,aj,e] using ho
   obtain ⟨g1,g2⟩:=h.objs q o ho'
   refine ⟨g1.mono fun y hy=>List.mem_cons_of_mem _ hy,g2.mono (fun v d hd=>?_) (fun y hy=>List.mem_cons_of_mem _ hy) (fun q hq o ho=>?_) (by simp [aj,e]) fun _ _=>rfl⟩
   ·exact (hno v (.d d) (.d v d hd)).toD
   ·have e:=cK hq ht
    exact ⟨o,by simpa [St.add,aj,e] using ho,Ob.aQ _,by simp [aj,e]⟩
 ·intro q k hq hk
  by_cases e:q=[t]
  ·subst e;simp [aj] at hk
  ·exact h0.blocks q k (by have:=hne q hq;simpa [St.add,aj,e] using this) hk
 ·intro q q' k l hq hq' hk hl e
  by_cases e1:q=[t]
  ·subst e1;simp [aj] at hk
  ·by_cases e2:q'=[t]
   ·subst e2;simp [aj] at hl
   ·exact h0.inj q q' k l (by have:=hne q hq;simpa [St.add,aj,e1] using this) (by have:=hne q' hq';simpa [St.add,aj,e2] using this) hk hl e
end
section
variable {P:Program} {cf:Cf} {Q:Exit→St→Prop} {s:St} {k:List It}
theorem xi (E:Eng P cf Q) {d:Option Nat} {op:Op} {ty:TypeId} {ps:String} {af:Array Edge} (x:AV) (f:Fp) (hq:QE P cf { dst:=d,op:=op,type:=ty,pos:=ps,after:=af,guard:=none } s x f) (hu:∀ y∈f.2.nu,y ∉ s.used) (hk:E.run k (s.go d x f.2)) :
  E.stp { dst:=d,op:=op,type:=ty,pos:=ps,after:=af,guard:=none } s k .no:=by
 rw [aM]
 rw [E.run_eq] at hk
 intro B hB ds β a w hds hs Q'
 refine Oper.wpIn_mono ?_ (hq s hu (fun _ _=>rfl) (fun _ _=>rfl) B hB ds β a w hds hs Q')
 rintro a' w' ⟨hd',β',hs'⟩
 exact ⟨hd',_,β',aP hk,hs'⟩
theorem gC {ops:Array Oper} {K:St→Ns→Prop} {r:List Oper} {ns:Ns} (E:XEng P cf ops K) {d:Option Nat} {op:Op} {ty:TypeId} {ps:String} {af:Array Edge} (x:AV) (f:Fp)
  (hq:QE P cf { dst:=d,op:=op,type:=ty,pos:=ps,after:=af,guard:=none } s x f) (hu:∀ y∈f.2.nu,y ∉ s.used) (hk:E.pt d x r f.2 s (ns++[fpN f])) :
  E.stp { dst:=d,op:=op,type:=ty,pos:=ps,after:=af,guard:=none } r s ns .no:=by
 rw [E.stp_eq]
 rw [E.pt_eq] at hk
 exact ⟨x,f,hq,hu,hk.1,hk.2⟩
theorem mn {d:Option Nat} {op:Op} {ty:TypeId} {ps:String} {af:Array Edge} {x:AV} {rd:List Name} (hnd:∀ c,op≠.defer c) (hd:∀ t∈d,t<cf.n)
  (h:∀ (B:Base) (s':St) (β:Name→Option Blk) (a:Act) (w:World),(∀ p∈rd,s'.hp p=s.hp p)→(∀ y∈op.operands,ev s' y=ev s y)→Sim B β s' a.tmps w →
   ∃ v,(execOp a.eval { dst:=d,op:=op,type:=ty,pos:=ps,after:=af,guard:=none }).run P w=.ok (.value v) w∧VR w.heap (s'.own B.A β) s'.used s'.hp β v x) :
  QE P cf { dst:=d,op:=op,type:=ty,pos:=ps,after:=af,guard:=none } s x (rd,ef0):=by
 intro s' _ hh he B hB ds β a w hds hs Q'
 obtain ⟨v,hrun,hv⟩:=h B s' β a w hh he hs
 refine ao hnd hrun (.inl rfl) ⟨by cases d<;>exact hds,β,?_⟩
 rw [um]
 exact hs.putd (fun t ht=>by rw [hB.1];exact hd t ht) hv
theorem FU (s:St) (d:Option Nat) (x:AV):s.go d x ef0=s.ew d x:=qg s d x
theorem j7 (s:St) (x:AV) (p:Name) (q:Option Ob):s.go none x ⟨[(p,q)],[]⟩=s.set p q:=by unfold St.go;rw [iE];rfl
theorem j3 (s:St) (t:Nat) (x:AV) (p:Name) (q:Option Ob):s.go (some t) x ⟨[(p,q)],[]⟩=(s.set p q).put t x:=by unfold St.go;rw [iE];rfl
theorem py (s:St) (t:Nat) (x:AV) (p:Name) (u:Nat) (ob:Ob):s.go (some t) x ⟨[(p,none),([u],some ob)],[u]⟩=((s.set p none).add u ob).put t x:=by unfold St.go;rw [qe];rfl
theorem DJ {t:TypeId} {e:Nat} {x:Operand} {d:Nat} {ty:TypeId} {ps:String} {af:Array Edge} (p:Name) (o l:Nat) (xs:List AV) (hk:(P.ti t).k=.slice e) (hd:d<cf.n) (hx:ev s x=.va p o l) (hp:s.hp p=some (.arrA xs)) :
  QE P cf { dst:=some d,op:=.call { callee:=.builtin .len,args:=#[x],argTypes:=#[t] },type:=ty,pos:=ps,after:=af,guard:=none } s (.d (.int .i64 l)) ([p],ef0):=by
 refine mn (by simp) (fun t' ht=>by cases ht;exact hd) fun B s' β a w hh he hs=>?_
 have hv:=hs.ev x
 rw [he x (by simp [Op.operands,Call.operands]),hx] at hv
 generalize hval:a.eval x=v at hv
 cases hv with
 | va _ _ _ _ hn h1 h =>
   obtain ⟨hle,b,cap,rfl,_⟩:=h xs ((hh p (by simp)).trans hp)
   refine ⟨.int .i64 l,?_,.d _ _ (.int _ _)⟩
   have hr:(Builtin.len_ #[t] ty #[.slice b l cap]).run P w=.ok (.int .i64 l) w:=by simp [Builtin.len_,run_underlying (bf hk),goInt]
   simp [execOp,resolve,invoke,builtin,hval,hr]
theorem qF {t e:Nat} {x y:Operand} {d:Nat} {ty:TypeId} {ps:String} {af:Array Edge} (p:Name) (o l:Nat) (kd:IntKind) (j:Nat) (xs:List AV) (hk:(P.ti t).k=.slice e) (he:(P.ti e).sz=1) (hd:d<cf.n) (hx:ev s x=.va p o l) (hy:ev s y=.d (.int kd j)) (hp:s.hp p=some (.arrA xs)) (hj:j<l) :
  QE P cf { dst:=some d,op:=.indexAddr t x y,type:=ty,pos:=ps,after:=af,guard:=none } s (.ea p (o+j)) ([p],ef0):=by
 refine mn (by simp) (fun t' ht=>by cases ht;exact hd) fun B s' β a w hh he' hs=>?_
 have hv:=hs.ev x
 rw [he' x (by simp [Op.operands]),hx] at hv
 have hw:=hs.ev y
 rw [he' y (by simp [Op.operands]),hy] at hw
 have hw:=hw.int
 have hp':=(hh p (by simp)).trans hp
 generalize hval:a.eval x=v at hv
 cases hv with
 | va _ _ _ _ hn h1 h =>
   obtain ⟨hle,b,cap,rfl,hc⟩:=h xs hp'
   rcases hc with ⟨h0,_⟩ | ⟨k,hk',rfl,h2,h3⟩
   ·omega
   ·refine ⟨.pointer (some ⟨k.b,k.o+(o+j),none⟩),?_,.ea _ _ _ hn rfl fun ys hy'=>?_⟩
    ·have hr:=gM (P:=P) hk (vL (by omega)) k.b (k.o+o) l cap kd j (by omega) (by omega) w
     rw [he,Int.toNat_natCast,Nat.mul_one,Nat.add_assoc] at hr
     simp [execOp,hval,hw,hr]
    ·rw [hp'] at hy'
     cases hy'
     exact ⟨by omega,k,hk',rfl⟩
theorem vc {t:Nat} {x:Operand} {d:Nat} {ty:TypeId} {ps:String} {af:Array Edge} (p:Name) (i:Nat) (xs:List AV) (y:AV) (hg:(P.ti t).k.aR=false) (ha:(P.ti t).k.agg=false) (hd:d<cf.n) (hx:ev s x=.ea p i) (hp:s.hp p=some (.arrA xs)) (hy:xs[i]?=some y) :
  QE P cf { dst:=some d,op:=.load t x,type:=ty,pos:=ps,after:=af,guard:=none } s y ([p],ef0):=by
 refine mn (by simp) (fun t' ht=>by cases ht;exact hd) fun B s' β a w hh he' hs=>?_
 have hv:=hs.ev x
 rw [he' x (by simp [Op.operands]),hx] at hv
 have hp':=(hh p (by simp)).trans hp
 generalize hval:a.eval x=v at hv
 cases hv with
 | ea _ _ _ hn h1 h =>
   obtain ⟨hlt,k,hk,rfl⟩:=h xs hp'
   rcases (hs.objs p _ hp').2 with ⟨_,rfl⟩ | ⟨k',c,e,hk',hb,hz,hl,h1c,hc⟩
   ·simp at hlt
   ·obtain rfl:=Option.some.inj (hk.symm.trans hk')
    have hr:=ee (P:=P) hg ha hb (gm (z:=undef) (i:=k.o+i) (by omega))
    exact ⟨_,by simp [execOp,hval,Instr.loadAt,Instr.sureAddr,hr],hc i y hy⟩
theorem ez (c:Array Value) (o:Nat) (v:Value) (ho:o<c.size) (m:Nat):((splice c.toList o [v]).toArray).getD m undef=if m=o then v else c.getD m undef:=by
 have:=ca c.toList o [v] (by simp;omega) m
 simp only [Array.getElem?_toList,List.length_singleton] at this
 simp only [Array.getD_eq_getD_getElem?,List.getElem?_toArray,this]
 by_cases h:m=o
 ·subst h;simp
 ·rw [if_neg (by omega),if_neg h]
theorem s9 {t:Nat} {x y:Operand} {ty:TypeId} {ps:String} {af:Array Edge} (p:Name) (i:Nat) (xs:List AV) (z:AV) (hg:(P.ti t).k.aR=false) (hsz:(P.ti t).sz=1) (hx:ev s x=.ea p i) (hy:ev s y=z) (hz:bz z=some [z]) (hp:s.hp p=some (.arrA xs)) :
  QE P cf { dst:=none,op:=.store t x y,type:=ty,pos:=ps,after:=af,guard:=none } s .un ([p],⟨[(p,some (.arrA (xs.set i z)))],[]⟩):=by
 intro s' _ hh he' B hB ds β a w hds hs Q'
 have hv:=hs.ev x
 rw [he' x (by simp [Op.operands]),hx] at hv
 have hw:=hs.ev y
 rw [he' y (by simp [Op.operands]),hy] at hw
 have hp':=(hh p (by simp)).trans hp
 generalize hval:a.eval x=v at hv
 cases hv with
 | ea _ _ _ hn h1 h =>
   obtain ⟨hlt,k,hk,rfl⟩:=h xs hp'
   rcases (hs.objs p _ hp').2 with ⟨_,rfl⟩ | ⟨k',c,e,hk',hb,hz',hl,h1c,hc⟩
   ·simp at hlt
   ·obtain rfl:=Option.some.inj (hk.symm.trans hk')
    obtain ⟨g1,g2,g3⟩:=jk hz hw
    have g0:(a.eval y).cells=#[(a.eval y).cells.getD 0 undef]:=by
     generalize (a.eval y).cells=cc at g1
     obtain ⟨cc⟩:=cc
     match cc,g1 with
     | [u],_=>rfl
    have g3:=g3 0 z rfl
    have g2:=g2 ((a.eval y).cells.getD 0 undef) (by rw [g0];simp)
    generalize hu:(a.eval y).cells.getD 0 undef=u at g0 g2 g3
    have hr:=gl (P:=P) (t:=t) hg hb (o:=k.o+i) (v:=a.eval y) (by rw [g0,hsz];rfl) (by rw [g0];simp;omega) (by rw [g0];simpa using g2)
    rw [g0] at hr
    have hrun:(execOp a.eval { dst:=none,op:=.store t x y,type:=ty,pos:=ps,after:=af,guard:=none }).run P w=.ok .skip (w.setRow k.b (splice c.toList (k.o+i) [u]).toArray):=by
     simp [execOp,hval,Instr.storeAt,Instr.sureAddr,hr]
    have hsim:Sim B β (s'.set p (some (.arrA (xs.set i z)))) a.tmps (w.setRow k.b (splice c.toList (k.o+i) [u]).toArray):=by
     refine (hs.modify (p:=p) (ob':=.arrA (xs.set i z)) hp' (by simp [Ob.like]) (w':=w.setRow k.b (splice c.toList (k.o+i) [u]).toArray) rfl (by simp) (fun b hb=>setRow_other w k.b b _ (hb k hk)) (fun hv _=>?_)).1
     refine .inr ⟨k,_,e,hk,setRow_heap w k.b c _ e (0,0) hb,?_,by simpa using hl,fun j hj=>?_,fun j x' hj=>?_⟩
     ·simp;rw [bc _ _ _ (by simp;omega)];simpa using hz'
     ·rw [List.length_set] at hj
      rw [ez c (k.o+i) u (by omega)]
      split
      ·exact g2
      ·exact h1c j hj
     ·rw [ez c (k.o+i) u (by omega)]
      by_cases e':i=j
      ·subst e'
       rw [List.getElem?_set_self hlt] at hj
       cases hj
       rw [if_pos rfl]
       exact hv _ _ g3
      ·rw [List.getElem?_set_ne e'] at hj
       rw [if_neg (by omega)]
       exact hv _ _ (hc j x' hj)
    refine ao (by simp) hrun (.inr ⟨rfl,rfl⟩) ⟨hds,β,?_⟩
    rw [j7]
    exact hsim
theorem Bv {H:Array Obj} {own:Nat→Prop} {w:World} {b o cap l:Nat} {c:Array Value} {e:TypeId} {fz:Nat × Nat} (hw:w.heap=H) (hb:H[b]?=some (.cells c e fz)) (hz:o+l≤c.size) (h1:∀ i,i<l→(c.getD (o+i) undef).oneCell'=true) :
  Seg P H own none (.slice (some ⟨b,o,none⟩) l cap) (List.replicate l .unk) ((c.toList.drop o).take l):=by
 subst hw
 have:=kF (P:=P) (w:=w) (own:=own) (cap:=cap) (wf:=none) (xs:=List.replicate l .unk) hb (by simpa [wd] using hz) (fun x hx=>by rw [(List.mem_replicate.1 hx).2];rfl) (fun i x j d hi hj=>by
  rw [List.getElem?_replicate] at hi
  split at hi
  ·rename_i hlt
   cases hi
   cases j with
   | zero=>simp [D.cells] at hj;subst hj;simpa [wd] using Rep.unk _ (h1 i hlt)
   | succ j=>simp [D.cells] at hj
  ·cases hi)
 simpa [wd] using this
theorem lQ (c:Array Value) (o l i:Nat) (h:i<l):((c.toList.drop o).take l).getD i undef=c.getD (o+i) undef:=by
 simp [List.getD_eq_getElem?_getD,Array.getD_eq_getD_getElem?,h]
theorem C6 {t e:Nat} {x y:Operand} {d:Nat} {ty:TypeId} {ps:String} {af:Array Edge} (p:Name) (l:Nat) (xs:List AV) (u:D) (rdy:List Name) (hk:(P.ti t).k=.slice e) (hzo:(P.ti e).zOk=true) (hw:(P.ti e).isW none=true) (hd:d<cf.n∧d ∉ s.used)
  (hx:ev s x=.va p 0 l) (hp:s.hp p=some (.arrA xs)) (hl:l=xs.length) (hy:∀ s',(∀ q∈rdy,s'.hp q=s.hp q)→ev s' y=ev s y→bt none s'.hp (ev s' y)=some [u]) (hb:(l+1)*(P.ti e).by1≤140737488355328) :
  QE P cf { dst:=some d,op:=.call { callee:=.builtin .append,args:=#[x,y],argTypes:=#[t,t] },type:=ty,pos:=ps,after:=af,guard:=none } s (.va [d] 0 (l+1)) (p::rdy,⟨[(p,none),([d],some (.arrA (xs++[.d u])))],[d]⟩):=by
 subst hl
 intro s' hu' hh he' B hB ds β a w hds hs Q'
 have hud:d ∉ s'.used:=hu' d (by simp)
 have hxv:=hs.ev x
 rw [he' x (by simp [Op.operands,Call.operands]),hx] at hxv
 have hp':=(hh p (by simp)).trans hp
 have hyl:=hy s' (fun q hq=>hh q (List.mem_cons_of_mem _ hq)) (he' y (by simp [Op.operands,Call.operands]))
 obtain ⟨news,hsy⟩:=dq (P:=P) hs (hs.ev y) hyl
 obtain ⟨hg,hwd,hwf⟩:=bE hw
 obtain ⟨z,hz,hzl⟩:∃ z,(P.ti e).z=some z∧z.length=(P.ti e).sz:=by
  unfold TI.zOk at hzo
  split at hzo
  ·rename_i z h1;exact ⟨z,h1,by simpa using hzo⟩
  ·cases hzo
 obtain ⟨zv,hr0,hm,it,hi,hiz,his,hib⟩:=cS hz
 have hund:=bf hk
 have hb2:(xs.length+1)*it.bytes≤140737488355328∧xs.length+1≤140737488355328:=by
  unfold TI.by1 at hb
  rw [hib]
  split at hb
  ·rename_i h0;rw [h0];simp at hb ⊢;omega
  ·exact ⟨hb,Nat.le_trans (Nat.le_mul_of_pos_right _ (by omega)) hb⟩
 have hnl:news.length=1:=by have:=hsy.size;simpa [wd] using this
 have hn0:Rep w.heap (s'.own B.A β) (news.getD 0 undef) u:=by
  have hou:=hsy.ok u (by simp)
  have:=hsy.rep 0 u 0 u rfl (by cases u<;>first | rfl | simp [okW,D.scal] at hou)
  simpa [wd] using this
 have hn1:(news.getD 0 undef).oneCell'=true:=hsy.one _ (by
  match news,hnl with
  | [v],_=>simp)
 have hop:∀ v w',(Builtin.append_ #[t,t] ty #[a.eval x,a.eval y]).run P w=.ok v w'→(execOp a.eval { dst:=some d,op:=.call { callee:=.builtin .append,args:=#[x,y],argTypes:=#[t,t] },type:=ty,pos:=ps,after:=af,guard:=none }).run P w=.ok (.value v) w':=by
  intro v w' hr
  simp [execOp,resolve,invoke,builtin,hr]
 have hfin:∀ v w' β',(Builtin.append_ #[t,t] ty #[a.eval x,a.eval y]).run P w=.ok v w'→Sim B β' ((s'.set p none).add d (.arrA (xs++[.d u]))) a.tmps w'→VR w'.heap (((s'.set p none).add d (.arrA (xs++[.d u]))).own B.A β') (d::s'.used) ((s'.set p none).add d (.arrA (xs++[.d u]))).hp β' v (.va [d] 0 (xs.length+1)) →
   Oper.wpIn (Fw cf.ro) 0 P { dst:=some d,op:=.call { callee:=.builtin .append,args:=#[x,y],argTypes:=#[t,t] },type:=ty,pos:=ps,after:=af,guard:=none } a w (fun a' w'=>a'.defers=ds∧∃ β',Sim B β' (s'.go (some d) (.va [d] 0 (xs.length+1)) ⟨[(p,none),([d],some (.arrA (xs++[.d u])))],[d]⟩) a'.tmps w') Q':=by
  intro v w' β' hr hsim hv
  refine ao (by simp) (hop v w' hr) (.inl rfl) ⟨hds,β',?_⟩
  rw [py]
  exact hsim.put (by rw [hB.1];exact hd.1) hv
 have hpn:=cK (hs.objs p _ hp').1 hud
 have hcomm:(s'.set p none).add d (.arrA (xs++[.d u]))=(s'.add d (.arrA (xs++[.d u]))).set p none:=by
  unfold St.add St.set
  simp only [St.mk.injEq,true_and,and_true]
  funext q
  simp only [aj]
  by_cases h1:q=[d]
  ·subst h1;simp [Ne.symm hpn]
  ·simp [h1]
 generalize hval:a.eval x=xv at hxv hop hfin
 cases hxv with
 | va _ _ _ _ hn h1 h =>
   obtain ⟨hle,b,cap,rfl,hc⟩:=h xs hp'
   obtain ⟨olds,hsx,hold⟩:∃ olds,Seg P w.heap (s'.own B.A β) none (.slice b xs.length cap) (List.replicate xs.length .unk) olds∧∀ i x',xs[i]?=some x'→VR w.heap (s'.own B.A β) s'.used s'.hp β (olds.getD i undef) x':=by
    by_cases h0:xs.length=0
    ·have:xs=[]:=List.length_eq_zero_iff.1 h0
     subst this
     exact ⟨[],iK,fun i x' hi=>by simp at hi⟩
    ·rcases hc with ⟨h3,_⟩ | ⟨k,hk',rfl,h2,h3⟩
     ·omega
     ·rcases (hs.objs p _ hp').2 with ⟨_,h4⟩ | ⟨k',c,e',hk'',hbb,hzz,hll,h1c,hcc⟩
      ·rw [h4] at h0;simp at h0
      ·obtain rfl:=Option.some.inj (hk'.symm.trans hk'')
       refine ⟨(c.toList.drop (k.o+0)).take xs.length,Bv rfl hbb (by omega) (fun i hi=>by rw [Nat.add_zero];exact h1c i hi),fun i x' hi=>?_⟩
       rw [lQ _ _ _ _ (List.getElem?_eq_some_iff.1 hi).1,Nat.add_zero]
       exact hcc i x' hi
   have hol:olds.length=xs.length:=by have:=hsx.size;simpa [wd] using this
   by_cases hgr:cap<xs.length+1
   ·-- it grows
    obtain ⟨nc,hnc,hrun⟩:=dF (P:=P) (t:=t) hund hi hiz ty (wf:=none) (by rw [his,hwd]) hsx hsy (a:=b) (cap:=cap) (by simp) (by simpa using hgr) (by simpa using hb2.1) (by simpa using hb2.2)
    simp only [List.length_replicate,List.length_singleton] at hrun hnc
    have hzs:zv.cells.size=1:=by
     have:=(eA (H:=w.heap) (own:=s'.own B.A β) hm).1
     simp at this;rw [hzl,← hwd] at this;exact this.symm
    obtain ⟨cc,hcc⟩:∃ cc,olds.toArray++news.toArray++Builtin.zeroCells zv.cells (nc-(xs.length+1))=cc:=⟨_,rfl⟩
    have hccs:cc.size=nc:=by
     rw [← hcc]
     simp only [Array.size_append,List.size_toArray,hol,hnl,size_zeroCells,hzs];omega
    have hcg:∀ i,i<xs.length+1→cc.getD i undef=if i<xs.length then olds.getD i undef else news.getD 0 undef:=by
     intro i hi'
     rw [← hcc]
     simp only [Array.getD_eq_getD_getElem?,List.getD_eq_getElem?_getD,Array.getElem?_append,List.size_toArray,Array.size_append,List.getElem?_toArray,hol,hnl]
     by_cases h5:i<xs.length
     ·simp [h5,show i<xs.length+1 by omega]
     ·have:i=xs.length:=by omega
      subst this
      simp
    rw [hcc] at hrun
    have hs0:Sim B β s' a.tmps w.drew:=hs.fU rfl rfl
    have hal:=hs0.alloc hud (.cells cc e) (.arrA (xs++[.d u])) nc (by
     intro β' hβ hmono
     refine .inr ⟨_,cc,e,hβ,heap_alloc_new w.drew _,hccs,by simp;omega,fun i hi'=>?_,fun i x' hi'=>?_⟩
     ·rw [List.length_append,List.length_singleton] at hi'
      dsimp only
      rw [Nat.zero_add,hcg i hi']
      split
      ·exact hsx.one _ (by
        have:i<olds.length:=by omega
        rw [List.getD_eq_getElem?_getD,List.getElem?_eq_getElem this,Option.getD_some]
        exact List.getElem_mem this)
      ·exact hn1
     ·have hlt:=(List.getElem?_eq_some_iff.1 hi').1
      rw [List.length_append,List.length_singleton] at hlt
      dsimp only
      rw [Nat.zero_add,hcg i hlt]
      split
      ·rename_i h5
       rw [List.getElem?_append_left h5] at hi'
       exact hmono _ _ (hold i x' hi')
      ·rename_i h5
       rw [List.getElem?_append_right (by omega),show i-xs.length=0 by omega] at hi'
       cases hi'
       exact hmono _ _ (.d _ _ hn0))
    have hs2:=hal.1.drop p
    rw [← hcomm] at hs2
    refine hfin _ _ _ hrun hs2 (.va _ _ _ _ ⟨d,[],rfl,List.mem_cons_self⟩ rfl fun ys hy'=>?_)
    have:ys=xs++[.d u]:=by simpa [St.add,aj,eq_comm] using hy'
    subst this
    exact ⟨by simp,_,nc,rfl,.inr ⟨⟨w.drew.heap.size,0,nc⟩,by simp [aj],by simp,by omega,by simp⟩⟩
   ·-- there is room
    rcases hc with ⟨h3,h4⟩ | ⟨k,hk',rfl,h2,h3⟩
    ·omega
    ·rcases (hs.objs p _ hp').2 with ⟨h4,_⟩ | ⟨k',c,e',hk'',hbb,hzz,hll,h1c,hcc⟩
     ·rw [hk'] at h4;cases h4
     ·obtain rfl:=Option.some.inj (hk'.symm.trans hk'')
      have hfit:k.o+0+xs.length*wd none+news.length≤c.size:=by rw [hnl];simp [wd];omega
      have hrun:=fQ (P:=P) (t:=t) hund hi ty (wf:=none) (by rw [his,hwd]) hsy hbb (o:=k.o+0) (n:=xs.length) (cap:=cap) (by simp;omega) hfit
      simp only [List.length_singleton,wd,Nat.mul_one,Nat.add_zero] at hrun hfit
      obtain ⟨v0,rfl⟩:∃ v0,news=[v0]:=by
       match news,hnl with
       | [v],_=>exact ⟨v,rfl⟩
      have hv0:Rep w.heap (s'.own B.A β) v0 u:=hn0
      have hv1:v0.oneCell'=true:=hn1
      have hsim:Sim B (aj β [d] (some ⟨k.b,k.o,k.z⟩)) ((s'.set p none).add d (.arrA (xs++[.d u]))) a.tmps (w.setRow k.b (splice c.toList (k.o+xs.length) [v0]).toArray):=by
       refine hs.tR hud hp' hk' (.arrA (xs++[.d u])) k.o (w':=w.setRow k.b (splice c.toList (k.o+xs.length) [v0]).toArray) rfl (by simp) (fun b hb=>setRow_other w k.b b _ hb) (fun β' hβ hmono=>?_)
       refine .inr ⟨_,_,e',hβ,setRow_heap w k.b c _ e' (0,0) hbb,?_,by simp;omega,fun j hj=>?_,fun j x' hj=>?_⟩
       ·simp;rw [bc _ _ _ (by simp;omega)];simpa using hzz
       ·rw [List.length_append,List.length_singleton] at hj
        dsimp only
        rw [ez c _ v0 (by omega)]
        split
        ·exact hv1
        ·exact h1c j (by omega)
       ·have hlt:=(List.getElem?_eq_some_iff.1 hj).1
        rw [List.length_append,List.length_singleton] at hlt
        dsimp only
        rw [ez c _ v0 (by omega)]
        split
        ·have:j=xs.length:=by omega
         subst this
         rw [List.getElem?_append_right (by omega),Nat.sub_self] at hj
         cases hj
         exact hmono _ _ (.d _ _ hv0)
        ·rw [List.getElem?_append_left (by omega)] at hj
         exact hmono _ _ (hcc j x' hj)
      refine hfin _ _ _ hrun hsim (.va _ _ _ _ ⟨d,[],rfl,List.mem_cons_self⟩ rfl fun ys hy'=>?_)
      have:ys=xs++[.d u]:=by simpa [St.add,aj,eq_comm] using hy'
      subst this
      exact ⟨by simp,_,cap,rfl,.inr ⟨⟨k.b,k.o,k.z⟩,by simp [aj],rfl,by omega,by simpa using h3⟩⟩
variable {κ:Type} [DecidableEq κ] {ke:κ→D} {kv:κ→Value}
theorem pB {kt:TypeId} (K:fo P kt ke kv) {H:Array Obj} {own:Nat→Prop} {used:List Nat} {hp:Name→Option Ob} {β:Name→Option Blk} {ks:List κ} {es:List (D × AV)} {ents:Array MapEntry} (hk:es.map (·.1)=ks.map ke) (hsz:ents.size=es.length)
  (h:∀ (i:Nat) (x:D × AV),es[i]?=some x→∃ en:MapEntry,ents[i]?=some en∧Rep H own en.key x.1∧VR H own used hp β en.val x.2):ents.toList.map (·.key)=ks.map kv:=by
 have hl:es.length=ks.length:=by simpa using congrArg List.length hk
 apply List.ext_getElem (by simp [hsz,hl])
 intro i h1 h2
 have hi:i<ks.length:=by simpa using h2
 obtain ⟨en,he,hr,_⟩:=h i (es[i]'(by omega)) (List.getElem?_eq_getElem (by omega))
 have hke:(es[i]'(by omega)).1=ke ks[i]:=by
  have:=congrArg (·[i]?) hk
  simp only [List.getElem?_map,List.getElem?_eq_getElem (show i<es.length by omega),List.getElem?_eq_getElem hi,Option.map_some,Option.some.injEq] at this
  exact this
 rw [hke] at hr
 have hie:i<ents.size:=by omega
 simp [hie] at he
 simp [he,K.val hr]
theorem ph {ents:Array MapEntry} (i:Nat) (f:MapEntry→MapEntry) (hf:∀ e,(f e).born=e.born):(ents.modify i f).toList.map (·.born)=ents.toList.map (·.born):=by
 refine List.ext_getElem? fun j=>?_
 rw [List.getElem?_map,List.getElem?_map,Array.getElem?_toList,Array.getElem?_toList,Array.getElem?_modify]
 split
 ·cases ents[j]? with
  | none=>rfl
  | some x=>simp [hf]
 ·rfl
theorem Am {mt kt et:Nat} {x y:Operand} {d:Nat} {ty:TypeId} {ps:String} {af:Array Edge} (p:Name) (clk:Nat) (bs:List Nat) (es:List (D × AV)) (ks:List κ) (key:κ) (i:Nat) (v:AV) (hm:(P.ti mt).k=.map kt et) (K:fo P kt ke kv) (hd:d<cf.n)
  (hx:ev s x=.ma p) (hy:ev s y=.d (ke key)) (hp:s.hp p=some (.mapA clk bs es)) (hks:es.map (·.1)=ks.map ke) (hi:midx ks key=some i) (hv:es[i]?=some (ke key,v)) :
  QE P cf { dst:=some d,op:=.mapEntry mt x y,type:=ty,pos:=ps,after:=af,guard:=none } s (.tup [v,.d (.int .i64 (bs.getD i 0))]) ([p],⟨[(p,some (.mapA clk bs es))],[]⟩):=by
 intro s' _ hh he' B hB ds β a w hds hs Q'
 have hxv:=hs.ev x
 rw [he' x (by simp [Op.operands]),hx] at hxv
 have hyv:=hs.ev y
 rw [he' y (by simp [Op.operands]),hy] at hyv
 have hyv:=K.val hyv.toD
 have hp':=(hh p (by simp)).trans hp
 generalize hval:a.eval x=xv at hxv
 cases hxv with
 | ma _ _ hn h1 h =>
   obtain ⟨k,hk,rfl⟩:=h _ _ _ hp'
   obtain ⟨k',ents,hk',hb,⟨hsz,hbo,hbs⟩,hent⟩:=(hs.objs p _ hp').2
   obtain rfl:=Option.some.inj (hk.symm.trans hk')
   have hkeys:=pB K hks hsz hent
   have hf:=K.find key ents.toList ks w hkeys
   rw [hi] at hf
   obtain ⟨en,h2,h3,h4⟩:=hent i _ hv
   have hke:=K.val h3
   have h2':ents.toList[i]?=some en:=by simpa using h2
   have hbi:bs.getD i 0=en.born:=by
    rw [← hbs,List.getD_eq_getElem?_getD,List.getElem?_map,h2'];rfl
   have hrun:(execOp a.eval { dst:=some d,op:=.mapEntry mt x y,type:=ty,pos:=ps,after:=af,guard:=none }).run P w=.ok (.value (.tuple #[en.val,goInt en.born])) { w with heap:=w.heap.setIfInBounds k.b (.map (ents.modify i fun e=>{ e with key:=kv key }) clk) }:=by
    simp only [execOp,hval,hyv,Instr.mapEntry,Sem.run_bind,run_underlying (cQ hm),Result.andThen_ok,MapKept.run_getObj_map hb,K.chk,Sem.run_pure]
    rw [hf]
    simp [setObj,Sem.run,Instr.keyThatStays,h2,hke,K.same,hb]
   have hsim:Sim B β (s'.set p (some (.mapA clk bs es))) a.tmps { w with heap:=w.heap.setIfInBounds k.b (.map (ents.modify i fun e=>{ e with key:=kv key }) clk) }∧VR { w with heap:=w.heap.setIfInBounds k.b (.map (ents.modify i fun e=>{ e with key:=kv key }) clk) }.heap ((s'.set p (some (.mapA clk bs es))).own B.A β) s'.used (s'.set p (some (.mapA clk bs es))).hp β en.val v:=by
    have:=hs.modify (p:=p) (ob':=.mapA clk bs es) hp' trivial (w':={ w with heap:=w.heap.setIfInBounds k.b (.map (ents.modify i fun e=>{ e with key:=kv key }) clk) }) rfl (by simp)
     (fun b' hb'=>by
      have:b'≠k.b:=hb' k hk
      simp [Ne.symm this]) (fun hv' hr'=>by
      refine ⟨k,ents.modify i fun e=>{ e with key:=kv key },hk,by simp [ah hb],⟨by simpa using hsz,gA hbo _ _ fun _=>rfl,(ph i (fun e=>{ e with key:=kv key }) fun _=>rfl).trans hbs⟩,fun j x' hj=>?_⟩
      obtain ⟨en',g1,g2,g3⟩:=hent j x' hj
      by_cases hij:i=j
      ·subst hij
       rw [hv] at hj
       cases hj
       rw [h2] at g1
       cases g1
       exact ⟨{ en with key:=kv key },by rw [Array.getElem?_modify,if_pos rfl,h2];rfl,K.rep _ _ _,hv' _ _ h4⟩
      ·exact ⟨en',by rw [Array.getElem?_modify,if_neg hij];exact g1,hr' _ _ g2,hv' _ _ g3⟩)
    exact ⟨this.1,this.2 _ _ h4⟩
   refine ao (by simp) hrun (.inl rfl) ⟨hds,β,?_⟩
   rw [j3]
   refine hsim.1.put (by rw [hB.1];exact hd) (.tup _ _ rfl fun j z hj=>?_)
   match j,hj with
   | 0,hj=>obtain rfl:=Option.some.inj hj;exact hsim.2
   | 1,hj=>obtain rfl:=Option.some.inj hj;rw [hbi];exact .d _ _ (.int _ _)
theorem zg {mt kt et:Nat} {x y:Operand} {d:Nat} {ty:TypeId} {ps:String} {af:Array Edge} (p:Name) (clk:Nat) (bs:List Nat) (es:List (D × AV)) (ks:List κ) (key:κ) (z:D) (hm:(P.ti mt).k=.map kt et) (K:fo P kt ke kv) (hz:iq P et=some z) (hd:d<cf.n)
  (hx:ev s x=.ma p) (hy:ev s y=.d (ke key)) (hp:s.hp p=some (.mapA clk bs es)) (hks:es.map (·.1)=ks.map ke) (hi:midx ks key=none) :
  QE P cf { dst:=some d,op:=.mapEntry mt x y,type:=ty,pos:=ps,after:=af,guard:=none } s (.tup [.d z,.d (.int .i64 clk)]) ([p],⟨[(p,some (.mapA (clk+1) (bs++[clk]) (es++[(ke key,.d z)])))],[]⟩):=by
 intro s' _ hh he' B hB ds β a w hds hs Q'
 have hxv:=hs.ev x
 rw [he' x (by simp [Op.operands]),hx] at hxv
 have hyv:=hs.ev y
 rw [he' y (by simp [Op.operands]),hy] at hyv
 have hyv:=K.val hyv.toD
 have hp':=(hh p (by simp)).trans hp
 generalize hval:a.eval x=xv at hxv
 cases hxv with
 | ma _ _ hn h1 h =>
   obtain ⟨k,hk,rfl⟩:=h _ _ _ hp'
   obtain ⟨k',ents,hk',hb,⟨hsz,hbo,hbs⟩,hent⟩:=(hs.objs p _ hp').2
   obtain rfl:=Option.some.inj (hk.symm.trans hk')
   have hkeys:=pB K hks hsz hent
   have hf:=K.find key ents.toList ks w hkeys
   rw [hi] at hf
   obtain ⟨zv,hzr,hzrep⟩:=iD hz
   have hrun:(execOp a.eval { dst:=some d,op:=.mapEntry mt x y,type:=ty,pos:=ps,after:=af,guard:=none }).run P w=.ok (.value (.tuple #[zv,goInt clk])) { w with heap:=w.heap.setIfInBounds k.b (.map (ents.push { key:=kv key,val:=zv,born:=clk }) (clk+1)) }:=by
    simp only [execOp,hval,hyv,Instr.mapEntry,Sem.run_bind,run_underlying (cQ hm),Result.andThen_ok,MapKept.run_getObj_map hb,K.chk,Sem.run_pure]
    rw [hf]
    simp [setObj,Sem.run,hzr,hb]
   have hsim:=(hs.modify (p:=p) (ob':=.mapA (clk+1) (bs++[clk]) (es++[(ke key,.d z)])) hp' trivial (w':={ w with heap:=w.heap.setIfInBounds k.b (.map (ents.push { key:=kv key,val:=zv,born:=clk }) (clk+1)) }) rfl (by simp)
    (fun b' hb'=>by
     have:b'≠k.b:=hb' k hk
     simp [Ne.symm this]) (fun hv' hr'=>by
     refine ⟨k,ents.push { key:=kv key,val:=zv,born:=clk },hk,by simp [ah hb],⟨by simp [hsz],nC hbo _ _,by simp [hbs]⟩,fun j x' hj=>?_⟩
     by_cases hlt:j<es.length
     ·rw [List.getElem?_append_left hlt] at hj
      obtain ⟨en',g1,g2,g3⟩:=hent j x' hj
      exact ⟨en',by rw [Array.getElem?_push,if_neg (by omega)];exact g1,hr' _ _ g2,hv' _ _ g3⟩
     ·have hj2:=(List.getElem?_eq_some_iff.1 hj).1
      rw [List.length_append,List.length_singleton] at hj2
      have:j=es.length:=by omega
      subst this
      rw [List.getElem?_append_right (by omega),Nat.sub_self] at hj
      cases hj
      exact ⟨_,by rw [Array.getElem?_push,if_pos hsz.symm],K.rep _ _ _,.d _ _ (hzrep _ _)⟩)).1
   refine ao (by simp) hrun (.inl rfl) ⟨hds,β,?_⟩
   rw [j3]
   refine hsim.put (by rw [hB.1];exact hd) (.tup _ _ rfl fun j u hj=>?_)
   match j,hj with
   | 0,hj=>obtain rfl:=Option.some.inj hj;exact .d _ _ (hzrep _ _)
   | 1,hj=>obtain rfl:=Option.some.inj hj;exact .d _ _ (.int _ _)
theorem qm {mt:Nat} {x y z:Operand} {ty:TypeId} {ps:String} {af:Array Edge} (p:Name) (clk:Nat) (bs:List Nat) (es:List (D × AV)) (i b:Nat) (kd:D) (v0 v:AV) (hx:ev s x=.ma p) (hy:ev s y=.d (.int .i64 b)) (hz:ev s z=v) (hp:s.hp p=some (.mapA clk bs es)) (hi:es[i]?=some (kd,v0)) (hb:bs[i]?=some b) :
  QE P cf { dst:=none,op:=.entryStore mt x y z,type:=ty,pos:=ps,after:=af,guard:=none } s .un ([p],⟨[(p,some (.mapA clk bs (es.set i (kd,v))))],[]⟩):=by
 intro s' _ hh he' B hB ds β a w hds hs Q'
 have hxv:=hs.ev x
 rw [he' x (by simp [Op.operands]),hx] at hxv
 have hyv:=hs.ev y
 rw [he' y (by simp [Op.operands]),hy] at hyv
 have hyv:=hyv.int
 have hzv:=hs.ev z
 rw [he' z (by simp [Op.operands]),hz] at hzv
 have hp':=(hh p (by simp)).trans hp
 generalize hval:a.eval x=xv at hxv
 cases hxv with
 | ma _ _ hn h1 h =>
   obtain ⟨k,hk,rfl⟩:=h _ _ _ hp'
   obtain ⟨k',ents,hk',hbb,⟨hsz,hbo,hbs⟩,hent⟩:=(hs.objs p _ hp').2
   obtain rfl:=Option.some.inj (hk.symm.trans hk')
   obtain ⟨en,h2,h3,h4⟩:=hent i _ hi
   have hil:i<ents.size:=(Array.getElem?_eq_some_iff.1 h2).1
   have hfind:ents.findIdx? (fun e=>(e.born:Int) == (b:Int))=some i:=by
    rw [Array.findIdx?_eq_some_iff_getElem]
    have hbi:∀ j (hj:j<ents.size),bs[j]?=some ents[j].born:=fun j hj=>by
     rw [← hbs,List.getElem?_map,Array.getElem?_toList,Array.getElem?_eq_getElem hj];rfl
    refine ⟨hil,?_,fun j hj=>?_⟩
    ·have:=hbi i hil
     rw [hb] at this
     simp [Option.some.inj this]
    ·have hj':j<ents.size:=by omega
     intro e
     have e:(ents[j].born:Int)=(b:Int):=by simpa using e
     have e:ents[j].born=b:=by omega
     have h5:=hbi j hj'
     have hnd:bs.Nodup:=by rw [← hbs];exact hbo.1
     have hjl:=(List.getElem?_eq_some_iff.1 h5).1
     have hil':=(List.getElem?_eq_some_iff.1 hb).1
     have h6:bs[j]=bs[i]:=by
      rw [(List.getElem?_eq_some_iff.1 h5).2,(List.getElem?_eq_some_iff.1 hb).2,e]
     have:=(List.getElem_inj hnd).1 h6
     omega
   have hrun:(execOp a.eval { dst:=none,op:=.entryStore mt x y z,type:=ty,pos:=ps,after:=af,guard:=none }).run P w=.ok .skip { w with heap:=w.heap.setIfInBounds k.b (.map (ents.modify i fun e=>{ e with val:=a.eval z }) clk) }:=by
    simp only [execOp,hval,hyv,Instr.entryStore,Sem.run_bind,Result.andThen_ok,MapKept.run_getObj_map hbb,Sem.run_pure,asInt,asIntOf]
    rw [hfind]
    simp [setObj,Sem.run,hbb]
   have hsim:=(hs.modify (p:=p) (ob':=.mapA clk bs (es.set i (kd,v))) hp' trivial (w':={ w with heap:=w.heap.setIfInBounds k.b (.map (ents.modify i fun e=>{ e with val:=a.eval z }) clk) }) rfl (by simp)
    (fun b' hb'=>by
     have:b'≠k.b:=hb' k hk
     simp [Ne.symm this]) (fun hv' hr'=>by
     refine ⟨k,ents.modify i fun e=>{ e with val:=a.eval z },hk,by simp [ah hbb],⟨by simpa using hsz,gA hbo _ _ fun _=>rfl,(ph i (fun e=>{ e with val:=a.eval z }) fun _=>rfl).trans hbs⟩,fun j x' hj=>?_⟩
     by_cases hij:i=j
     ·subst hij
      rw [List.getElem?_set_self (List.getElem?_eq_some_iff.1 hi).1] at hj
      cases hj
      exact ⟨{ en with val:=a.eval z },by rw [Array.getElem?_modify,if_pos rfl,h2];rfl,hr' _ _ h3,hv' _ _ hzv⟩
     ·rw [List.getElem?_set_ne hij] at hj
      obtain ⟨en',g1,g2,g3⟩:=hent j x' hj
      exact ⟨en',by rw [Array.getElem?_modify,if_neg hij];exact g1,hr' _ _ g2,hv' _ _ g3⟩)).1
   refine ao (by simp) hrun (.inr ⟨rfl,rfl⟩) ⟨hds,β,?_⟩
   rw [j7]
   exact hsim
end
end Go.Ab

