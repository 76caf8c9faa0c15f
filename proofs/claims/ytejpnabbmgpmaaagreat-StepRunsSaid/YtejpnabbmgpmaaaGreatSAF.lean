/-
  The generic layer, part 80: a deferred closure that holds boxes: at the way out it is run on the objects that lie there. (with the parts that follow it)
-/
import Derived.Test.YtejpnabbmgpmaaaGreatSAE
import Derived.Test.YtejpnabbmgpmaaaGreatSAD
import Derived.DefersIn
import Derived.RangeFuncBound
import Derived.Laws.CopyRow
import Derived.Laws.IdiomCopy
set_option linter.unusedSimpArgs false
namespace Go.Ab
section
variable {P:Program} {cf:Cf}
structure DI (B0:Base) (g:Nat) (ns:List Name) (B:Base) (ds:List Deferred):Prop where
 ci:∃ B1,CI B0 B1 []∧B.n=B1.n∧B.io=B1.io∧B.H0=B1.H0∧(∀ b,B.O0 b↔B1.O0 b)∧B.A=B1.A∧(∀ x∈B1.U0,x∈B.U0)∧∀ p,nm B1.U0 p→B.β0 p=B1.β0 p
 df:∃ caps:Array Value,ds=[{ target:=.fn (.func g) caps,args:=#[] }]∧caps.size=ns.length∧∀ i p,ns[i]?=some p→nm B.U0 p∧(caps.getD i undef).oneCell'=true∧∃ k,B.β0 p=some k∧k.o=0∧caps.getD i undef=.pointer (some ⟨k.b,0,none⟩)
theorem rH {u:List Nat} {Φ:Exit→Act→World→Prop}:∀ (k:List It),hold P { cf with U:=u } Φ k=hold P cf Φ k
 | []=>rfl
 | .code c::k=>by
   funext e a w
   cases e<;>simp only [hold,rH k]
 | .ops all r::k=>by
   funext e a w
   cases e<;>simp only [hold,rH k]
 | .blk i::k=>by
   funext e a w
   cases e<;>simp only [hold,rH k]
theorem Hd {B0:Base} {Φ:Exit→Act→World→Prop} {k:List It} {s:St} {all:Array Oper} {fv:Operand} {at':Array TypeId} {ty:TypeId} {pos:String} {af:Array Edge} {r:List Oper} {g:Nat} (ns:List Name) (hro:cf.ro=none)
  (hev:ev s fv=.clo g (ns.map fun p=>.at p 0)) (hbx:∀ p∈ns,∃ cs,s.hp p=some (.box cs))
  (h:ARY P { cf with U:=s.used } Φ (DI B0 g ns) (.ops all r::k) s) :
  ARY P cf Φ (fun B ds=>CI B0 B ds∧ds=[]) (.ops all ({ dst:=none,op:=.defer { callee:=.value fv,args:=#[],argTypes:=at' },type:=ty,pos:=pos,after:=af,guard:=none }::r)::k) s:=by
 intro B hB ds β a w hds hI hs l hl
 obtain ⟨hI,rfl⟩:=hI
 cases l with
 | nil=>simp at hl
 | cons i l =>
   simp only [List.map_cons,List.cons.injEq] at hl
   obtain ⟨hi,hl⟩:=hl
   simp only [wpOpsIn,hi,Region.wanted,if_true]
   have hf:=hs.ev fv
   rw [hev] at hf
   obtain ⟨vs,hfv,hvs,hvr⟩:∃ vs:Array Value,a.eval fv=.func (.func g) #[] vs∧vs.size=ns.length∧∀ i p,ns[i]?=some p→VR w.heap (s.own B.A β) s.used s.hp β (vs.getD i undef) (.at p 0):=by
    generalize a.eval fv=v at hf
    cases hf with
    | clo f vs cs h1 h2=>exact ⟨vs,rfl,by simpa using h1,fun i p hp=>h2 i _ (by rw [List.getElem?_map,hp];rfl)⟩
   refine ⟨fun _ _=>trivial,?_⟩
   have hrun:(execOp a.eval { dst:=none,op:=.defer { callee:=.value fv,args:=#[],argTypes:=at' },type:=ty,pos:=pos,after:=af,guard:=none }:Sem Next).run P w=.ok (.defer { target:=.fn (.func g) vs,args:=#[] }) w:=by
    simp only [execOp,resolve,hfv,Deferred.ofValue,Sem.run_bind,Sem.run_pure,Result.andThen_ok,Array.map_empty,Array.append_empty]
   rw [show (Fw cf.ro).round=none by rw [hro];rfl,Oper.semAt_none,hrun,Oper.uponIn_defer]
   let B':Base:={ n:=B.n,io:=B.io,G:=B.G,H0:=B.H0,O0:=B.O0,A:=B.A,U0:=s.used,β0:=β,hA:=B.hA,hG:=B.hG }
   have hs':Sim B' β s a.tmps w:=hs.mv rfl hs.io hs.size hs.frame (Nat.le_refl _) (fun _ _ _=>rfl) (fun _ _ h=>h) (fun p k hp hk=>(hs.blocks p k hp hk).2.2) (fun _ h=>h) (fun _ _=>rfl)
   rw [← rH (u:=s.used) k]
   refine h B' ⟨hB.1,rfl,hB.2.2⟩ _ β { a with defers:={ target:=.fn (.func g) vs,args:=#[] }::a.defers } w (by show _::a.defers=_;rw [hds]) ⟨⟨B,hI,rfl,rfl,rfl,fun _=>Iff.rfl,rfl,hs.us,hs.stay⟩,vs,rfl,hvs,fun i p hp=>?_⟩ hs' l hl
   have hv:=hvr i p hp
   obtain ⟨cs,hcs⟩:=hbx p (List.mem_of_getElem? hp)
   generalize hx:vs.getD i undef=x at hv
   cases hv with
   | «at» _ _ _ hn h1 h2 =>
     obtain ⟨k,hk,h0,hv⟩:=h2 _ cs hcs
     exact ⟨hn,h1,k,hk,h0,hv⟩
theorem qB {B0:Base} {fn gfn:Func} {g:Nat} {gc:Code} {ns:List Name} {u:List Nat} {Q:AV→List (Name × Ob)→Prop} {s:St} {e:Exit} (he:e=.ret∨e=.normal) (hu:B0.U0=u)
  (hgf:P.funcs[g]?=some gfn) (hgb:gfn.body=some gc) (hnm:(gfn.name == "runtime.NumGoroutine")=false) (hgn:ns.length≤gfn.ntmps) (hns:∀ p∈ns,nmb s.used p=true)
  (hg:run P ⟨gfn.ntmps,none,cf.G,s.used⟩ [.code gc] (fun e s2=>(e=.ret∨e=.normal)∧LK s s2∧RX (bF P s2 gfn.results.toList) (fun _=>True)∧fq P fn.results.toList u Q .ret (s2.fra s.fr)) (s.fra (mk (aB 0 (ns.map fun p=>AV.at p 0)) [] []).fr)) :
  ARX cf (ΦR P fn { B0 with n:=1 } Q) (DI B0 g ns) e s:=by
 intro B hB ds β a w hds hI hs
 obtain ⟨⟨B1,hc,i1,i2,i4,i5,i6,i7,i8⟩,caps,rfl,hcs,hcap⟩:=hI
 have hB1G:B1.G=B0.G:=hc.ext.G
 have:LeavesInM Fence.wide 0 P fn a.tmps (RH { B0 with n:=1 } Q) a.defers .returning w:=by
  rw [hds]
  refine ⟨by simp,.inr ⟨fun h=>by simp [Fence.wide] at h,_,_,g,#[]++caps,rfl,?_,fun _ _=>trivial,?_⟩⟩
  ·exact dt hgf hgb hnm _ _
  have hGg:∀ q∈B.G,w.heap[q.1]?=some q.2∧¬ a8 s β q.1:=by
   intro q hq
   obtain ⟨g1,g2⟩:=B.hG q hq
   have hlt:=ao g1
   refine ⟨(hs.frame _ hlt g2).trans g1,fun hb=>?_⟩
   rcases (hs.bA hb).2.2 with h | h
   ·omega
   ·exact g2 h
  let Bg:Base:={ n:=gfn.ntmps,io:=B.io,G:=B.G,H0:=w.heap,O0:=a8 s β,A:=B.A,U0:=s.used,β0:=β,hA:=fun b hb=>Nat.lt_of_lt_of_le (B.hA b hb) hs.size,hG:=hGg }
  have hsg:Sim Bg β (s.fra (mk (aB 0 (ns.map fun p=>AV.at p 0)) [] []).fr) ((#[]++caps)++Array.replicate (gfn.ntmps-(#[]++caps).size) undef) w:=by
   refine { tms:=by show (_:Array Value).size=gfn.ntmps;simp;omega,io:=hs.io,size:=Nat.le_refl _,frame:=fun _ _ _=>rfl,slots:=fun t=>?_,objs:=hs.objs,blocks:=fun p k hp hk=>⟨(hs.blocks p k hp hk).1,(hs.blocks p k hp hk).2.1,.inr ⟨p,k,hp,hk,rfl⟩⟩,inj:=hs.inj,us:=fun _ h=>h,stay:=fun _ _=>rfl }
   show VR w.heap (s.own B.A β) s.used s.hp β _ ((mk (aB 0 (ns.map fun p=>AV.at p 0)) [] []).fr t)
   rw [dI,bc,if_pos (Nat.zero_le _),Nat.sub_zero,List.getElem?_map]
   cases hp:ns[t]? with
   | none=>exact .un _
   | some p =>
     obtain ⟨c1,c2,k,c3,c4,c5⟩:=hcap t p hp
     have hlt:t<caps.size:=by rw [hcs];exact (List.getElem?_eq_some_iff.1 hp).1
     have e:((#[]++caps)++Array.replicate (gfn.ntmps-(#[]++caps).size) undef).getD t undef=caps.getD t undef:=by
      simp [Array.getD_eq_getD_getElem?,Array.getElem?_append,hlt]
     rw [e]
     have hnb:=hns p (List.mem_of_getElem? hp)
     exact .at _ _ _ (c1.mono hs.us) c2 fun _ cs _=>⟨k,(hs.stay p c1).trans c3,c4,c5⟩
  have hrun:=bf hg Bg ⟨rfl,rfl,hB.2.2⟩ [] β { tmps:=(#[]++caps)++Array.replicate (gfn.ntmps-(#[]++caps).size) undef,defers:=[] } w rfl hsg
  refine (callsDIn_of_wp (R:=fun e w'=>∃ v,e=.returned v∧LeavesInM Fence.wide 0 P fn a.tmps (RH { B0 with n:=1 } Q) [] .returning w') hgf hgb trivial (wpIn_mono (F:=Fence.wide) hrun fun e2 a2 w2 hq=>?_)).mono ?_
  ·obtain ⟨hd2,s2,β2,⟨he2,hlk,hres,hfq⟩,hs2⟩:=hq
   obtain ⟨_,v2,_,hr2,_⟩:=cK hs2 gfn hres
   have hown2:∀ b,a8 s2 β2 b→w.heap.size≤b∨a8 s β b:=fun b hb=>(hs2.bA hb).2.2
   have hust:∀ p,nm s.used p→β2 p=β p:=fun p hp=>hs2.stay p hp
   have hus2:∀ x∈s.used,x∈s2.used:=hs2.us
   have hsame:∀ b,b<w.heap.size→¬ a8 s β b→w2.heap[b]?=w.heap[b]?:=fun b hb hn=>hs2.frame b hb hn
   have hz2:w.heap.size≤w2.heap.size:=hs2.size
   have hr:∀ v d,Rep w.heap (s.own B.A β) v d→Rep w2.heap (s2.own B1.A β2) v d:=fun v d hd=>hd.mono (fun b hb hlt=>hsame b hlt (fun h=>hb (.inr h))) (by
    rintro b hb (h1 | h1)
    ·rw [← i6] at h1;exact .inl h1
    ·rcases hown2 b h1 with h | h
     ·omega
     ·exact .inr h)
   have hs4:Sim B1 β2 (s2.fra s.fr) a.tmps w2:=by
    refine { tms:=hs.tms.trans i1,io:=hs2.io.trans i2,size:=?_,frame:=fun b hb ho=>?_,slots:=fun t=>?_,objs:=fun p o ho=>?_,blocks:=fun p k hp hk=>?_,inj:=hs2.inj,us:=fun x hx=>hus2 x (hs.us x (i7 x hx)),stay:=fun p hp=>?_ }
    ·rw [← i4];exact Nat.le_trans hs.size hz2
    ·rw [← i4] at hb ⊢
     have ho':¬ B.O0 b:=fun h=>ho ((i5 b).1 h)
     refine (hsame b (Nat.lt_of_lt_of_le hb hs.size) (fun h=>?_)).trans (hs.frame b hb ho')
     rcases (hs.bA h).2.2 with h | h
     ·omega
     ·exact ho' h
    ·exact (hs.slots t).mono hr hus2 (fun p hp o' ho=>by obtain ⟨o,h1,h2⟩:=hlk p o' hp ho;exact ⟨o,h1,h2,hust p hp⟩)
    ·have:=hs2.objs p o ho
     rw [← i6]
     exact this
    ·obtain ⟨b1,b2,b3⟩:=hs2.blocks p k hp hk
     refine ⟨b1,by rw [← i6];exact b2,?_⟩
     rw [← i4]
     rcases b3 with b3 | b3
     ·have h3:w.heap.size≤k.b:=b3
      have:=hs.size
      exact .inl (by omega)
     ·rcases (hs.bA b3).2.2 with h | h
      ·exact .inl h
      ·exact .inr ((i5 _).1 h)
    ·have hp':nm B.U0 p:=hp.mono i7
     exact (hust p (hp'.mono hs.us)).trans ((hs.stay p hp').trans (i8 p hp))
   have hlv:LeavesInM Fence.wide 0 P fn a.tmps (RH { B0 with n:=1 } Q) [] .returning w2:=by
    refine hc.back hs4 (fun w' hs'=>?_)
    obtain ⟨l,v,⟨r,hp',u',τ,hQ,hle⟩,hr,hv⟩:=cK hs' fn hfq
    obtain ⟨β3,hs3,_⟩:=(nj hs' hv).le (τ:=τ) (by show Le B0.U0 τ _ _;rw [hu];exact hle.le)
    exact ⟨v,hr,v,r,hp',u',β3,rfl,hQ,hs3⟩
   rcases he2 with rfl | rfl
   ·exact ⟨hd2,v2,hr2,v2,rfl,hlv⟩
   ·exact ⟨hd2,v2,hr2,v2,rfl,hlv⟩
  ·rintro e u' w' ⟨rfl,v,rfl,hl⟩
   exact hl
 rcases he with rfl | rfl<;>exact this
theorem ARX.le {Φ:Exit→Act→World→Prop} {I J:Base→List Deferred→Prop} {e:Exit} {s:St} (h:ARX cf Φ I e s) (hj:∀ B ds,J B ds→I B ds):ARX cf Φ J e s:=fun B hB ds β a w h1 h2 h3=>h B hB ds β a w h1 (hj B ds h2) h3
theorem y2 {B0:Base} {fn:Func} {u:List Nat} {Q:AV→List (Name × Ob)→Prop} {s:St} {e:Exit} (he:e=.ret∨e=.normal) (hu:B0.U0=u) (h:fq P fn.results.toList u Q .ret s) :
 ARX cf (ΦR P fn { B0 with n:=1 } Q) (fun B ds=>CI B0 B ds∧ds=[]) e s:=(El he hu h).le fun _ _ h=>h.1
theorem yM {G:List (Nat × Obj)} {f:FuncId} {fn:Func} {c:Code} {args:List AV} {hp:List (Name × Ob)} {u:List Nat} {Q:AV→List (Name × Ob)→Prop} (hf:P.funcs[f]?=some fn) (hb:fn.body=some c)
  (hnm:(fn.name == "runtime.NumGoroutine")=false) (hn:args.length≤fn.ntmps)
  (h:∀ B0:Base,B0.U0=u→ARY P ⟨fn.ntmps,none,G,u⟩ (ΦR P fn { B0 with n:=1 } Q) (fun B ds=>CI B0 B ds∧ds=[]) [.code c] (mk (aB 0 args) hp u)):HCall P G f args hp u Q:=by
 refine ⟨dt hf hb hnm,fun B β vs w h1 h2 h3 h4 hs=>?_⟩
 have hsz:vs.size=args.length:=hs.tms.trans h1
 have hs':Sim { B with n:=fn.ntmps } β (mk (aB 0 args) hp u) (vs++Array.replicate (fn.ntmps-vs.size) undef) w:=by
  refine { hs with tms:=by simp;omega,slots:=fun t=>?_ }
  have:=hs.slots t
  by_cases ht:t<vs.size
  ·have e:(vs++Array.replicate (fn.ntmps-vs.size) undef).getD t undef=vs.getD t undef:=by
    simp [Array.getD_eq_getD_getElem?,Array.getElem?_append,ht]
   rw [e];exact this
  ·have e:(mk (aB 0 args) hp u).fr t=.un:=by
    rw [dI,bc,if_pos (Nat.zero_le _),List.getElem?_eq_none (by omega)];rfl
   rw [e];exact .un _
 have hrun:=h { B with n:=fn.ntmps } h3 { B with n:=fn.ntmps } ⟨rfl,h3,h4⟩ [] β { tmps:=vs++Array.replicate (fn.ntmps-vs.size) undef,defers:=[] } w rfl ⟨⟨.refl _,[],rfl,List.nodup_nil,fun D hD=>by cases hD⟩,rfl⟩ hs'
 exact callsIn_of_wp_marks hf hb trivial hrun
end
end Go.Ab

namespace Go.Ab
structure Trk (W0:World) (C0 X0 C X:Nat→Prop) (W:World):Prop where
 io:wio W=wio W0
 size:W0.heap.size≤W.heap.size
 same:∀ b,b<W0.heap.size→¬ C0 b→¬ X0 b→W.heap[b]?=W0.heap[b]?
 c:∀ b,b<W0.heap.size→C b→C0 b
 x:∀ b,b<W0.heap.size→X b→X0 b
theorem Trk.stp {W0 W W':World} {C0 X0 C X X':Nat→Prop} (h:Trk W0 C0 X0 C X W) (g:Stp W X W' X'):Trk W0 C0 X0 C X' W' :=
 ⟨g.io.trans h.io,Nat.le_trans h.size g.size,fun b hb h1 h2=>(g.same b (Nat.lt_of_lt_of_le hb h.size) (fun hx=>h2 (h.x b hb hx))).trans (h.same b hb h1 h2),h.c,fun b hb hx=>by
  rcases (g.new b hx).1 with h1 | h1
  ·exact h.x b hb h1
  ·have:=h.size;omega⟩
def Itz.trk (z:Itz) (W0:World) (C0 X0:Nat→Prop):Itz :=
 { l:=z.l,w:=z.w,C0:=z.C0,J:=fun n C X W=>z.J n C X W∧Trk W0 C0 X0 C X W,Jx:=fun n C X W=>z.Jx n C X W∧Trk W0 C0 X0 C X W }
theorem Itz.Ok.trk {P:Program} {G:List (Nat × Obj)} {N:Nat} {xs:Nat→List D} {z:Itz} (h:z.Ok P G N xs) (W0:World) (C0 X0:Nat→Prop):(z.trk W0 C0 X0).Ok P G N xs:=by
 refine ⟨h.lt,fun n C X W X' W' hj hs=>⟨h.stab n C X W X' W' hj.1 hs,hj.2.stp hs⟩,fun n C X W X' W' hj hs=>⟨h.stabx n C X W X' W' hj.1 hs,hj.2.stp hs⟩,fun n C X W vs hn hj hv hr=>?_⟩
 refine (h.round n C X W vs hn hj.1 hv hr).mono ?_
 rintro e W' ⟨C',hc,hq⟩
 have ht:Trk W0 C0 X0 C' X W':=by
  obtain ⟨c1,c2,c3,c4,c5⟩:=hc
  refine ⟨c1.trans hj.2.io,Nat.le_trans hj.2.size c2,fun b hb h1 h2=>(c3 b (Nat.lt_of_lt_of_le hb hj.2.size) (fun hx=>h1 (hj.2.c b hb hx))).trans (hj.2.same b hb h1 h2),fun b hb hx=>?_,hj.2.x⟩
  rcases (c5 b hx).1 with g | g
  ·exact hj.2.c b hb g
  ·have:=hj.2.size;omega
 refine ⟨C',hc,?_⟩
 rcases hq with ⟨h1,h2⟩ | ⟨h1,h2⟩
 ·exact .inl ⟨h1,h2,ht⟩
 ·exact .inr ⟨h1,h2,ht⟩
def YI (z:Itz) (n:Nat) (b0:Name→Option Blk) (B:Base) (ds:List Deferred):Prop:=II z n B ds∧B.β0=b0
def YX (z:Itz) (b0:Name→Option Blk) (B:Base) (ds:List Deferred):Prop:=IX z B ds∧B.β0=b0
def YCall (P:Program) (G:List (Nat × Obj)) (N:Nat) (xs:Nat→List D) (g:FuncId) (args:Nat→List AV) (hp:Nat→List (Name × Ob)) (u:List Nat) (n n':Nat):Prop :=
 (∀ vs w,(callFunc g vs).run P w=.ok (.enter g vs) w) ∧
 ∀ z:Itz,z.Ok P G N xs→∀ (B:Base) (β:Name→Option Blk) (vs:Array Value) (W:World),B.n=(args z.l).length→B.U0=u→B.G=G→II z n B []→Sim B β (mk (aB 0 (args z.l)) (hp z.l) u) vs W →
  CallsIn Fence.wide 0 P g vs W fun e W'=>∃ b B' β',e=.returned (.bool b)∧((b=true∧II z n' B' [])∨(b=false∧IX z B' []))∧B'.β0=B.β0∧B'.U0=u∧B'.G=G∧Sim B' β' (mk [(0,.d (.bool b))] (hp z.l) u) #[.bool b] W'
def ΦY (P:Program) (G:List (Nat × Obj)) (fn:Func) (z:Itz) (n':Nat) (hp:List (Name × Ob)) (u:List Nat) (b0:Name→Option Blk) (e:Exit) (a:Act) (w:World):Prop :=
 (e=.normal∨e=.ret)∧a.defers=[]∧∃ b,(results fn a.tmps).run P w=.ok (.bool b) w∧∃ B' β',((b=true∧II z n' B' [])∨(b=false∧IX z B' []))∧B'.β0=b0∧B'.U0=u∧B'.G=G∧Sim B' β' (mk [(0,.d (.bool b))] hp u) #[.bool b] w
section
variable {P:Program} {cf:Cf} {G:List (Nat × Obj)} {N:Nat} {xs:Nat→List D} {z:Itz} {k:List It} {s:St}
theorem F8 {H:Array Obj} {own:Nat→Prop} {used:List Nat} {hp:Name→Option Ob} {β:Name→Option Blk} {v:Value} {b:Bool} (h:VR H own used hp β v (.d (.bool b))):v=.bool b:=by
 cases h with
 | d _ _ h=>cases h;rfl
theorem D3 {I:Base→List Deferred→Prop} {fn:Func} {n':Nat} {hp:List (Name × Ob)} {u:List Nat} {b0:Name→Option Blk} {e:Exit} (b:Bool) (he:e=.normal∨e=.ret) (hu:cf.U=u)
  (hI:∀ B ds,I B ds→B.β0=b0∧ds=[]∧((b=true∧II z n' B [])∨(b=false∧IX z B [])))
  (h:RX (bF P s fn.results.toList) fun l=>cB l=.d (.bool b)∧∃ τ,LeL u τ (kT s (.d (.bool b))) [(0,.d (.bool b))] hp u):ARX cf (ΦY P cf.G fn z n' hp u b0) I e s:=by
 intro B hB ds β a w hds hi hs
 obtain ⟨h1,rfl,h2⟩:=hI B ds hi
 obtain ⟨l,v,⟨hl,τ,hle⟩,hr,hv⟩:=cK hs fn h
 rw [hl] at hv
 obtain rfl:=F8 hv
 have hUB:B.U0=u:=by rw [hB.2.1,hu]
 obtain ⟨β2,hs2,_⟩:=(nj hs hv).le (τ:=τ) (by show Le B.U0 τ _ _;rw [hUB];exact hle.le)
 have hIJ:∀ J,IJ z J B []→IJ z J { B with n:=1 } []:=fun J hj=>hj
 refine ⟨he,hds,b,hr,{ B with n:=1 },β2,?_,h1,hUB,hB.2.2,hs2⟩
 rcases h2 with ⟨g1,g2⟩ | ⟨g1,g2⟩
 ·exact .inl ⟨g1,hIJ _ g2⟩
 ·exact .inr ⟨g1,hIJ _ g2⟩
theorem EJ {fn:Func} {n':Nat} {hp:List (Name × Ob)} {u:List Nat} {b0:Name→Option Blk} {e:Exit} (he:e=.normal∨e=.ret) (hu:cf.U=u)
  (h:RX (bF P s fn.results.toList) fun l=>cB l=.d (.bool true)∧∃ τ,LeL u τ (kT s (.d (.bool true))) [(0,.d (.bool true))] hp u):ARX cf (ΦY P cf.G fn z n' hp u b0) (YI z n' b0) e s :=
 D3 true he hu (fun B ds hi=>by
  have h0:ds=[]:=hi.1.1
  subst h0
  exact ⟨hi.2,rfl,.inl ⟨rfl,hi.1⟩⟩) h
theorem xK {fn:Func} {n':Nat} {hp:List (Name × Ob)} {u:List Nat} {b0:Name→Option Blk} {e:Exit} (he:e=.normal∨e=.ret) (hu:cf.U=u)
  (h:RX (bF P s fn.results.toList) fun l=>cB l=.d (.bool false)∧∃ τ,LeL u τ (kT s (.d (.bool false))) [(0,.d (.bool false))] hp u):ARX cf (ΦY P cf.G fn z n' hp u b0) (YX z b0) e s :=
 D3 false he hu (fun B ds hi=>by
  have h0:ds=[]:=hi.1.1
  subst h0
  exact ⟨hi.2,rfl,.inr ⟨rfl,hi.1⟩⟩) h
theorem Gk {f:FuncId} {fn:Func} {c:Code} {args:Nat→List AV} {hp:Nat→List (Name × Ob)} {u:List Nat} {n n':Nat} (hf:P.funcs[f]?=some fn) (hb:fn.body=some c) (hnm:(fn.name == "runtime.NumGoroutine")=false) (hn:∀ l,(args l).length≤fn.ntmps)
  (h:∀ z:Itz,z.Ok P G N xs→∀ b0,ARY P ⟨fn.ntmps,none,G,u⟩ (ΦY P G fn z n' (hp z.l) u b0) (YI z n b0) [.code c] (mk (aB 0 (args z.l)) (hp z.l) u)):YCall P G N xs f args hp u n n':=by
 refine ⟨dt hf hb hnm,fun z hz B β vs W h1 h3 h4 hI hs=>?_⟩
 have hsz:vs.size=(args z.l).length:=hs.tms.trans h1
 have hn:=hn z.l
 have hs':Sim { B with n:=fn.ntmps } β (mk (aB 0 (args z.l)) (hp z.l) u) (vs++Array.replicate (fn.ntmps-vs.size) undef) W:=by
  refine { hs with tms:=by simp;omega,slots:=fun t=>?_ }
  have:=hs.slots t
  by_cases ht:t<vs.size
  ·have e:(vs++Array.replicate (fn.ntmps-vs.size) undef).getD t undef=vs.getD t undef:=by
    simp [Array.getD_eq_getD_getElem?,Array.getElem?_append,ht]
   rw [e];exact this
  ·have e:(mk (aB 0 (args z.l)) (hp z.l) u).fr t=.un:=by
    rw [dI,bc,if_pos (Nat.zero_le _),List.getElem?_eq_none (by omega)];rfl
   rw [e];exact .un _
 have hI':II z n { B with n:=fn.ntmps } []:=hI
 have hrun:=h z hz B.β0 { B with n:=fn.ntmps } ⟨rfl,h3,h4⟩ [] β { tmps:=vs++Array.replicate (fn.ntmps-vs.size) undef,defers:=[] } W rfl ⟨hI',rfl⟩ hs'
 refine callsIn_of_wp hf hb trivial (wpIn_mono (F:=Fence.wide) hrun fun e a' w' hq=>?_)
 obtain ⟨he,hd,b,hr,B',β',hq⟩:=hq
 rcases he with rfl | rfl
 ·exact ⟨hd,_,hr,b,B',β',rfl,hq⟩
 ·exact ⟨hd,_,hr,b,B',β',rfl,hq⟩
theorem xJ (hz:z.Ok P cf.G N xs) {Φ:Exit→Act→World→Prop} {n n':Nat} {b0:Name→Option Blk} {dst:Option Nat} {all:Array Oper} {fv:Operand} {oargs:Array Operand} {at':Array TypeId} {ty:TypeId} {pos:String} {af:Array Edge} {r:List Oper}
  {f:FuncId} {caps:List AV} {args:Nat→List AV} {hp:Nat→List (Name × Ob)} {u u':List Nat} {fr:List (Nat × AV)} (_hro:cf.ro=none)
  (hc:YCall P cf.G N xs f args hp u n n') (hs0:s=mk fr (hp z.l) u') (hdst:∀ t∈dst,t<cf.n) (hev:ev s fv=.clo f caps) (hargs:oargs.toList.map (ev s)++caps=args z.l)
  (hle:LeL u id (mk (aB 0 (args z.l)) (hp z.l) u') (aB 0 (args z.l)) (hp z.l) u) (hhp:∀ q∈hp z.l,nmb u q.1=true) (huu:∀ x∈u,x∈u')
  (h1:ARY P cf Φ (YI z n' b0) (.ops all r::k) (s.putd dst (.d (.bool true)))) (h2:ARY P cf Φ (YX z b0) (.ops all r::k) (s.putd dst (.d (.bool false)))) :
  ARY P cf Φ (YI z n b0) (.ops all ({ dst:=dst,op:=.call { callee:=.value fv,args:=oargs,argTypes:=at' },type:=ty,pos:=pos,after:=af,guard:=none }::r)::k) s:=by
 intro B hB ds β a w hds hI hs l hl
 obtain ⟨hI,hb0⟩:=hI
 cases l with
 | nil=>simp at hl
 | cons i l =>
   simp only [List.map_cons,List.cons.injEq] at hl
   obtain ⟨hi,hl⟩:=hl
   simp only [wpOpsIn,hi,Region.wanted,if_true]
   refine ⟨fun _ _=>trivial,?_⟩
   have hf:=hs.ev fv
   rw [hev] at hf
   generalize hfv:a.eval fv=fval at hf
   cases hf with
   | clo _ cvs _ hcs hcv =>
   subst hs0
   have hrun:(execOp a.eval { dst:=dst,op:=.call { callee:=.value fv,args:=oargs,argTypes:=at' },type:=ty,pos:=pos,after:=af,guard:=none }).run P w=.ok (.enter f ((oargs.toList.map a.eval).toArray++cvs)) w:=by
    have e:(execOp a.eval { dst:=dst,op:=.call { callee:=.value fv,args:=oargs,argTypes:=at' },type:=ty,pos:=pos,after:=af,guard:=none }:Sem Next)=callFunc f (#[]++oargs.map a.eval++cvs):=by
     show (do let d ← (Deferred.ofValue (a.eval fv) (oargs.map a.eval));invoke d.target d.args:Sem Next)=_
     rw [hfv];rfl
    rw [e,← hc.1 ((oargs.toList.map a.eval).toArray++cvs) w]
    congr 2
    apply Array.ext'
    simp
   rw [Oper.semAt_eq _ _ _ (by simp),hrun,Oper.uponIn_enter]
   refine ⟨fun hdep=>by simp [dZ] at hdep,?_⟩
   obtain ⟨C,X,W0,hW0,hJ,hst,hA,hX,hzw⟩:=IJ.stp hI hs
   have hJ':=hz.stab _ _ _ _ _ _ hJ hst
   generalize hsd:mk fr (hp z.l) u'=s at hs hcv hev hargs hst hX hJ' h1 h2
   have hhs:∀ p,s.hp p=(mk (aB 0 (args z.l)) (hp z.l) u').hp p:=fun p=>by rw [← hsd];rfl
   have hus:s.used=u':=by rw [← hsd];rfl
   have hlen:(args z.l).length=oargs.size+caps.length:=by
    have:=congrArg List.length hargs
    simpa using this.symm
   have hv:∀ (i:Nat) x,(args z.l)[i]?=some x→VR w.heap (s.own B.A β) s.used s.hp β (((oargs.toList.map a.eval).toArray++cvs).getD i undef) x:=by
    intro i x hx
    rw [← hargs] at hx
    by_cases hlt:i<oargs.size
    ·have hx':(oargs.toList.map (ev s))[i]?=some x:=by rw [← hx,List.getElem?_append_left (by simpa using hlt)]
     have:=dk hs oargs.toList i _ hx'
     rw [show ((oargs.toList.map a.eval).toArray++cvs).getD i undef=(oargs.toList.map a.eval).toArray.getD i undef by simp [Array.getD_eq_getD_getElem?,Array.getElem?_append,hlt]]
     exact this
    ·have hx':caps[i-oargs.size]?=some x:=by rw [← hx,List.getElem?_append_right (by simpa using Nat.le_of_not_lt hlt)];simp
     have:=hcv _ _ hx'
     rw [show ((oargs.toList.map a.eval).toArray++cvs).getD i undef=cvs.getD (i-oargs.size) undef by simp [Array.getD_eq_getD_getElem?,Array.getElem?_append,hlt]]
     exact this
   have hGc:∀ q∈B.G,w.heap[q.1]?=some q.2∧¬ a8 s β q.1:=by
    intro q hq
    obtain ⟨g1,g2⟩:=B.hG q hq
    have hlt:=ao g1
    refine ⟨(hs.frame _ hlt g2).trans g1,fun hb=>?_⟩
    rcases (hs.bA hb).2.2 with h | h
    ·omega
    ·exact g2 h
   let Bc:Base:={ n:=(args z.l).length,io:=B.io,G:=B.G,H0:=w.heap,O0:=a8 s β,A:=B.A,U0:=u,β0:=β,hA:=fun b hb=>Nat.lt_of_lt_of_le (B.hA b hb) hs.size,hG:=hGc }
   have hIc:II (z.trk w C (a8 s β)) n Bc []:=⟨rfl,C,a8 s β,w,rfl,hs.io,⟨hJ',rfl,Nat.le_refl _,fun _ _ _ _=>rfl,fun _ _ h=>h,fun _ _ h=>h⟩,hA,fun _=>Iff.rfl,hX,hzw⟩
   have hsc0:Sim Bc β (s.fra (mk (aB 0 (args z.l)) [] []).fr) ((oargs.toList.map a.eval).toArray++cvs) w:=by
    refine { tms:=by show (_:Array Value).size=(args z.l).length;simp [hcs,hlen],io:=hs.io,size:=Nat.le_refl _,frame:=fun _ _ _=>rfl,slots:=fun t=>?_,objs:=hs.objs,blocks:=fun p k hp hk=>⟨(hs.blocks p k hp hk).1,(hs.blocks p k hp hk).2.1,.inr ⟨p,k,hp,hk,rfl⟩⟩,inj:=hs.inj,us:=fun x hx=>by show x∈s.used;rw [hus];exact huu x hx,stay:=fun _ _=>rfl }
    show VR w.heap (s.own B.A β) s.used s.hp β _ ((mk (aB 0 (args z.l)) [] []).fr t)
    rw [dI,bc,if_pos (Nat.zero_le _),Nat.sub_zero]
    cases ht:(args z.l)[t]? with
    | none=>exact .un _
    | some x=>exact hv t x ht
   have hfe:s.fra (mk (aB 0 (args z.l)) [] []).fr=mk (aB 0 (args z.l)) (hp z.l) u':=by rw [← hsd];rfl
   rw [hfe] at hsc0
   obtain ⟨β1,hsc,_⟩:=hsc0.le (τ:=id) hle.le
   have hcall:=hc.2 (z.trk w C (a8 s β)) (hz.trk w C (a8 s β)) Bc β1 _ w rfl rfl hB.2.2 hIc hsc
   have hcall':CallsIn (Fw cf.ro) (0-1) P f ((oargs.toList.map a.eval).toArray++cvs) w _:=hcall
   refine hcall'.mono ?_
   rintro e W' ⟨b,B',β',rfl,hb,hβ0,hU,hG',hs2⟩
   have hs2:Sim B' β' (mk [(0,AV.d (.bool b))] (hp z.l) u) #[.bool b] W':=hs2
   have hhp2:∀ p,(mk [(0,AV.d (.bool b))] (hp z.l) u).hp p=s.hp p:=fun p=>by rw [hhs];rfl
   have hnm:∀ p,s.hp p≠none→nm u p:=fun p hp0=>by
    rw [hhs] at hp0
    cases ho:(mk (aB 0 (args z.l)) (hp z.l) u').hp p with
    | none=>exact absurd ho hp0
    | some o=>exact fK (hhp _ (eO ho))
   have hββ:∀ p,nm u p→β' p=β p:=fun p hpn=>(hs2.stay p (by rw [hU];exact hpn)).trans (congrFun hβ0 p)
   have hob:∀ b',a8 (mk [(0,AV.d (.bool b))] (hp z.l) u) β' b'↔a8 s β b':=fun b'=>by
    constructor
    ·rintro ⟨p,k,h1,h2,h3⟩
     rw [hhp2] at h1
     exact ⟨p,k,h1,by rw [← hββ p (hnm p h1)];exact h2,h3⟩
    ·rintro ⟨p,k,h1,h2,h3⟩
     exact ⟨p,k,by rw [hhp2];exact h1,by rw [hββ p (hnm p h1)];exact h2,h3⟩
   have key:∀ (J J':(Nat→Prop)→(Nat→Prop)→World→Prop),IJ (z.trk w C (a8 s β)) J B' []→(∀ C' X' W',J C' X' W'→J' C' X' W'∧Trk w C (a8 s β) C' X' W')→(∀ C X W X' W',J' C X W→Stp W X W' X'→J' C X' W') →
     ∃ Bn,cf.fits Bn∧Bn.β0=b0∧IJ z J' Bn ds∧Sim Bn β (s.putd dst (.d (.bool b))) (a.put dst (.bool b)).tmps W':=by
    intro J J' hij hJJ hstab
    obtain ⟨C',X',W0',e1,j1,st1,a1,x1,z1⟩:=IJ.stp hij hs2
    obtain ⟨j2,tr0⟩:=hJJ _ _ _ j1
    have tr:=tr0.stp st1
    have j3:=hstab _ _ _ _ _ j2 st1
    have hCC:∀ b,b<w.heap.size→B'.A b→B.A b:=fun b hb h=>(hA b).2 (tr.c b hb ((a1 b).1 h))
    have hsame:∀ b,b<w.heap.size→¬ B.A b→¬ a8 s β b→W'.heap[b]?=w.heap[b]?:=fun b hb h1 h2=>tr.same b hb (fun h=>h1 ((hA b).2 h)) h2
    have hr:∀ v d,Rep w.heap (s.own B.A β) v d→Rep W'.heap (s.own B'.A β) v d:=fun v d hd=>hd.mono (fun b hb hlt=>hsame b hlt (fun h=>hb (.inl h)) (fun h=>hb (.inr h))) (by
     rintro b hb (h1 | h1)
     ·exact .inl (hCC b hb h1)
     ·exact .inr h1)
    have hGn:∀ q∈B.G,W'.heap[q.1]?=some q.2∧¬ a8 s β q.1:=by
     intro q hq
     have g0:=hGc q hq
     have gq:=B'.hG q (by rw [hG',← hB.2.2];exact hq)
     refine ⟨?_,g0.2⟩
     refine (hs2.frame _ (ao gq.1) gq.2).trans gq.1
    let Bn:Base:={ n:=B.n,io:=B.io,G:=B.G,H0:=W'.heap,O0:=a8 s β,A:=B'.A,U0:=B.U0,β0:=B.β0,hA:=fun b hb=>Nat.lt_of_lt_of_le (B'.hA b hb) hs2.size,hG:=hGn }
    have hio:wio W'=B.io:=tr.io.trans hs.io
    refine ⟨Bn,⟨hB.1,hB.2.1,hB.2.2⟩,hb0,⟨hI.1,C',a8 s β,W',rfl,hio,?_,a1,fun _=>Iff.rfl,hX,Nat.le_trans hzw tr.size⟩,?_⟩
    ·have:a8 (mk [(0,AV.d (.bool b))] (hp z.l) u) β'=a8 s β:=by funext b';exact propext (hob b')
     rw [← this];exact j3
    ·have hs3:Sim Bn β s a.tmps W':=by
      refine { tms:=hs.tms,io:=hio,size:=Nat.le_refl _,frame:=fun _ _ _=>rfl,slots:=fun t=>(hs.slots t).mono hr (fun _ h=>h) (fun p _ o' ho=>⟨o',ho,Ob.bG _,rfl⟩),objs:=fun p o ho=>?_,blocks:=fun p k hp0 hk=>?_,inj:=fun p q k l' hp0 hq0 hk hl' e=>hs.inj p q k l' hp0 hq0 hk hl' e,us:=hs.us,stay:=hs.stay }
      ·have hp0:s.hp p≠none:=by rw [ho];simp
       refine ⟨(hs.objs p o ho).1,?_⟩
       have:=(hs2.objs p o (by rw [hhp2];exact ho)).2
       refine this.mono (fun v d hd=>hd.mono (fun _ _ _=>rfl) (by
        rintro b' _ (h1 | h1)
        ·exact .inl h1
        ·exact .inr ((hob b').2 h1))) (fun x hx=>by rw [hus];exact huu x hx) (fun p' hp' o' ho'=>⟨o',by rw [hhp2];exact ho',Ob.bG _,(hββ p' hp').symm⟩) (hββ p (hnm p hp0)).symm (fun _ _=>rfl)
      ·obtain ⟨b1,b2,_⟩:=hs2.blocks p k (by rw [hhp2];exact hp0) (by rw [hββ p (hnm p hp0)];exact hk)
       exact ⟨b1,b2,.inr ⟨p,k,hp0,hk,rfl⟩⟩
     cases dst with
     | none=>exact hs3
     | some t=>exact hs3.put (by show t<B.n;rw [hB.1];exact hdst t rfl) (.d _ _ (.bool _))
   have hds':(a.put dst (.bool b)).defers=ds:=by cases dst<;>exact hds
   rcases hb with ⟨rfl,hb⟩ | ⟨rfl,hb⟩
   ·obtain ⟨Bn,f1,f2,f3,f4⟩:=key _ (z.J n') hb (fun _ _ _ h=>h) (fun C X W X' W'=>hz.stab n' C X W X' W')
    exact h1 Bn f1 ds β _ W' hds' ⟨f3,f2⟩ f4 l hl
   ·obtain ⟨Bn,f1,f2,f3,f4⟩:=key _ (fun C X W=>∃ n,z.Jx n C X W) hb (fun _ _ _ ⟨n,h⟩=>⟨⟨n,h.1⟩,h.2⟩) (fun C X W X' W' ⟨n,h⟩ hst=>⟨n,hz.stabx n C X W X' W' h hst⟩)
    exact h2 Bn f1 ds β _ W' hds' ⟨f3,f2⟩ f4 l hl
theorem C7 (hz:z.Ok P cf.G N xs) {Φ:Exit→Act→World→Prop} {n t:Nat} {b0:Name→Option Blk} {all:Array Oper} {fv:Operand} {args:Array Operand} {at':Array TypeId} {ty:TypeId} {pos:String} {af:Array Edge} {r:List Oper}
  (hn:n<N) (ht:t<cf.n) (hev:ev s fv=.d (.yl z.l)) (hargs:args.toList.map (ev s)=(xs n).map .d)
  (h1:ARY P cf Φ (YI z (n+1) b0) (.ops all r::k) (s.put t (.d (.bool true)))) (h2:ARY P cf Φ (YX z b0) (.ops all r::k) (s.put t (.d (.bool false)))) :
  ARY P cf Φ (YI z n b0) (.ops all ({ dst:=some t,op:=.call { callee:=.value fv,args:=args,argTypes:=at' },type:=ty,pos:=pos,after:=af,guard:=none }::r)::k) s:=by
 intro B hB ds β a w hds hI hs l hl
 obtain ⟨hI,hb0⟩:=hI
 cases l with
 | nil=>simp at hl
 | cons i l =>
   simp only [List.map_cons,List.cons.injEq] at hl
   obtain ⟨hi,hl⟩:=hl
   simp only [wpOpsIn,hi,Region.wanted,if_true]
   obtain ⟨C,X,W0,hW0,hJ,hst,hA,hX,hzw⟩:=IJ.stp hI hs
   have hJ':=hz.stab _ _ _ _ _ _ hJ hst
   have hf:=hs.ev fv
   rw [hev] at hf
   have hfv:a.eval fv=.func (.yield z.l) #[] #[]:=by
    have:=hf.toD
    generalize a.eval fv=v at this
    cases this;rfl
   have hlen:args.size=(xs n).length:=by simpa using congrArg List.length hargs
   have hrd:=hz.round n C (a8 s β) w (args.map a.eval) hn hJ' (by simpa using hlen) (fun j d hj=>by
    have hx:(args.toList.map (ev s))[j]?=some (.d d):=by rw [hargs,List.getElem?_map,hj];rfl
    have:=(dk hs args.toList j _ hx).toD
    rw [show (args.map a.eval).getD j undef=(args.toList.map a.eval).toArray.getD j undef by simp [Array.getD_eq_getD_getElem?]]
    refine this.mono (fun _ _ _=>rfl) (fun b _ hb=>?_)
    rcases hb with hb | hb
    ·exact .inl ((hA b).2 hb)
    ·exact .inr hb)
   obtain ⟨fn,tmps,assign,body,hy,hrd⟩:=hrd
   refine ⟨fun _ _=>trivial,?_⟩
   have hrun:(execOp a.eval { dst:=some t,op:=.call { callee:=.value fv,args:=args,argTypes:=at' },type:=ty,pos:=pos,after:=af,guard:=none }:Sem Next).run P w=.ok (.round z.l fn tmps assign body) w:=by
    have e:(execOp a.eval { dst:=some t,op:=.call { callee:=.value fv,args:=args,argTypes:=at' },type:=ty,pos:=pos,after:=af,guard:=none }:Sem Next)=Instr.yield z.l (#[]++args.map a.eval++#[]):=by
     show (do let d ← (Deferred.ofValue (a.eval fv) (args.map a.eval));invoke d.target d.args:Sem Next)=_
     rw [hfv];rfl
    rw [e]
    simpa using hy
   rw [Oper.semAt_eq _ _ _ (by simp),hrun,Oper.uponIn_round]
   refine ⟨fun hdep=>by simp [dZ] at hdep,?_⟩
   have hrd':RoundIn (Fw cf.ro) (0-1) P z.l fn tmps assign body w _:=hrd
   refine hrd'.mono ?_
   rintro e W' ⟨C',⟨c1,c2,c3,c4,c5⟩,hq⟩
   have hG':∀ q∈B.G,W'.heap[q.1]?=some q.2∧¬ a8 s β q.1:=fun q hq=>by
    obtain ⟨g1,g2⟩:=B.hG q hq
    have hlt:=ao g1
    refine ⟨(c4 q (by rw [← hB.2.2];exact hq)).trans ((hs.frame _ hlt g2).trans g1),fun hb=>?_⟩
    rcases (hs.bA hb).2.2 with g3 | g3
    ·omega
    ·exact g2 g3
   let B':Base:={ n:=B.n,io:=B.io,G:=B.G,H0:=W'.heap,O0:=a8 s β,A:=C',U0:=B.U0,β0:=B.β0,hA:=fun b hb=>(c5 b hb).2,hG:=hG' }
   have hs':Sim B' β s a.tmps W':=by
    refine hs.mv rfl (c1.trans hs.io) (Nat.le_refl _) (fun _ _ _=>rfl) c2 (fun b hb hn=>c3 b hb (fun hc=>hn ((hA b).2 hc))) (fun b hb hc=>?_) (fun p k hp hk=>.inr ⟨p,k,hp,hk,rfl⟩) hs.us hs.stay
    rcases (c5 b hc).1 with h | h
    ·exact (hA b).2 h
    ·omega
   have hIJ:∀ J:(Nat→Prop)→(Nat→Prop)→World→Prop,J C' (a8 s β) W'→IJ z J B' ds:=fun J hj=>⟨hI.1,C',_,W',rfl,c1.trans hs.io,hj,fun _=>Iff.rfl,fun _=>Iff.rfl,hX,Nat.le_trans hzw c2⟩
   rcases hq with ⟨rfl,hj⟩ | ⟨rfl,hj⟩
   ·exact h1 B' ⟨hB.1,hB.2.1,hB.2.2⟩ ds β (a.put (some t) (.bool true)) W' hds ⟨hIJ _ hj,hb0⟩ (hs'.put (by show t<B.n;rw [hB.1];exact ht) (.d _ _ (.bool _))) l hl
   ·exact h2 B' ⟨hB.1,hB.2.1,hB.2.2⟩ ds β (a.put (some t) (.bool false)) W' hds ⟨hIJ _ ⟨_,hj⟩,hb0⟩ (hs'.put (by show t<B.n;rw [hB.1];exact ht) (.d _ _ (.bool _))) l hl
end
end Go.Ab

namespace Go.Proofs.YtejpnabbmgpmaaaGreat
open Go.Ab
theorem CS {G} (l:List Int) (hl:l.length≤1000000):HCall Tryz.prog G 155 [.d (.sl none (l.map i64))] [] [] (fun r hp'=>r=.vw [0] 0 l.length∧hp'=[([0],.arr none (l.map i64))]):=by
 refine HCall.thaw (Q:=fun r hp'=>(r=.d .nils∧hp'=[]∧l=[])∨(r=.vw [0] 0 l.length∧hp'=[([0],.arr none (l.map i64))])) ?_ 0 none (by simp) ?_
 ·refine aq Tryz.func155 rfl (by decide +kernel) (by simp [Tryz.ntmps155]) (veil fun E=>?_)
  simp only [go_sem]
  refine rD E (e:=3) (by simp only [go_sem]) (by simp only [go_sem]) rfl fun b hb=>?_
  simp only [go_sem]
  refine aR E (fun h=>?_) (fun h=>?_)<;>simp only [go_sem]
  ·have:l=[]:=by simpa using hb h
   subst this
   refine ⟨_,[],[],id,.inl ⟨rfl,rfl,rfl⟩,?_⟩
   simp only [go_sem]
  ·refine ⟨by omega,_,_,[0],tau [([0],[7])],.inr ⟨rfl,rfl⟩,?_⟩
   simp only [go_sem]
 ·rintro r hp' (⟨rfl,rfl,rfl⟩ | h)
  ·exact .inr ⟨rfl,rfl,rfl,rfl⟩
  ·exact .inl h
theorem Ej {G} (l:List EF) (hl:l.length≤1000000):HCall Tryz.prog G 156 [.d (efD l)] [] [] (fun r hp'=>r=.vw [0] 0 l.length∧hp'=[([0],.arr (some 3) (l.map fD))]):=by
 refine HCall.thaw (Q:=fun r hp'=>(r=.d .nils∧hp'=[]∧l=[])∨(r=.vw [0] 0 l.length∧hp'=[([0],.arr (some 3) (l.map fD))])) ?_ 0 (some 3) (by simp) ?_
 ·unfold efD
  refine aq Tryz.func156 rfl (by decide +kernel) (by simp [Tryz.ntmps156]) (veil fun E=>?_)
  simp only [go_sem]
  refine rD E (e:=177) (by simp only [go_sem]) (by simp only [go_sem]) rfl fun b hb=>?_
  simp only [go_sem]
  refine aR E (fun h=>?_) (fun h=>?_)<;>simp only [go_sem]
  ·have:l=[]:=by simpa using hb h
   subst this
   refine ⟨_,[],[],id,.inl ⟨rfl,rfl,rfl⟩,?_⟩
   simp only [go_sem]
  ·refine ⟨by omega,_,_,[0],tau [([0],[7])],.inr ⟨rfl,rfl⟩,?_⟩
   simp only [go_sem]
 ·rintro r hp' (⟨rfl,rfl,rfl⟩ | h)
  ·exact .inr ⟨rfl,rfl,rfl,rfl⟩
  ·exact .inl h
theorem eg {G} (n:EN) (hl:n.l.length≤1000000):HCall Tryz.prog G 104 [.d (enD n)] [] [] (fun r hp'=>r=.vw [0] 0 (ag n).length∧hp'=[([0],.arr none ((ag n).map i64))]):=by
 unfold enD efD
 refine aq Tryz.func104 rfl (by decide +kernel) (by simp [Tryz.ntmps104]) (veil fun E=>?_)
 simp only [go_sem]
 refine ab E (nq n.k) rfl rfl (by simp) ?_
 rintro _ rfl
 simp only [go_sem]
 have hk3:=bn n.k
 refine ⟨⟨by omega,by omega⟩,?_⟩
 refine cV E [16] none _ rfl (by simp only [go_sem];rfl) ?_
 simp only [go_sem]
 obtain ⟨K,hK⟩:∃ K,K=[n.a,n.b,n.c].take (aI n.k):=⟨_,rfl⟩
 have hKl:K.length=aI n.k:=by rw [hK];simp;omega
 have hKd:List.take (aI n.k) [i64 n.a,i64 n.b,i64 n.c]=K.map i64:=by rw [hK,List.map_take];rfl
 rw [Nat.sub_zero,hKd]
 refine ae E [.d (.sl none (K.map i64))] [] [] (CS K (by omega)) rfl rfl ⟨by simp only [go_sem],by rw [aa];decide⟩ rfl (by simp only [go_sem]) (by simp only [go_sem]) ?_
 rintro _ _ ⟨rfl,rfl⟩
 simp only [go_sem]
 refine aR E (fun hp=>?_) (fun hp=>?_)<;>simp only [go_sem]
 ·refine aE E (X:={ i:Nat // i≤n.l.length }) (fun x=>[(4,.vw [99] 0 (K.length+x.1)),(24,.d (.sl (some 3) (n.l.map fD))),(25,.d (i64 n.l.length)),(26,.d (i64 x.1))]) (fun x=>[([99],.arr none ((K++(n.l.take x.1).map (·.to)).map i64))]) [99] (fun x=>n.l.length-x.1) ⟨0,Nat.zero_le _⟩ (tau [([99],[20,0])]) ?_ ?_
  ·simp only [go_sem]
   rw [List.append_nil]
  rintro ⟨i,hi⟩ E0
  refine aT E0 fun Q' hQ E'=>?_
  simp only at hi ⊢
  simp only [go_sem]
  refine ai E' (fun h1=>?_) (fun h1=>?_)<;>simp only [go_sem]
  ·have h1':i<n.l.length:=by omega
   have hx:(n.l.map fD).getD i .nilp=.agg [.str n.l[i].nm,.str n.l[i].var,i64 n.l[i].to]:=by simp [h1',fD]
   refine ⟨⟨by omega,by omega⟩,?_⟩
   rw [hx]
   simp only [go_sem]
   have htk:List.take (K.length+i) (List.map i64 (K++List.map (·.to) (List.take i n.l)))++[i64 n.l[i].to]=List.map i64 (K++List.map (·.to) (List.take (i+1) n.l)):=by
    rw [List.take_of_length_le (by simp;omega),List.take_succ_eq_append_getElem h1']
    simp only [List.map_append,List.map_cons,List.map_nil,List.append_assoc]
   rw [htk,ak ⟨by omega,by omega⟩,hQ]
   simp only [go_sem]
   refine ⟨by omega,⟨i+1,by omega⟩,by show n.l.length-(i+1)<_;omega,tau [([99],[34])],?_⟩
   simp only [go_sem]
   exact ⟨rfl,rfl⟩
  ·rw [hQ]
   simp only [go_sem]
   have hi2:i=n.l.length:=by omega
   subst hi2
   have hkk:K++List.map (·.to) (List.take n.l.length n.l)=ag n:=by
    rw [List.take_length,hK]
    simp [ag,hp]
   have hkl:(ag n).length=K.length+n.l.length:=by rw [← hkk];simp
   rw [hkk,← hkl]
   refine ⟨_,_,[0],tau [([0],[99])],⟨rfl,rfl⟩,?_⟩
   simp only [go_sem]
 ·have hkk:K=ag n:=by
   rw [hK]
   simp [ag,hp]
  rw [hkk]
  refine ⟨_,_,[0],tau [([0],[20,0])],⟨rfl,rfl⟩,?_⟩
  simp only [go_sem]
end Go.Proofs.YtejpnabbmgpmaaaGreat

namespace Go.Proofs.YtejpnabbmgpmaaaGreat
open Go.Ab
theorem Ii:Tryz.prog.eU 177=true:=by kernel_rfl
theorem ba {ns:List EN} {i:Nat} (h:i<ns.length):ndE ns i=ns[i]:=by simp [ndE,h]
def fdE (l:List EF) (i:Nat):EF:=l.getD i ⟨[],[],0⟩
theorem cR {l:List EF} {i:Nat} (h:i<l.length):(l.map fD).getD i .nilp=.agg [.str (fdE l i).nm,.str (fdE l i).var,i64 (fdE l i).to]:=by simp [h,fD,fdE]
theorem aN {ns:List EN} {i:Nat} (h:i<ns.length):(ns.map enD).getD i .nilp=.agg [i64 (ndE ns i).k,i64 (ndE ns i).a,i64 (ndE ns i).b,i64 (ndE ns i).c,i64 (ndE ns i).n,.str (ndE ns i).name,.str (ndE ns i).s,.sl (some 3) ((ndE ns i).l.map fD),i64 (ndE ns i).pos]:=by simp [h,enD,efD,ndE]
theorem HI {G} (n:EN) (hl:n.l.length≤1000000):HP Tryz.prog G 68 [enD n,enD n] (fun r=>r=.d (.bool true)):=by
 unfold enD efD
 refine al Tryz.func68 rfl (by decide +kernel) (by simp [Tryz.ntmps68]) (veil fun E=>?_)
 simp only [go_sem]
 repeat (first
  | (apply bC E;(· simp only [go_sem]);(· intro h;(try simp only [bq] at h);simp only [↓h,go_sem];rfl);simp only [go_sem])
  | (apply aW E;(· simp only [go_sem]);(· intro h;(try simp only [bq] at h);simp only [↓h,go_sem];rfl);(· intro h;(try simp only [bq] at h);simp only [↓h,go_sem];rfl);simp only [go_sem])
  | (apply aX E;(· simp only [go_sem]);(· rfl);(· intro h h';(try simp only [bq] at h h');simp only [↓h,↓h',go_sem];rfl);simp only [go_sem])
  | (apply aH E;(· simp only [go_sem]);(· rfl);(· intro h h';(try simp only [bq] at h h');simp only [↓h,↓h',go_sem];rfl);(· intro h h';(try simp only [bq] at h h');simp only [↓h,↓h',go_sem];rfl);simp only [go_sem])
  | (apply bz E;(· decide);simp only [go_sem]))
 refine yV E [2] (.agg [i64 n.k,i64 n.a,i64 n.b,i64 n.c,i64 n.n,.str n.name,.str n.s,.sl (some 3) (n.l.map fD),i64 n.pos]) rfl rfl ?_
 simp only [go_sem]
 refine yV E [3] (.agg [i64 n.k,i64 n.a,i64 n.b,i64 n.c,i64 n.n,.str n.name,.str n.s,.sl (some 3) (n.l.map fD),i64 n.pos]) rfl rfl ?_
 simp only [go_sem]
 refine cQ E (X:={ j:Nat // j≤n.l.length }) (fun x=>[(2,.d (.ptr (.agg [i64 n.k,i64 n.a,i64 n.b,i64 n.c,i64 n.n,.str n.name,.str n.s,.sl (some 3) (n.l.map fD),i64 n.pos]))),(3,.d (.ptr (.agg [i64 n.k,i64 n.a,i64 n.b,i64 n.c,i64 n.n,.str n.name,.str n.s,.sl (some 3) (n.l.map fD),i64 n.pos]))),(5,.d (i64 x.1))]) (fun x=>n.l.length-x.1) rfl ⟨0,Nat.zero_le _⟩ ?_ ?_
 ·simp only [go_sem]
  all_goals rfl
 rintro ⟨j,hj⟩ E3
 refine aT E3 fun Q3 hQ3 E4=>?_
 simp only at hj ⊢
 simp only [go_sem]
 refine ai E4 (fun h4=>?_) (fun h4=>?_)<;>simp only [go_sem]
 ·have h4':j<n.l.length:=by omega
  refine aj mixed E4 fun X=>?_
  simp only [go_sem]
  refine ⟨⟨by omega,by omega⟩,?_⟩
  rw [cR h4']
  simp only [go_sem]
  refine ⟨⟨by omega,by omega⟩,?_⟩
  rw [cR h4']
  simp only [go_sem]
  refine Jp X (b:=true) Ii (by rw [HE]) (by simp only [go_sem]) rfl rfl (by simp [eqS,eqP,kOk,ti9,ti3]) ?_
  simp only [go_sem]
  refine ⟨by decide +kernel,?_⟩
  rw [hQ3]
  simp only [go_sem]
  refine ⟨⟨j+1,by omega⟩,by show n.l.length-(j+1)<_;omega,?_⟩
  rw [ak ⟨by omega,by omega⟩]
  rfl
 ·rw [hQ3]
  simp only [go_sem]
theorem Iy {G} (ns:List EN) (hN:ns.length≤1000000) (hfl:∀ n∈ns,n.l.length≤1000000):HP Tryz.prog G 28 [exD ns,exD ns] (fun r=>r=.d (.bool true)):=by
 unfold exD
 refine al Tryz.func28 rfl (by decide +kernel) (by simp [Tryz.ntmps28]) (veil fun E=>?_)
 simp only [go_sem]
 repeat (first
  | (apply bC E;(· simp only [go_sem]);(· intro h;(try simp only [bq] at h);simp only [↓h,go_sem];rfl);simp only [go_sem])
  | (apply aW E;(· simp only [go_sem]);(· intro h;(try simp only [bq] at h);simp only [↓h,go_sem];rfl);(· intro h;(try simp only [bq] at h);simp only [↓h,go_sem];rfl);simp only [go_sem])
  | (apply aX E;(· simp only [go_sem]);(· rfl);(· intro h h';(try simp only [bq] at h h');simp only [↓h,↓h',go_sem];rfl);simp only [go_sem])
  | (apply aH E;(· simp only [go_sem]);(· rfl);(· intro h h';(try simp only [bq] at h h');simp only [↓h,↓h',go_sem];rfl);(· intro h h';(try simp only [bq] at h h');simp only [↓h,↓h',go_sem];rfl);simp only [go_sem])
  | (apply bz E;(· decide);simp only [go_sem]))
 refine yV E [2] (.agg [.sl (some 9) (ns.map enD)]) rfl rfl ?_
 simp only [go_sem]
 refine yV E [3] (.agg [.sl (some 9) (ns.map enD)]) rfl rfl ?_
 simp only [go_sem]
 refine cQ E (X:={ i:Nat // i≤ns.length }) (fun x=>[(2,.d (.ptr (.agg [.sl (some 9) (ns.map enD)]))),(3,.d (.ptr (.agg [.sl (some 9) (ns.map enD)]))),(5,.d (i64 x.1))]) (fun x=>ns.length-x.1) rfl ⟨0,Nat.zero_le _⟩ ?_ ?_
 ·simp only [go_sem]
  all_goals rfl
 rintro ⟨i,hi⟩ E'
 refine aT E' fun Q' hQ E'=>?_
 simp only at hi ⊢
 simp only [go_sem]
 refine ai E' (fun h1=>?_) (fun h1=>?_)<;>simp only [go_sem]
 ·have hi':i<ns.length:=by omega
  have hin:ndE ns i∈ns:=by rw [ba hi'];exact List.getElem_mem hi'
  refine aj mixed E' fun X=>?_
  simp only [go_sem]
  refine ⟨⟨by omega,by omega⟩,?_⟩
  rw [aN hi']
  simp only [go_sem]
  refine ⟨⟨by omega,by omega⟩,?_⟩
  rw [aN hi']
  simp only [go_sem]
  refine aZ X (HI (ndE ns i) (hfl _ hin)) rfl rfl (by simp) ?_
  simp only [go_sem]
  refine ⟨by decide +kernel,?_⟩
  rw [hQ]
  simp only [go_sem]
  refine ⟨⟨i+1,by omega⟩,by show ns.length-(i+1)<_;omega,?_⟩
  rw [ak ⟨by omega,by omega⟩]
  rfl
 ·rw [hQ]
  simp only [go_sem]
end Go.Proofs.YtejpnabbmgpmaaaGreat

namespace Go.Proofs.YtejpnabbmgpmaaaGreat
open Go.Ab
def de (n:EN):Bool:=if n.k=4∨n.k=5∨n.k=7∨n.k=8∨n.k=12 then cF n.name else if n.k=13 then jc n.name else n.name.isEmpty
def bQ (n:EN):Bool :=
 if n.k=1 then n.s.isEmpty else if n.k=2 then (decide (n.n=0) || decide (n.n=1)) && n.s.isEmpty else if n.k=10 then decide (1≤n.n) && decide (n.n≤7) && n.s.isEmpty
 else if n.k=3 then decide (n.n=0) && decide (n.s.length≤200) else decide (n.n=0) && n.s.isEmpty
def eD (k:Int) (f:EF):Bool:=if k=11 then cF f.nm && f.var.isEmpty else jc f.nm && cF f.var
def bo (n:EN):Bool :=
 if aG n.k then (n.l.all (eD n.k)) && (decide ((if n.k=14 then 1 else 0)≤n.l.length) && decide (n.l.length≤30) && decide ((n.l.map (·.nm)).Nodup)) else n.l.isEmpty
def cP (n:EN):Bool:=([n.a,n.b,n.c].drop (aI n.k)).all fun x=>decide (x=0)
def aS (n:EN):Bool:=decide (1≤n.k) && decide (n.k≤14) && decide (0≤n.pos) && decide (n.pos≤1048576) && (de n && bQ n && bo n && cP n)
def cI (ns:List EN) (i:Nat):Bool:=((ag (ndE ns i)).all fun k=>decide (0≤k) && decide (k<(i:Int))) && (decide ((ndE ns i).k≠8) || decide ((ndE ns (ndE ns i).a.toNat).k=5))
def ph (ns:List EN) (k:Nat):Nat:=(ns.flatMap ag).countP fun x=>decide (x=(k:Int))
def vK (d:List Int) (n:EN):Int:=(ag n).foldl (fun m k=>max m (d.getD k.toNat 0)) 0+1
def bV:List EN→List Int→List Int
 | [],d=>d
 | n::r,d=>bV r (d++[vK d n])
def km (ns:List EN):Int:=(bV ns []).getD (ns.length-1) 0
def okE (ns:List EN):Bool:=(List.range ns.length).all fun i=>aS (ndE ns i) && cI ns i
def j6 (ns:List EN):Bool:=(List.range (ns.length-1)).all fun k=>decide (ph ns k=1)
def bL (ns:List EN):Int:=if ns.length=0∨600<ns.length then 8 else if okE ns && j6 ns then (if 100<km ns then 6 else 0) else 4
end Go.Proofs.YtejpnabbmgpmaaaGreat

namespace Go.Proofs.YtejpnabbmgpmaaaGreat
open Go.Ab
theorem Kg:tQ Tryz.prog 4=some (.bool false):=by kernel_rfl
theorem qx {κ:Type} [DecidableEq κ] (a b:κ) (d:D):∀ ms:List (κ × D),mlook (mset ms a d) b=if a=b then some d else mlook ms b
 | []=>rfl
 | q::r=>by
   simp only [mset]
   split
   ·rename_i e
    simp only [mlook]
    rw [e]
    split<;>rfl
   ·rename_i e
    simp only [mlook,qx a b d r]
    split
    ·rename_i e2
     rw [if_neg (fun e3=>e (e2.trans e3.symm))]
    ·rfl
def setOf (l:List (List UInt8)):List (List UInt8 × D):=l.foldl (fun ms u=>mset ms u (.bool true)) []
theorem setOf_snoc (l:List (List UInt8)) (u:List UInt8):setOf (l++[u])=mset (setOf l) u (.bool true):=by simp [setOf]
theorem CF (l:List (List UInt8)) (u:List UInt8):(mlook (setOf l) u).getD (.bool false)=.bool (decide (u∈l)):=by
 suffices h:∀ l:List (List UInt8),mlook (setOf l) u=if u∈l then some (.bool true) else none by
  rw [h];split<;>simp_all
 intro l
 induction hl:l.length generalizing l with
 | zero=>have:l=[]:=List.length_eq_zero_iff.1 hl;subst this;rfl
 | succ n ih =>
   have hne:l≠[]:=by intro e;rw [e] at hl;simp at hl
   obtain ⟨r,x,rfl⟩:∃ r x,l=r++[x]:=⟨l.dropLast,l.getLast hne,(List.dropLast_concat_getLast hne).symm⟩
   rw [setOf_snoc,qx,ih r (by simpa using hl)]
   by_cases h1:x=u
   ·subst h1;simp
   ·rw [if_neg h1]
    simp [Ne.symm h1]
def twice (l:List (List UInt8)):Bool:=!decide l.Nodup
theorem yC {l:List (List UInt8)} {i:Nat} (hi:i<l.length) (h:(l.take i).Nodup) (h2:l.getD i [] ∉ l.take i):(l.take (i+1)).Nodup:=by
 have e:l.getD i []=l[i]:=by simp [hi]
 rw [e] at h2
 rw [List.take_succ_eq_append_getElem hi,List.nodup_append]
 exact ⟨h,by simp,fun x hx y hy=>by rw [List.mem_singleton.1 hy];rintro rfl;exact h2 hx⟩
theorem BG {l:List (List UInt8)} {i:Nat} (hi:i<l.length) (h2:l.getD i []∈l.take i):twice l=true:=by
 have e:l.getD i []=l[i]:=by simp [hi]
 rw [e] at h2
 have:¬ l.Nodup:=fun hn=>by
  have hs:(l.take (i+1)).Nodup:=hn.sublist (List.take_sublist _ _)
  rw [List.take_succ_eq_append_getElem hi,List.nodup_append] at hs
  exact hs.2.2 _ h2 _ (by simp) rfl
 simp [twice,this]
theorem y6 {G} (l:List (List UInt8)) (hl:l.length≤1000000):HP Tryz.prog G 160 [strs l] (fun r=>r=.d (.bool (twice l))):=by
 refine al Tryz.func160 rfl (by decide +kernel) (by simp [Tryz.ntmps160]) (veil fun E=>?_)
 unfold strs
 simp only [go_sem]
 refine pB E (by simp) (by simp [aa]) ?_
 simp only [go_sem]
 refine dc E (X:={ i:Nat // i≤l.length∧(l.take i).Nodup }) (fun x=>[(3,.mp [6]),(7,.d (.sl none (l.map .str))),(8,.d (i64 l.length)),(9,.d (i64 x.1))]) (fun x=>[([6],.map (menc D.str (setOf (l.take x.1))))]) [6] (fun x=>l.length-x.1) ⟨0,by simp⟩ ?_ ?_
 ·simp only [go_sem]
  all_goals rfl
 rintro ⟨i,hi,hn⟩ E'
 simp only [go_sem]
 refine ai E' (fun h1=>?_) (fun h1=>?_)<;>simp only [go_sem]
 ·have hi':i<l.length:=by omega
  refine ⟨⟨by omega,by omega⟩,?_⟩
  rw [kF hi']
  simp only [go_sem]
  refine ub E' [6] (setOf (l.take i)) (l.getD i []) (.bool false) (by rw [Dc]) (DT (by rw [ti9])) Kg rfl rfl rfl (by simp) ?_
  simp only [go_sem]
  rw [CF]
  refine ai E' (fun h2=>?_) (fun h2=>?_)<;>simp only [go_sem]
  ·rw [BG hi' h2]
  refine mC E' [6] (setOf (l.take i)) (l.getD i []) (.bool true) (by rw [Dc]) (DT (by rw [ti9])) rfl rfl rfl rfl rfl ?_
  simp only [go_sem]
  refine ⟨⟨i+1,by omega,yC hi' hn h2⟩,by show l.length-(i+1)<_;omega,by rw [ak ⟨by omega,by omega⟩];rfl,?_⟩
  rw [List.take_succ_eq_append_getElem hi',setOf_snoc]
  simp [hi']
 ·have hil:i=l.length:=by omega
  subst hil
  rw [List.take_length] at hn
  simp [twice,hn]
structure ff (B:Nat) (n:EN):Prop where
 nm:n.name.length≤B
 s:n.s.length≤B
 l:n.l.length≤1000000
 f:∀ f∈n.l,f.nm.length≤B∧f.var.length≤B
abbrev BIG:Nat:=9223372036854775807
theorem kx (l:List UInt8):(l == [])=l.isEmpty:=by cases l<;>rfl
theorem Fa {G} (n:EN) (h:ff BIG n):HP Tryz.prog G 106 [enD n] (fun r=>r=.d (.bool (de n))):=by
 generalize hb:de n=b
 unfold de at hb
 have c1:=sn (G:=G) n.name h.nm
 have c2:=ye (G:=G) n.name h.nm
 generalize cF n.name=x at c1 hb
 generalize jc n.name=y at c2 hb
 unfold enD efD
 refine al Tryz.func106 rfl (by decide +kernel) (by simp [Tryz.ntmps106]) (veil fun E=>?_)
 simp only [go_sem]
 refine ai E (fun h4=>?_) (fun h4=>?_)<;>simp only [go_sem]
 ·rw [decide_eq_true h4]
  try simp only [go_sem]
  refine ab E (c1) rfl rfl (by simp) ?_
  rintro _ rfl
  simp only [go_sem]
  subst hb
  rw [if_pos (by omega)]
 refine ai E (fun h5=>?_) (fun h5=>?_)<;>simp only [go_sem]
 ·rw [decide_eq_true h5]
  try simp only [go_sem]
  refine ab E (c1) rfl rfl (by simp) ?_
  rintro _ rfl
  simp only [go_sem]
  subst hb
  rw [if_pos (by omega)]
 refine ai E (fun h7=>?_) (fun h7=>?_)<;>simp only [go_sem]
 ·rw [decide_eq_true h7]
  try simp only [go_sem]
  refine ab E (c1) rfl rfl (by simp) ?_
  rintro _ rfl
  simp only [go_sem]
  subst hb
  rw [if_pos (by omega)]
 refine ai E (fun h8=>?_) (fun h8=>?_)<;>simp only [go_sem]
 ·rw [decide_eq_true h8]
  try simp only [go_sem]
  refine ab E (c1) rfl rfl (by simp) ?_
  rintro _ rfl
  simp only [go_sem]
  subst hb
  rw [if_pos (by omega)]
 refine ai E (fun h12=>?_) (fun h12=>?_)<;>simp only [go_sem]
 ·try simp only [go_sem]
  refine ab E (c1) rfl rfl (by simp) ?_
  rintro _ rfl
  simp only [go_sem]
  subst hb
  rw [if_pos (by omega)]
 refine ai E (fun h13=>?_) (fun h13=>?_)<;>simp only [go_sem]
 ·refine ab E (c2) rfl rfl (by simp) ?_
  rintro _ rfl
  simp only [go_sem]
  subst hb
  rw [if_neg (by omega),if_pos h13]
 ·subst hb
  rw [if_neg (by omega),if_neg h13,kx]
theorem FP {G} (k:Int) (f:EF) (h1:f.nm.length≤BIG) (h2:f.var.length≤BIG):HP Tryz.prog G 159 [i64 k,fD f] (fun r=>r=.d (.bool (eD k f))):=by
 generalize hb:eD k f=b
 unfold eD at hb
 have c1:=sn (G:=G) f.nm h1
 have c2:=ye (G:=G) f.nm h1
 have c3:=sn (G:=G) f.var h2
 generalize cF f.nm=x at c1 hb
 generalize jc f.nm=y at c2 hb
 generalize cF f.var=z at c3 hb
 unfold fD
 refine al Tryz.func159 rfl (by decide +kernel) (by simp [Tryz.ntmps159]) (veil fun E=>?_)
 simp only [go_sem]
 refine ai E (fun h=>?_) (fun h=>?_)<;>simp only [go_sem]
 ·refine ab E (c1) rfl rfl (by simp) ?_
  rintro _ rfl
  simp only [go_sem]
  repeat (first
   | (apply bC E;(· simp only [go_sem]);(· intro h;(try simp only [bq] at h);simp only [↓h,go_sem];rfl);simp only [go_sem])
   | (apply aW E;(· simp only [go_sem]);(· intro h;(try simp only [bq] at h);simp only [↓h,go_sem];rfl);(· intro h;(try simp only [bq] at h);simp only [↓h,go_sem];rfl);simp only [go_sem])
   | (apply aX E;(· simp only [go_sem]);(· rfl);(· intro h h';(try simp only [bq] at h h');simp only [↓h,↓h',go_sem];rfl);simp only [go_sem])
   | (apply aH E;(· simp only [go_sem]);(· rfl);(· intro h h';(try simp only [bq] at h h');simp only [↓h,↓h',go_sem];rfl);(· intro h h';(try simp only [bq] at h h');simp only [↓h,↓h',go_sem];rfl);simp only [go_sem])
   | (apply bz E;(· decide);simp only [go_sem]))
  rw [if_pos h,← kx] at hb
  rw [hb]
 ·refine ab E (c2) rfl rfl (by simp) ?_
  rintro _ rfl
  simp only [go_sem]
  repeat (first
   | (apply bC E;(· simp only [go_sem]);(· intro h;(try simp only [bq] at h);simp only [↓h,go_sem];rfl);simp only [go_sem])
   | (apply aW E;(· simp only [go_sem]);(· intro h;(try simp only [bq] at h);simp only [↓h,go_sem];rfl);(· intro h;(try simp only [bq] at h);simp only [↓h,go_sem];rfl);simp only [go_sem])
   | (apply aX E;(· simp only [go_sem]);(· rfl);(· intro h h';(try simp only [bq] at h h');simp only [↓h,↓h',go_sem];rfl);simp only [go_sem])
   | (apply aH E;(· simp only [go_sem]);(· rfl);(· intro h h';(try simp only [bq] at h h');simp only [↓h,↓h',go_sem];rfl);(· intro h h';(try simp only [bq] at h h');simp only [↓h,↓h',go_sem];rfl);simp only [go_sem])
   | (apply bz E;(· decide);simp only [go_sem]))
  (first | (apply iE E;(· simp only [go_sem]);(· intro h hk;(try simp only [bq] at h);refine ab E (c3) rfl (by simp only [↓h,go_sem]<;>rfl) (by simp) ?_;rintro _ rfl;exact hk);simp only [go_sem]) | (apply fk E;(· simp only [go_sem]);(· rfl);(· intro h h' hk;(try simp only [bq] at h h');refine ab E (c3) rfl (by simp only [↓h,↓h',go_sem]<;>rfl) (by simp) ?_;rintro _ rfl;exact hk);simp only [go_sem]))
  repeat (first
   | (apply bC E;(· simp only [go_sem]);(· intro h;(try simp only [bq] at h);simp only [↓h,go_sem];rfl);simp only [go_sem])
   | (apply aW E;(· simp only [go_sem]);(· intro h;(try simp only [bq] at h);simp only [↓h,go_sem];rfl);(· intro h;(try simp only [bq] at h);simp only [↓h,go_sem];rfl);simp only [go_sem])
   | (apply aX E;(· simp only [go_sem]);(· rfl);(· intro h h';(try simp only [bq] at h h');simp only [↓h,↓h',go_sem];rfl);simp only [go_sem])
   | (apply aH E;(· simp only [go_sem]);(· rfl);(· intro h h';(try simp only [bq] at h h');simp only [↓h,↓h',go_sem];rfl);(· intro h h';(try simp only [bq] at h h');simp only [↓h,↓h',go_sem];rfl);simp only [go_sem])
   | (apply bz E;(· decide);simp only [go_sem]))
  rw [if_neg h] at hb
  rw [hb]
theorem E1 {G} (n:EN):HP Tryz.prog G 107 [enD n] (fun r=>r=.d (.bool (bQ n))):=by
 generalize hb:bQ n=b
 unfold bQ at hb
 simp only [← kx] at hb
 unfold enD efD
 refine al Tryz.func107 rfl (by decide +kernel) (by simp [Tryz.ntmps107]) (veil fun E=>?_)
 simp only [go_sem]
 refine ai E (fun h1=>?_) (fun h1=>?_)<;>simp only [go_sem]
 ·rw [if_pos h1] at hb
  rw [hb]
 rw [if_neg h1] at hb
 refine ai E (fun h2=>?_) (fun h2=>?_)<;>simp only [go_sem]
 ·rw [if_pos h2] at hb
  repeat (first
   | (apply bC E;(· simp only [go_sem]);(· intro h;(try simp only [bq] at h);simp only [↓h,go_sem];rfl);simp only [go_sem])
   | (apply aW E;(· simp only [go_sem]);(· intro h;(try simp only [bq] at h);simp only [↓h,go_sem];rfl);(· intro h;(try simp only [bq] at h);simp only [↓h,go_sem];rfl);simp only [go_sem])
   | (apply aX E;(· simp only [go_sem]);(· rfl);(· intro h h';(try simp only [bq] at h h');simp only [↓h,↓h',go_sem];rfl);simp only [go_sem])
   | (apply aH E;(· simp only [go_sem]);(· rfl);(· intro h h';(try simp only [bq] at h h');simp only [↓h,↓h',go_sem];rfl);(· intro h h';(try simp only [bq] at h h');simp only [↓h,↓h',go_sem];rfl);simp only [go_sem])
   | (apply bz E;(· decide);simp only [go_sem]))
  rw [hb]
 rw [if_neg h2] at hb
 refine ai E (fun h3=>?_) (fun h3=>?_)<;>simp only [go_sem]
 ·rw [if_pos h3] at hb
  repeat (first
   | (apply bC E;(· simp only [go_sem]);(· intro h;(try simp only [bq] at h);simp only [↓h,go_sem];rfl);simp only [go_sem])
   | (apply aW E;(· simp only [go_sem]);(· intro h;(try simp only [bq] at h);simp only [↓h,go_sem];rfl);(· intro h;(try simp only [bq] at h);simp only [↓h,go_sem];rfl);simp only [go_sem])
   | (apply aX E;(· simp only [go_sem]);(· rfl);(· intro h h';(try simp only [bq] at h h');simp only [↓h,↓h',go_sem];rfl);simp only [go_sem])
   | (apply aH E;(· simp only [go_sem]);(· rfl);(· intro h h';(try simp only [bq] at h h');simp only [↓h,↓h',go_sem];rfl);(· intro h h';(try simp only [bq] at h h');simp only [↓h,↓h',go_sem];rfl);simp only [go_sem])
   | (apply bz E;(· decide);simp only [go_sem]))
  rw [hb]
 rw [if_neg h3] at hb
 refine ai E (fun h4=>?_) (fun h4=>?_)<;>simp only [go_sem]
 ·rw [if_pos h4] at hb
  repeat (first
   | (apply bC E;(· simp only [go_sem]);(· intro h;(try simp only [bq] at h);simp only [↓h,go_sem];rfl);simp only [go_sem])
   | (apply aW E;(· simp only [go_sem]);(· intro h;(try simp only [bq] at h);simp only [↓h,go_sem];rfl);(· intro h;(try simp only [bq] at h);simp only [↓h,go_sem];rfl);simp only [go_sem])
   | (apply aX E;(· simp only [go_sem]);(· rfl);(· intro h h';(try simp only [bq] at h h');simp only [↓h,↓h',go_sem];rfl);simp only [go_sem])
   | (apply aH E;(· simp only [go_sem]);(· rfl);(· intro h h';(try simp only [bq] at h h');simp only [↓h,↓h',go_sem];rfl);(· intro h h';(try simp only [bq] at h h');simp only [↓h,↓h',go_sem];rfl);simp only [go_sem])
   | (apply bz E;(· decide);simp only [go_sem]))
  rw [← hb,show decide ((n.s.length:Int)≤200)=decide (n.s.length≤200) from decide_eq_decide.2 (by omega)]
 rw [if_neg h4] at hb
 repeat (first
  | (apply bC E;(· simp only [go_sem]);(· intro h;(try simp only [bq] at h);simp only [↓h,go_sem];rfl);simp only [go_sem])
  | (apply aW E;(· simp only [go_sem]);(· intro h;(try simp only [bq] at h);simp only [↓h,go_sem];rfl);(· intro h;(try simp only [bq] at h);simp only [↓h,go_sem];rfl);simp only [go_sem])
  | (apply aX E;(· simp only [go_sem]);(· rfl);(· intro h h';(try simp only [bq] at h h');simp only [↓h,↓h',go_sem];rfl);simp only [go_sem])
  | (apply aH E;(· simp only [go_sem]);(· rfl);(· intro h h';(try simp only [bq] at h h');simp only [↓h,↓h',go_sem];rfl);(· intro h h';(try simp only [bq] at h h');simp only [↓h,↓h',go_sem];rfl);simp only [go_sem])
  | (apply bz E;(· decide);simp only [go_sem]))
 rw [hb]
theorem p9 {p:EF→Bool} {l:List EF} {i:Nat} (h:i<l.length) (ha:(l.take i).all p=true) (hb:p l[i]=true):(l.take (i+1)).all p=true:=by
 rw [List.take_succ_eq_append_getElem h,List.all_append,ha]
 simp [hb]
theorem sB {l:List EF} {i:Nat} (h:i<l.length):(l.map fD).getD i .nilp=.agg [.str l[i].nm,.str l[i].var,i64 l[i].to]:=by simp [h,fD]
theorem len_nil (l:List EF):decide ((l.length:Int)=0)=l.isEmpty:=by cases l<;>simp<;>omega
theorem FC {G} (n:EN) (h:ff BIG n):HP Tryz.prog G 108 [enD n] (fun r=>r=.d (.bool (bo n))):=by
 generalize hb:bo n=b
 unfold bo at hb
 have hl:=h.l
 unfold enD efD
 refine al Tryz.func108 rfl (by decide +kernel) (by simp [Tryz.ntmps108]) (veil fun E=>?_)
 simp only [go_sem]
 refine ab E (nq n.k) rfl rfl (by simp) ?_
 rintro _ rfl
 simp only [go_sem]
 refine aR E (fun h1=>?_) (fun h1=>?_)<;>simp only [go_sem]
 ·rw [if_neg (by simpa using h1),← len_nil] at hb
  rw [hb]
 rw [if_pos (by simpa using h1)] at hb
 refine ml E 3 98 none rfl (by rw [aa];decide) ?_
 simp only [go_sem]
 refine aE E (X:={ i:Nat // i≤n.l.length∧(n.l.take i).all (eD n.k)=true }) (fun x=>[(1,.at [1] 0),(3,.vw [98] 0 x.1),(17,.d (.sl (some 3) (n.l.map fD))),(18,.d (i64 n.l.length)),(19,.d (i64 x.1))])
  (fun x=>[([1],.box [.d (i64 n.k),.d (i64 n.a),.d (i64 n.b),.d (i64 n.c),.d (i64 n.n),.d (.str n.name),.d (.str n.s),.d (.sl (some 3) (n.l.map fD)),.d (i64 n.pos)]),([98],.arr none ((n.l.take x.1).map fun f=>.str f.nm))]) [1,98] (fun x=>n.l.length-x.1) ⟨0,by simp⟩ id ?_ ?_
 ·simp only [go_sem]
  all_goals rfl
 rintro ⟨i,hi,hall⟩ E0
 refine aT E0 fun Q' hQ E'=>?_
 simp only at hi hall ⊢
 simp only [go_sem]
 refine ai E' (fun g1=>?_) (fun g1=>?_)<;>simp only [go_sem]
 ·have hi':i<n.l.length:=by omega
  refine ⟨⟨by omega,by omega⟩,?_⟩
  rw [sB hi']
  simp only [go_sem]
  obtain ⟨q1,q2⟩:=h.f _ (List.getElem_mem hi')
  refine ab E' (FP n.k n.l[i] q1 q2) rfl rfl (by simp) ?_
  rintro _ rfl
  simp only [go_sem]
  refine aR E' (fun g2=>?_) (fun g2=>?_)<;>simp only [go_sem]
  ·rw [hQ]
   simp only [go_sem]
   have g2':eD n.k n.l[i]=false:=by simpa using g2
   have:n.l.all (eD n.k)=false:=List.all_eq_false.2 ⟨_,List.getElem_mem hi',by rw [g2'];decide⟩
   rw [← hb,this]
   rfl
  ·have g2':eD n.k n.l[i]=true:=by simpa using g2
   refine ⟨by omega,?_⟩
   rw [hQ]
   simp only [go_sem]
   refine ⟨⟨i+1,by omega,p9 hi' hall g2'⟩,by show n.l.length-(i+1)<_;omega,tau [([98],[32])],?_⟩
   rw [ak ⟨by omega,by omega⟩]
   rw [show List.take i (List.map (fun f:EF=>D.str f.nm) (List.take i n.l))++[.str n.l[i].nm]=(n.l.take (i+1)).map fun f=>.str f.nm by
    rw [List.take_of_length_le (by simp;omega),List.take_succ_eq_append_getElem hi',List.map_append];rfl]
   simp only [go_sem]
   all_goals rfl
 ·rw [hQ]
  have h3:i=n.l.length:=by omega
  subst h3
  rw [List.take_length] at *
  rw [hall,Bool.true_and] at hb
  simp only [go_sem]
  refine ai E (fun k1=>?_) (fun k1=>?_)<;>simp only [go_sem]
  ·rw [if_pos k1] at hb
   refine aF E (fun k2=>?_) (fun k2=>?_)<;>simp only [go_sem]
   ·refine aF E (fun k3=>?_) (fun k3=>?_)<;>simp only [go_sem]
    ·have ht:=y6 (G:=G) (n.l.map (·.nm)) (by rw [List.length_map];exact hl)
     unfold strs at ht
     rw [List.map_map,show (D.str ∘ fun f:EF=>f.nm)=fun f=>D.str f.nm from rfl] at ht
     rw [ia]
     simp only [go_sem]
     refine ni E [([98],none,n.l.map fun f=>.str f.nm)] ht (by rintro _ rfl;rfl) (by simp only [go_sem]) rfl (by simp only [go_sem]) (by simp) ?_
     rintro _ rfl
     simp only [go_sem]
     rw [← hb,decide_eq_true (by omega),decide_eq_true (by omega)]
     simp [twice]
    ·rw [← hb,decide_eq_false (p:=n.l.length≤30) (by omega),Bool.and_false,Bool.false_and]
   ·rw [← hb,decide_eq_false (by omega),Bool.false_and,Bool.false_and]
  ·rw [if_neg k1] at hb
   refine aF E (fun k2=>?_) (fun k2=>?_)<;>simp only [go_sem]
   ·refine aF E (fun k3=>?_) (fun k3=>?_)<;>simp only [go_sem]
    ·have ht:=y6 (G:=G) (n.l.map (·.nm)) (by rw [List.length_map];exact hl)
     unfold strs at ht
     rw [List.map_map,show (D.str ∘ fun f:EF=>f.nm)=fun f=>D.str f.nm from rfl] at ht
     rw [ia]
     simp only [go_sem]
     refine ni E [([98],none,n.l.map fun f=>.str f.nm)] ht (by rintro _ rfl;rfl) (by simp only [go_sem]) rfl (by simp only [go_sem]) (by simp) ?_
     rintro _ rfl
     simp only [go_sem]
     rw [← hb,decide_eq_true (by omega),decide_eq_true (by omega)]
     simp [twice]
    ·rw [← hb,decide_eq_false (p:=n.l.length≤30) (by omega),Bool.and_false,Bool.false_and]
   ·rw [← hb,decide_eq_false (by omega),Bool.false_and,Bool.false_and]
end Go.Proofs.YtejpnabbmgpmaaaGreat

namespace Go.Proofs.YtejpnabbmgpmaaaGreat
open Go.Ab
theorem nh {G} (c:UInt8):HP Tryz.prog G 230 [u8 c] (fun r=>r=.d (.bool (sm c))):=by
 refine al Tryz.func230 rfl (by decide +kernel) (by simp [Tryz.ntmps230]) (veil fun E=>?_)
 unfold u8
 simp only [go_sem]
 refine aF E (fun h1=>?_) (fun h1=>?_)<;>simp only [go_sem]
 ·refine aF E (fun h2=>?_) (fun h2=>?_)<;>simp only [go_sem]
  ·simp [sm,smZ,h1,h2]
  ·simp [sm,smZ,h1,h2]
 ·simp [sm,smZ,h1]
theorem nr {G} (c:UInt8):HP Tryz.prog G 231 [u8 c] (fun r=>r=.d (.bool (gr c))):=by
 refine al Tryz.func231 rfl (by decide +kernel) (by simp [Tryz.ntmps231]) (veil fun E=>?_)
 unfold u8
 simp only [go_sem]
 refine aF E (fun h1=>?_) (fun h1=>?_)<;>simp only [go_sem]
 ·simp [gr,grZ,h1]
 ·simp [gr,grZ,h1]
theorem x6 {G} (l:List UInt8) (hl:l.length≤9223372036854775807):HP Tryz.prog G 168 [.str l] (fun r=>r=.d (i64 (bH l))):=by
 refine al Tryz.func168 rfl (by decide +kernel) (by simp [Tryz.ntmps168]) (veil fun E=>?_)
 simp only [go_sem]
 refine aF E (fun h0=>?_) (fun h0=>?_)<;>simp only [go_sem]
 ·have:l=[]:=List.length_eq_zero_iff.1 (by omega)
  subst this;rfl
 have h0:1≤l.length:=by omega
 refine ⟨by omega,?_⟩
 refine ab E (nh (l.getD 0 0)) rfl rfl (by simp) ?_
 rintro _ rfl
 simp only [go_sem]
 refine bR E (fun h1=>?_) (fun h1=>?_)<;>simp only [go_sem]
 ·have h1:sm (l.getD 0 0)=false:=by simpa using h1
  refine ⟨by omega,?_⟩
  refine ab E (nr (l.getD 0 0)) rfl rfl (by simp) ?_
  rintro _ rfl
  simp only [go_sem]
  refine aR E (fun h2=>?_) (fun h2=>?_)<;>simp only [go_sem]
  ·have h2:gr (l.getD 0 0)=false:=by simpa using h2
   rw [dh h0,h1,h2];rfl
  ·have h2:gr (l.getD 0 0)=true:=by simpa using h2
   have hsg:(sm (l.getD 0 0) || gr (l.getD 0 0))=true:=by rw [h2,Bool.or_true]
   refine cQ E (X:={ i:Nat // i≤l.length∧i+wlen (l.drop i)=wlen (l.drop 1)+1 }) (fun x=>[(0,.d (.str l)),(3,.d (i64 x.1))]) (fun x=>l.length-x.1) rfl ⟨1,h0,by omega⟩ ?_ ?_
   ·simp only [go_sem]
    all_goals rfl
   rintro ⟨i,hi,hw⟩ E'
   simp only [go_sem]
   have hn:bH l=wlen (l.drop 1)+1:=by rw [dh h0,hsg,if_pos rfl]
   refine aF E' (fun h3=>?_) (fun h3=>?_)<;>simp only [go_sem]
   ·have hi':i<l.length:=by omega
    have hwd:=jx hi'
    have yes:mo (l.getD i 0)=true→∃ y:{ i:Nat // i≤l.length∧i+wlen (l.drop i)=wlen (l.drop 1)+1 },l.length-y.1<l.length-i∧AV.d (.int .i64 (w64 ((i:Int)+1)))=AV.d (i64 y.1):=fun h4=>by
     rw [h4,if_pos rfl] at hwd
     refine ⟨⟨i+1,by omega,by omega⟩,by show l.length-(i+1)<_;omega,?_⟩
     rw [ak ⟨by omega,by omega⟩];rfl
    have no:mo (l.getD i 0)=false→AV.d (i64 (i:Int))=AV.d (i64 (bH l:Nat)):=fun h4=>by
     rw [h4,if_neg (by simp)] at hwd
     rw [hn]
     exact congrArg (fun n:Nat=>AV.d (i64 (n:Int))) (by omega)
    refine ⟨⟨by omega,by omega⟩,?_⟩
    refine ab E' (nh (l.getD i 0)) rfl rfl (by simp) ?_
    rintro _ rfl
    simp only [go_sem]
    refine bR E' (fun h4=>?_) (fun h4=>?_)<;>simp only [go_sem]
    ·exact yes (by simp only [mo,h4,Bool.true_or])
    refine ⟨⟨by omega,by omega⟩,?_⟩
    refine ab E' (nr (l.getD i 0)) rfl rfl (by simp) ?_
    rintro _ rfl
    simp only [go_sem]
    refine bR E' (fun h5=>?_) (fun h5=>?_)<;>simp only [go_sem]
    ·exact yes (by simp only [mo,h5,Bool.or_true,Bool.true_or])
    refine ⟨⟨by omega,by omega⟩,?_⟩
    refine aF E' (fun h6=>?_) (fun h6=>?_)<;>simp only [go_sem]
    ·refine ⟨⟨by omega,by omega⟩,?_⟩
     refine ai E' (fun h7=>?_) (fun h7=>?_)<;>simp only [go_sem]
     ·exact yes (by simp only [mo,h4,h5,diZ];rw [decide_eq_true h6,decide_eq_true h7];rfl)
     ·exact no (by simp only [mo,h4,h5,diZ];rw [decide_eq_false h7];simp)
    ·exact no (by simp only [mo,h4,h5,diZ];rw [decide_eq_false h6];simp)
   ·have hil:i=l.length:=by omega
    subst hil
    rw [ll] at hw
    rw [hn]
    exact congrArg (fun n:Nat=>AV.d (i64 (n:Int))) (by omega)
 ·have h1:sm (l.getD 0 0)=true:=by simpa using h1
  have hsg:(sm (l.getD 0 0) || gr (l.getD 0 0))=true:=by rw [h1,Bool.true_or]
  refine cQ E (X:={ i:Nat // i≤l.length∧i+wlen (l.drop i)=wlen (l.drop 1)+1 }) (fun x=>[(0,.d (.str l)),(3,.d (i64 x.1))]) (fun x=>l.length-x.1) rfl ⟨1,h0,by omega⟩ ?_ ?_
  ·simp only [go_sem]
   all_goals rfl
  rintro ⟨i,hi,hw⟩ E'
  simp only [go_sem]
  have hn:bH l=wlen (l.drop 1)+1:=by rw [dh h0,hsg,if_pos rfl]
  refine aF E' (fun h3=>?_) (fun h3=>?_)<;>simp only [go_sem]
  ·have hi':i<l.length:=by omega
   have hwd:=jx hi'
   have yes:mo (l.getD i 0)=true→∃ y:{ i:Nat // i≤l.length∧i+wlen (l.drop i)=wlen (l.drop 1)+1 },l.length-y.1<l.length-i∧AV.d (.int .i64 (w64 ((i:Int)+1)))=AV.d (i64 y.1):=fun h4=>by
    rw [h4,if_pos rfl] at hwd
    refine ⟨⟨i+1,by omega,by omega⟩,by show l.length-(i+1)<_;omega,?_⟩
    rw [ak ⟨by omega,by omega⟩];rfl
   have no:mo (l.getD i 0)=false→AV.d (i64 (i:Int))=AV.d (i64 (bH l:Nat)):=fun h4=>by
    rw [h4,if_neg (by simp)] at hwd
    rw [hn]
    exact congrArg (fun n:Nat=>AV.d (i64 (n:Int))) (by omega)
   refine ⟨⟨by omega,by omega⟩,?_⟩
   refine ab E' (nh (l.getD i 0)) rfl rfl (by simp) ?_
   rintro _ rfl
   simp only [go_sem]
   refine bR E' (fun h4=>?_) (fun h4=>?_)<;>simp only [go_sem]
   ·exact yes (by simp only [mo,h4,Bool.true_or])
   refine ⟨⟨by omega,by omega⟩,?_⟩
   refine ab E' (nr (l.getD i 0)) rfl rfl (by simp) ?_
   rintro _ rfl
   simp only [go_sem]
   refine bR E' (fun h5=>?_) (fun h5=>?_)<;>simp only [go_sem]
   ·exact yes (by simp only [mo,h5,Bool.or_true,Bool.true_or])
   refine ⟨⟨by omega,by omega⟩,?_⟩
   refine aF E' (fun h6=>?_) (fun h6=>?_)<;>simp only [go_sem]
   ·refine ⟨⟨by omega,by omega⟩,?_⟩
    refine ai E' (fun h7=>?_) (fun h7=>?_)<;>simp only [go_sem]
    ·exact yes (by simp only [mo,h4,h5,diZ];rw [decide_eq_true h6,decide_eq_true h7];rfl)
    ·exact no (by simp only [mo,h4,h5,diZ];rw [decide_eq_false h7];simp)
   ·exact no (by simp only [mo,h4,h5,diZ];rw [decide_eq_false h6];simp)
  ·have hil:i=l.length:=by omega
   subst hil
   rw [ll] at hw
   rw [hn]
   exact congrArg (fun n:Nat=>AV.d (i64 (n:Int))) (by omega)
theorem G4 {G}:HP Tryz.prog G 234 [] (fun r=>r=.d (strs kwB)):=by
 refine au Tryz.func234 rfl (by decide +kernel) (by simp [Tryz.ntmps234]) (veil fun E=>?_)
 simp only [go_sem]
 refine ⟨[([1],none,kwB.map .str)],?_⟩
 simp only [go_sem]
 refine ⟨rfl,?_⟩
 rfl
theorem xI {G} (s:List UInt8) (l:List (List UInt8)) (hl:l.length≤9223372036854775807):HP Tryz.prog G 233 [.str s,strs l] (fun r=>r=.d (.bool (decide (s∈l)))):=by
 refine al Tryz.func233 rfl (by decide +kernel) (by simp [Tryz.ntmps233]) (veil fun E=>?_)
 unfold strs
 simp only [go_sem]
 refine cQ E (X:={ i:Nat // i≤l.length∧s ∉ l.take i }) (fun x=>[(0,.d (.str s)),(1,.d (.sl none (l.map .str))),(5,.d (i64 x.1))]) (fun x=>l.length-x.1) rfl ⟨0,by simp,by simp⟩ ?_ ?_
 ·simp only [go_sem]
  all_goals rfl
 rintro ⟨i,hi,hm⟩ E'
 simp only [go_sem]
 refine ai E' (fun h6=>?_) (fun h6=>?_)<;>simp only [go_sem]
 ·have hi':i<l.length:=by omega
  refine ⟨⟨by omega,by omega⟩,?_⟩
  rw [kF hi']
  simp only [go_sem]
  refine aR E' (fun h7=>?_) (fun h7=>?_)<;>simp only [go_sem]
  ·have h7:l.getD i []=s:=by simpa using h7
   have:s∈l:=by
    rw [← h7]
    simp [hi']
   rw [decide_eq_true this]
  ·have h7:l.getD i []≠s:=by simpa using h7
   refine ⟨⟨i+1,by omega,sX hi' hm h7⟩,by show l.length-(i+1)<_;omega,?_⟩
   rw [ak ⟨by omega,by omega⟩];rfl
 ·have hil:i=l.length:=by omega
  subst hil
  rw [List.take_length] at hm
  rw [decide_eq_false hm]
theorem Fj {G} (s:List UInt8):HP Tryz.prog G 169 [.str s] (fun r=>r=.d (.bool (CT s))):=by
 refine al Tryz.func169 rfl (by decide +kernel) (by simp [Tryz.ntmps169]) (veil fun E=>?_)
 simp only [go_sem]
 refine ab E G4 rfl rfl (by simp) ?_
 rintro _ rfl
 simp only [go_sem]
 refine ab E (xI s kwB Hx) rfl rfl (by simp) ?_
 rintro _ rfl
 simp only [go_sem]
 rfl
theorem rI {G} (s:List UInt8) (hl:s.length≤9223372036854775807):HP Tryz.prog G 165 [.str s] (fun r=>r=.d (.bool (cF s))):=by
 have hw:¬ (0<s.length∧s.length≤20∧bH s=s.length)→bO s=false:=fun h=>by
  cases hw:bO s with
  | false=>rfl
  | true =>
    refine absurd ?_ h
    simp only [bO,Bool.and_eq_true,decide_eq_true_eq] at hw
    exact ⟨kz (by simp only [bO,Bool.and_eq_true,decide_eq_true_eq];exact hw),hw.1.2,hw.2⟩
 have hwy:0<s.length→s.length≤20→bH s=s.length→bO s=true:=fun h1 h2 h3=>by
  simp only [bO,Bool.and_eq_true,decide_eq_true_eq]
  refine ⟨⟨?_,h2⟩,h3⟩
  cases s with
  | nil=>simp at h1
  | cons c r=>rfl
 refine al Tryz.func165 rfl (by decide +kernel) (by simp [Tryz.ntmps165]) (veil fun E=>?_)
 simp only [go_sem]
 refine aF E (fun h1=>?_) (fun h1=>?_)<;>simp only [go_sem]
 ·refine aF E (fun h2=>?_) (fun h2=>?_)<;>simp only [go_sem]
  ·refine ab E (x6 s hl) rfl rfl (by simp) ?_
   rintro _ rfl
   simp only [go_sem]
   refine aF E (fun h3=>?_) (fun h3=>?_)<;>simp only [go_sem]
   ·have hwt:=hwy (by omega) (by omega) (by omega)
    refine ⟨by omega,?_⟩
    refine ab E (nh (s.getD 0 0)) rfl rfl (by simp) ?_
    rintro _ rfl
    simp only [go_sem]
    refine bR E (fun h4=>?_) (fun h4=>?_)<;>simp only [go_sem]
    ·refine ab E (Fj s) rfl rfl (by simp) ?_
     rintro _ rfl
     simp only [go_sem]
     simp only [cF,hwt,h4,Bool.true_and]
    ·simp only [cF,hwt,h4,Bool.true_and,Bool.false_and]
   ·simp only [cF,hw (by omega),Bool.false_and]
  ·simp only [cF,hw (by omega),Bool.false_and]
 ·simp only [cF,hw (by omega),Bool.false_and]
theorem y3 {G} (s:List UInt8) (hl:s.length≤9223372036854775807):HP Tryz.prog G 166 [.str s] (fun r=>r=.d (.bool (jc s))):=by
 have hw:¬ (0<s.length∧s.length≤20∧bH s=s.length)→bO s=false:=fun h=>by
  cases hw:bO s with
  | false=>rfl
  | true =>
    refine absurd ?_ h
    simp only [bO,Bool.and_eq_true,decide_eq_true_eq] at hw
    exact ⟨kz (by simp only [bO,Bool.and_eq_true,decide_eq_true_eq];exact hw),hw.1.2,hw.2⟩
 have hwy:0<s.length→s.length≤20→bH s=s.length→bO s=true:=fun h1 h2 h3=>by
  simp only [bO,Bool.and_eq_true,decide_eq_true_eq]
  refine ⟨⟨?_,h2⟩,h3⟩
  cases s with
  | nil=>simp at h1
  | cons c r=>rfl
 refine al Tryz.func166 rfl (by decide +kernel) (by simp [Tryz.ntmps166]) (veil fun E=>?_)
 simp only [go_sem]
 refine aF E (fun h1=>?_) (fun h1=>?_)<;>simp only [go_sem]
 ·refine aF E (fun h2=>?_) (fun h2=>?_)<;>simp only [go_sem]
  ·refine ab E (x6 s hl) rfl rfl (by simp) ?_
   rintro _ rfl
   simp only [go_sem]
   refine aF E (fun h3=>?_) (fun h3=>?_)<;>simp only [go_sem]
   ·have hwt:=hwy (by omega) (by omega) (by omega)
    refine ⟨by omega,?_⟩
    refine ab E (nr (s.getD 0 0)) rfl rfl (by simp) ?_
    rintro _ rfl
    simp only [go_sem]
    simp only [jc,hwt,Bool.true_and]
   ·simp only [jc,hw (by omega),Bool.false_and]
  ·simp only [jc,hw (by omega),Bool.false_and]
 ·simp only [jc,hw (by omega),Bool.false_and]
theorem ED {G} (l:List (List UInt8)) (hl:l.length≤1000000):HP Tryz.prog G 232 [strs l] (fun r=>r=.d (.bool (twice l))):=by
 refine al Tryz.func232 rfl (by decide +kernel) (by simp [Tryz.ntmps232]) (veil fun E=>?_)
 unfold strs
 simp only [go_sem]
 refine cQ E (X:={ i:Nat // i≤l.length∧(l.take i).Nodup }) (fun x=>[(0,.d (.sl none (l.map .str))),(3,.d (i64 x.1))]) (fun x=>l.length-x.1) rfl ⟨0,by simp⟩ ?_ ?_
 ·simp only [go_sem]
  all_goals rfl
 rintro ⟨i,hi,hn⟩ E'
 simp only [go_sem]
 refine ai E' (fun h1=>?_) (fun h1=>?_)<;>simp only [go_sem]
 ·have hi':i<l.length:=by omega
  have hc:=xI (G:=G) (l.getD i []) (l.take i) (by simp only [List.length_take];omega)
  unfold strs at hc
  rw [List.map_take] at hc
  refine aj mixed E' fun X=>?_
  simp only [go_sem]
  refine ⟨⟨by omega,by omega⟩,?_⟩
  rw [kF hi']
  simp only [go_sem]
  refine ⟨⟨by omega,by omega⟩,?_⟩
  refine aZ X hc rfl (by first | rfl | (simp only [go_sem];done) | (simp;done)) (by simp) ?_
  simp only [go_sem]
  refine ⟨by decide +kernel,?_⟩
  refine ai E' (fun h2=>?_) (fun h2=>?_)<;>simp only [go_sem]
  ·rw [BG hi' h2]
  ·refine ⟨⟨i+1,by omega,yC hi' hn h2⟩,by show l.length-(i+1)<_;omega,by rw [ak ⟨by omega,by omega⟩];rfl⟩
 ·have hil:i=l.length:=by omega
  subst hil
  rw [List.take_length] at hn
  simp [twice,hn]
end Go.Proofs.YtejpnabbmgpmaaaGreat

namespace Go.Proofs.YtejpnabbmgpmaaaGreat
open Go.Ab
theorem Gd (l:List EF):decide (0<(l.length:Int))=!l.isEmpty:=by cases l<;>simp<;>omega
theorem Hk (s:List UInt8):decide (200<(s.length:Int))=!decide (s.length≤200):=by
 by_cases h:s.length≤200
 ·rw [decide_eq_true h,decide_eq_false (by omega)];rfl
 ·rw [decide_eq_false h,decide_eq_true (by omega)];rfl
theorem ID (m:Int):decide (m<1)=!decide (1≤m):=by
 by_cases h:1≤m
 ·rw [decide_eq_true h,decide_eq_false (by omega)];rfl
 ·rw [decide_eq_false h,decide_eq_true (by omega)];rfl
theorem KE (m:Int):decide (7<m)=!decide (m≤7):=by
 by_cases h:m≤7
 ·rw [decide_eq_true h,decide_eq_false (by omega)];rfl
 ·rw [decide_eq_false h,decide_eq_true (by omega)];rfl
theorem ux (n:EN) (hp:0≤n.pos∧n.pos≤1048576) (hk:1≤n.k∧n.k≤14) :
  aS n=(!(decide (¬n.k=1) && decide (¬n.k=2) && decide (¬n.k=10) && decide (¬n.n=0) || decide (¬n.k=3) && !n.s == [] || decide (¬n.k=11) && decide (¬n.k=14) && decide (0<(n.l.length:Int)))
   && (!(!(decide (n.k=5) || decide (n.k=12) || decide (n.k=13) || decide (n.k=14)) && !(decide (n.k=6) || decide (n.k=7) || decide (n.k=8) || decide (n.k=10)) && decide (¬n.k=9) && decide (¬n.a=0) || !(decide (n.k=6) || decide (n.k=7) || decide (n.k=8) || decide (n.k=10)) && decide (¬n.k=9) && decide (¬n.b=0) || decide (¬n.k=9) && decide (¬n.c=0))
   && (!((decide (n.k=4) || decide (n.k=5) || decide (n.k=7) || decide (n.k=8) || decide (n.k=12)) && !cF n.name || decide (n.k=13) && !jc n.name || !(decide (n.k=4) || decide (n.k=5) || decide (n.k=7) || decide (n.k=8) || decide (n.k=12)) && decide (¬n.k=13) && !n.name == [])
   && (!(decide (n.k=2) && decide (¬n.n=0) && decide (¬n.n=1) || decide (n.k=10) && (decide (n.n<1) || decide (7<n.n)) || decide (n.k=3) && decide (200<(n.s.length:Int)))
   && (decide (¬n.k=11) && decide (¬n.k=14) || bo n))))):=by
 have hr:aS n=(de n && bQ n && bo n && cP n):=by
  unfold aS
  rw [decide_eq_true hk.1,decide_eq_true hk.2,decide_eq_true hp.1,decide_eq_true hp.2]
  simp
 have hk':n.k=1∨n.k=2∨n.k=3∨n.k=4∨n.k=5∨n.k=6∨n.k=7∨n.k=8∨n.k=9∨n.k=10∨n.k=11∨n.k=12∨n.k=13∨n.k=14:=by omega
 rw [hr,Gd,Hk,ID,KE]
 clear hr hk hp
 obtain ⟨k,a,b,c,m,nm,s,l,p⟩:=n
 simp only [kx] at hk' ⊢
 unfold de bQ cP
 have hpt:∀ k,aG k=false→bo ⟨k,a,b,c,m,nm,s,l,p⟩=l.isEmpty:=fun k h=>by unfold bo;rw [h];rfl
 rcases hk' with rfl | rfl | rfl | rfl | rfl | rfl | rfl | rfl | rfl | rfl | rfl | rfl | rfl | rfl
 all_goals
  first | rw [hpt _ rfl] | skip
  try generalize bo _=y
  generalize s.isEmpty=b1
  generalize nm.isEmpty=b2
  try generalize l.isEmpty=b3
  try generalize cF nm=b4
  try generalize jc nm=b5
  simp [aI]
  first | done | ac_rfl | (generalize decide (m=0)=d0;generalize decide (m=1)=d1;cases d0<;>cases d1<;>simp<;>ac_rfl) | (generalize decide (1≤m)=d0;generalize decide (m≤7)=d1;cases d0<;>cases d1<;>simp<;>ac_rfl)
end Go.Proofs.YtejpnabbmgpmaaaGreat

namespace Go.Proofs.YtejpnabbmgpmaaaGreat
open Go.Ab
theorem se {P:Program} {cf:Cf} {Φ:Exit→Act→World→Prop} {I:Base→List Deferred→Prop} {k:List It} {s:St} (fr:List (Nat × AV)) (hp:List (Name × Ob)) (u:List Nat) (hle:LeL cf.U id s fr hp u) (h:ARY P cf Φ I k (mk fr hp u)):ARY P cf Φ I k s:=by
 intro B hB ds β a w hds hI hs
 obtain ⟨β2,hs2,_⟩:=hs.le (τ:=id) (by rw [hB.2.1];exact hle.le)
 exact h B hB ds β2 a w hds hI hs2
theorem BJ {G} (n:EN) (h:¬ (1≤n.k∧n.k≤14∧0≤n.pos∧n.pos≤1048576)):HP Tryz.prog G 117 [enD n] (fun r=>r=.d (.bool (aS n))):=by
 have:(decide (1≤n.k) && decide (n.k≤14) && decide (0≤n.pos) && decide (n.pos≤1048576))=false:=by
  rw [Bool.eq_false_iff]
  intro hc
  simp only [Bool.and_eq_true,decide_eq_true_eq] at hc
  omega
 have hr:aS n=false:=by rw [aS,this,Bool.false_and]
 rw [hr]
 unfold enD efD
 refine al Tryz.func117 rfl (by decide +kernel) (by simp [Tryz.ntmps117]) (veil fun E=>?_)
 simp only [go_sem]
 repeat (first
  | (apply bC E;(· simp only [go_sem]);(· intro h;(try simp only [bq] at h);simp only [↓h,go_sem];rfl);simp only [go_sem])
  | (apply aW E;(· simp only [go_sem]);(· intro h;(try simp only [bq] at h);simp only [↓h,go_sem];rfl);(· intro h;(try simp only [bq] at h);simp only [↓h,go_sem];rfl);simp only [go_sem])
  | (apply aX E;(· simp only [go_sem]);(· rfl);(· intro h h';(try simp only [bq] at h h');simp only [↓h,↓h',go_sem];rfl);simp only [go_sem])
  | (apply aH E;(· simp only [go_sem]);(· rfl);(· intro h h';(try simp only [bq] at h h');simp only [↓h,↓h',go_sem];rfl);(· intro h h';(try simp only [bq] at h h');simp only [↓h,↓h',go_sem];rfl);simp only [go_sem])
  | (apply bz E;(· decide);simp only [go_sem]))
 refine aR E (fun _=>?_) (fun g=>absurd ?_ h)
 ·simp only [go_sem]
 ·simp only [Bool.or_eq_false_iff,decide_eq_false_iff_not] at g
  omega
set_option maxRecDepth 10000 in
set_option maxHeartbeats 4000000 in
theorem Fx {G} (n:EN) (h:n.name.length≤BIG) (hp:0≤n.pos∧n.pos≤1048576) (hk:1≤n.k∧n.k≤14) (c3:n.k=11∨n.k=14→HP Tryz.prog G 167 [enD n] (fun r=>r=.d (.bool (bo n)))) :
  HP Tryz.prog G 117 [enD n] (fun r=>r=.d (.bool (aS n))):=by
 have c1:=rI (G:=G) n.name h
 have c2:=y3 (G:=G) n.name h
 have hP:=ux n hp hk
 unfold enD efD at *
 refine ir Tryz.func117 rfl (by decide +kernel) (by simp [Tryz.ntmps117]) fun B0 hB0=>?_
 refine aC (an fun E=>?_)
 simp only [go_sem]
 refine aC (an fun E=>?_)
 simp only [go_sem]
 repeat (first
  | (apply bC E;(· simp only [go_sem]);(· intro h;(try simp only [bq] at h);simp only [↓h,go_sem];rfl);simp only [go_sem])
  | (apply aW E;(· simp only [go_sem]);(· intro h;(try simp only [bq] at h);simp only [↓h,go_sem];rfl);(· intro h;(try simp only [bq] at h);simp only [↓h,go_sem];rfl);simp only [go_sem])
  | (apply aX E;(· simp only [go_sem]);(· rfl);(· intro h h';(try simp only [bq] at h h');simp only [↓h,↓h',go_sem];rfl);simp only [go_sem])
  | (apply aH E;(· simp only [go_sem]);(· rfl);(· intro h h';(try simp only [bq] at h h');simp only [↓h,↓h',go_sem];rfl);(· intro h h';(try simp only [bq] at h h');simp only [↓h,↓h',go_sem];rfl);simp only [go_sem])
  | (apply bz E;(· decide);simp only [go_sem]))
 refine aR E (fun g=>absurd (show n.pos<0∨1048576<n.pos∨n.k<1∨14<n.k by simpa [or_assoc] using g) (by omega)) (fun _=>?_)
 simp only [go_sem]
 refine se [(1,.at [1] 0),(2,.d (.bool false))] [([1],.box [.d (i64 n.k),.d (i64 n.a),.d (i64 n.b),.d (i64 n.c),.d (i64 n.n),.d (.str n.name),.d (.str n.s),.d (.sl (some 3) (n.l.map fD)),.d (i64 n.pos)])] [1] (by simp only [go_sem]) ?_
 refine aC (an fun E=>?_)
 simp only [go_sem]
 refine se [(1,.at [1] 0),(2,.d (.bool false)),(3,.d (i64 n.k))] [([1],.box [.d (i64 n.k),.d (i64 n.a),.d (i64 n.b),.d (i64 n.c),.d (i64 n.n),.d (.str n.name),.d (.str n.s),.d (.sl (some 3) (n.l.map fD)),.d (i64 n.pos)])] [1] (by simp only [go_sem]) ?_
 refine aC (an fun E=>?_)
 simp only [go_sem]
 repeat (first
  | (apply bC E;(· simp only [go_sem]);(· intro h;(try simp only [bq] at h);simp only [↓h,go_sem];rfl);simp only [go_sem])
  | (apply aW E;(· simp only [go_sem]);(· intro h;(try simp only [bq] at h);simp only [↓h,go_sem];rfl);(· intro h;(try simp only [bq] at h);simp only [↓h,go_sem];rfl);simp only [go_sem])
  | (apply aX E;(· simp only [go_sem]);(· rfl);(· intro h h';(try simp only [bq] at h h');simp only [↓h,↓h',go_sem];rfl);simp only [go_sem])
  | (apply aH E;(· simp only [go_sem]);(· rfl);(· intro h h';(try simp only [bq] at h h');simp only [↓h,↓h',go_sem];rfl);(· intro h h';(try simp only [bq] at h h');simp only [↓h,↓h',go_sem];rfl);simp only [go_sem])
  | (apply bz E;(· decide);simp only [go_sem]))
 refine aR E (fun g=>?_) (fun g=>?_)
 ·simp only [go_sem]
  refine fF (.inl rfl) hB0 ?_
  simp only [go_sem]
  refine ⟨[],?_⟩
  simp only [go_sem]
  rw [hP,g];simp
 simp only [go_sem]
 refine se [(1,.at [1] 0),(2,.d (.bool false)),(3,.d (i64 n.k))] [([1],.box [.d (i64 n.k),.d (i64 n.a),.d (i64 n.b),.d (i64 n.c),.d (i64 n.n),.d (.str n.name),.d (.str n.s),.d (.sl (some 3) (n.l.map fD)),.d (i64 n.pos)])] [1] (by simp only [go_sem]) ?_
 refine aC (an fun E=>?_)
 simp only [go_sem]
 repeat (first
  | (apply bC E;(· simp only [go_sem]);(· intro h;(try simp only [bq] at h);simp only [↓h,go_sem];rfl);simp only [go_sem])
  | (apply aW E;(· simp only [go_sem]);(· intro h;(try simp only [bq] at h);simp only [↓h,go_sem];rfl);(· intro h;(try simp only [bq] at h);simp only [↓h,go_sem];rfl);simp only [go_sem])
  | (apply aX E;(· simp only [go_sem]);(· rfl);(· intro h h';(try simp only [bq] at h h');simp only [↓h,↓h',go_sem];rfl);simp only [go_sem])
  | (apply aH E;(· simp only [go_sem]);(· rfl);(· intro h h';(try simp only [bq] at h h');simp only [↓h,↓h',go_sem];rfl);(· intro h h';(try simp only [bq] at h h');simp only [↓h,↓h',go_sem];rfl);simp only [go_sem])
  | (apply bz E;(· decide);simp only [go_sem]))
 refine se [(1,.at [1] 0),(2,.d (.bool false)),(3,.d (i64 n.k)),(4,.d (.bool (decide (n.k=5) || decide (n.k=12) || decide (n.k=13) || decide (n.k=14))))] [([1],.box [.d (i64 n.k),.d (i64 n.a),.d (i64 n.b),.d (i64 n.c),.d (i64 n.n),.d (.str n.name),.d (.str n.s),.d (.sl (some 3) (n.l.map fD)),.d (i64 n.pos)])] [1] (by simp only [go_sem]) ?_
 refine aC (an fun E=>?_)
 simp only [go_sem]
 repeat (first
  | (apply bC E;(· simp only [go_sem]);(· intro h;(try simp only [bq] at h);simp only [↓h,go_sem];rfl);simp only [go_sem])
  | (apply aW E;(· simp only [go_sem]);(· intro h;(try simp only [bq] at h);simp only [↓h,go_sem];rfl);(· intro h;(try simp only [bq] at h);simp only [↓h,go_sem];rfl);simp only [go_sem])
  | (apply aX E;(· simp only [go_sem]);(· rfl);(· intro h h';(try simp only [bq] at h h');simp only [↓h,↓h',go_sem];rfl);simp only [go_sem])
  | (apply aH E;(· simp only [go_sem]);(· rfl);(· intro h h';(try simp only [bq] at h h');simp only [↓h,↓h',go_sem];rfl);(· intro h h';(try simp only [bq] at h h');simp only [↓h,↓h',go_sem];rfl);simp only [go_sem])
  | (apply bz E;(· decide);simp only [go_sem]))
 obtain ⟨one,h1⟩:∃ b,b=(decide (n.k=5) || decide (n.k=12) || decide (n.k=13) || decide (n.k=14)):=⟨_,rfl⟩
 obtain ⟨two,h2⟩:∃ b,b=(decide (n.k=6) || decide (n.k=7) || decide (n.k=8) || decide (n.k=10)):=⟨_,rfl⟩
 refine se [(1,.at [1] 0),(2,.d (.bool false)),(3,.d (i64 n.k)),(4,.d (.bool (decide (n.k=5) || decide (n.k=12) || decide (n.k=13) || decide (n.k=14)))),(5,.d (.bool (decide (n.k=6) || decide (n.k=7) || decide (n.k=8) || decide (n.k=10))))] [([1],.box [.d (i64 n.k),.d (i64 n.a),.d (i64 n.b),.d (i64 n.c),.d (i64 n.n),.d (.str n.name),.d (.str n.s),.d (.sl (some 3) (n.l.map fD)),.d (i64 n.pos)])] [1] (by simp only [go_sem]) ?_
 rw [← h1,← h2]
 refine aC (an fun E=>?_)
 simp only [go_sem]
 repeat (first
  | (apply bC E;(· simp only [go_sem]);(· intro h;(try simp only [bq] at h);simp only [↓h,go_sem];rfl);simp only [go_sem])
  | (apply aW E;(· simp only [go_sem]);(· intro h;(try simp only [bq] at h);simp only [↓h,go_sem];rfl);(· intro h;(try simp only [bq] at h);simp only [↓h,go_sem];rfl);simp only [go_sem])
  | (apply aX E;(· simp only [go_sem]);(· rfl);(· intro h h';(try simp only [bq] at h h');simp only [↓h,↓h',go_sem];rfl);simp only [go_sem])
  | (apply aH E;(· simp only [go_sem]);(· rfl);(· intro h h';(try simp only [bq] at h h');simp only [↓h,↓h',go_sem];rfl);(· intro h h';(try simp only [bq] at h h');simp only [↓h,↓h',go_sem];rfl);simp only [go_sem])
  | (apply bz E;(· decide);simp only [go_sem]))
 refine aR E (fun g3=>?_) (fun g3=>?_)
 ·simp only [go_sem]
  refine fF (.inl rfl) hB0 ?_
  simp only [go_sem]
  refine ⟨[],?_⟩
  simp only [go_sem]
  rw [hP,← h1,← h2,g3];simp
 simp only [go_sem]
 refine se [(1,.at [1] 0),(2,.d (.bool false)),(3,.d (i64 n.k))] [([1],.box [.d (i64 n.k),.d (i64 n.a),.d (i64 n.b),.d (i64 n.c),.d (i64 n.n),.d (.str n.name),.d (.str n.s),.d (.sl (some 3) (n.l.map fD)),.d (i64 n.pos)])] [1] (by simp only [go_sem]) ?_
 refine aC (an fun E=>?_)
 simp only [go_sem]
 repeat (first
  | (apply bC E;(· simp only [go_sem]);(· intro h;(try simp only [bq] at h);simp only [↓h,go_sem];rfl);simp only [go_sem])
  | (apply aW E;(· simp only [go_sem]);(· intro h;(try simp only [bq] at h);simp only [↓h,go_sem];rfl);(· intro h;(try simp only [bq] at h);simp only [↓h,go_sem];rfl);simp only [go_sem])
  | (apply aX E;(· simp only [go_sem]);(· rfl);(· intro h h';(try simp only [bq] at h h');simp only [↓h,↓h',go_sem];rfl);simp only [go_sem])
  | (apply aH E;(· simp only [go_sem]);(· rfl);(· intro h h';(try simp only [bq] at h h');simp only [↓h,↓h',go_sem];rfl);(· intro h h';(try simp only [bq] at h h');simp only [↓h,↓h',go_sem];rfl);simp only [go_sem])
  | (apply bz E;(· decide);simp only [go_sem]))
 obtain ⟨six,h6⟩:∃ b,b=(decide (n.k=4) || decide (n.k=5) || decide (n.k=7) || decide (n.k=8) || decide (n.k=12)):=⟨_,rfl⟩
 refine se [(1,.at [1] 0),(2,.d (.bool false)),(3,.d (i64 n.k)),(6,.d (.bool (decide (n.k=4) || decide (n.k=5) || decide (n.k=7) || decide (n.k=8) || decide (n.k=12))))] [([1],.box [.d (i64 n.k),.d (i64 n.a),.d (i64 n.b),.d (i64 n.c),.d (i64 n.n),.d (.str n.name),.d (.str n.s),.d (.sl (some 3) (n.l.map fD)),.d (i64 n.pos)])] [1] (by simp only [go_sem]) ?_
 rw [← h6]
 refine aC (an fun E=>?_)
 simp only [go_sem]
 repeat (first
  | (apply bC E;(· simp only [go_sem]);(· intro h;(try simp only [bq] at h);simp only [↓h,go_sem];rfl);simp only [go_sem])
  | (apply aW E;(· simp only [go_sem]);(· intro h;(try simp only [bq] at h);simp only [↓h,go_sem];rfl);(· intro h;(try simp only [bq] at h);simp only [↓h,go_sem];rfl);simp only [go_sem])
  | (apply aX E;(· simp only [go_sem]);(· rfl);(· intro h h';(try simp only [bq] at h h');simp only [↓h,↓h',go_sem];rfl);simp only [go_sem])
  | (apply aH E;(· simp only [go_sem]);(· rfl);(· intro h h';(try simp only [bq] at h h');simp only [↓h,↓h',go_sem];rfl);(· intro h h';(try simp only [bq] at h h');simp only [↓h,↓h',go_sem];rfl);simp only [go_sem])
  | (apply bz E;(· decide);simp only [go_sem]))
 (first | (apply iE E;(· simp only [go_sem]);(· intro h hk;(try simp only [bq] at h);refine ab E (c1) rfl (by simp only [↓h,go_sem]<;>rfl) (by simp) ?_;rintro _ rfl;exact hk);simp only [go_sem]) | (apply fk E;(· simp only [go_sem]);(· rfl);(· intro h h' hk;(try simp only [bq] at h h');refine ab E (c1) rfl (by simp only [↓h,↓h',go_sem]<;>rfl) (by simp) ?_;rintro _ rfl;exact hk);simp only [go_sem]))
 repeat (first
  | (apply bC E;(· simp only [go_sem]);(· intro h;(try simp only [bq] at h);simp only [↓h,go_sem];rfl);simp only [go_sem])
  | (apply aW E;(· simp only [go_sem]);(· intro h;(try simp only [bq] at h);simp only [↓h,go_sem];rfl);(· intro h;(try simp only [bq] at h);simp only [↓h,go_sem];rfl);simp only [go_sem])
  | (apply aX E;(· simp only [go_sem]);(· rfl);(· intro h h';(try simp only [bq] at h h');simp only [↓h,↓h',go_sem];rfl);simp only [go_sem])
  | (apply aH E;(· simp only [go_sem]);(· rfl);(· intro h h';(try simp only [bq] at h h');simp only [↓h,↓h',go_sem];rfl);(· intro h h';(try simp only [bq] at h h');simp only [↓h,↓h',go_sem];rfl);simp only [go_sem])
  | (apply bz E;(· decide);simp only [go_sem]))
 (first | (apply iE E;(· simp only [go_sem]);(· intro h hk;(try simp only [bq] at h);refine ab E (c2) rfl (by simp only [↓h,go_sem]<;>rfl) (by simp) ?_;rintro _ rfl;exact hk);simp only [go_sem]) | (apply fk E;(· simp only [go_sem]);(· rfl);(· intro h h' hk;(try simp only [bq] at h h');refine ab E (c2) rfl (by simp only [↓h,↓h',go_sem]<;>rfl) (by simp) ?_;rintro _ rfl;exact hk);simp only [go_sem]))
 repeat (first
  | (apply bC E;(· simp only [go_sem]);(· intro h;(try simp only [bq] at h);simp only [↓h,go_sem];rfl);simp only [go_sem])
  | (apply aW E;(· simp only [go_sem]);(· intro h;(try simp only [bq] at h);simp only [↓h,go_sem];rfl);(· intro h;(try simp only [bq] at h);simp only [↓h,go_sem];rfl);simp only [go_sem])
  | (apply aX E;(· simp only [go_sem]);(· rfl);(· intro h h';(try simp only [bq] at h h');simp only [↓h,↓h',go_sem];rfl);simp only [go_sem])
  | (apply aH E;(· simp only [go_sem]);(· rfl);(· intro h h';(try simp only [bq] at h h');simp only [↓h,↓h',go_sem];rfl);(· intro h h';(try simp only [bq] at h h');simp only [↓h,↓h',go_sem];rfl);simp only [go_sem])
  | (apply bz E;(· decide);simp only [go_sem]))
 refine aR E (fun g4=>?_) (fun g4=>?_)
 ·simp only [go_sem]
  refine fF (.inl rfl) hB0 ?_
  simp only [go_sem]
  refine ⟨[],?_⟩
  simp only [go_sem]
  rw [hP,← h6,g4];simp
 simp only [go_sem]
 refine se [(1,.at [1] 0),(2,.d (.bool false)),(3,.d (i64 n.k))] [([1],.box [.d (i64 n.k),.d (i64 n.a),.d (i64 n.b),.d (i64 n.c),.d (i64 n.n),.d (.str n.name),.d (.str n.s),.d (.sl (some 3) (n.l.map fD)),.d (i64 n.pos)])] [1] (by simp only [go_sem]) ?_
 refine aC (an fun E=>?_)
 simp only [go_sem]
 repeat (first
  | (apply bC E;(· simp only [go_sem]);(· intro h;(try simp only [bq] at h);simp only [↓h,go_sem];rfl);simp only [go_sem])
  | (apply aW E;(· simp only [go_sem]);(· intro h;(try simp only [bq] at h);simp only [↓h,go_sem];rfl);(· intro h;(try simp only [bq] at h);simp only [↓h,go_sem];rfl);simp only [go_sem])
  | (apply aX E;(· simp only [go_sem]);(· rfl);(· intro h h';(try simp only [bq] at h h');simp only [↓h,↓h',go_sem];rfl);simp only [go_sem])
  | (apply aH E;(· simp only [go_sem]);(· rfl);(· intro h h';(try simp only [bq] at h h');simp only [↓h,↓h',go_sem];rfl);(· intro h h';(try simp only [bq] at h h');simp only [↓h,↓h',go_sem];rfl);simp only [go_sem])
  | (apply bz E;(· decide);simp only [go_sem]))
 refine aR E (fun g5=>?_) (fun g5=>?_)
 ·simp only [go_sem]
  refine fF (.inl rfl) hB0 ?_
  simp only [go_sem]
  refine ⟨[],?_⟩
  simp only [go_sem]
  rw [hP,g5];simp
 simp only [go_sem]
 refine se [(1,.at [1] 0),(2,.d (.bool false)),(3,.d (i64 n.k))] [([1],.box [.d (i64 n.k),.d (i64 n.a),.d (i64 n.b),.d (i64 n.c),.d (i64 n.n),.d (.str n.name),.d (.str n.s),.d (.sl (some 3) (n.l.map fD)),.d (i64 n.pos)])] [1] (by simp only [go_sem]) ?_
 refine an fun E=>?_
 simp only [go_sem]
 repeat (first
  | (apply bC E;(· simp only [go_sem]);(· intro h;(try simp only [bq] at h);simp only [↓h,go_sem];rfl);simp only [go_sem])
  | (apply aW E;(· simp only [go_sem]);(· intro h;(try simp only [bq] at h);simp only [↓h,go_sem];rfl);(· intro h;(try simp only [bq] at h);simp only [↓h,go_sem];rfl);simp only [go_sem])
  | (apply aX E;(· simp only [go_sem]);(· rfl);(· intro h h';(try simp only [bq] at h h');simp only [↓h,↓h',go_sem];rfl);simp only [go_sem])
  | (apply aH E;(· simp only [go_sem]);(· rfl);(· intro h h';(try simp only [bq] at h h');simp only [↓h,↓h',go_sem];rfl);(· intro h h';(try simp only [bq] at h h');simp only [↓h,↓h',go_sem];rfl);simp only [go_sem])
  | (apply bz E;(· decide);simp only [go_sem]))
 rw [← h1,← h2,← h6,g,g3,g4,g5] at hP
 simp only [Bool.not_false,Bool.true_and] at hP
 refine bR E (fun k1=>?_) (fun k1=>?_)
 ·simp only [go_sem]
  refine fF (.inl rfl) hB0 ?_
  simp only [go_sem]
  refine ⟨[],?_⟩
  simp only [go_sem]
  rw [hP,k1,Bool.true_or]
 ·have k2:n.k=11∨n.k=14:=by
   rw [Bool.and_eq_false_iff] at k1
   simpa using k1
  rw [k1,Bool.false_or] at hP
  have c4:=c3 k2
  generalize bo n=y at c4 hP
  simp only [go_sem]
  refine ab E c4 rfl (by (simp only [↓k1,go_sem])<;>rfl) (by simp) ?_
  rintro _ rfl
  simp only [go_sem]
  refine fF (.inl rfl) hB0 ?_
  simp only [go_sem]
  refine ⟨[],?_⟩
  simp only [go_sem]
  rw [hP]
end Go.Proofs.YtejpnabbmgpmaaaGreat

namespace Go.Proofs.YtejpnabbmgpmaaaGreat
open Go.Ab
theorem uH {k:Int} {f:EF} (hk:k=11∨k=14):(decide (k=11) && (!cF f.nm || !f.var == []) || decide (k=14) && (!jc f.nm || !cF f.var))=!eD k f:=by
 unfold eD
 rw [kx]
 rcases hk with rfl | rfl<;>simp
theorem u7 {p:EF→Bool} {l:List EF} {i:Nat} (h:i<l.length) (hb:p l[i]=false):l.all p=false:=List.all_eq_false.2 ⟨_,List.getElem_mem h,by rw [hb];decide⟩
set_option maxHeartbeats 4000000 in
theorem FV {G} (n:EN) (h:ff BIG n) (hk:n.k=11∨n.k=14):HP Tryz.prog G 167 [enD n] (fun r=>r=.d (.bool (bo n))):=by
 have hpz:aG n.k=true:=by rcases hk with e | e<;>rw [e]<;>rfl
 generalize hb:bo n=b
 unfold bo at hb
 rw [if_pos hpz] at hb
 have hl:=h.l
 unfold enD efD
 refine al Tryz.func167 rfl (by decide +kernel) (by simp [Tryz.ntmps167]) (veil fun E=>?_)
 simp only [go_sem]
 refine aE E (X:={ i:Nat // i≤n.l.length∧(n.l.take i).all (eD n.k)=true }) (fun x=>[(1,.at [1] 0),(3,.vw [6] 0 x.1),(4,.d (i64 x.1))])
  (fun x=>[([1],.box [.d (i64 n.k),.d (i64 n.a),.d (i64 n.b),.d (i64 n.c),.d (i64 n.n),.d (.str n.name),.d (.str n.s),.d (.sl (some 3) (n.l.map fD)),.d (i64 n.pos)]),([6],.arr none ((n.l.take x.1).map fun f=>.str f.nm))]) [1,6] (fun x=>n.l.length-x.1) ⟨0,by simp⟩ id ?_ ?_
 ·simp only [go_sem]
  all_goals rfl
 rintro ⟨i,hi,hall⟩ E0
 refine aT E0 fun Q' hQ E'=>?_
 simp only at hi hall ⊢
 simp only [go_sem]
 refine ai E' (fun g1=>?_) (fun g1=>?_)<;>simp only [go_sem]
 ·have hi':i<n.l.length:=by omega
  refine ⟨⟨by omega,by omega⟩,?_⟩
  rw [sB hi']
  simp only [go_sem]
  obtain ⟨q1,q2⟩:=h.f _ (List.getElem_mem hi')
  obtain ⟨f,hf⟩:∃ f,f=n.l[i]:=⟨_,rfl⟩
  have hst:=p9 (p:=eD n.k) hi' hall
  have hno:=u7 (p:=eD n.k) hi'
  have hts:(n.l.take (i+1)).map (fun f:EF=>D.str f.nm)=(n.l.take i).map (fun f:EF=>D.str f.nm)++[.str f.nm]:=by
   rw [List.take_succ_eq_append_getElem hi',List.map_append,← hf];rfl
  rw [← hf] at q1 q2 hst hno ⊢
  have c1:=rI (G:=G) f.nm q1
  have c2:=y3 (G:=G) f.nm q1
  have c3:=rI (G:=G) f.var q2
  repeat (first
   | (apply bC E';(· simp only [go_sem]);(· intro h;(try simp only [bq] at h);simp only [↓h,go_sem];rfl);simp only [go_sem])
   | (apply aW E';(· simp only [go_sem]);(· intro h;(try simp only [bq] at h);simp only [↓h,go_sem];rfl);(· intro h;(try simp only [bq] at h);simp only [↓h,go_sem];rfl);simp only [go_sem])
   | (apply aX E';(· simp only [go_sem]);(· rfl);(· intro h h';(try simp only [bq] at h h');simp only [↓h,↓h',go_sem];rfl);simp only [go_sem])
   | (apply aH E';(· simp only [go_sem]);(· rfl);(· intro h h';(try simp only [bq] at h h');simp only [↓h,↓h',go_sem];rfl);(· intro h h';(try simp only [bq] at h h');simp only [↓h,↓h',go_sem];rfl);simp only [go_sem])
   | (apply bz E';(· decide);simp only [go_sem]))
  (first | (apply iE E';(· simp only [go_sem]);(· intro h hk;(try simp only [bq] at h);refine ab E' (c1) rfl (by simp only [↓h,go_sem]<;>rfl) (by simp) ?_;rintro _ rfl;exact hk);simp only [go_sem]) | (apply fk E';(· simp only [go_sem]);(· rfl);(· intro h h' hk;(try simp only [bq] at h h');refine ab E' (c1) rfl (by simp only [↓h,↓h',go_sem]<;>rfl) (by simp) ?_;rintro _ rfl;exact hk);simp only [go_sem]))
  repeat (first
   | (apply bC E';(· simp only [go_sem]);(· intro h;(try simp only [bq] at h);simp only [↓h,go_sem];rfl);simp only [go_sem])
   | (apply aW E';(· simp only [go_sem]);(· intro h;(try simp only [bq] at h);simp only [↓h,go_sem];rfl);(· intro h;(try simp only [bq] at h);simp only [↓h,go_sem];rfl);simp only [go_sem])
   | (apply aX E';(· simp only [go_sem]);(· rfl);(· intro h h';(try simp only [bq] at h h');simp only [↓h,↓h',go_sem];rfl);simp only [go_sem])
   | (apply aH E';(· simp only [go_sem]);(· rfl);(· intro h h';(try simp only [bq] at h h');simp only [↓h,↓h',go_sem];rfl);(· intro h h';(try simp only [bq] at h h');simp only [↓h,↓h',go_sem];rfl);simp only [go_sem])
   | (apply bz E';(· decide);simp only [go_sem]))
  (first | (apply iE E';(· simp only [go_sem]);(· intro h hk;(try simp only [bq] at h);refine ab E' (c2) rfl (by simp only [↓h,go_sem]<;>rfl) (by simp) ?_;rintro _ rfl;exact hk);simp only [go_sem]) | (apply fk E';(· simp only [go_sem]);(· rfl);(· intro h h' hk;(try simp only [bq] at h h');refine ab E' (c2) rfl (by simp only [↓h,↓h',go_sem]<;>rfl) (by simp) ?_;rintro _ rfl;exact hk);simp only [go_sem]))
  repeat (first
   | (apply bC E';(· simp only [go_sem]);(· intro h;(try simp only [bq] at h);simp only [↓h,go_sem];rfl);simp only [go_sem])
   | (apply aW E';(· simp only [go_sem]);(· intro h;(try simp only [bq] at h);simp only [↓h,go_sem];rfl);(· intro h;(try simp only [bq] at h);simp only [↓h,go_sem];rfl);simp only [go_sem])
   | (apply aX E';(· simp only [go_sem]);(· rfl);(· intro h h';(try simp only [bq] at h h');simp only [↓h,↓h',go_sem];rfl);simp only [go_sem])
   | (apply aH E';(· simp only [go_sem]);(· rfl);(· intro h h';(try simp only [bq] at h h');simp only [↓h,↓h',go_sem];rfl);(· intro h h';(try simp only [bq] at h h');simp only [↓h,↓h',go_sem];rfl);simp only [go_sem])
   | (apply bz E';(· decide);simp only [go_sem]))
  (first | (apply iE E';(· simp only [go_sem]);(· intro h hk;(try simp only [bq] at h);refine ab E' (c3) rfl (by simp only [↓h,go_sem]<;>rfl) (by simp) ?_;rintro _ rfl;exact hk);simp only [go_sem]) | (apply fk E';(· simp only [go_sem]);(· rfl);(· intro h h' hk;(try simp only [bq] at h h');refine ab E' (c3) rfl (by simp only [↓h,↓h',go_sem]<;>rfl) (by simp) ?_;rintro _ rfl;exact hk);simp only [go_sem]))
  repeat (first
   | (apply bC E';(· simp only [go_sem]);(· intro h;(try simp only [bq] at h);simp only [↓h,go_sem];rfl);simp only [go_sem])
   | (apply aW E';(· simp only [go_sem]);(· intro h;(try simp only [bq] at h);simp only [↓h,go_sem];rfl);(· intro h;(try simp only [bq] at h);simp only [↓h,go_sem];rfl);simp only [go_sem])
   | (apply aX E';(· simp only [go_sem]);(· rfl);(· intro h h';(try simp only [bq] at h h');simp only [↓h,↓h',go_sem];rfl);simp only [go_sem])
   | (apply aH E';(· simp only [go_sem]);(· rfl);(· intro h h';(try simp only [bq] at h h');simp only [↓h,↓h',go_sem];rfl);(· intro h h';(try simp only [bq] at h h');simp only [↓h,↓h',go_sem];rfl);simp only [go_sem])
   | (apply bz E';(· decide);simp only [go_sem]))
  refine aR E' (fun g2=>?_) (fun g2=>?_)
  ·simp only [go_sem]
   rw [hQ]
   simp only [go_sem]
   rw [uH hk] at g2
   rw [hno (by simpa using g2),Bool.false_and] at hb
   rw [← hb]
  ·simp only [go_sem]
   rw [uH hk] at g2
   refine ⟨by omega,?_⟩
   rw [ak ⟨by omega,by omega⟩,List.take_of_length_le (l:=List.map (fun f:EF=>D.str f.nm) _) (by simp;omega),← hts]
   rw [hQ]
   simp only [go_sem]
   refine ⟨⟨i+1,by omega,hst (by simpa using g2)⟩,by show n.l.length-(i+1)<_;omega,tau [([6],[54])],?_⟩
   simp only [go_sem]
   all_goals rfl
 ·rw [hQ]
  have h3:i=n.l.length:=by omega
  subst h3
  rw [List.take_length] at *
  rw [hall,Bool.true_and] at hb
  simp only [go_sem]
  repeat (first
   | (apply bC E;(· simp only [go_sem]);(· intro h;(try simp only [bq] at h);simp only [↓h,go_sem];rfl);simp only [go_sem])
   | (apply aW E;(· simp only [go_sem]);(· intro h;(try simp only [bq] at h);simp only [↓h,go_sem];rfl);(· intro h;(try simp only [bq] at h);simp only [↓h,go_sem];rfl);simp only [go_sem])
   | (apply aX E;(· simp only [go_sem]);(· rfl);(· intro h h';(try simp only [bq] at h h');simp only [↓h,↓h',go_sem];rfl);simp only [go_sem])
   | (apply aH E;(· simp only [go_sem]);(· rfl);(· intro h h';(try simp only [bq] at h h');simp only [↓h,↓h',go_sem];rfl);(· intro h h';(try simp only [bq] at h h');simp only [↓h,↓h',go_sem];rfl);simp only [go_sem])
   | (apply bz E;(· decide);simp only [go_sem]))
  refine bR E (fun k3=>?_) (fun k3=>?_)<;>simp only [go_sem]
  ·have ht:=ED (G:=G) (n.l.map (·.nm)) (by rw [List.length_map];exact hl)
   unfold strs at ht
   rw [List.map_map,show (D.str ∘ fun f:EF=>f.nm)=fun f=>D.str f.nm from rfl] at ht
   rw [ia,ia]
   refine ni E [([6],none,n.l.map fun f=>.str f.nm)] ht (by rintro _ rfl;rfl) (by simp only [go_sem]) rfl (by (simp only [↓k3,go_sem])<;>first | rfl | done) (by simp) ?_
   rintro _ rfl
   simp only [go_sem]
   repeat (first
    | (apply bC E;(· simp only [go_sem]);(· intro h;(try simp only [bq] at h);simp only [↓h,go_sem];rfl);simp only [go_sem])
    | (apply aW E;(· simp only [go_sem]);(· intro h;(try simp only [bq] at h);simp only [↓h,go_sem];rfl);(· intro h;(try simp only [bq] at h);simp only [↓h,go_sem];rfl);simp only [go_sem])
    | (apply aX E;(· simp only [go_sem]);(· rfl);(· intro h h';(try simp only [bq] at h h');simp only [↓h,↓h',go_sem];rfl);simp only [go_sem])
    | (apply aH E;(· simp only [go_sem]);(· rfl);(· intro h h';(try simp only [bq] at h h');simp only [↓h,↓h',go_sem];rfl);(· intro h h';(try simp only [bq] at h h');simp only [↓h,↓h',go_sem];rfl);simp only [go_sem])
    | (apply bz E;(· decide);simp only [go_sem]))
   rw [← hb,show (decide ((if n.k=14 then 1 else 0)≤n.l.length) && decide (n.l.length≤30))=true by
    simp only [Bool.and_eq_true,Bool.or_eq_true,decide_eq_true_eq] at k3 ⊢
    refine ⟨?_,by omega⟩
    split<;>omega,Bool.true_and]
   simp [twice]
  ·rw [← hb,show (decide ((if n.k=14 then 1 else 0)≤n.l.length) && decide (n.l.length≤30))=false by
    rw [Bool.eq_false_iff] at k3 ⊢
    intro hc
    apply k3
    simp only [Bool.and_eq_true,Bool.or_eq_true,decide_eq_true_eq] at hc ⊢
    refine ⟨by omega,?_⟩
    rcases hk with e | e
    ·exact .inl e
    ·rw [if_pos e] at hc;exact .inr (by omega),Bool.false_and]
theorem F2 {G} (n:EN) (h:ff BIG n):HP Tryz.prog G 117 [enD n] (fun r=>r=.d (.bool (aS n))):=by
 by_cases g:1≤n.k∧n.k≤14∧0≤n.pos∧n.pos≤1048576
 ·exact Fx n h.nm g.2.2 ⟨g.1,g.2.1⟩ (FV n h)
 ·exact BJ n g
end Go.Proofs.YtejpnabbmgpmaaaGreat

namespace Go.Proofs.YtejpnabbmgpmaaaGreat
open Go.Ab
set_option maxHeartbeats 1000000 in
theorem lI {G} (n:EN) (hl:n.l.length≤1000000):HP Tryz.prog G 73 [enD n] (fun r=>r=.d (.sl none ((ag n).map i64))):=by
 obtain ⟨k,a,b,c,m,nm,s,l,p⟩:=n
 simp only at hl
 have hk:k=5∨k=12∨k=13∨k=6∨k=7∨k=8∨k=10∨k=9∨k=14∨k=11∨¬ (k=5∨k=12∨k=13∨k=6∨k=7∨k=8∨k=10∨k=9∨k=14∨k=11):=by omega
 unfold enD efD
 rcases hk with rfl | rfl | rfl | rfl | rfl | rfl | rfl | rfl | rfl | rfl | hk
 iterate 3
  ·refine au Tryz.func73 rfl (by decide +kernel) (by simp [Tryz.ntmps73]) (veil fun E=>?_)
   simp only [go_sem]
   refine ⟨[([14],none,[i64 a])],?_⟩
   simp only [go_sem]
   try rfl
 iterate 4
  ·refine au Tryz.func73 rfl (by decide +kernel) (by simp [Tryz.ntmps73]) (veil fun E=>?_)
   simp only [go_sem]
   refine ⟨[([24],none,[i64 a,i64 b])],?_⟩
   simp only [go_sem]
   try rfl
 ·refine au Tryz.func73 rfl (by decide +kernel) (by simp [Tryz.ntmps73]) (veil fun E=>?_)
  simp only [go_sem]
  refine ⟨[([33],none,[i64 a,i64 b,i64 c])],?_⟩
  simp only [go_sem]
  try rfl
 ·refine au Tryz.func73 rfl (by decide +kernel) (by simp [Tryz.ntmps73]) (veil fun E=>?_)
  simp only [go_sem]
  obtain ⟨A,hA,hAl⟩:∃ A:List Int,A=[a]∧A.length=1:=⟨_,rfl,rfl⟩
  refine aE E (X:={ i:Nat // i≤l.length }) (fun x=>[(1,.at [1] 0),(3,.vw [97] 0 (1+x.1)),(4,.d (i64 x.1))])
   (fun x=>[([1],.box [.d (i64 14),.d (i64 a),.d (i64 b),.d (i64 c),.d (i64 m),.d (.str nm),.d (.str s),.d (.sl (some 3) (l.map fD)),.d (i64 p)]),([97],.arr none ((A++(l.take x.1).map fun f:EF=>f.to).map i64))]) [1,97] (fun x=>l.length-x.1) ⟨0,Nat.zero_le _⟩ (tau [([97],[38])]) ?_ ?_
  ·simp only [go_sem]
   all_goals (rw [hA];rfl)
  rintro ⟨i,hi⟩ E0
  refine aT E0 fun Q' hQ E'=>?_
  simp only at hi ⊢
  simp only [go_sem]
  refine ai E' (fun g1=>?_) (fun g1=>?_)<;>simp only [go_sem]
  ·have hi':i<l.length:=by omega
   refine ⟨⟨by omega,by omega⟩,?_⟩
   rw [sB hi']
   simp only [go_sem]
   refine ⟨by omega,?_⟩
   rw [ak ⟨by omega,by omega⟩]
   rw [List.take_of_length_le (l:=List.map i64 _) (by simp;omega),show List.map i64 (A++(l.take i).map fun f:EF=>f.to)++[i64 l[i].to]=(A++(l.take (i+1)).map fun f:EF=>f.to).map i64 by
    rw [List.take_succ_eq_append_getElem hi',List.map_append (l₁:=List.take i l),← List.append_assoc,List.map_append (l₁:=A++_)];rfl]
   rw [hQ]
   simp only [go_sem]
   refine ⟨⟨i+1,by omega⟩,by show l.length-(i+1)<_;omega,tau [([97],[62])],?_⟩
   simp only [go_sem]
   all_goals first | rfl | exact ⟨rfl,rfl⟩
  ·rw [hQ]
   have h3:i=l.length:=by omega
   subst h3
   rw [List.take_length]
   simp only [go_sem]
   refine ⟨[([97],none,(A++l.map fun f:EF=>f.to).map i64)],?_⟩
   simp only [go_sem]
   rw [List.take_of_length_le (by simp;omega),hA]
   rfl
 ·refine au Tryz.func73 rfl (by decide +kernel) (by simp [Tryz.ntmps73]) (veil fun E=>?_)
  simp only [go_sem]
  obtain ⟨A,hA,hAl⟩:∃ A:List Int,A=[]∧A.length=0:=⟨_,rfl,rfl⟩
  refine aE E (X:={ i:Nat // i≤l.length }) (fun x=>[(1,.at [1] 0),(3,.vw [97] 0 (0+x.1)),(4,.d (i64 x.1))])
   (fun x=>[([1],.box [.d (i64 11),.d (i64 a),.d (i64 b),.d (i64 c),.d (i64 m),.d (.str nm),.d (.str s),.d (.sl (some 3) (l.map fD)),.d (i64 p)]),([97],.arr none ((A++(l.take x.1).map fun f:EF=>f.to).map i64))]) [1,97] (fun x=>l.length-x.1) ⟨0,Nat.zero_le _⟩ (tau [([97],[5])]) ?_ ?_
  ·simp only [go_sem]
   all_goals (rw [hA];rfl)
  rintro ⟨i,hi⟩ E0
  refine aT E0 fun Q' hQ E'=>?_
  simp only at hi ⊢
  simp only [go_sem]
  refine ai E' (fun g1=>?_) (fun g1=>?_)<;>simp only [go_sem]
  ·have hi':i<l.length:=by omega
   refine ⟨⟨by omega,by omega⟩,?_⟩
   rw [sB hi']
   simp only [go_sem]
   refine ⟨by omega,?_⟩
   rw [ak ⟨by omega,by omega⟩]
   rw [List.take_of_length_le (l:=List.map i64 _) (by simp;omega),show List.map i64 (A++(l.take i).map fun f:EF=>f.to)++[i64 l[i].to]=(A++(l.take (i+1)).map fun f:EF=>f.to).map i64 by
    rw [List.take_succ_eq_append_getElem hi',List.map_append (l₁:=List.take i l),← List.append_assoc,List.map_append (l₁:=A++_)];rfl]
   rw [hQ]
   simp only [go_sem]
   refine ⟨⟨i+1,by omega⟩,by show l.length-(i+1)<_;omega,tau [([97],[62])],?_⟩
   simp only [go_sem]
   all_goals first | rfl | exact ⟨rfl,rfl⟩
  ·rw [hQ]
   have h3:i=l.length:=by omega
   subst h3
   rw [List.take_length]
   simp only [go_sem]
   refine ⟨[([97],none,(A++l.map fun f:EF=>f.to).map i64)],?_⟩
   simp only [go_sem]
   rw [List.take_of_length_le (by simp;omega),hA]
   rfl
 ·refine au Tryz.func73 rfl (by decide +kernel) (by simp [Tryz.ntmps73]) (veil fun E=>?_)
  simp only [go_sem]
  iterate 9
   refine ai E (fun h=>absurd h (by omega)) (fun _=>?_)
   simp only [go_sem]
  repeat (first
   | (apply bC E;(· simp only [go_sem]);(· intro h;(try simp only [bq] at h);simp only [↓h,go_sem];rfl);simp only [go_sem])
   | (apply aW E;(· simp only [go_sem]);(· intro h;(try simp only [bq] at h);simp only [↓h,go_sem];rfl);(· intro h;(try simp only [bq] at h);simp only [↓h,go_sem];rfl);simp only [go_sem])
   | (apply aX E;(· simp only [go_sem]);(· rfl);(· intro h h';(try simp only [bq] at h h');simp only [↓h,↓h',go_sem];rfl);simp only [go_sem])
   | (apply aH E;(· simp only [go_sem]);(· rfl);(· intro h h';(try simp only [bq] at h h');simp only [↓h,↓h',go_sem];rfl);(· intro h h';(try simp only [bq] at h h');simp only [↓h,↓h',go_sem];rfl);simp only [go_sem])
   | (apply bz E;(· decide);simp only [go_sem]))
  refine aR E (fun h=>absurd (by simpa using h) (show ¬ (k=11∨k=14) by omega)) (fun _=>?_)
  simp only [go_sem]
  refine ⟨[([5],none,[])],?_⟩
  simp only [go_sem]
  have h1:aI k=0:=by
   unfold aI
   repeat' split
   all_goals first | rfl | (exfalso;omega)
  have h2:aG k=false:=by
   unfold aG
   rw [decide_eq_false (show ¬ k=11 by omega),decide_eq_false (show ¬ k=14 by omega)]
   rfl
  unfold ag
  simp only [h1,h2]
  rfl
end Go.Proofs.YtejpnabbmgpmaaaGreat

namespace Go.Ab
section
variable {P:Program} {cf:Cf} {Q:Exit→St→Prop} {s:St} {k:List It} {B:Base} {β:Name→Option Blk} {tm:Array Value} {w:World}
theorem Sim.Jg (h:Sim B β s tm w) {p:Name} {t d:Nat} {ds:List D} (hd:d ∉ s.used) (hp:s.hp p=some (.box (ds.map .d))) (hsc:∀ x∈ds,x.scal=true) (h0:0<ds.length) (ht:s.fr t=.at p 0) :
  ∃ β',Sim B β' (((s.set p none).add d (.arr none ds)).put t (.el [d] 0 0)) tm w:=by
 obtain ⟨k,c,e,hk,hk0,hc,hz,hl,h1,hcs⟩:=(h.objs p _ hp).2
 have hsl:=h.slots t
 rw [ht] at hsl
 have hv:tm.getD t undef=.pointer (some ⟨k.b,0,none⟩):=by
  generalize tm.getD t undef=v at hsl
  cases hsl with
  | «at» _ _ _ _ _ hx =>
    obtain ⟨k',hk',_,rfl⟩:=hx _ _ hp
    rw [hk] at hk';cases hk'
    rfl
 have hlen:c.size=ds.length:=by rw [hl];simp
 have hs:=h.renew hd hp hk none none ds 0 (w':=w) rfl rfl (fun _ _=>rfl) (fun _=>⟨c,e,hc,hz,by simp only [wd];omega,fun x hx=>hsc x hx,fun i x j y hi hj=>by
  have hx:=hsc x (List.mem_of_getElem? hi)
  have hxy:j=0∧y=x:=by
   cases x<;>simp [D.scal] at hx<;>(cases j<;>simp [D.cells] at hj<;>simp [hj])
  obtain ⟨rfl,rfl⟩:=hxy
  have:=(hcs i (.d y) (by rw [List.getElem?_map,hi];rfl)).toD
  simpa [wd] using this⟩)
 refine ⟨_,hs.setv ?_⟩
 rw [hv]
 refine .el _ _ _ _ ⟨d,[],rfl,List.mem_cons_self⟩ rfl fun ty' wf xs hx=>?_
 have:(some (Ob.arr none ds))=some (.arrT ty' wf xs):=by rw [← hx];simp [St.add,St.set,aO]
 cases this
 exact ⟨h0,⟨k.b,0,k.z⟩,by simp [aO],by simp⟩
theorem Je (E:Eng P cf Q) {c:Code} (p:Name) (t d:Nat) (ds:List D) (hd:d ∉ s.used) (hp:s.hp p=some (.box (ds.map .d))) (hsc:(ds.all D.scal)=true) (h0:0<ds.length) (ht:s.fr t=.at p 0)
  (h:ef E c (((s.set p none).add d (.arr none ds)).put t (.el [d] 0 0)) k):ef E c s k:=by
 intro B hB ds' β a w' hds hs
 obtain ⟨β',hs'⟩:=hs.Jg hd hp (List.all_eq_true.1 hsc) h0 ht
 exact h B hB ds' β' a w' hds hs'
def ko (zs xs:List D) (off len:Nat):List D:=zs.take off++(xs.take (Nat.min xs.length len)++zs.drop (off+Nat.min xs.length len))
theorem uM {zs xs:List D} {off len:Nat} (h:off+len≤zs.length):(ko zs xs off len).length=zs.length:=by
 have h1:Nat.min xs.length len≤len:=Nat.min_le_right _ _
 have h2:Nat.min xs.length len≤xs.length:=Nat.min_le_left _ _
 unfold ko
 obtain ⟨m,hm⟩:∃ m,m=Nat.min xs.length len:=⟨_,rfl⟩
 rw [← hm] at h1 h2 ⊢
 simp only [List.length_append,List.length_take,List.length_drop]
 omega
theorem Cm {zs xs:List D} {off len m:Nat} (hm:Nat.min xs.length len=m) (h:off+len≤zs.length) (i:Nat):(ko zs xs off len)[i]?=if i<off then zs[i]? else if i<off+m then xs[i-off]? else zs[i]?:=by
 have h1:Nat.min xs.length len≤len:=Nat.min_le_right _ _
 have h2:Nat.min xs.length len≤xs.length:=Nat.min_le_left _ _
 unfold ko
 rw [hm] at h1 h2 ⊢
 by_cases c1:i<off
 ·rw [if_pos c1,List.getElem?_append_left (by simp;omega),List.getElem?_take_of_lt c1]
 rw [if_neg c1,List.getElem?_append_right (by simp;omega),List.length_take,Nat.min_eq_left (by omega)]
 by_cases c2:i<off+m
 ·rw [if_pos c2,List.getElem?_append_left (by simp;omega),List.getElem?_take_of_lt (by omega)]
 ·rw [if_neg c2,List.getElem?_append_right (by simp;omega),List.length_take,Nat.min_eq_left h2,List.getElem?_drop]
  congr 1;omega
theorem EZ {c1 c:Array Value} {o q m:Nat} (hq:q+m≤c1.size) (ho:o+m≤c.size) (i:Nat):(c1.toList.take q++(c.extract o (o+m)).toList++c1.toList.drop (q+m)).toArray.getD i undef=if i<q then c1.getD i undef else if i<q+m then c.getD (o+(i-q)) undef else c1.getD i undef:=by
 have hcl:(c.extract o (o+m)).toList.length=m:=by simp;omega
 rw [Array.getD_eq_getD_getElem?,List.getElem?_toArray]
 by_cases h1:i<q
 ·rw [if_pos h1,List.append_assoc,List.getElem?_append_left (by simp;omega),List.getElem?_take_of_lt h1]
  simp [Array.getD_eq_getD_getElem?]
 rw [if_neg h1]
 by_cases h2:i<q+m
 ·rw [if_pos h2,List.getElem?_append_left (by rw [List.length_append,hcl,List.length_take];simp;omega),List.getElem?_append_right (by simp;omega),List.length_take,Array.length_toList,Nat.min_eq_left (by omega)]
  rw [Array.getElem?_toList,Array.getElem?_extract,if_pos (by omega)]
  simp [Array.getD_eq_getD_getElem?]
 ·rw [if_neg h2,List.getElem?_append_right (by rw [List.length_append,hcl,List.length_take];simp;omega),List.length_append,hcl,List.length_take,Array.length_toList,Nat.min_eq_left (by omega),List.getElem?_drop]
  rw [show q+m+(i-(q+m))=i by omega]
  simp [Array.getD_eq_getD_getElem?]
theorem Iz (E:Eng P cf Q) {x y:Operand} {d:Nat} {dT sT e0:Nat} {ty:TypeId} {pos:String} {af:Array Edge} {p:Name} {off len:Nat} {zs xs:List D} (hd:d<cf.n) (hk:(P.ti dT).k=.slice e0) (hw:(P.ti e0).isW none=true)
  (hx:ev s x=.vw p off len) (hp:s.hp p=some (.arr none zs)) (hy:ev s y=.d (.sl none xs)) (h:E.run k ((s.set p (some (.arr none (ko zs xs off len)))).put d (.d (.int .i64 (Nat.min xs.length len:Nat))))) :
  E.stp { dst:=some d,op:=.call { callee:=.builtin .copy,args:=#[x,y],argTypes:=#[dT,sT] },type:=ty,pos:=pos,after:=af,guard:=none } s k .no:=by
 rw [aY]
 rw [E.run_eq] at h
 intro B hB ds β a w hds hs Q'
 obtain ⟨hg,hwd,_⟩:=cL hw
 have hu:=bZ hk
 have hsz:(P.info? e0).map (·.size)=some 1:=by
  obtain ⟨i,_,hi,_,_,hsz,_⟩:=cZ hg
  rw [hi]
  simp only [Option.map_some,Option.some.injEq]
  rw [← hsz,← hwd];rfl
 have hvx:=hs.ev x
 rw [hx] at hvx
 have hvy:=(hs.ev y)
 rw [hy] at hvy
 obtain ⟨ay,capy,hay,_,hcy⟩:=hvy.toD.wY
 generalize hax:a.eval x=vx at hvx
 cases hvx with
 | vw _ _ _ _ hn h1' hx' =>
 obtain ⟨hle,a0,cap,rfl,hx''⟩:=hx' _ _ _ hp
 have hexec:∀ v w',(Builtin.copy_ #[dT,sT] ty #[.slice a0 len cap,.slice ay xs.length capy]).run P w=.ok v w'→(execOp a.eval { dst:=some d,op:=.call { callee:=.builtin .copy,args:=#[x,y],argTypes:=#[dT,sT] },type:=ty,pos:=pos,after:=af,guard:=none }).run P w=.ok (.value v) w':=by
  intro v w' hr
  simp [execOp,resolve,invoke,builtin,hax,hay,hr,Result.andThen]
 by_cases hn0:Nat.min xs.length len=0
 ·have hr:=run_copy_none (P:=P) w dT sT ty e0 a0 ay len cap xs.length capy hu hsz hn0
  have hzs:ko zs xs off len=zs:=by simp [ko,hn0]
  have hself:s.set p (some (.arr none (ko zs xs off len)))=s:=by
   rw [hzs]
   cases s
   simp only [St.set,St.mk.injEq,true_and,and_true]
   funext q
   by_cases e:q=p
   ·subst e;simp [aO];exact hp.symm
   ·simp [aO,e]
  rw [hself,hn0] at h
  exact aU (v:=goInt 0) (by simp) (hexec _ _ hr) (.inl rfl) ⟨hds,_,β,bf h,hs.put (by rw [hB.1];exact hd) (.d _ _ (.int _ _))⟩
 ·have hne:xs≠[]:=by rintro rfl;exact hn0 (Nat.min_eq_left (Nat.zero_le _))
  obtain ⟨b,o,c,e,fz,rfl,hb,hbn,hzz,hok,hrep⟩:=hcy hne
  have hle2:Nat.min xs.length len≤len:=Nat.min_le_right _ _
  have hle3:Nat.min xs.length len≤xs.length:=Nat.min_le_left _ _
  rcases hx'' with ⟨hl0,_⟩ | ⟨k0,hk0,rfl,hcap,hkz⟩
  ·omega
  rcases (hs.objs p _ hp).2 with ⟨hq,_⟩ | ⟨k1,c1,e1,hk1,hc1,hz1,hl1,hw1,hcs1⟩
  ·rw [hk0] at hq;cases hq
  rw [hk0] at hk1;cases hk1
  simp only [wd,Nat.mul_one] at hzz hkz hl1
  generalize hm:Nat.min xs.length len=m at *
  have hcl:(c.extract o (o+m)).toList.length=m:=by simp;omega
  have hget:∀ j,j<m→(c.extract o (o+m)).toList[j]?=some (c.getD (o+j) undef):=fun j hj=>by
   have h2:o+j<c.size:=by omega
   rw [Array.getElem?_toList,Array.getElem?_extract,if_pos (by omega)]
   simp [Array.getD_eq_getD_getElem?,h2]
  have hel:∀ j,j<m→∃ x,xs[j]?=some x∧x.scal=true∧Rep w.heap (s.own B.A β) (c.getD (o+j) undef) x:=fun j hj=>by
   have h2:j<xs.length:=by omega
   refine ⟨xs[j],by simp [h2],hok _ (List.getElem_mem h2),?_⟩
   have h3:(xs[j]).scal=true:=hok _ (List.getElem_mem h2)
   have:=hrep j xs[j] 0 xs[j] (by simp [h2]) (by cases hq:xs[j]<;>rw [hq] at h3<;>simp [D.scal] at h3<;>rfl)
   simpa [wd] using this
  have hr:=run_copy_row (P:=P) w dT sT ty e0 k0.b (k0.o+off*wd none) len cap ⟨b,o,none⟩ xs.length capy c1 e1 (c.extract o (o+m)).toList hu hsz hc1 (by rw [hcl,← hm]) (fun j v hv=>by
   have hj:j<m:=by have:=(List.getElem?_eq_some_iff.1 hv).1;rw [hcl] at this;exact this
   rw [hget j hj] at hv
   have h2:o+j<c.size:=by omega
   rw [bI]
   simp [World.cell?,hb,h2,Array.getD_eq_getD_getElem?] at hv ⊢
   exact hv) (by rw [hcl];simp only [wd,Nat.mul_one];omega) (fun v hv=>by
   obtain ⟨j,hj⟩:=List.mem_iff_getElem?.1 hv
   have hj':j<m:=by have:=(List.getElem?_eq_some_iff.1 hj).1;rw [hcl] at this;exact this
   rw [hget j hj'] at hj
   obtain ⟨x,_,hx1,hx2⟩:=hel j hj'
   cases hj
   exact hx2.mX hx1)
  rw [hcl] at hr
  obtain ⟨hsim,_⟩:=hs.modify (p:=p) (ob':=.arr none (ko zs xs off len)) hp ⟨⟨rfl,rfl⟩,by rw [uM hle];exact Nat.le_refl _⟩ (w':=w.setRow k0.b (List.take (k0.o+off*wd none) c1.toList++(c.extract o (o+m)).toList++List.drop (k0.o+off*wd none+m) c1.toList).toArray) rfl (by simp) (fun b hb=>setRow_other w k0.b b _ (hb k0 hk0)) (fun _ hrr=>.inr ⟨k0,_,e1,hk0,setRow_heap w k0.b c1 _ e1 (0,0) hc1,(by simp only [List.size_toArray,List.length_append,hcl,List.length_take,List.length_drop,Array.length_toList,wd,Nat.mul_one];omega),(by rw [uM hle];simpa [wd] using hl1),(fun x hx=>by
   unfold ko at hx
   rcases List.mem_append.1 hx with hx | hx
   ·exact hw1 _ (List.mem_of_mem_take hx)
   rcases List.mem_append.1 hx with hx | hx
   ·exact hok _ (List.mem_of_mem_take hx)
   ·exact hw1 _ (List.mem_of_mem_drop hx)),fun i x j d hi hj=>by
   have hsx:x.scal=true:=by
    unfold ko at hi
    have hx:=List.mem_of_getElem? hi
    rcases List.mem_append.1 hx with hx | hx
    ·exact hw1 _ (List.mem_of_mem_take hx)
    rcases List.mem_append.1 hx with hx | hx
    ·exact hok _ (List.mem_of_mem_take hx)
    ·exact hw1 _ (List.mem_of_mem_drop hx)
   have hxy:j=0∧d=x:=by
    cases x<;>simp [D.scal] at hsx<;>(cases j<;>simp [D.cells] at hj<;>simp [hj])
   obtain ⟨rfl,rfl⟩:=hxy
   have hwd1:off*wd none=off:=by simp [wd]
   rw [show k0.o+i*wd none+0=k0.o+i by simp [wd],EZ (by omega) (by omega)]
   rw [Cm hm hle] at hi
   have old:∀ x,zs[i]?=some x→x.scal=true→Rep _ _ (c1.getD (k0.o+i) undef) x:=fun x hz hsx=>by
    have:=hcs1 i x 0 x hz (by cases x<;>simp [D.scal] at hsx<;>rfl)
    rw [show k0.o+i*wd none+0=k0.o+i by simp [wd]] at this
    exact hrr _ _ this
   by_cases g1:i<off
   ·rw [if_pos g1] at hi
    rw [if_pos (by omega)]
    exact old _ hi hsx
   rw [if_neg g1] at hi
   rw [if_neg (by omega)]
   by_cases g2:i<off+m
   ·rw [if_pos g2] at hi
    rw [if_pos (by omega)]
    obtain ⟨y,hy1,_,hy2⟩:=hel (i-off) (by omega)
    rw [hi] at hy1
    cases hy1
    rw [show k0.o+i-(k0.o+off*wd none)=i-off by omega]
    exact hrr _ _ hy2
   ·rw [if_neg g2] at hi
    rw [if_neg (by omega)]
    exact old _ hi hsx⟩)
  exact aU (v:=goInt m) (by simp) (hexec _ _ hr) (.inl rfl) ⟨hds,_,β,bf h,hsim.put (by rw [hB.1];exact hd) (.d _ _ (.int _ _))⟩
end
section
variable {P:Program} {cf:Cf} {Q:Exit→St→Prop} {s:St} {k:List It}
theorem F5 (E:Eng P cf Q) {o:Oper} (t:Nat) (wf:W) (ht:s.fr t=.d .nils) (h:E.stp o (s.put t (.d (.sl wf []))) k .no):E.stp o s k .no:=by
 rw [aY] at h ⊢
 intro B hB ds β a w hds hs Q'
 refine h B hB ds β a w hds (hs.setv ?_) Q'
 have hv:=hs.slots t
 rw [ht] at hv
 rw [hv.nils]
 exact .d _ _ (.sl0 _ _ _)
end
theorem EE (tf:Nat→TI) (dd:Option Nat) (s:St) (x y t):opE tf (.call { callee:=.builtin .min,args:=#[x,y],argTypes:=t }) dd s=(opV tf (.call { callee:=.builtin .min,args:=#[x,y],argTypes:=t }) s).bind fun x=>.ok (x,ef0):=eS rfl
theorem Gj (tf:Nat→TI) (dd:Option Nat) (s:St) (x y t):opE tf (.call { callee:=.builtin .max,args:=#[x,y],argTypes:=t }) dd s=(opV tf (.call { callee:=.builtin .max,args:=#[x,y],argTypes:=t }) s).bind fun x=>.ok (x,ef0):=eS rfl
attribute [go_sem] EE Gj
end Go.Ab

