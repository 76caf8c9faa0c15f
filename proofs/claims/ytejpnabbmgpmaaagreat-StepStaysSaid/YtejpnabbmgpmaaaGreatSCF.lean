/-
  The generic layer, part 80: a deferred closure that holds boxes: at the way out it is run on the objects that lie there. (with the parts that follow it)
-/
import Derived.Test.YtejpnabbmgpmaaaGreatSCE
import Derived.Test.YtejpnabbmgpmaaaGreatSCD
import Derived.Test.YtejpnabbmgpmaaaGreatSCC
import Derived.DefersIn
import Derived.RangeFuncBound
import Derived.Laws.CopyRow
import Derived.Laws.IdiomCopy
import Derived.Lib.Builder
import Derived.LaidEqlPtr
import Derived.Laws.Pointers
import Derived.Laws.Externs
import Derived.Lib.UnsafeStr
import Derived.Lib.ItoaLen
set_option linter.unusedSimpArgs false
namespace Go.Ab
section
variable {P:Program} {cf:Cf}
structure DI (B0:Base) (g:Nat) (ns:List Name) (B:Base) (ds:List Deferred):Prop where
 ci:∃ B1,CI B0 B1 []∧B.n=B1.n∧B.io=B1.io∧B.H0=B1.H0∧(∀ b,B.O0 b↔B1.O0 b)∧B.A=B1.A∧(∀ x∈B1.U0,x∈B.U0)∧∀ p,nm B1.U0 p→B.β0 p=B1.β0 p
 df:∃ caps:Array Value,ds=[{ target:=.fn (.func g) caps,args:=#[] }]∧caps.size=ns.length∧∀ i p,ns[i]?=some p→nm B.U0 p∧(caps.getD i undef).oneCell'=true∧∃ k,B.β0 p=some k∧k.o=0∧caps.getD i undef=.pointer (some ⟨k.b,0,none⟩)
theorem rW {u:List Nat} {Φ:Exit→Act→World→Prop}:∀ (k:List It),hold P { cf with U:=u } Φ k=hold P cf Φ k
 | []=>rfl
 | .code c::k=>by
   funext e a w
   cases e<;>simp only [hold,rW k]
 | .ops all r::k=>by
   funext e a w
   cases e<;>simp only [hold,rW k]
 | .blk i::k=>by
   funext e a w
   cases e<;>simp only [hold,rW k]
theorem Fa {B0:Base} {Φ:Exit→Act→World→Prop} {k:List It} {s:St} {all:Array Oper} {fv:Operand} {at':Array TypeId} {ty:TypeId} {pos:String} {af:Array Edge} {r:List Oper} {g:Nat} (ns:List Name) (hro:cf.ro=none)
  (hev:ev s fv=.clo g (ns.map fun p=>.at p 0)) (hbx:∀ p∈ns,∃ cs,s.hp p=some (.box cs))
  (h:ARY P { cf with U:=s.used } Φ (DI B0 g ns) (.ops all r::k) s) :
  ARY P cf Φ (fun B ds=>CI B0 B ds∧ds=[]) (.ops all ({ dst:=none,op:=.defer { callee:=.value fv,args:=#[],argTypes:=at' },type:=ty,pos:=pos,after:=af,guard:=none }::r)::k) s:=by
 intro B hB ds β a w hds hI hs l hl
 obtain ⟨hI,rfl⟩:=hI
 cases l with
 | nil=>simp at hl
 | cons i l =>
   simp only [List.map_cons,List.cons.injEq] at hl
   obtain ⟨hi,hl⟩:=hl
   simp only [wpOpsIn,hi,Region.wanted,if_true]
   have hf:=hs.ev fv
   rw [hev] at hf
   obtain ⟨vs,hfv,hvs,hvr⟩:∃ vs:Array Value,a.eval fv=.func (.func g) #[] vs∧vs.size=ns.length∧∀ i p,ns[i]?=some p→VR w.heap (s.own B.A β) s.used s.hp β (vs.getD i undef) (.at p 0):=by
    generalize a.eval fv=v at hf
    cases hf with
    | clo f vs cs h1 h2=>exact ⟨vs,rfl,by simpa using h1,fun i p hp=>h2 i _ (by rw [List.getElem?_map,hp];rfl)⟩
   refine ⟨fun _ _=>trivial,?_⟩
   have hrun:(execOp a.eval { dst:=none,op:=.defer { callee:=.value fv,args:=#[],argTypes:=at' },type:=ty,pos:=pos,after:=af,guard:=none }:Sem Next).run P w=.ok (.defer { target:=.fn (.func g) vs,args:=#[] }) w:=by
    simp only [execOp,resolve,hfv,Deferred.ofValue,Sem.run_bind,Sem.run_pure,Result.andThen_ok,Array.map_empty,Array.append_empty]
   rw [show (Fw cf.ro).round=none by rw [hro];rfl,Oper.semAt_none,hrun,Oper.uponIn_defer]
   let B':Base:={ n:=B.n,io:=B.io,G:=B.G,H0:=B.H0,O0:=B.O0,A:=B.A,U0:=s.used,β0:=β,hA:=B.hA,hG:=B.hG }
   have hs':Sim B' β s a.tmps w:=hs.mv rfl hs.io hs.size hs.frame (Nat.le_refl _) (fun _ _ _=>rfl) (fun _ _ h=>h) (fun p k hp hk=>(hs.blocks p k hp hk).2.2) (fun _ h=>h) (fun _ _=>rfl)
   rw [← rW (u:=s.used) k]
   refine h B' ⟨hB.1,rfl,hB.2.2⟩ _ β { a with defers:={ target:=.fn (.func g) vs,args:=#[] }::a.defers } w (by show _::a.defers=_;rw [hds]) ⟨⟨B,hI,rfl,rfl,rfl,fun _=>Iff.rfl,rfl,hs.us,hs.stay⟩,vs,rfl,hvs,fun i p hp=>?_⟩ hs' l hl
   have hv:=hvr i p hp
   obtain ⟨cs,hcs⟩:=hbx p (List.mem_of_getElem? hp)
   generalize hx:vs.getD i undef=x at hv
   cases hv with
   | «at» _ _ _ hn h1 h2 =>
     obtain ⟨k,hk,h0,hv⟩:=h2 _ cs hcs
     exact ⟨hn,h1,k,hk,h0,hv⟩
theorem rb {B0:Base} {fn gfn:Func} {g:Nat} {gc:Code} {ns:List Name} {u:List Nat} {Q:AV→List (Name × Ob)→Prop} {s:St} {e:Exit} (he:e=.ret∨e=.normal) (hu:B0.U0=u)
  (hgf:P.funcs[g]?=some gfn) (hgb:gfn.body=some gc) (hnm:(gfn.name == "runtime.NumGoroutine")=false) (hgn:ns.length≤gfn.ntmps) (hns:∀ p∈ns,nmb s.used p=true)
  (hg:run P ⟨gfn.ntmps,none,cf.G,s.used⟩ [.code gc] (fun e s2=>(e=.ret∨e=.normal)∧LK s s2∧RX (bF P s2 gfn.results.toList) (fun _=>True)∧fq P fn.results.toList u Q .ret (s2.fra s.fr)) (s.fra (mk (au 0 (ns.map fun p=>AV.at p 0)) [] []).fr)) :
  ARX cf (ΦR P fn { B0 with n:=1 } Q) (DI B0 g ns) e s:=by
 intro B hB ds β a w hds hI hs
 obtain ⟨⟨B1,hc,i1,i2,i4,i5,i6,i7,i8⟩,caps,rfl,hcs,hcap⟩:=hI
 have hB1G:B1.G=B0.G:=hc.ext.G
 have:LeavesInM Fence.wide 0 P fn a.tmps (RH { B0 with n:=1 } Q) a.defers .returning w:=by
  rw [hds]
  refine ⟨by simp,.inr ⟨fun h=>by simp [Fence.wide] at h,_,_,g,#[]++caps,rfl,?_,fun _ _=>trivial,?_⟩⟩
  ·exact cX hgf hgb hnm _ _
  have hGg:∀ q∈B.G,w.heap[q.1]?=some q.2∧¬ aL s β q.1:=by
   intro q hq
   obtain ⟨g1,g2⟩:=B.hG q hq
   have hlt:=an g1
   refine ⟨(hs.frame _ hlt g2).trans g1,fun hb=>?_⟩
   rcases (hs.bc hb).2.2 with h | h
   ·omega
   ·exact g2 h
  let Bg:Base:={ n:=gfn.ntmps,io:=B.io,G:=B.G,H0:=w.heap,O0:=aL s β,A:=B.A,U0:=s.used,β0:=β,hA:=fun b hb=>Nat.lt_of_lt_of_le (B.hA b hb) hs.size,hG:=hGg }
  have hsg:Sim Bg β (s.fra (mk (au 0 (ns.map fun p=>AV.at p 0)) [] []).fr) ((#[]++caps)++Array.replicate (gfn.ntmps-(#[]++caps).size) undef) w:=by
   refine { tms:=by show (_:Array Value).size=gfn.ntmps;simp;omega,io:=hs.io,size:=Nat.le_refl _,frame:=fun _ _ _=>rfl,slots:=fun t=>?_,objs:=hs.objs,blocks:=fun p k hp hk=>⟨(hs.blocks p k hp hk).1,(hs.blocks p k hp hk).2.1,.inr ⟨p,k,hp,hk,rfl⟩⟩,inj:=hs.inj,us:=fun _ h=>h,stay:=fun _ _=>rfl }
   show VR w.heap (s.own B.A β) s.used s.hp β _ ((mk (au 0 (ns.map fun p=>AV.at p 0)) [] []).fr t)
   rw [dh,aP,if_pos (Nat.zero_le _),Nat.sub_zero,List.getElem?_map]
   cases hp:ns[t]? with
   | none=>exact .un _
   | some p =>
     obtain ⟨c1,c2,k,c3,c4,c5⟩:=hcap t p hp
     have hlt:t<caps.size:=by rw [hcs];exact (List.getElem?_eq_some_iff.1 hp).1
     have e:((#[]++caps)++Array.replicate (gfn.ntmps-(#[]++caps).size) undef).getD t undef=caps.getD t undef:=by
      simp [Array.getD_eq_getD_getElem?,Array.getElem?_append,hlt]
     rw [e]
     have hnb:=hns p (List.mem_of_getElem? hp)
     exact .at _ _ _ (c1.mono hs.us) c2 fun _ cs _=>⟨k,(hs.stay p c1).trans c3,c4,c5⟩
  have hrun:=aU hg Bg ⟨rfl,rfl,hB.2.2⟩ [] β { tmps:=(#[]++caps)++Array.replicate (gfn.ntmps-(#[]++caps).size) undef,defers:=[] } w rfl hsg
  refine (callsDIn_of_wp (R:=fun e w'=>∃ v,e=.returned v∧LeavesInM Fence.wide 0 P fn a.tmps (RH { B0 with n:=1 } Q) [] .returning w') hgf hgb trivial (wpIn_mono (F:=Fence.wide) hrun fun e2 a2 w2 hq=>?_)).mono ?_
  ·obtain ⟨hd2,s2,β2,⟨he2,hlk,hres,hfq⟩,hs2⟩:=hq
   obtain ⟨_,v2,_,hr2,_⟩:=ch hs2 gfn hres
   have hown2:∀ b,aL s2 β2 b→w.heap.size≤b∨aL s β b:=fun b hb=>(hs2.bc hb).2.2
   have hust:∀ p,nm s.used p→β2 p=β p:=fun p hp=>hs2.stay p hp
   have hus2:∀ x∈s.used,x∈s2.used:=hs2.us
   have hsame:∀ b,b<w.heap.size→¬ aL s β b→w2.heap[b]?=w.heap[b]?:=fun b hb hn=>hs2.frame b hb hn
   have hz2:w.heap.size≤w2.heap.size:=hs2.size
   have hr:∀ v d,Rep w.heap (s.own B.A β) v d→Rep w2.heap (s2.own B1.A β2) v d:=fun v d hd=>hd.mono (fun b hb hlt=>hsame b hlt (fun h=>hb (.inr h))) (by
    rintro b hb (h1 | h1)
    ·rw [← i6] at h1;exact .inl h1
    ·rcases hown2 b h1 with h | h
     ·omega
     ·exact .inr h)
   have hs4:Sim B1 β2 (s2.fra s.fr) a.tmps w2:=by
    refine { tms:=hs.tms.trans i1,io:=hs2.io.trans i2,size:=?_,frame:=fun b hb ho=>?_,slots:=fun t=>?_,objs:=fun p o ho=>?_,blocks:=fun p k hp hk=>?_,inj:=hs2.inj,us:=fun x hx=>hus2 x (hs.us x (i7 x hx)),stay:=fun p hp=>?_ }
    ·rw [← i4];exact Nat.le_trans hs.size hz2
    ·rw [← i4] at hb ⊢
     have ho':¬ B.O0 b:=fun h=>ho ((i5 b).1 h)
     refine (hsame b (Nat.lt_of_lt_of_le hb hs.size) (fun h=>?_)).trans (hs.frame b hb ho')
     rcases (hs.bc h).2.2 with h | h
     ·omega
     ·exact ho' h
    ·exact (hs.slots t).mono hr hus2 (fun p hp o' ho=>by obtain ⟨o,h1,h2⟩:=hlk p o' hp ho;exact ⟨o,h1,h2,hust p hp⟩)
    ·have:=hs2.objs p o ho
     rw [← i6]
     exact this
    ·obtain ⟨b1,b2,b3⟩:=hs2.blocks p k hp hk
     refine ⟨b1,by rw [← i6];exact b2,?_⟩
     rw [← i4]
     rcases b3 with b3 | b3
     ·have h3:w.heap.size≤k.b:=b3
      have:=hs.size
      exact .inl (by omega)
     ·rcases (hs.bc b3).2.2 with h | h
      ·exact .inl h
      ·exact .inr ((i5 _).1 h)
    ·have hp':nm B.U0 p:=hp.mono i7
     exact (hust p (hp'.mono hs.us)).trans ((hs.stay p hp').trans (i8 p hp))
   have hlv:LeavesInM Fence.wide 0 P fn a.tmps (RH { B0 with n:=1 } Q) [] .returning w2:=by
    refine hc.back hs4 (fun w' hs'=>?_)
    obtain ⟨l,v,⟨r,hp',u',τ,hQ,hle⟩,hr,hv⟩:=ch hs' fn hfq
    obtain ⟨β3,hs3,_⟩:=(mQ hs' hv).le (τ:=τ) (by show Le B0.U0 τ _ _;rw [hu];exact hle.le)
    exact ⟨v,hr,v,r,hp',u',β3,rfl,hQ,hs3⟩
   rcases he2 with rfl | rfl
   ·exact ⟨hd2,v2,hr2,v2,rfl,hlv⟩
   ·exact ⟨hd2,v2,hr2,v2,rfl,hlv⟩
  ·rintro e u' w' ⟨rfl,v,rfl,hl⟩
   exact hl
 rcases he with rfl | rfl<;>exact this
theorem ARX.le {Φ:Exit→Act→World→Prop} {I J:Base→List Deferred→Prop} {e:Exit} {s:St} (h:ARX cf Φ I e s) (hj:∀ B ds,J B ds→I B ds):ARX cf Φ J e s:=fun B hB ds β a w h1 h2 h3=>h B hB ds β a w h1 (hj B ds h2) h3
theorem xz {B0:Base} {fn:Func} {u:List Nat} {Q:AV→List (Name × Ob)→Prop} {s:St} {e:Exit} (he:e=.ret∨e=.normal) (hu:B0.U0=u) (h:fq P fn.results.toList u Q .ret s) :
 ARX cf (ΦR P fn { B0 with n:=1 } Q) (fun B ds=>CI B0 B ds∧ds=[]) e s:=(A8 he hu h).le fun _ _ h=>h.1
theorem xB {G:List (Nat × Obj)} {f:FuncId} {fn:Func} {c:Code} {args:List AV} {hp:List (Name × Ob)} {u:List Nat} {Q:AV→List (Name × Ob)→Prop} (hf:P.funcs[f]?=some fn) (hb:fn.body=some c)
  (hnm:(fn.name == "runtime.NumGoroutine")=false) (hn:args.length≤fn.ntmps)
  (h:∀ B0:Base,B0.U0=u→ARY P ⟨fn.ntmps,none,G,u⟩ (ΦR P fn { B0 with n:=1 } Q) (fun B ds=>CI B0 B ds∧ds=[]) [.code c] (mk (au 0 args) hp u)):HCall P G f args hp u Q:=by
 refine ⟨cX hf hb hnm,fun B β vs w h1 h2 h3 h4 hs=>?_⟩
 have hsz:vs.size=args.length:=hs.tms.trans h1
 have hs':Sim { B with n:=fn.ntmps } β (mk (au 0 args) hp u) (vs++Array.replicate (fn.ntmps-vs.size) undef) w:=by
  refine { hs with tms:=by simp;omega,slots:=fun t=>?_ }
  have:=hs.slots t
  by_cases ht:t<vs.size
  ·have e:(vs++Array.replicate (fn.ntmps-vs.size) undef).getD t undef=vs.getD t undef:=by
    simp [Array.getD_eq_getD_getElem?,Array.getElem?_append,ht]
   rw [e];exact this
  ·have e:(mk (au 0 args) hp u).fr t=.un:=by
    rw [dh,aP,if_pos (Nat.zero_le _),List.getElem?_eq_none (by omega)];rfl
   rw [e];exact .un _
 have hrun:=h { B with n:=fn.ntmps } h3 { B with n:=fn.ntmps } ⟨rfl,h3,h4⟩ [] β { tmps:=vs++Array.replicate (fn.ntmps-vs.size) undef,defers:=[] } w rfl ⟨⟨.refl _,[],rfl,List.nodup_nil,fun D hD=>by cases hD⟩,rfl⟩ hs'
 exact callsIn_of_wp_marks hf hb trivial hrun
end
end Go.Ab

namespace Go.Ab
structure Trk (W0:World) (C0 X0 C X:Nat→Prop) (W:World):Prop where
 io:wio W=wio W0
 size:W0.heap.size≤W.heap.size
 same:∀ b,b<W0.heap.size→¬ C0 b→¬ X0 b→W.heap[b]?=W0.heap[b]?
 c:∀ b,b<W0.heap.size→C b→C0 b
 x:∀ b,b<W0.heap.size→X b→X0 b
theorem Trk.stp {W0 W W':World} {C0 X0 C X X':Nat→Prop} (h:Trk W0 C0 X0 C X W) (g:Stp W X W' X'):Trk W0 C0 X0 C X' W' :=
 ⟨g.io.trans h.io,Nat.le_trans h.size g.size,fun b hb h1 h2=>(g.same b (Nat.lt_of_lt_of_le hb h.size) (fun hx=>h2 (h.x b hb hx))).trans (h.same b hb h1 h2),h.c,fun b hb hx=>by
  rcases (g.new b hx).1 with h1 | h1
  ·exact h.x b hb h1
  ·have:=h.size;omega⟩
def Itz.trk (z:Itz) (W0:World) (C0 X0:Nat→Prop):Itz :=
 { l:=z.l,w:=z.w,C0:=z.C0,J:=fun n C X W=>z.J n C X W∧Trk W0 C0 X0 C X W,Jx:=fun n C X W=>z.Jx n C X W∧Trk W0 C0 X0 C X W }
theorem Itz.Ok.trk {P:Program} {G:List (Nat × Obj)} {N:Nat} {xs:Nat→List D} {z:Itz} (h:z.Ok P G N xs) (W0:World) (C0 X0:Nat→Prop):(z.trk W0 C0 X0).Ok P G N xs:=by
 refine ⟨h.lt,fun n C X W X' W' hj hs=>⟨h.stab n C X W X' W' hj.1 hs,hj.2.stp hs⟩,fun n C X W X' W' hj hs=>⟨h.stabx n C X W X' W' hj.1 hs,hj.2.stp hs⟩,fun n C X W vs hn hj hv hr=>?_⟩
 refine (h.round n C X W vs hn hj.1 hv hr).mono ?_
 rintro e W' ⟨C',hc,hq⟩
 have ht:Trk W0 C0 X0 C' X W':=by
  obtain ⟨c1,c2,c3,c4,c5⟩:=hc
  refine ⟨c1.trans hj.2.io,Nat.le_trans hj.2.size c2,fun b hb h1 h2=>(c3 b (Nat.lt_of_lt_of_le hb hj.2.size) (fun hx=>h1 (hj.2.c b hb hx))).trans (hj.2.same b hb h1 h2),fun b hb hx=>?_,hj.2.x⟩
  rcases (c5 b hx).1 with g | g
  ·exact hj.2.c b hb g
  ·have:=hj.2.size;omega
 refine ⟨C',hc,?_⟩
 rcases hq with ⟨h1,h2⟩ | ⟨h1,h2⟩
 ·exact .inl ⟨h1,h2,ht⟩
 ·exact .inr ⟨h1,h2,ht⟩
def YI (z:Itz) (n:Nat) (b0:Name→Option Blk) (B:Base) (ds:List Deferred):Prop:=II z n B ds∧B.β0=b0
def YX (z:Itz) (b0:Name→Option Blk) (B:Base) (ds:List Deferred):Prop:=IX z B ds∧B.β0=b0
def YCall (P:Program) (G:List (Nat × Obj)) (N:Nat) (xs:Nat→List D) (g:FuncId) (args:Nat→List AV) (hp:Nat→List (Name × Ob)) (u:List Nat) (n n':Nat):Prop :=
 (∀ vs w,(callFunc g vs).run P w=.ok (.enter g vs) w) ∧
 ∀ z:Itz,z.Ok P G N xs→∀ (B:Base) (β:Name→Option Blk) (vs:Array Value) (W:World),B.n=(args z.l).length→B.U0=u→B.G=G→II z n B []→Sim B β (mk (au 0 (args z.l)) (hp z.l) u) vs W →
  CallsIn Fence.wide 0 P g vs W fun e W'=>∃ b B' β',e=.returned (.bool b)∧((b=true∧II z n' B' [])∨(b=false∧IX z B' []))∧B'.β0=B.β0∧B'.U0=u∧B'.G=G∧Sim B' β' (mk [(0,.d (.bool b))] (hp z.l) u) #[.bool b] W'
def ΦY (P:Program) (G:List (Nat × Obj)) (fn:Func) (z:Itz) (n':Nat) (hp:List (Name × Ob)) (u:List Nat) (b0:Name→Option Blk) (e:Exit) (a:Act) (w:World):Prop :=
 (e=.normal∨e=.ret)∧a.defers=[]∧∃ b,(results fn a.tmps).run P w=.ok (.bool b) w∧∃ B' β',((b=true∧II z n' B' [])∨(b=false∧IX z B' []))∧B'.β0=b0∧B'.U0=u∧B'.G=G∧Sim B' β' (mk [(0,.d (.bool b))] hp u) #[.bool b] w
section
variable {P:Program} {cf:Cf} {G:List (Nat × Obj)} {N:Nat} {xs:Nat→List D} {z:Itz} {k:List It} {s:St}
theorem F8 {H:Array Obj} {own:Nat→Prop} {used:List Nat} {hp:Name→Option Ob} {β:Name→Option Blk} {v:Value} {b:Bool} (h:VR H own used hp β v (.d (.bool b))):v=.bool b:=by
 cases h with
 | d _ _ h=>cases h;rfl
theorem Dx {I:Base→List Deferred→Prop} {fn:Func} {n':Nat} {hp:List (Name × Ob)} {u:List Nat} {b0:Name→Option Blk} {e:Exit} (b:Bool) (he:e=.normal∨e=.ret) (hu:cf.U=u)
  (hI:∀ B ds,I B ds→B.β0=b0∧ds=[]∧((b=true∧II z n' B [])∨(b=false∧IX z B [])))
  (h:RX (bF P s fn.results.toList) fun l=>bZ l=.d (.bool b)∧∃ τ,LeL u τ (kg s (.d (.bool b))) [(0,.d (.bool b))] hp u):ARX cf (ΦY P cf.G fn z n' hp u b0) I e s:=by
 intro B hB ds β a w hds hi hs
 obtain ⟨h1,rfl,h2⟩:=hI B ds hi
 obtain ⟨l,v,⟨hl,τ,hle⟩,hr,hv⟩:=ch hs fn h
 rw [hl] at hv
 obtain rfl:=F8 hv
 have hUB:B.U0=u:=by rw [hB.2.1,hu]
 obtain ⟨β2,hs2,_⟩:=(mQ hs hv).le (τ:=τ) (by show Le B.U0 τ _ _;rw [hUB];exact hle.le)
 have hIJ:∀ J,IJ z J B []→IJ z J { B with n:=1 } []:=fun J hj=>hj
 refine ⟨he,hds,b,hr,{ B with n:=1 },β2,?_,h1,hUB,hB.2.2,hs2⟩
 rcases h2 with ⟨g1,g2⟩ | ⟨g1,g2⟩
 ·exact .inl ⟨g1,hIJ _ g2⟩
 ·exact .inr ⟨g1,hIJ _ g2⟩
theorem Ej {fn:Func} {n':Nat} {hp:List (Name × Ob)} {u:List Nat} {b0:Name→Option Blk} {e:Exit} (he:e=.normal∨e=.ret) (hu:cf.U=u)
  (h:RX (bF P s fn.results.toList) fun l=>bZ l=.d (.bool true)∧∃ τ,LeL u τ (kg s (.d (.bool true))) [(0,.d (.bool true))] hp u):ARX cf (ΦY P cf.G fn z n' hp u b0) (YI z n' b0) e s :=
 Dx true he hu (fun B ds hi=>by
  have h0:ds=[]:=hi.1.1
  subst h0
  exact ⟨hi.2,rfl,.inl ⟨rfl,hi.1⟩⟩) h
theorem xp {fn:Func} {n':Nat} {hp:List (Name × Ob)} {u:List Nat} {b0:Name→Option Blk} {e:Exit} (he:e=.normal∨e=.ret) (hu:cf.U=u)
  (h:RX (bF P s fn.results.toList) fun l=>bZ l=.d (.bool false)∧∃ τ,LeL u τ (kg s (.d (.bool false))) [(0,.d (.bool false))] hp u):ARX cf (ΦY P cf.G fn z n' hp u b0) (YX z b0) e s :=
 Dx false he hu (fun B ds hi=>by
  have h0:ds=[]:=hi.1.1
  subst h0
  exact ⟨hi.2,rfl,.inr ⟨rfl,hi.1⟩⟩) h
theorem DX {f:FuncId} {fn:Func} {c:Code} {args:Nat→List AV} {hp:Nat→List (Name × Ob)} {u:List Nat} {n n':Nat} (hf:P.funcs[f]?=some fn) (hb:fn.body=some c) (hnm:(fn.name == "runtime.NumGoroutine")=false) (hn:∀ l,(args l).length≤fn.ntmps)
  (h:∀ z:Itz,z.Ok P G N xs→∀ b0,ARY P ⟨fn.ntmps,none,G,u⟩ (ΦY P G fn z n' (hp z.l) u b0) (YI z n b0) [.code c] (mk (au 0 (args z.l)) (hp z.l) u)):YCall P G N xs f args hp u n n':=by
 refine ⟨cX hf hb hnm,fun z hz B β vs W h1 h3 h4 hI hs=>?_⟩
 have hsz:vs.size=(args z.l).length:=hs.tms.trans h1
 have hn:=hn z.l
 have hs':Sim { B with n:=fn.ntmps } β (mk (au 0 (args z.l)) (hp z.l) u) (vs++Array.replicate (fn.ntmps-vs.size) undef) W:=by
  refine { hs with tms:=by simp;omega,slots:=fun t=>?_ }
  have:=hs.slots t
  by_cases ht:t<vs.size
  ·have e:(vs++Array.replicate (fn.ntmps-vs.size) undef).getD t undef=vs.getD t undef:=by
    simp [Array.getD_eq_getD_getElem?,Array.getElem?_append,ht]
   rw [e];exact this
  ·have e:(mk (au 0 (args z.l)) (hp z.l) u).fr t=.un:=by
    rw [dh,aP,if_pos (Nat.zero_le _),List.getElem?_eq_none (by omega)];rfl
   rw [e];exact .un _
 have hI':II z n { B with n:=fn.ntmps } []:=hI
 have hrun:=h z hz B.β0 { B with n:=fn.ntmps } ⟨rfl,h3,h4⟩ [] β { tmps:=vs++Array.replicate (fn.ntmps-vs.size) undef,defers:=[] } W rfl ⟨hI',rfl⟩ hs'
 refine callsIn_of_wp hf hb trivial (wpIn_mono (F:=Fence.wide) hrun fun e a' w' hq=>?_)
 obtain ⟨he,hd,b,hr,B',β',hq⟩:=hq
 rcases he with rfl | rfl
 ·exact ⟨hd,_,hr,b,B',β',rfl,hq⟩
 ·exact ⟨hd,_,hr,b,B',β',rfl,hq⟩
theorem xW (hz:z.Ok P cf.G N xs) {Φ:Exit→Act→World→Prop} {n n':Nat} {b0:Name→Option Blk} {dst:Option Nat} {all:Array Oper} {fv:Operand} {oargs:Array Operand} {at':Array TypeId} {ty:TypeId} {pos:String} {af:Array Edge} {r:List Oper}
  {f:FuncId} {caps:List AV} {args:Nat→List AV} {hp:Nat→List (Name × Ob)} {u u':List Nat} {fr:List (Nat × AV)} (_hro:cf.ro=none)
  (hc:YCall P cf.G N xs f args hp u n n') (hs0:s=mk fr (hp z.l) u') (hdst:∀ t∈dst,t<cf.n) (hev:ev s fv=.clo f caps) (hargs:oargs.toList.map (ev s)++caps=args z.l)
  (hle:LeL u id (mk (au 0 (args z.l)) (hp z.l) u') (au 0 (args z.l)) (hp z.l) u) (hhp:∀ q∈hp z.l,nmb u q.1=true) (huu:∀ x∈u,x∈u')
  (h1:ARY P cf Φ (YI z n' b0) (.ops all r::k) (s.putd dst (.d (.bool true)))) (h2:ARY P cf Φ (YX z b0) (.ops all r::k) (s.putd dst (.d (.bool false)))) :
  ARY P cf Φ (YI z n b0) (.ops all ({ dst:=dst,op:=.call { callee:=.value fv,args:=oargs,argTypes:=at' },type:=ty,pos:=pos,after:=af,guard:=none }::r)::k) s:=by
 intro B hB ds β a w hds hI hs l hl
 obtain ⟨hI,hb0⟩:=hI
 cases l with
 | nil=>simp at hl
 | cons i l =>
   simp only [List.map_cons,List.cons.injEq] at hl
   obtain ⟨hi,hl⟩:=hl
   simp only [wpOpsIn,hi,Region.wanted,if_true]
   refine ⟨fun _ _=>trivial,?_⟩
   have hf:=hs.ev fv
   rw [hev] at hf
   generalize hfv:a.eval fv=fval at hf
   cases hf with
   | clo _ cvs _ hcs hcv =>
   subst hs0
   have hrun:(execOp a.eval { dst:=dst,op:=.call { callee:=.value fv,args:=oargs,argTypes:=at' },type:=ty,pos:=pos,after:=af,guard:=none }).run P w=.ok (.enter f ((oargs.toList.map a.eval).toArray++cvs)) w:=by
    have e:(execOp a.eval { dst:=dst,op:=.call { callee:=.value fv,args:=oargs,argTypes:=at' },type:=ty,pos:=pos,after:=af,guard:=none }:Sem Next)=callFunc f (#[]++oargs.map a.eval++cvs):=by
     show (do let d ← (Deferred.ofValue (a.eval fv) (oargs.map a.eval));invoke d.target d.args:Sem Next)=_
     rw [hfv];rfl
    rw [e,← hc.1 ((oargs.toList.map a.eval).toArray++cvs) w]
    congr 2
    apply Array.ext'
    simp
   rw [Oper.semAt_eq _ _ _ (by simp),hrun,Oper.uponIn_enter]
   refine ⟨fun hdep=>by simp [dn] at hdep,?_⟩
   obtain ⟨C,X,W0,hW0,hJ,hst,hA,hX,hzw⟩:=IJ.stp hI hs
   have hJ':=hz.stab _ _ _ _ _ _ hJ hst
   generalize hsd:mk fr (hp z.l) u'=s at hs hcv hev hargs hst hX hJ' h1 h2
   have hhs:∀ p,s.hp p=(mk (au 0 (args z.l)) (hp z.l) u').hp p:=fun p=>by rw [← hsd];rfl
   have hus:s.used=u':=by rw [← hsd];rfl
   have hlen:(args z.l).length=oargs.size+caps.length:=by
    have:=congrArg List.length hargs
    simpa using this.symm
   have hv:∀ (i:Nat) x,(args z.l)[i]?=some x→VR w.heap (s.own B.A β) s.used s.hp β (((oargs.toList.map a.eval).toArray++cvs).getD i undef) x:=by
    intro i x hx
    rw [← hargs] at hx
    by_cases hlt:i<oargs.size
    ·have hx':(oargs.toList.map (ev s))[i]?=some x:=by rw [← hx,List.getElem?_append_left (by simpa using hlt)]
     have:=cq hs oargs.toList i _ hx'
     rw [show ((oargs.toList.map a.eval).toArray++cvs).getD i undef=(oargs.toList.map a.eval).toArray.getD i undef by simp [Array.getD_eq_getD_getElem?,Array.getElem?_append,hlt]]
     exact this
    ·have hx':caps[i-oargs.size]?=some x:=by rw [← hx,List.getElem?_append_right (by simpa using Nat.le_of_not_lt hlt)];simp
     have:=hcv _ _ hx'
     rw [show ((oargs.toList.map a.eval).toArray++cvs).getD i undef=cvs.getD (i-oargs.size) undef by simp [Array.getD_eq_getD_getElem?,Array.getElem?_append,hlt]]
     exact this
   have hGc:∀ q∈B.G,w.heap[q.1]?=some q.2∧¬ aL s β q.1:=by
    intro q hq
    obtain ⟨g1,g2⟩:=B.hG q hq
    have hlt:=an g1
    refine ⟨(hs.frame _ hlt g2).trans g1,fun hb=>?_⟩
    rcases (hs.bc hb).2.2 with h | h
    ·omega
    ·exact g2 h
   let Bc:Base:={ n:=(args z.l).length,io:=B.io,G:=B.G,H0:=w.heap,O0:=aL s β,A:=B.A,U0:=u,β0:=β,hA:=fun b hb=>Nat.lt_of_lt_of_le (B.hA b hb) hs.size,hG:=hGc }
   have hIc:II (z.trk w C (aL s β)) n Bc []:=⟨rfl,C,aL s β,w,rfl,hs.io,⟨hJ',rfl,Nat.le_refl _,fun _ _ _ _=>rfl,fun _ _ h=>h,fun _ _ h=>h⟩,hA,fun _=>Iff.rfl,hX,hzw⟩
   have hsc0:Sim Bc β (s.fra (mk (au 0 (args z.l)) [] []).fr) ((oargs.toList.map a.eval).toArray++cvs) w:=by
    refine { tms:=by show (_:Array Value).size=(args z.l).length;simp [hcs,hlen],io:=hs.io,size:=Nat.le_refl _,frame:=fun _ _ _=>rfl,slots:=fun t=>?_,objs:=hs.objs,blocks:=fun p k hp hk=>⟨(hs.blocks p k hp hk).1,(hs.blocks p k hp hk).2.1,.inr ⟨p,k,hp,hk,rfl⟩⟩,inj:=hs.inj,us:=fun x hx=>by show x∈s.used;rw [hus];exact huu x hx,stay:=fun _ _=>rfl }
    show VR w.heap (s.own B.A β) s.used s.hp β _ ((mk (au 0 (args z.l)) [] []).fr t)
    rw [dh,aP,if_pos (Nat.zero_le _),Nat.sub_zero]
    cases ht:(args z.l)[t]? with
    | none=>exact .un _
    | some x=>exact hv t x ht
   have hfe:s.fra (mk (au 0 (args z.l)) [] []).fr=mk (au 0 (args z.l)) (hp z.l) u':=by rw [← hsd];rfl
   rw [hfe] at hsc0
   obtain ⟨β1,hsc,_⟩:=hsc0.le (τ:=id) hle.le
   have hcall:=hc.2 (z.trk w C (aL s β)) (hz.trk w C (aL s β)) Bc β1 _ w rfl rfl hB.2.2 hIc hsc
   have hcall':CallsIn (Fw cf.ro) (0-1) P f ((oargs.toList.map a.eval).toArray++cvs) w _:=hcall
   refine hcall'.mono ?_
   rintro e W' ⟨b,B',β',rfl,hb,hβ0,hU,hG',hs2⟩
   have hs2:Sim B' β' (mk [(0,AV.d (.bool b))] (hp z.l) u) #[.bool b] W':=hs2
   have hhp2:∀ p,(mk [(0,AV.d (.bool b))] (hp z.l) u).hp p=s.hp p:=fun p=>by rw [hhs];rfl
   have hnm:∀ p,s.hp p≠none→nm u p:=fun p hp0=>by
    rw [hhs] at hp0
    cases ho:(mk (au 0 (args z.l)) (hp z.l) u').hp p with
    | none=>exact absurd ho hp0
    | some o=>exact fC (hhp _ (eM ho))
   have hββ:∀ p,nm u p→β' p=β p:=fun p hpn=>(hs2.stay p (by rw [hU];exact hpn)).trans (congrFun hβ0 p)
   have hob:∀ b',aL (mk [(0,AV.d (.bool b))] (hp z.l) u) β' b'↔aL s β b':=fun b'=>by
    constructor
    ·rintro ⟨p,k,h1,h2,h3⟩
     rw [hhp2] at h1
     exact ⟨p,k,h1,by rw [← hββ p (hnm p h1)];exact h2,h3⟩
    ·rintro ⟨p,k,h1,h2,h3⟩
     exact ⟨p,k,by rw [hhp2];exact h1,by rw [hββ p (hnm p h1)];exact h2,h3⟩
   have key:∀ (J J':(Nat→Prop)→(Nat→Prop)→World→Prop),IJ (z.trk w C (aL s β)) J B' []→(∀ C' X' W',J C' X' W'→J' C' X' W'∧Trk w C (aL s β) C' X' W')→(∀ C X W X' W',J' C X W→Stp W X W' X'→J' C X' W') →
     ∃ Bn,cf.fits Bn∧Bn.β0=b0∧IJ z J' Bn ds∧Sim Bn β (s.putd dst (.d (.bool b))) (a.put dst (.bool b)).tmps W':=by
    intro J J' hij hJJ hstab
    obtain ⟨C',X',W0',e1,j1,st1,a1,x1,z1⟩:=IJ.stp hij hs2
    obtain ⟨j2,tr0⟩:=hJJ _ _ _ j1
    have tr:=tr0.stp st1
    have j3:=hstab _ _ _ _ _ j2 st1
    have hCC:∀ b,b<w.heap.size→B'.A b→B.A b:=fun b hb h=>(hA b).2 (tr.c b hb ((a1 b).1 h))
    have hsame:∀ b,b<w.heap.size→¬ B.A b→¬ aL s β b→W'.heap[b]?=w.heap[b]?:=fun b hb h1 h2=>tr.same b hb (fun h=>h1 ((hA b).2 h)) h2
    have hr:∀ v d,Rep w.heap (s.own B.A β) v d→Rep W'.heap (s.own B'.A β) v d:=fun v d hd=>hd.mono (fun b hb hlt=>hsame b hlt (fun h=>hb (.inl h)) (fun h=>hb (.inr h))) (by
     rintro b hb (h1 | h1)
     ·exact .inl (hCC b hb h1)
     ·exact .inr h1)
    have hGn:∀ q∈B.G,W'.heap[q.1]?=some q.2∧¬ aL s β q.1:=by
     intro q hq
     have g0:=hGc q hq
     have gq:=B'.hG q (by rw [hG',← hB.2.2];exact hq)
     refine ⟨?_,g0.2⟩
     refine (hs2.frame _ (an gq.1) gq.2).trans gq.1
    let Bn:Base:={ n:=B.n,io:=B.io,G:=B.G,H0:=W'.heap,O0:=aL s β,A:=B'.A,U0:=B.U0,β0:=B.β0,hA:=fun b hb=>Nat.lt_of_lt_of_le (B'.hA b hb) hs2.size,hG:=hGn }
    have hio:wio W'=B.io:=tr.io.trans hs.io
    refine ⟨Bn,⟨hB.1,hB.2.1,hB.2.2⟩,hb0,⟨hI.1,C',aL s β,W',rfl,hio,?_,a1,fun _=>Iff.rfl,hX,Nat.le_trans hzw tr.size⟩,?_⟩
    ·have:aL (mk [(0,AV.d (.bool b))] (hp z.l) u) β'=aL s β:=by funext b';exact propext (hob b')
     rw [← this];exact j3
    ·have hs3:Sim Bn β s a.tmps W':=by
      refine { tms:=hs.tms,io:=hio,size:=Nat.le_refl _,frame:=fun _ _ _=>rfl,slots:=fun t=>(hs.slots t).mono hr (fun _ h=>h) (fun p _ o' ho=>⟨o',ho,Ob.bn _,rfl⟩),objs:=fun p o ho=>?_,blocks:=fun p k hp0 hk=>?_,inj:=fun p q k l' hp0 hq0 hk hl' e=>hs.inj p q k l' hp0 hq0 hk hl' e,us:=hs.us,stay:=hs.stay }
      ·have hp0:s.hp p≠none:=by rw [ho];simp
       refine ⟨(hs.objs p o ho).1,?_⟩
       have:=(hs2.objs p o (by rw [hhp2];exact ho)).2
       refine this.mono (fun v d hd=>hd.mono (fun _ _ _=>rfl) (by
        rintro b' _ (h1 | h1)
        ·exact .inl h1
        ·exact .inr ((hob b').2 h1))) (fun x hx=>by rw [hus];exact huu x hx) (fun p' hp' o' ho'=>⟨o',by rw [hhp2];exact ho',Ob.bn _,(hββ p' hp').symm⟩) (hββ p (hnm p hp0)).symm (fun _ _=>rfl)
      ·obtain ⟨b1,b2,_⟩:=hs2.blocks p k (by rw [hhp2];exact hp0) (by rw [hββ p (hnm p hp0)];exact hk)
       exact ⟨b1,b2,.inr ⟨p,k,hp0,hk,rfl⟩⟩
     cases dst with
     | none=>exact hs3
     | some t=>exact hs3.put (by show t<B.n;rw [hB.1];exact hdst t rfl) (.d _ _ (.bool _))
   have hds':(a.put dst (.bool b)).defers=ds:=by cases dst<;>exact hds
   rcases hb with ⟨rfl,hb⟩ | ⟨rfl,hb⟩
   ·obtain ⟨Bn,f1,f2,f3,f4⟩:=key _ (z.J n') hb (fun _ _ _ h=>h) (fun C X W X' W'=>hz.stab n' C X W X' W')
    exact h1 Bn f1 ds β _ W' hds' ⟨f3,f2⟩ f4 l hl
   ·obtain ⟨Bn,f1,f2,f3,f4⟩:=key _ (fun C X W=>∃ n,z.Jx n C X W) hb (fun _ _ _ ⟨n,h⟩=>⟨⟨n,h.1⟩,h.2⟩) (fun C X W X' W' ⟨n,h⟩ hst=>⟨n,hz.stabx n C X W X' W' h hst⟩)
    exact h2 Bn f1 ds β _ W' hds' ⟨f3,f2⟩ f4 l hl
theorem C9 (hz:z.Ok P cf.G N xs) {Φ:Exit→Act→World→Prop} {n t:Nat} {b0:Name→Option Blk} {all:Array Oper} {fv:Operand} {args:Array Operand} {at':Array TypeId} {ty:TypeId} {pos:String} {af:Array Edge} {r:List Oper}
  (hn:n<N) (ht:t<cf.n) (hev:ev s fv=.d (.yl z.l)) (hargs:args.toList.map (ev s)=(xs n).map .d)
  (h1:ARY P cf Φ (YI z (n+1) b0) (.ops all r::k) (s.put t (.d (.bool true)))) (h2:ARY P cf Φ (YX z b0) (.ops all r::k) (s.put t (.d (.bool false)))) :
  ARY P cf Φ (YI z n b0) (.ops all ({ dst:=some t,op:=.call { callee:=.value fv,args:=args,argTypes:=at' },type:=ty,pos:=pos,after:=af,guard:=none }::r)::k) s:=by
 intro B hB ds β a w hds hI hs l hl
 obtain ⟨hI,hb0⟩:=hI
 cases l with
 | nil=>simp at hl
 | cons i l =>
   simp only [List.map_cons,List.cons.injEq] at hl
   obtain ⟨hi,hl⟩:=hl
   simp only [wpOpsIn,hi,Region.wanted,if_true]
   obtain ⟨C,X,W0,hW0,hJ,hst,hA,hX,hzw⟩:=IJ.stp hI hs
   have hJ':=hz.stab _ _ _ _ _ _ hJ hst
   have hf:=hs.ev fv
   rw [hev] at hf
   have hfv:a.eval fv=.func (.yield z.l) #[] #[]:=by
    have:=hf.toD
    generalize a.eval fv=v at this
    cases this;rfl
   have hlen:args.size=(xs n).length:=by simpa using congrArg List.length hargs
   have hrd:=hz.round n C (aL s β) w (args.map a.eval) hn hJ' (by simpa using hlen) (fun j d hj=>by
    have hx:(args.toList.map (ev s))[j]?=some (.d d):=by rw [hargs,List.getElem?_map,hj];rfl
    have:=(cq hs args.toList j _ hx).toD
    rw [show (args.map a.eval).getD j undef=(args.toList.map a.eval).toArray.getD j undef by simp [Array.getD_eq_getD_getElem?]]
    refine this.mono (fun _ _ _=>rfl) (fun b _ hb=>?_)
    rcases hb with hb | hb
    ·exact .inl ((hA b).2 hb)
    ·exact .inr hb)
   obtain ⟨fn,tmps,assign,body,hy,hrd⟩:=hrd
   refine ⟨fun _ _=>trivial,?_⟩
   have hrun:(execOp a.eval { dst:=some t,op:=.call { callee:=.value fv,args:=args,argTypes:=at' },type:=ty,pos:=pos,after:=af,guard:=none }:Sem Next).run P w=.ok (.round z.l fn tmps assign body) w:=by
    have e:(execOp a.eval { dst:=some t,op:=.call { callee:=.value fv,args:=args,argTypes:=at' },type:=ty,pos:=pos,after:=af,guard:=none }:Sem Next)=Instr.yield z.l (#[]++args.map a.eval++#[]):=by
     show (do let d ← (Deferred.ofValue (a.eval fv) (args.map a.eval));invoke d.target d.args:Sem Next)=_
     rw [hfv];rfl
    rw [e]
    simpa using hy
   rw [Oper.semAt_eq _ _ _ (by simp),hrun,Oper.uponIn_round]
   refine ⟨fun hdep=>by simp [dn] at hdep,?_⟩
   have hrd':RoundIn (Fw cf.ro) (0-1) P z.l fn tmps assign body w _:=hrd
   refine hrd'.mono ?_
   rintro e W' ⟨C',⟨c1,c2,c3,c4,c5⟩,hq⟩
   have hG':∀ q∈B.G,W'.heap[q.1]?=some q.2∧¬ aL s β q.1:=fun q hq=>by
    obtain ⟨g1,g2⟩:=B.hG q hq
    have hlt:=an g1
    refine ⟨(c4 q (by rw [← hB.2.2];exact hq)).trans ((hs.frame _ hlt g2).trans g1),fun hb=>?_⟩
    rcases (hs.bc hb).2.2 with g3 | g3
    ·omega
    ·exact g2 g3
   let B':Base:={ n:=B.n,io:=B.io,G:=B.G,H0:=W'.heap,O0:=aL s β,A:=C',U0:=B.U0,β0:=B.β0,hA:=fun b hb=>(c5 b hb).2,hG:=hG' }
   have hs':Sim B' β s a.tmps W':=by
    refine hs.mv rfl (c1.trans hs.io) (Nat.le_refl _) (fun _ _ _=>rfl) c2 (fun b hb hn=>c3 b hb (fun hc=>hn ((hA b).2 hc))) (fun b hb hc=>?_) (fun p k hp hk=>.inr ⟨p,k,hp,hk,rfl⟩) hs.us hs.stay
    rcases (c5 b hc).1 with h | h
    ·exact (hA b).2 h
    ·omega
   have hIJ:∀ J:(Nat→Prop)→(Nat→Prop)→World→Prop,J C' (aL s β) W'→IJ z J B' ds:=fun J hj=>⟨hI.1,C',_,W',rfl,c1.trans hs.io,hj,fun _=>Iff.rfl,fun _=>Iff.rfl,hX,Nat.le_trans hzw c2⟩
   rcases hq with ⟨rfl,hj⟩ | ⟨rfl,hj⟩
   ·exact h1 B' ⟨hB.1,hB.2.1,hB.2.2⟩ ds β (a.put (some t) (.bool true)) W' hds ⟨hIJ _ hj,hb0⟩ (hs'.put (by show t<B.n;rw [hB.1];exact ht) (.d _ _ (.bool _))) l hl
   ·exact h2 B' ⟨hB.1,hB.2.1,hB.2.2⟩ ds β (a.put (some t) (.bool false)) W' hds ⟨hIJ _ ⟨_,hj⟩,hb0⟩ (hs'.put (by show t<B.n;rw [hB.1];exact ht) (.d _ _ (.bool _))) l hl
end
end Go.Ab

namespace Go.Proofs.YtejpnabbmgpmaaaGreat
open Go.Ab
theorem BI {G} (l:List Int) (hl:l.length≤1000000):HCall Tryz.prog G 155 [.d (.sl none (l.map i64))] [] [] (fun r hp'=>r=.vw [0] 0 l.length∧hp'=[([0],.arr none (l.map i64))]):=by
 refine HCall.thaw (Q:=fun r hp'=>(r=.d .nils∧hp'=[]∧l=[])∨(r=.vw [0] 0 l.length∧hp'=[([0],.arr none (l.map i64))])) ?_ 0 none (by simp) ?_
 ·refine aq Tryz.func155 rfl (by decide +kernel) (by simp [Tryz.ntmps155]) (veil fun E=>?_)
  simp only [go_sem]
  refine sx E (e:=3) (by simp only [go_sem]) (by simp only [go_sem]) rfl fun b hb=>?_
  simp only [go_sem]
  refine aZ E (fun h=>?_) (fun h=>?_)<;>simp only [go_sem]
  ·have:l=[]:=by simpa using hb h
   subst this
   refine ⟨_,[],[],id,.inl ⟨rfl,rfl,rfl⟩,?_⟩
   simp only [go_sem]
  ·refine ⟨by omega,_,_,[0],tau [([0],[7])],.inr ⟨rfl,rfl⟩,?_⟩
   simp only [go_sem]
 ·rintro r hp' (⟨rfl,rfl,rfl⟩ | h)
  ·exact .inr ⟨rfl,rfl,rfl,rfl⟩
  ·exact .inl h
theorem C7 {G} (l:List EF) (hl:l.length≤1000000):HCall Tryz.prog G 156 [.d (efD l)] [] [] (fun r hp'=>r=.vw [0] 0 l.length∧hp'=[([0],.arr (some 3) (l.map fD))]):=by
 refine HCall.thaw (Q:=fun r hp'=>(r=.d .nils∧hp'=[]∧l=[])∨(r=.vw [0] 0 l.length∧hp'=[([0],.arr (some 3) (l.map fD))])) ?_ 0 (some 3) (by simp) ?_
 ·unfold efD
  refine aq Tryz.func156 rfl (by decide +kernel) (by simp [Tryz.ntmps156]) (veil fun E=>?_)
  simp only [go_sem]
  refine sx E (e:=177) (by simp only [go_sem]) (by simp only [go_sem]) rfl fun b hb=>?_
  simp only [go_sem]
  refine aZ E (fun h=>?_) (fun h=>?_)<;>simp only [go_sem]
  ·have:l=[]:=by simpa using hb h
   subst this
   refine ⟨_,[],[],id,.inl ⟨rfl,rfl,rfl⟩,?_⟩
   simp only [go_sem]
  ·refine ⟨by omega,_,_,[0],tau [([0],[7])],.inr ⟨rfl,rfl⟩,?_⟩
   simp only [go_sem]
 ·rintro r hp' (⟨rfl,rfl,rfl⟩ | h)
  ·exact .inr ⟨rfl,rfl,rfl,rfl⟩
  ·exact .inl h
theorem dr {G} (n:EN) (hl:n.l.length≤1000000):HCall Tryz.prog G 104 [.d (enD n)] [] [] (fun r hp'=>r=.vw [0] 0 (ah n).length∧hp'=[([0],.arr none ((ah n).map i64))]):=by
 unfold enD efD
 refine aq Tryz.func104 rfl (by decide +kernel) (by simp [Tryz.ntmps104]) (veil fun E=>?_)
 simp only [go_sem]
 refine ae E (mX n.k) rfl rfl (by simp) ?_
 rintro _ rfl
 simp only [go_sem]
 have hk3:=bJ n.k
 refine ⟨⟨by omega,by omega⟩,?_⟩
 refine iZ E [16] none _ rfl (by simp only [go_sem];rfl) ?_
 simp only [go_sem]
 obtain ⟨K,hK⟩:∃ K,K=[n.a,n.b,n.c].take (aH n.k):=⟨_,rfl⟩
 have hKl:K.length=aH n.k:=by rw [hK];simp;omega
 have hKd:List.take (aH n.k) [i64 n.a,i64 n.b,i64 n.c]=K.map i64:=by rw [hK,List.map_take];rfl
 rw [Nat.sub_zero,hKd]
 refine ab E [.d (.sl none (K.map i64))] [] [] (BI K (by omega)) rfl rfl ⟨by simp only [go_sem],by rw [aa];decide⟩ rfl (by simp only [go_sem]) (by simp only [go_sem]) ?_
 rintro _ _ ⟨rfl,rfl⟩
 simp only [go_sem]
 refine aZ E (fun hp=>?_) (fun hp=>?_)<;>simp only [go_sem]
 ·refine a9 E (X:={ i:Nat // i≤n.l.length }) (fun x=>[(4,.vw [99] 0 (K.length+x.1)),(24,.d (.sl (some 3) (n.l.map fD))),(25,.d (i64 n.l.length)),(26,.d (i64 x.1))]) (fun x=>[([99],.arr none ((K++(n.l.take x.1).map (·.to)).map i64))]) [99] (fun x=>n.l.length-x.1) ⟨0,Nat.zero_le _⟩ (tau [([99],[20,0])]) ?_ ?_
  ·simp only [go_sem]
   rw [List.append_nil]
  rintro ⟨i,hi⟩ E0
  refine bb E0 fun Q' hQ E'=>?_
  simp only at hi ⊢
  simp only [go_sem]
  refine ai E' (fun h1=>?_) (fun h1=>?_)<;>simp only [go_sem]
  ·have h1':i<n.l.length:=by omega
   have hx:(n.l.map fD).getD i .nilp=.agg [.str n.l[i].nm,.str n.l[i].var,i64 n.l[i].to]:=by simp [h1',fD]
   refine ⟨⟨by omega,by omega⟩,?_⟩
   rw [hx]
   simp only [go_sem]
   have htk:List.take (K.length+i) (List.map i64 (K++List.map (·.to) (List.take i n.l)))++[i64 n.l[i].to]=List.map i64 (K++List.map (·.to) (List.take (i+1) n.l)):=by
    rw [List.take_of_length_le (by simp;omega),List.take_succ_eq_append_getElem h1']
    simp only [List.map_append,List.map_cons,List.map_nil,List.append_assoc]
   rw [htk,ak ⟨by omega,by omega⟩,hQ]
   simp only [go_sem]
   refine ⟨by omega,⟨i+1,by omega⟩,by show n.l.length-(i+1)<_;omega,tau [([99],[34])],?_⟩
   simp only [go_sem]
   exact ⟨rfl,rfl⟩
  ·rw [hQ]
   simp only [go_sem]
   have hi2:i=n.l.length:=by omega
   subst hi2
   have hkk:K++List.map (·.to) (List.take n.l.length n.l)=ah n:=by
    rw [List.take_length,hK]
    simp [ah,hp]
   have hkl:(ah n).length=K.length+n.l.length:=by rw [← hkk];simp
   rw [hkk,← hkl]
   refine ⟨_,_,[0],tau [([0],[99])],⟨rfl,rfl⟩,?_⟩
   simp only [go_sem]
 ·have hkk:K=ah n:=by
   rw [hK]
   simp [ah,hp]
  rw [hkk]
  refine ⟨_,_,[0],tau [([0],[20,0])],⟨rfl,rfl⟩,?_⟩
  simp only [go_sem]
end Go.Proofs.YtejpnabbmgpmaaaGreat

namespace Go.Proofs.YtejpnabbmgpmaaaGreat
open Go.Ab
theorem G6:Tryz.prog.e7 177=true:=by kernel_rfl
theorem bd {ns:List EN} {i:Nat} (h:i<ns.length):ndE ns i=ns[i]:=by simp [ndE,h]
def fdE (l:List EF) (i:Nat):EF:=l.getD i ⟨[],[],0⟩
theorem gu {l:List EF} {i:Nat} (h:i<l.length):(l.map fD).getD i .nilp=.agg [.str (fdE l i).nm,.str (fdE l i).var,i64 (fdE l i).to]:=by simp [h,fD,fdE]
theorem aN {ns:List EN} {i:Nat} (h:i<ns.length):(ns.map enD).getD i .nilp=.agg [i64 (ndE ns i).k,i64 (ndE ns i).a,i64 (ndE ns i).b,i64 (ndE ns i).c,i64 (ndE ns i).n,.str (ndE ns i).name,.str (ndE ns i).s,.sl (some 3) ((ndE ns i).l.map fD),i64 (ndE ns i).pos]:=by simp [h,enD,efD,ndE]
theorem Hr {G} (n:EN) (hl:n.l.length≤1000000):HP Tryz.prog G 68 [enD n,enD n] (fun r=>r=.d (.bool true)):=by
 unfold enD efD
 refine ao Tryz.func68 rfl (by decide +kernel) (by simp [Tryz.ntmps68]) (veil fun E=>?_)
 simp only [go_sem]
 repeat (first
  | (apply fg E;(· simp only [go_sem]);(· intro h;(try simp only [bq] at h);simp only [↓h,go_sem];rfl);simp only [go_sem])
  | (apply cD E;(· simp only [go_sem]);(· intro h;(try simp only [bq] at h);simp only [↓h,go_sem];rfl);(· intro h;(try simp only [bq] at h);simp only [↓h,go_sem];rfl);simp only [go_sem])
  | (apply cC E;(· simp only [go_sem]);(· rfl);(· intro h h';(try simp only [bq] at h h');simp only [↓h,↓h',go_sem];rfl);simp only [go_sem])
  | (apply bC E;(· simp only [go_sem]);(· rfl);(· intro h h';(try simp only [bq] at h h');simp only [↓h,↓h',go_sem];rfl);(· intro h h';(try simp only [bq] at h h');simp only [↓h,↓h',go_sem];rfl);simp only [go_sem])
  | (apply eI E;(· decide);simp only [go_sem]))
 refine xU E [2] (.agg [i64 n.k,i64 n.a,i64 n.b,i64 n.c,i64 n.n,.str n.name,.str n.s,.sl (some 3) (n.l.map fD),i64 n.pos]) rfl rfl ?_
 simp only [go_sem]
 refine xU E [3] (.agg [i64 n.k,i64 n.a,i64 n.b,i64 n.c,i64 n.n,.str n.name,.str n.s,.sl (some 3) (n.l.map fD),i64 n.pos]) rfl rfl ?_
 simp only [go_sem]
 refine eG E (X:={ j:Nat // j≤n.l.length }) (fun x=>[(2,.d (.ptr (.agg [i64 n.k,i64 n.a,i64 n.b,i64 n.c,i64 n.n,.str n.name,.str n.s,.sl (some 3) (n.l.map fD),i64 n.pos]))),(3,.d (.ptr (.agg [i64 n.k,i64 n.a,i64 n.b,i64 n.c,i64 n.n,.str n.name,.str n.s,.sl (some 3) (n.l.map fD),i64 n.pos]))),(5,.d (i64 x.1))]) (fun x=>n.l.length-x.1) rfl ⟨0,Nat.zero_le _⟩ ?_ ?_
 ·simp only [go_sem]
  all_goals rfl
 rintro ⟨j,hj⟩ E3
 refine bb E3 fun Q3 hQ3 E4=>?_
 simp only at hj ⊢
 simp only [go_sem]
 refine ai E4 (fun h4=>?_) (fun h4=>?_)<;>simp only [go_sem]
 ·have h4':j<n.l.length:=by omega
  refine aj mixed E4 fun X=>?_
  simp only [go_sem]
  refine ⟨⟨by omega,by omega⟩,?_⟩
  rw [gu h4']
  simp only [go_sem]
  refine ⟨⟨by omega,by omega⟩,?_⟩
  rw [gu h4']
  simp only [go_sem]
  refine Iw X (b:=true) G6 (by rw [GB]) (by simp only [go_sem]) rfl rfl (by simp [eqS,eqP,kOk,ti9,ti3]) ?_
  simp only [go_sem]
  refine ⟨by decide +kernel,?_⟩
  rw [hQ3]
  simp only [go_sem]
  refine ⟨⟨j+1,by omega⟩,by show n.l.length-(j+1)<_;omega,?_⟩
  rw [ak ⟨by omega,by omega⟩]
  rfl
 ·rw [hQ3]
  simp only [go_sem]
theorem GV {G} (ns:List EN) (hN:ns.length≤1000000) (hfl:∀ n∈ns,n.l.length≤1000000):HP Tryz.prog G 28 [exD ns,exD ns] (fun r=>r=.d (.bool true)):=by
 unfold exD
 refine ao Tryz.func28 rfl (by decide +kernel) (by simp [Tryz.ntmps28]) (veil fun E=>?_)
 simp only [go_sem]
 repeat (first
  | (apply fg E;(· simp only [go_sem]);(· intro h;(try simp only [bq] at h);simp only [↓h,go_sem];rfl);simp only [go_sem])
  | (apply cD E;(· simp only [go_sem]);(· intro h;(try simp only [bq] at h);simp only [↓h,go_sem];rfl);(· intro h;(try simp only [bq] at h);simp only [↓h,go_sem];rfl);simp only [go_sem])
  | (apply cC E;(· simp only [go_sem]);(· rfl);(· intro h h';(try simp only [bq] at h h');simp only [↓h,↓h',go_sem];rfl);simp only [go_sem])
  | (apply bC E;(· simp only [go_sem]);(· rfl);(· intro h h';(try simp only [bq] at h h');simp only [↓h,↓h',go_sem];rfl);(· intro h h';(try simp only [bq] at h h');simp only [↓h,↓h',go_sem];rfl);simp only [go_sem])
  | (apply eI E;(· decide);simp only [go_sem]))
 refine xU E [2] (.agg [.sl (some 9) (ns.map enD)]) rfl rfl ?_
 simp only [go_sem]
 refine xU E [3] (.agg [.sl (some 9) (ns.map enD)]) rfl rfl ?_
 simp only [go_sem]
 refine eG E (X:={ i:Nat // i≤ns.length }) (fun x=>[(2,.d (.ptr (.agg [.sl (some 9) (ns.map enD)]))),(3,.d (.ptr (.agg [.sl (some 9) (ns.map enD)]))),(5,.d (i64 x.1))]) (fun x=>ns.length-x.1) rfl ⟨0,Nat.zero_le _⟩ ?_ ?_
 ·simp only [go_sem]
  all_goals rfl
 rintro ⟨i,hi⟩ E'
 refine bb E' fun Q' hQ E'=>?_
 simp only at hi ⊢
 simp only [go_sem]
 refine ai E' (fun h1=>?_) (fun h1=>?_)<;>simp only [go_sem]
 ·have hi':i<ns.length:=by omega
  have hin:ndE ns i∈ns:=by rw [bd hi'];exact List.getElem_mem hi'
  refine aj mixed E' fun X=>?_
  simp only [go_sem]
  refine ⟨⟨by omega,by omega⟩,?_⟩
  rw [aN hi']
  simp only [go_sem]
  refine ⟨⟨by omega,by omega⟩,?_⟩
  rw [aN hi']
  simp only [go_sem]
  refine cP X (Hr (ndE ns i) (hfl _ hin)) rfl rfl (by simp) ?_
  simp only [go_sem]
  refine ⟨by decide +kernel,?_⟩
  rw [hQ]
  simp only [go_sem]
  refine ⟨⟨i+1,by omega⟩,by show ns.length-(i+1)<_;omega,?_⟩
  rw [ak ⟨by omega,by omega⟩]
  rfl
 ·rw [hQ]
  simp only [go_sem]
end Go.Proofs.YtejpnabbmgpmaaaGreat

namespace Go.Proofs.YtejpnabbmgpmaaaGreat
open Go.Ab
def dz (n:EN):Bool:=if n.k=4∨n.k=5∨n.k=7∨n.k=8∨n.k=12 then fu n.name else if n.k=13 then rC n.name else n.name.isEmpty
def bU (n:EN):Bool :=
 if n.k=1 then n.s.isEmpty else if n.k=2 then (decide (n.n=0) || decide (n.n=1)) && n.s.isEmpty else if n.k=10 then decide (1≤n.n) && decide (n.n≤7) && n.s.isEmpty
 else if n.k=3 then decide (n.n=0) && decide (n.s.length≤200) else decide (n.n=0) && n.s.isEmpty
def iV (k:Int) (f:EF):Bool:=if k=11 then fu f.nm && f.var.isEmpty else rC f.nm && fu f.var
def cy (n:EN):Bool :=
 if aw n.k then (n.l.all (iV n.k)) && (decide ((if n.k=14 then 1 else 0)≤n.l.length) && decide (n.l.length≤30) && decide ((n.l.map (·.nm)).Nodup)) else n.l.isEmpty
def dj (n:EN):Bool:=([n.a,n.b,n.c].drop (aH n.k)).all fun x=>decide (x=0)
def aX (n:EN):Bool:=decide (1≤n.k) && decide (n.k≤14) && decide (0≤n.pos) && decide (n.pos≤1048576) && (dz n && bU n && cy n && dj n)
def dZ (ns:List EN) (i:Nat):Bool:=((ah (ndE ns i)).all fun k=>decide (0≤k) && decide (k<(i:Int))) && (decide ((ndE ns i).k≠8) || decide ((ndE ns (ndE ns i).a.toNat).k=5))
def pd (ns:List EN) (k:Nat):Nat:=(ns.flatMap ah).countP fun x=>decide (x=(k:Int))
def vV (d:List Int) (n:EN):Int:=(ah n).foldl (fun m k=>max m (d.getD k.toNat 0)) 0+1
def bT:List EN→List Int→List Int
 | [],d=>d
 | n::r,d=>bT r (d++[vV d n])
def lS (ns:List EN):Int:=(bT ns []).getD (ns.length-1) 0
def okE (ns:List EN):Bool:=(List.range ns.length).all fun i=>aX (ndE ns i) && dZ ns i
def md (ns:List EN):Bool:=(List.range (ns.length-1)).all fun k=>decide (pd ns k=1)
def bB (ns:List EN):Int:=if ns.length=0∨600<ns.length then 8 else if okE ns && md ns then (if 100<lS ns then 6 else 0) else 4
end Go.Proofs.YtejpnabbmgpmaaaGreat

namespace Go.Proofs.YtejpnabbmgpmaaaGreat
open Go.Ab
theorem IL:th Tryz.prog 4=some (.bool false):=by kernel_rfl
theorem qc {κ:Type} [DecidableEq κ] (a b:κ) (d:D):∀ ms:List (κ × D),mlook (mset ms a d) b=if a=b then some d else mlook ms b
 | []=>rfl
 | q::r=>by
   simp only [mset]
   split
   ·rename_i e
    simp only [mlook]
    rw [e]
    split<;>rfl
   ·rename_i e
    simp only [mlook,qc a b d r]
    split
    ·rename_i e2
     rw [if_neg (fun e3=>e (e2.trans e3.symm))]
    ·rfl
def setOf (l:List (List UInt8)):List (List UInt8 × D):=l.foldl (fun ms u=>mset ms u (.bool true)) []
theorem setOf_snoc (l:List (List UInt8)) (u:List UInt8):setOf (l++[u])=mset (setOf l) u (.bool true):=by simp [setOf]
theorem Aq (l:List (List UInt8)) (u:List UInt8):(mlook (setOf l) u).getD (.bool false)=.bool (decide (u∈l)):=by
 suffices h:∀ l:List (List UInt8),mlook (setOf l) u=if u∈l then some (.bool true) else none by
  rw [h];split<;>simp_all
 intro l
 induction hl:l.length generalizing l with
 | zero=>have:l=[]:=List.length_eq_zero_iff.1 hl;subst this;rfl
 | succ n ih =>
   have hne:l≠[]:=by intro e;rw [e] at hl;simp at hl
   obtain ⟨r,x,rfl⟩:∃ r x,l=r++[x]:=⟨l.dropLast,l.getLast hne,(List.dropLast_concat_getLast hne).symm⟩
   rw [setOf_snoc,qc,ih r (by simpa using hl)]
   by_cases h1:x=u
   ·subst h1;simp
   ·rw [if_neg h1]
    simp [Ne.symm h1]
def twice (l:List (List UInt8)):Bool:=!decide l.Nodup
theorem DZ {l:List (List UInt8)} {i:Nat} (hi:i<l.length) (h:(l.take i).Nodup) (h2:l.getD i [] ∉ l.take i):(l.take (i+1)).Nodup:=by
 have e:l.getD i []=l[i]:=by simp [hi]
 rw [e] at h2
 rw [List.take_succ_eq_append_getElem hi,List.nodup_append]
 exact ⟨h,by simp,fun x hx y hy=>by rw [List.mem_singleton.1 hy];rintro rfl;exact h2 hx⟩
theorem Ho {l:List (List UInt8)} {i:Nat} (hi:i<l.length) (h2:l.getD i []∈l.take i):twice l=true:=by
 have e:l.getD i []=l[i]:=by simp [hi]
 rw [e] at h2
 have:¬ l.Nodup:=fun hn=>by
  have hs:(l.take (i+1)).Nodup:=hn.sublist (List.take_sublist _ _)
  rw [List.take_succ_eq_append_getElem hi,List.nodup_append] at hs
  exact hs.2.2 _ h2 _ (by simp) rfl
 simp [twice,this]
theorem wF {G} (l:List (List UInt8)) (hl:l.length≤1000000):HP Tryz.prog G 160 [strs l] (fun r=>r=.d (.bool (twice l))):=by
 refine ao Tryz.func160 rfl (by decide +kernel) (by simp [Tryz.ntmps160]) (veil fun E=>?_)
 unfold strs
 simp only [go_sem]
 refine pK E (by simp) (by simp [aa]) ?_
 simp only [go_sem]
 refine cM E (X:={ i:Nat // i≤l.length∧(l.take i).Nodup }) (fun x=>[(3,.mp [6]),(7,.d (.sl none (l.map .str))),(8,.d (i64 l.length)),(9,.d (i64 x.1))]) (fun x=>[([6],.map (menc D.str (setOf (l.take x.1))))]) [6] (fun x=>l.length-x.1) ⟨0,by simp⟩ ?_ ?_
 ·simp only [go_sem]
  all_goals rfl
 rintro ⟨i,hi,hn⟩ E'
 simp only [go_sem]
 refine ai E' (fun h1=>?_) (fun h1=>?_)<;>simp only [go_sem]
 ·have hi':i<l.length:=by omega
  refine ⟨⟨by omega,by omega⟩,?_⟩
  rw [tb hi']
  simp only [go_sem]
  refine uu E' [6] (setOf (l.take i)) (l.getD i []) (.bool false) (by rw [DB]) (Df (by rw [ti9])) IL rfl rfl rfl (by simp) ?_
  simp only [go_sem]
  rw [Aq]
  refine ai E' (fun h2=>?_) (fun h2=>?_)<;>simp only [go_sem]
  ·rw [Ho hi' h2]
  refine mi E' [6] (setOf (l.take i)) (l.getD i []) (.bool true) (by rw [DB]) (Df (by rw [ti9])) rfl rfl rfl rfl rfl ?_
  simp only [go_sem]
  refine ⟨⟨i+1,by omega,DZ hi' hn h2⟩,by show l.length-(i+1)<_;omega,by rw [ak ⟨by omega,by omega⟩];rfl,?_⟩
  rw [List.take_succ_eq_append_getElem hi',setOf_snoc]
  simp [hi']
 ·have hil:i=l.length:=by omega
  subst hil
  rw [List.take_length] at hn
  simp [twice,hn]
structure fO (B:Nat) (n:EN):Prop where
 nm:n.name.length≤B
 s:n.s.length≤B
 l:n.l.length≤1000000
 f:∀ f∈n.l,f.nm.length≤B∧f.var.length≤B
abbrev BIG:Nat:=9223372036854775807
theorem qL (l:List UInt8):(l == [])=l.isEmpty:=by cases l<;>rfl
theorem FT {G} (n:EN) (h:fO BIG n):HP Tryz.prog G 106 [enD n] (fun r=>r=.d (.bool (dz n))):=by
 generalize hb:dz n=b
 unfold dz at hb
 have c1:=q8 (G:=G) n.name h.nm
 have c2:=wW (G:=G) n.name h.nm
 generalize fu n.name=x at c1 hb
 generalize rC n.name=y at c2 hb
 unfold enD efD
 refine ao Tryz.func106 rfl (by decide +kernel) (by simp [Tryz.ntmps106]) (veil fun E=>?_)
 simp only [go_sem]
 refine ai E (fun h4=>?_) (fun h4=>?_)<;>simp only [go_sem]
 ·rw [decide_eq_true h4]
  try simp only [go_sem]
  refine ae E (c1) rfl rfl (by simp) ?_
  rintro _ rfl
  simp only [go_sem]
  subst hb
  rw [if_pos (by omega)]
 refine ai E (fun h5=>?_) (fun h5=>?_)<;>simp only [go_sem]
 ·rw [decide_eq_true h5]
  try simp only [go_sem]
  refine ae E (c1) rfl rfl (by simp) ?_
  rintro _ rfl
  simp only [go_sem]
  subst hb
  rw [if_pos (by omega)]
 refine ai E (fun h7=>?_) (fun h7=>?_)<;>simp only [go_sem]
 ·rw [decide_eq_true h7]
  try simp only [go_sem]
  refine ae E (c1) rfl rfl (by simp) ?_
  rintro _ rfl
  simp only [go_sem]
  subst hb
  rw [if_pos (by omega)]
 refine ai E (fun h8=>?_) (fun h8=>?_)<;>simp only [go_sem]
 ·rw [decide_eq_true h8]
  try simp only [go_sem]
  refine ae E (c1) rfl rfl (by simp) ?_
  rintro _ rfl
  simp only [go_sem]
  subst hb
  rw [if_pos (by omega)]
 refine ai E (fun h12=>?_) (fun h12=>?_)<;>simp only [go_sem]
 ·try simp only [go_sem]
  refine ae E (c1) rfl rfl (by simp) ?_
  rintro _ rfl
  simp only [go_sem]
  subst hb
  rw [if_pos (by omega)]
 refine ai E (fun h13=>?_) (fun h13=>?_)<;>simp only [go_sem]
 ·refine ae E (c2) rfl rfl (by simp) ?_
  rintro _ rfl
  simp only [go_sem]
  subst hb
  rw [if_neg (by omega),if_pos h13]
 ·subst hb
  rw [if_neg (by omega),if_neg h13,qL]
theorem Fb {G} (k:Int) (f:EF) (h1:f.nm.length≤BIG) (h2:f.var.length≤BIG):HP Tryz.prog G 159 [i64 k,fD f] (fun r=>r=.d (.bool (iV k f))):=by
 generalize hb:iV k f=b
 unfold iV at hb
 have c1:=q8 (G:=G) f.nm h1
 have c2:=wW (G:=G) f.nm h1
 have c3:=q8 (G:=G) f.var h2
 generalize fu f.nm=x at c1 hb
 generalize rC f.nm=y at c2 hb
 generalize fu f.var=z at c3 hb
 unfold fD
 refine ao Tryz.func159 rfl (by decide +kernel) (by simp [Tryz.ntmps159]) (veil fun E=>?_)
 simp only [go_sem]
 refine ai E (fun h=>?_) (fun h=>?_)<;>simp only [go_sem]
 ·refine ae E (c1) rfl rfl (by simp) ?_
  rintro _ rfl
  simp only [go_sem]
  repeat (first
   | (apply fg E;(· simp only [go_sem]);(· intro h;(try simp only [bq] at h);simp only [↓h,go_sem];rfl);simp only [go_sem])
   | (apply cD E;(· simp only [go_sem]);(· intro h;(try simp only [bq] at h);simp only [↓h,go_sem];rfl);(· intro h;(try simp only [bq] at h);simp only [↓h,go_sem];rfl);simp only [go_sem])
   | (apply cC E;(· simp only [go_sem]);(· rfl);(· intro h h';(try simp only [bq] at h h');simp only [↓h,↓h',go_sem];rfl);simp only [go_sem])
   | (apply bC E;(· simp only [go_sem]);(· rfl);(· intro h h';(try simp only [bq] at h h');simp only [↓h,↓h',go_sem];rfl);(· intro h h';(try simp only [bq] at h h');simp only [↓h,↓h',go_sem];rfl);simp only [go_sem])
   | (apply eI E;(· decide);simp only [go_sem]))
  rw [if_pos h,← qL] at hb
  rw [hb]
 ·refine ae E (c2) rfl rfl (by simp) ?_
  rintro _ rfl
  simp only [go_sem]
  repeat (first
   | (apply fg E;(· simp only [go_sem]);(· intro h;(try simp only [bq] at h);simp only [↓h,go_sem];rfl);simp only [go_sem])
   | (apply cD E;(· simp only [go_sem]);(· intro h;(try simp only [bq] at h);simp only [↓h,go_sem];rfl);(· intro h;(try simp only [bq] at h);simp only [↓h,go_sem];rfl);simp only [go_sem])
   | (apply cC E;(· simp only [go_sem]);(· rfl);(· intro h h';(try simp only [bq] at h h');simp only [↓h,↓h',go_sem];rfl);simp only [go_sem])
   | (apply bC E;(· simp only [go_sem]);(· rfl);(· intro h h';(try simp only [bq] at h h');simp only [↓h,↓h',go_sem];rfl);(· intro h h';(try simp only [bq] at h h');simp only [↓h,↓h',go_sem];rfl);simp only [go_sem])
   | (apply eI E;(· decide);simp only [go_sem]))
  (first | (apply nO E;(· simp only [go_sem]);(· intro h hk;(try simp only [bq] at h);refine ae E (c3) rfl (by simp only [↓h,go_sem]<;>rfl) (by simp) ?_;rintro _ rfl;exact hk);simp only [go_sem]) | (apply lO E;(· simp only [go_sem]);(· rfl);(· intro h h' hk;(try simp only [bq] at h h');refine ae E (c3) rfl (by simp only [↓h,↓h',go_sem]<;>rfl) (by simp) ?_;rintro _ rfl;exact hk);simp only [go_sem]))
  repeat (first
   | (apply fg E;(· simp only [go_sem]);(· intro h;(try simp only [bq] at h);simp only [↓h,go_sem];rfl);simp only [go_sem])
   | (apply cD E;(· simp only [go_sem]);(· intro h;(try simp only [bq] at h);simp only [↓h,go_sem];rfl);(· intro h;(try simp only [bq] at h);simp only [↓h,go_sem];rfl);simp only [go_sem])
   | (apply cC E;(· simp only [go_sem]);(· rfl);(· intro h h';(try simp only [bq] at h h');simp only [↓h,↓h',go_sem];rfl);simp only [go_sem])
   | (apply bC E;(· simp only [go_sem]);(· rfl);(· intro h h';(try simp only [bq] at h h');simp only [↓h,↓h',go_sem];rfl);(· intro h h';(try simp only [bq] at h h');simp only [↓h,↓h',go_sem];rfl);simp only [go_sem])
   | (apply eI E;(· decide);simp only [go_sem]))
  rw [if_neg h] at hb
  rw [hb]
theorem EB {G} (n:EN):HP Tryz.prog G 107 [enD n] (fun r=>r=.d (.bool (bU n))):=by
 generalize hb:bU n=b
 unfold bU at hb
 simp only [← qL] at hb
 unfold enD efD
 refine ao Tryz.func107 rfl (by decide +kernel) (by simp [Tryz.ntmps107]) (veil fun E=>?_)
 simp only [go_sem]
 refine ai E (fun h1=>?_) (fun h1=>?_)<;>simp only [go_sem]
 ·rw [if_pos h1] at hb
  rw [hb]
 rw [if_neg h1] at hb
 refine ai E (fun h2=>?_) (fun h2=>?_)<;>simp only [go_sem]
 ·rw [if_pos h2] at hb
  repeat (first
   | (apply fg E;(· simp only [go_sem]);(· intro h;(try simp only [bq] at h);simp only [↓h,go_sem];rfl);simp only [go_sem])
   | (apply cD E;(· simp only [go_sem]);(· intro h;(try simp only [bq] at h);simp only [↓h,go_sem];rfl);(· intro h;(try simp only [bq] at h);simp only [↓h,go_sem];rfl);simp only [go_sem])
   | (apply cC E;(· simp only [go_sem]);(· rfl);(· intro h h';(try simp only [bq] at h h');simp only [↓h,↓h',go_sem];rfl);simp only [go_sem])
   | (apply bC E;(· simp only [go_sem]);(· rfl);(· intro h h';(try simp only [bq] at h h');simp only [↓h,↓h',go_sem];rfl);(· intro h h';(try simp only [bq] at h h');simp only [↓h,↓h',go_sem];rfl);simp only [go_sem])
   | (apply eI E;(· decide);simp only [go_sem]))
  rw [hb]
 rw [if_neg h2] at hb
 refine ai E (fun h3=>?_) (fun h3=>?_)<;>simp only [go_sem]
 ·rw [if_pos h3] at hb
  repeat (first
   | (apply fg E;(· simp only [go_sem]);(· intro h;(try simp only [bq] at h);simp only [↓h,go_sem];rfl);simp only [go_sem])
   | (apply cD E;(· simp only [go_sem]);(· intro h;(try simp only [bq] at h);simp only [↓h,go_sem];rfl);(· intro h;(try simp only [bq] at h);simp only [↓h,go_sem];rfl);simp only [go_sem])
   | (apply cC E;(· simp only [go_sem]);(· rfl);(· intro h h';(try simp only [bq] at h h');simp only [↓h,↓h',go_sem];rfl);simp only [go_sem])
   | (apply bC E;(· simp only [go_sem]);(· rfl);(· intro h h';(try simp only [bq] at h h');simp only [↓h,↓h',go_sem];rfl);(· intro h h';(try simp only [bq] at h h');simp only [↓h,↓h',go_sem];rfl);simp only [go_sem])
   | (apply eI E;(· decide);simp only [go_sem]))
  rw [hb]
 rw [if_neg h3] at hb
 refine ai E (fun h4=>?_) (fun h4=>?_)<;>simp only [go_sem]
 ·rw [if_pos h4] at hb
  repeat (first
   | (apply fg E;(· simp only [go_sem]);(· intro h;(try simp only [bq] at h);simp only [↓h,go_sem];rfl);simp only [go_sem])
   | (apply cD E;(· simp only [go_sem]);(· intro h;(try simp only [bq] at h);simp only [↓h,go_sem];rfl);(· intro h;(try simp only [bq] at h);simp only [↓h,go_sem];rfl);simp only [go_sem])
   | (apply cC E;(· simp only [go_sem]);(· rfl);(· intro h h';(try simp only [bq] at h h');simp only [↓h,↓h',go_sem];rfl);simp only [go_sem])
   | (apply bC E;(· simp only [go_sem]);(· rfl);(· intro h h';(try simp only [bq] at h h');simp only [↓h,↓h',go_sem];rfl);(· intro h h';(try simp only [bq] at h h');simp only [↓h,↓h',go_sem];rfl);simp only [go_sem])
   | (apply eI E;(· decide);simp only [go_sem]))
  rw [← hb,show decide ((n.s.length:Int)≤200)=decide (n.s.length≤200) from decide_eq_decide.2 (by omega)]
 rw [if_neg h4] at hb
 repeat (first
  | (apply fg E;(· simp only [go_sem]);(· intro h;(try simp only [bq] at h);simp only [↓h,go_sem];rfl);simp only [go_sem])
  | (apply cD E;(· simp only [go_sem]);(· intro h;(try simp only [bq] at h);simp only [↓h,go_sem];rfl);(· intro h;(try simp only [bq] at h);simp only [↓h,go_sem];rfl);simp only [go_sem])
  | (apply cC E;(· simp only [go_sem]);(· rfl);(· intro h h';(try simp only [bq] at h h');simp only [↓h,↓h',go_sem];rfl);simp only [go_sem])
  | (apply bC E;(· simp only [go_sem]);(· rfl);(· intro h h';(try simp only [bq] at h h');simp only [↓h,↓h',go_sem];rfl);(· intro h h';(try simp only [bq] at h h');simp only [↓h,↓h',go_sem];rfl);simp only [go_sem])
  | (apply eI E;(· decide);simp only [go_sem]))
 rw [hb]
theorem zm {p:EF→Bool} {l:List EF} {i:Nat} (h:i<l.length) (ha:(l.take i).all p=true) (hb:p l[i]=true):(l.take (i+1)).all p=true:=by
 rw [List.take_succ_eq_append_getElem h,List.all_append,ha]
 simp [hb]
theorem Hj {l:List EF} {i:Nat} (h:i<l.length):(l.map fD).getD i .nilp=.agg [.str l[i].nm,.str l[i].var,i64 l[i].to]:=by simp [h,fD]
theorem len_nil (l:List EF):decide ((l.length:Int)=0)=l.isEmpty:=by cases l<;>simp<;>omega
theorem EC {G} (n:EN) (h:fO BIG n):HP Tryz.prog G 108 [enD n] (fun r=>r=.d (.bool (cy n))):=by
 generalize hb:cy n=b
 unfold cy at hb
 have hl:=h.l
 unfold enD efD
 refine ao Tryz.func108 rfl (by decide +kernel) (by simp [Tryz.ntmps108]) (veil fun E=>?_)
 simp only [go_sem]
 refine ae E (mX n.k) rfl rfl (by simp) ?_
 rintro _ rfl
 simp only [go_sem]
 refine aZ E (fun h1=>?_) (fun h1=>?_)<;>simp only [go_sem]
 ·rw [if_neg (by simpa using h1),← len_nil] at hb
  rw [hb]
 rw [if_pos (by simpa using h1)] at hb
 refine lQ E 3 98 none rfl (by rw [aa];decide) ?_
 simp only [go_sem]
 refine a9 E (X:={ i:Nat // i≤n.l.length∧(n.l.take i).all (iV n.k)=true }) (fun x=>[(1,.at [1] 0),(3,.vw [98] 0 x.1),(17,.d (.sl (some 3) (n.l.map fD))),(18,.d (i64 n.l.length)),(19,.d (i64 x.1))])
  (fun x=>[([1],.box [.d (i64 n.k),.d (i64 n.a),.d (i64 n.b),.d (i64 n.c),.d (i64 n.n),.d (.str n.name),.d (.str n.s),.d (.sl (some 3) (n.l.map fD)),.d (i64 n.pos)]),([98],.arr none ((n.l.take x.1).map fun f=>.str f.nm))]) [1,98] (fun x=>n.l.length-x.1) ⟨0,by simp⟩ id ?_ ?_
 ·simp only [go_sem]
  all_goals rfl
 rintro ⟨i,hi,hall⟩ E0
 refine bb E0 fun Q' hQ E'=>?_
 simp only at hi hall ⊢
 simp only [go_sem]
 refine ai E' (fun g1=>?_) (fun g1=>?_)<;>simp only [go_sem]
 ·have hi':i<n.l.length:=by omega
  refine ⟨⟨by omega,by omega⟩,?_⟩
  rw [Hj hi']
  simp only [go_sem]
  obtain ⟨q1,q2⟩:=h.f _ (List.getElem_mem hi')
  refine ae E' (Fb n.k n.l[i] q1 q2) rfl rfl (by simp) ?_
  rintro _ rfl
  simp only [go_sem]
  refine aZ E' (fun g2=>?_) (fun g2=>?_)<;>simp only [go_sem]
  ·rw [hQ]
   simp only [go_sem]
   have g2':iV n.k n.l[i]=false:=by simpa using g2
   have:n.l.all (iV n.k)=false:=List.all_eq_false.2 ⟨_,List.getElem_mem hi',by rw [g2'];decide⟩
   rw [← hb,this]
   rfl
  ·have g2':iV n.k n.l[i]=true:=by simpa using g2
   refine ⟨by omega,?_⟩
   rw [hQ]
   simp only [go_sem]
   refine ⟨⟨i+1,by omega,zm hi' hall g2'⟩,by show n.l.length-(i+1)<_;omega,tau [([98],[32])],?_⟩
   rw [ak ⟨by omega,by omega⟩]
   rw [show List.take i (List.map (fun f:EF=>D.str f.nm) (List.take i n.l))++[.str n.l[i].nm]=(n.l.take (i+1)).map fun f=>.str f.nm by
    rw [List.take_of_length_le (by simp;omega),List.take_succ_eq_append_getElem hi',List.map_append];rfl]
   simp only [go_sem]
   all_goals rfl
 ·rw [hQ]
  have h3:i=n.l.length:=by omega
  subst h3
  rw [List.take_length] at *
  rw [hall,Bool.true_and] at hb
  simp only [go_sem]
  refine ai E (fun k1=>?_) (fun k1=>?_)<;>simp only [go_sem]
  ·rw [if_pos k1] at hb
   refine aO E (fun k2=>?_) (fun k2=>?_)<;>simp only [go_sem]
   ·refine aO E (fun k3=>?_) (fun k3=>?_)<;>simp only [go_sem]
    ·have ht:=wF (G:=G) (n.l.map (·.nm)) (by rw [List.length_map];exact hl)
     unfold strs at ht
     rw [List.map_map,show (D.str ∘ fun f:EF=>f.nm)=fun f=>D.str f.nm from rfl] at ht
     rw [lr]
     simp only [go_sem]
     refine q9 E [([98],none,n.l.map fun f=>.str f.nm)] ht (by rintro _ rfl;rfl) (by simp only [go_sem]) rfl (by simp only [go_sem]) (by simp) ?_
     rintro _ rfl
     simp only [go_sem]
     rw [← hb,decide_eq_true (by omega),decide_eq_true (by omega)]
     simp [twice]
    ·rw [← hb,decide_eq_false (p:=n.l.length≤30) (by omega),Bool.and_false,Bool.false_and]
   ·rw [← hb,decide_eq_false (by omega),Bool.false_and,Bool.false_and]
  ·rw [if_neg k1] at hb
   refine aO E (fun k2=>?_) (fun k2=>?_)<;>simp only [go_sem]
   ·refine aO E (fun k3=>?_) (fun k3=>?_)<;>simp only [go_sem]
    ·have ht:=wF (G:=G) (n.l.map (·.nm)) (by rw [List.length_map];exact hl)
     unfold strs at ht
     rw [List.map_map,show (D.str ∘ fun f:EF=>f.nm)=fun f=>D.str f.nm from rfl] at ht
     rw [lr]
     simp only [go_sem]
     refine q9 E [([98],none,n.l.map fun f=>.str f.nm)] ht (by rintro _ rfl;rfl) (by simp only [go_sem]) rfl (by simp only [go_sem]) (by simp) ?_
     rintro _ rfl
     simp only [go_sem]
     rw [← hb,decide_eq_true (by omega),decide_eq_true (by omega)]
     simp [twice]
    ·rw [← hb,decide_eq_false (p:=n.l.length≤30) (by omega),Bool.and_false,Bool.false_and]
   ·rw [← hb,decide_eq_false (by omega),Bool.false_and,Bool.false_and]
end Go.Proofs.YtejpnabbmgpmaaaGreat

namespace Go.Proofs.YtejpnabbmgpmaaaGreat
open Go.Ab
end Go.Proofs.YtejpnabbmgpmaaaGreat

namespace Go.Proofs.YtejpnabbmgpmaaaGreat
open Go.Ab
end Go.Proofs.YtejpnabbmgpmaaaGreat

namespace Go.Proofs.YtejpnabbmgpmaaaGreat
open Go.Ab
end Go.Proofs.YtejpnabbmgpmaaaGreat

namespace Go.Proofs.YtejpnabbmgpmaaaGreat
open Go.Ab
end Go.Proofs.YtejpnabbmgpmaaaGreat

namespace Go.Proofs.YtejpnabbmgpmaaaGreat
open Go.Ab
end Go.Proofs.YtejpnabbmgpmaaaGreat

namespace Go.Ab
section
variable {P:Program} {cf:Cf} {Q:Exit→St→Prop} {s:St} {k:List It} {B:Base} {β:Name→Option Blk} {tm:Array Value} {w:World}
theorem Sim.IC (h:Sim B β s tm w) {p:Name} {t d:Nat} {ds:List D} (hd:d ∉ s.used) (hp:s.hp p=some (.box (ds.map .d))) (hsc:∀ x∈ds,x.scal=true) (h0:0<ds.length) (ht:s.fr t=.at p 0) :
  ∃ β',Sim B β' (((s.set p none).add d (.arr none ds)).put t (.el [d] 0 0)) tm w:=by
 obtain ⟨k,c,e,hk,hk0,hc,hz,hl,h1,hcs⟩:=(h.objs p _ hp).2
 have hsl:=h.slots t
 rw [ht] at hsl
 have hv:tm.getD t undef=.pointer (some ⟨k.b,0,none⟩):=by
  generalize tm.getD t undef=v at hsl
  cases hsl with
  | «at» _ _ _ _ _ hx =>
    obtain ⟨k',hk',_,rfl⟩:=hx _ _ hp
    rw [hk] at hk';cases hk'
    rfl
 have hlen:c.size=ds.length:=by rw [hl];simp
 have hs:=h.renew hd hp hk none none ds 0 (w':=w) rfl rfl (fun _ _=>rfl) (fun _=>⟨c,e,hc,hz,by simp only [wd];omega,fun x hx=>hsc x hx,fun i x j y hi hj=>by
  have hx:=hsc x (List.mem_of_getElem? hi)
  have hxy:j=0∧y=x:=by
   cases x<;>simp [D.scal] at hx<;>(cases j<;>simp [D.cells] at hj<;>simp [hj])
  obtain ⟨rfl,rfl⟩:=hxy
  have:=(hcs i (.d y) (by rw [List.getElem?_map,hi];rfl)).toD
  simpa [wd] using this⟩)
 refine ⟨_,hs.setv ?_⟩
 rw [hv]
 refine .el _ _ _ _ ⟨d,[],rfl,List.mem_cons_self⟩ rfl fun ty' wf xs hx=>?_
 have:(some (Ob.arr none ds))=some (.arrT ty' wf xs):=by rw [← hx];simp [St.add,St.set,aA]
 cases this
 exact ⟨h0,⟨k.b,0,k.z⟩,by simp [aA],by simp⟩
theorem Jd (E:Eng P cf Q) {c:Code} (p:Name) (t d:Nat) (ds:List D) (hd:d ∉ s.used) (hp:s.hp p=some (.box (ds.map .d))) (hsc:(ds.all D.scal)=true) (h0:0<ds.length) (ht:s.fr t=.at p 0)
  (h:dP E c (((s.set p none).add d (.arr none ds)).put t (.el [d] 0 0)) k):dP E c s k:=by
 intro B hB ds' β a w' hds hs
 obtain ⟨β',hs'⟩:=hs.IC hd hp (List.all_eq_true.1 hsc) h0 ht
 exact h B hB ds' β' a w' hds hs'
def jW (zs xs:List D) (off len:Nat):List D:=zs.take off++(xs.take (Nat.min xs.length len)++zs.drop (off+Nat.min xs.length len))
theorem uT {zs xs:List D} {off len:Nat} (h:off+len≤zs.length):(jW zs xs off len).length=zs.length:=by
 have h1:Nat.min xs.length len≤len:=Nat.min_le_right _ _
 have h2:Nat.min xs.length len≤xs.length:=Nat.min_le_left _ _
 unfold jW
 obtain ⟨m,hm⟩:∃ m,m=Nat.min xs.length len:=⟨_,rfl⟩
 rw [← hm] at h1 h2 ⊢
 simp only [List.length_append,List.length_take,List.length_drop]
 omega
theorem Cj {zs xs:List D} {off len m:Nat} (hm:Nat.min xs.length len=m) (h:off+len≤zs.length) (i:Nat):(jW zs xs off len)[i]?=if i<off then zs[i]? else if i<off+m then xs[i-off]? else zs[i]?:=by
 have h1:Nat.min xs.length len≤len:=Nat.min_le_right _ _
 have h2:Nat.min xs.length len≤xs.length:=Nat.min_le_left _ _
 unfold jW
 rw [hm] at h1 h2 ⊢
 by_cases c1:i<off
 ·rw [if_pos c1,List.getElem?_append_left (by simp;omega),List.getElem?_take_of_lt c1]
 rw [if_neg c1,List.getElem?_append_right (by simp;omega),List.length_take,Nat.min_eq_left (by omega)]
 by_cases c2:i<off+m
 ·rw [if_pos c2,List.getElem?_append_left (by simp;omega),List.getElem?_take_of_lt (by omega)]
 ·rw [if_neg c2,List.getElem?_append_right (by simp;omega),List.length_take,Nat.min_eq_left h2,List.getElem?_drop]
  congr 1;omega
theorem F5 {c1 c:Array Value} {o q m:Nat} (hq:q+m≤c1.size) (ho:o+m≤c.size) (i:Nat):(c1.toList.take q++(c.extract o (o+m)).toList++c1.toList.drop (q+m)).toArray.getD i undef=if i<q then c1.getD i undef else if i<q+m then c.getD (o+(i-q)) undef else c1.getD i undef:=by
 have hcl:(c.extract o (o+m)).toList.length=m:=by simp;omega
 rw [Array.getD_eq_getD_getElem?,List.getElem?_toArray]
 by_cases h1:i<q
 ·rw [if_pos h1,List.append_assoc,List.getElem?_append_left (by simp;omega),List.getElem?_take_of_lt h1]
  simp [Array.getD_eq_getD_getElem?]
 rw [if_neg h1]
 by_cases h2:i<q+m
 ·rw [if_pos h2,List.getElem?_append_left (by rw [List.length_append,hcl,List.length_take];simp;omega),List.getElem?_append_right (by simp;omega),List.length_take,Array.length_toList,Nat.min_eq_left (by omega)]
  rw [Array.getElem?_toList,Array.getElem?_extract,if_pos (by omega)]
  simp [Array.getD_eq_getD_getElem?]
 ·rw [if_neg h2,List.getElem?_append_right (by rw [List.length_append,hcl,List.length_take];simp;omega),List.length_append,hcl,List.length_take,Array.length_toList,Nat.min_eq_left (by omega),List.getElem?_drop]
  rw [show q+m+(i-(q+m))=i by omega]
  simp [Array.getD_eq_getD_getElem?]
theorem Hp (E:Eng P cf Q) {x y:Operand} {d:Nat} {dT sT e0:Nat} {ty:TypeId} {pos:String} {af:Array Edge} {p:Name} {off len:Nat} {zs xs:List D} (hd:d<cf.n) (hk:(P.ti dT).k=.slice e0) (hw:(P.ti e0).isW none=true)
  (hx:ev s x=.vw p off len) (hp:s.hp p=some (.arr none zs)) (hy:ev s y=.d (.sl none xs)) (h:E.run k ((s.set p (some (.arr none (jW zs xs off len)))).put d (.d (.int .i64 (Nat.min xs.length len:Nat))))) :
  E.stp { dst:=some d,op:=.call { callee:=.builtin .copy,args:=#[x,y],argTypes:=#[dT,sT] },type:=ty,pos:=pos,after:=af,guard:=none } s k .no:=by
 rw [aK]
 rw [E.run_eq] at h
 intro B hB ds β a w hds hs Q'
 obtain ⟨hg,hwd,_⟩:=bM hw
 have hu:=bo hk
 have hsz:(P.info? e0).map (·.size)=some 1:=by
  obtain ⟨i,_,hi,_,_,hsz,_⟩:=cJ hg
  rw [hi]
  simp only [Option.map_some,Option.some.injEq]
  rw [← hsz,← hwd];rfl
 have hvx:=hs.ev x
 rw [hx] at hvx
 have hvy:=(hs.ev y)
 rw [hy] at hvy
 obtain ⟨ay,capy,hay,_,hcy⟩:=hvy.toD.se
 generalize hax:a.eval x=vx at hvx
 cases hvx with
 | vw _ _ _ _ hn h1' hx' =>
 obtain ⟨hle,a0,cap,rfl,hx''⟩:=hx' _ _ _ hp
 have hexec:∀ v w',(Builtin.copy_ #[dT,sT] ty #[.slice a0 len cap,.slice ay xs.length capy]).run P w=.ok v w'→(execOp a.eval { dst:=some d,op:=.call { callee:=.builtin .copy,args:=#[x,y],argTypes:=#[dT,sT] },type:=ty,pos:=pos,after:=af,guard:=none }).run P w=.ok (.value v) w':=by
  intro v w' hr
  simp [execOp,resolve,invoke,builtin,hax,hay,hr,Result.andThen]
 by_cases hn0:Nat.min xs.length len=0
 ·have hr:=run_copy_none (P:=P) w dT sT ty e0 a0 ay len cap xs.length capy hu hsz hn0
  have hzs:jW zs xs off len=zs:=by simp [jW,hn0]
  have hself:s.set p (some (.arr none (jW zs xs off len)))=s:=by
   rw [hzs]
   cases s
   simp only [St.set,St.mk.injEq,true_and,and_true]
   funext q
   by_cases e:q=p
   ·subst e;simp [aA];exact hp.symm
   ·simp [aA,e]
  rw [hself,hn0] at h
  exact aE (v:=goInt 0) (by simp) (hexec _ _ hr) (.inl rfl) ⟨hds,_,β,aU h,hs.put (by rw [hB.1];exact hd) (.d _ _ (.int _ _))⟩
 ·have hne:xs≠[]:=by rintro rfl;exact hn0 (Nat.min_eq_left (Nat.zero_le _))
  obtain ⟨b,o,c,e,fz,rfl,hb,hbn,hzz,hok,hrep⟩:=hcy hne
  have hle2:Nat.min xs.length len≤len:=Nat.min_le_right _ _
  have hle3:Nat.min xs.length len≤xs.length:=Nat.min_le_left _ _
  rcases hx'' with ⟨hl0,_⟩ | ⟨k0,hk0,rfl,hcap,hkz⟩
  ·omega
  rcases (hs.objs p _ hp).2 with ⟨hq,_⟩ | ⟨k1,c1,e1,hk1,hc1,hz1,hl1,hw1,hcs1⟩
  ·rw [hk0] at hq;cases hq
  rw [hk0] at hk1;cases hk1
  simp only [wd,Nat.mul_one] at hzz hkz hl1
  generalize hm:Nat.min xs.length len=m at *
  have hcl:(c.extract o (o+m)).toList.length=m:=by simp;omega
  have hget:∀ j,j<m→(c.extract o (o+m)).toList[j]?=some (c.getD (o+j) undef):=fun j hj=>by
   have h2:o+j<c.size:=by omega
   rw [Array.getElem?_toList,Array.getElem?_extract,if_pos (by omega)]
   simp [Array.getD_eq_getD_getElem?,h2]
  have hel:∀ j,j<m→∃ x,xs[j]?=some x∧x.scal=true∧Rep w.heap (s.own B.A β) (c.getD (o+j) undef) x:=fun j hj=>by
   have h2:j<xs.length:=by omega
   refine ⟨xs[j],by simp [h2],hok _ (List.getElem_mem h2),?_⟩
   have h3:(xs[j]).scal=true:=hok _ (List.getElem_mem h2)
   have:=hrep j xs[j] 0 xs[j] (by simp [h2]) (by cases hq:xs[j]<;>rw [hq] at h3<;>simp [D.scal] at h3<;>rfl)
   simpa [wd] using this
  have hr:=run_copy_row (P:=P) w dT sT ty e0 k0.b (k0.o+off*wd none) len cap ⟨b,o,none⟩ xs.length capy c1 e1 (c.extract o (o+m)).toList hu hsz hc1 (by rw [hcl,← hm]) (fun j v hv=>by
   have hj:j<m:=by have:=(List.getElem?_eq_some_iff.1 hv).1;rw [hcl] at this;exact this
   rw [hget j hj] at hv
   have h2:o+j<c.size:=by omega
   rw [br]
   simp [World.cell?,hb,h2,Array.getD_eq_getD_getElem?] at hv ⊢
   exact hv) (by rw [hcl];simp only [wd,Nat.mul_one];omega) (fun v hv=>by
   obtain ⟨j,hj⟩:=List.mem_iff_getElem?.1 hv
   have hj':j<m:=by have:=(List.getElem?_eq_some_iff.1 hj).1;rw [hcl] at this;exact this
   rw [hget j hj'] at hj
   obtain ⟨x,_,hx1,hx2⟩:=hel j hj'
   cases hj
   exact hx2.mU hx1)
  rw [hcl] at hr
  obtain ⟨hsim,_⟩:=hs.modify (p:=p) (ob':=.arr none (jW zs xs off len)) hp ⟨⟨rfl,rfl⟩,by rw [uT hle];exact Nat.le_refl _⟩ (w':=w.setRow k0.b (List.take (k0.o+off*wd none) c1.toList++(c.extract o (o+m)).toList++List.drop (k0.o+off*wd none+m) c1.toList).toArray) rfl (by simp) (fun b hb=>setRow_other w k0.b b _ (hb k0 hk0)) (fun _ hrr=>.inr ⟨k0,_,e1,hk0,setRow_heap w k0.b c1 _ e1 (0,0) hc1,(by simp only [List.size_toArray,List.length_append,hcl,List.length_take,List.length_drop,Array.length_toList,wd,Nat.mul_one];omega),(by rw [uT hle];simpa [wd] using hl1),(fun x hx=>by
   unfold jW at hx
   rcases List.mem_append.1 hx with hx | hx
   ·exact hw1 _ (List.mem_of_mem_take hx)
   rcases List.mem_append.1 hx with hx | hx
   ·exact hok _ (List.mem_of_mem_take hx)
   ·exact hw1 _ (List.mem_of_mem_drop hx)),fun i x j d hi hj=>by
   have hsx:x.scal=true:=by
    unfold jW at hi
    have hx:=List.mem_of_getElem? hi
    rcases List.mem_append.1 hx with hx | hx
    ·exact hw1 _ (List.mem_of_mem_take hx)
    rcases List.mem_append.1 hx with hx | hx
    ·exact hok _ (List.mem_of_mem_take hx)
    ·exact hw1 _ (List.mem_of_mem_drop hx)
   have hxy:j=0∧d=x:=by
    cases x<;>simp [D.scal] at hsx<;>(cases j<;>simp [D.cells] at hj<;>simp [hj])
   obtain ⟨rfl,rfl⟩:=hxy
   have hwd1:off*wd none=off:=by simp [wd]
   rw [show k0.o+i*wd none+0=k0.o+i by simp [wd],F5 (by omega) (by omega)]
   rw [Cj hm hle] at hi
   have old:∀ x,zs[i]?=some x→x.scal=true→Rep _ _ (c1.getD (k0.o+i) undef) x:=fun x hz hsx=>by
    have:=hcs1 i x 0 x hz (by cases x<;>simp [D.scal] at hsx<;>rfl)
    rw [show k0.o+i*wd none+0=k0.o+i by simp [wd]] at this
    exact hrr _ _ this
   by_cases g1:i<off
   ·rw [if_pos g1] at hi
    rw [if_pos (by omega)]
    exact old _ hi hsx
   rw [if_neg g1] at hi
   rw [if_neg (by omega)]
   by_cases g2:i<off+m
   ·rw [if_pos g2] at hi
    rw [if_pos (by omega)]
    obtain ⟨y,hy1,_,hy2⟩:=hel (i-off) (by omega)
    rw [hi] at hy1
    cases hy1
    rw [show k0.o+i-(k0.o+off*wd none)=i-off by omega]
    exact hrr _ _ hy2
   ·rw [if_neg g2] at hi
    rw [if_neg (by omega)]
    exact old _ hi hsx⟩)
  exact aE (v:=goInt m) (by simp) (hexec _ _ hr) (.inl rfl) ⟨hds,_,β,aU h,hsim.put (by rw [hB.1];exact hd) (.d _ _ (.int _ _))⟩
end
section
variable {P:Program} {cf:Cf} {Q:Exit→St→Prop} {s:St} {k:List It}
theorem Ei (E:Eng P cf Q) {o:Oper} (t:Nat) (wf:W) (ht:s.fr t=.d .nils) (h:E.stp o (s.put t (.d (.sl wf []))) k .no):E.stp o s k .no:=by
 rw [aK] at h ⊢
 intro B hB ds β a w hds hs Q'
 refine h B hB ds β a w hds (hs.setv ?_) Q'
 have hv:=hs.slots t
 rw [ht] at hv
 rw [hv.nils]
 exact .d _ _ (.sl0 _ _ _)
end
theorem HCall.sub {P:Program} {G:List (Nat × Obj)} {f:FuncId} {args args':List AV} {hp:List (Name × Ob)} {u:List Nat} {Q:AV→List (Name × Ob)→Prop} (hl:args.length=args'.length)
  (hr:∀ (i:Nat) x y,args[i]?=some x→args'[i]?=some y→x=y∨∃ wf,x=.d .nils∧y=.d (.sl wf [])) (h:HCall P G f args' hp u Q):HCall P G f args hp u Q:=by
 refine ⟨h.1,fun B β vs w h1 h2 h3 h4 h5=>h.2 B β vs w (h1.trans hl) h2 h3 h4 { tms:=h5.tms,io:=h5.io,size:=h5.size,frame:=h5.frame,slots:=fun t=>?_,objs:=h5.objs,blocks:=h5.blocks,inj:=h5.inj,us:=h5.us,stay:=h5.stay }⟩
 have hv:=h5.slots t
 rw [dh,aP,if_pos (Nat.zero_le _),Nat.sub_zero] at hv ⊢
 show VR w.heap ((mk (au 0 args) hp u).own B.A β) u _ β _ _
 cases hx:args[t]? with
 | none =>
   rw [List.getElem?_eq_none (by rw [← hl];exact List.getElem?_eq_none_iff.1 hx)]
   exact .un _
 | some x =>
   have hlt:=(List.getElem?_eq_some_iff.1 hx).1
   have hy:args'[t]?=some args'[t]:=List.getElem?_eq_getElem (by omega)
   rw [hx] at hv
   rw [hy]
   rcases hr t _ _ hx hy with e | ⟨wf,e1,e2⟩
   ·rw [← e];exact hv
   ·rw [e1] at hv
    rw [e2]
    have:=VR.nils hv
    rw [this]
    exact .d _ _ (.sl0 _ _ _)
theorem HP.sub {P:Program} {G:List (Nat × Obj)} {f:FuncId} {args args':List D} {Q:AV→Prop} (hl:args.length=args'.length)
  (hr:∀ (i:Nat) x y,args[i]?=some x→args'[i]?=some y→x=y∨∃ wf,x=.nils∧y=.sl wf []) (h:HP P G f args' Q):HP P G f args Q:=by
 refine HCall.sub (by simpa using hl) (fun i x y hx hy=>?_) h
 rw [List.getElem?_map] at hx hy
 obtain ⟨a,ha,rfl⟩:=Option.map_eq_some_iff.1 hx
 obtain ⟨b,hb,rfl⟩:=Option.map_eq_some_iff.1 hy
 rcases hr i a b ha hb with e | ⟨wf,e1,e2⟩
 ·exact .inl (by rw [e])
 ·exact .inr ⟨wf,by rw [e1],by rw [e2]⟩
theorem E8 (tf:Nat→TI) (dd:Option Nat) (s:St) (x y t):opE tf (.call { callee:=.builtin .min,args:=#[x,y],argTypes:=t }) dd s=(opV tf (.call { callee:=.builtin .min,args:=#[x,y],argTypes:=t }) s).bind fun x=>.ok (x,ef0):=eP rfl
theorem FP (tf:Nat→TI) (dd:Option Nat) (s:St) (x y t):opE tf (.call { callee:=.builtin .max,args:=#[x,y],argTypes:=t }) dd s=(opV tf (.call { callee:=.builtin .max,args:=#[x,y],argTypes:=t }) s).bind fun x=>.ok (x,ef0):=eP rfl
attribute [go_sem] E8 FP
end Go.Ab

namespace Go.Ab
section
variable {P:Program} {cf:Cf} {Q:Exit→St→Prop} {s:St} {k:List It} {B:Base} {β:Name→Option Blk} {tm:Array Value} {w:World}
theorem Sim.IY (h:Sim B β s tm w) {p:Name} {ob:Ob} {k:Blk} (hp:s.hp p=some ob) (hk:β p=some k) {w':World} (hio:wio w'=wio w) (hsz:w'.heap.size=w.heap.size) (hw:∀ b,b≠k.b→w'.heap[b]?=w.heap[b]?):Sim B β (s.set p none) tm w':=by
 have hsub:∀ q o,(s.set p none).hp q=some o→q≠p∧s.hp q=some o:=by
  intro q o ho
  by_cases e:q=p
  ·subst e;simp [St.set,aA] at ho
  ·exact ⟨e,by simpa [St.set,aA,e] using ho⟩
 have hne:∀ q,(s.set p none).hp q≠none→s.hp q≠none:=by
  intro q hq e
  cases ho:(s.set p none).hp q with
  | none=>exact hq ho
  | some o=>rw [(hsub q o ho).2] at e;cases e
 have hr:∀ v d,Rep w.heap (s.own B.A β) v d→Rep w'.heap ((s.set p none).own B.A β) v d:=fun v d hd=>hd.mono (fun b hb _=>hw b fun e=>hb (.inr ⟨p,k,by rw [hp];simp,hk,e.symm⟩)) (by
  rintro b _ (hA | ⟨q,k,hq,hk,e⟩)
  ·exact .inl hA
  ·exact .inr ⟨q,k,hne q hq,hk,e⟩)
 have hst:∀ q,nm s.used q→Stays s.hp (s.set p none).hp β β q:=fun q _ o' ho'=>⟨o',(hsub q o' ho').2,Ob.bn _,rfl⟩
 refine { tms:=h.tms,io:=hio.trans h.io,size:=by rw [hsz];exact h.size,frame:=fun b hb hn=>?_,slots:=fun i=>(h.slots i).mono hr (fun _ h=>h) hst,objs:=?_,blocks:=fun q k hq hk=>(by rw [hsz];exact h.blocks q k (hne q hq) hk), inj:=fun q q' k l hq hq' hk hl e=>h.inj q q' k l (hne q hq) (hne q' hq') hk hl e,us:=h.us,stay:=h.stay }
 ·rw [hw b ?_]
  ·exact h.frame b hb hn
  ·intro e
   obtain ⟨_,_,h3⟩:=h.blocks p k (by rw [hp];simp) hk
   rcases h3 with h3 | h3
   ·omega
   ·exact hn (e ▸ h3)
 ·intro q o ho
  obtain ⟨hqp,ho'⟩:=hsub q o ho
  obtain ⟨h1,h2⟩:=h.objs q o ho'
  exact ⟨h1,h2.mono hr (fun _ h=>h) hst rfl fun l hl=>hw l.b fun e=>hqp (h.inj q p l k (by rw [ho'];simp) (by rw [hp];simp) hl hk e)⟩
theorem Ga (E:Eng P cf Q) {o:Oper} (p:Name) (j n:Nat) (ty tg:Option Nat) (w:W) (cs:List AV) (hp:s.hp p=some (.boxT ty cs)) (hj:cs[j]?=some (.d .nils)) (hn:n ∉ s.used) (h:E.stp o ((s.add n (.arrT tg w [])).set p (some (.boxT ty (cs.set j (.vw [n] 0 0))))) k .no):E.stp o s k .no:=by
 rw [aK] at h ⊢
 intro B hB ds β a w' hds hs Q'
 have h1:=hs.fk hn tg w
 have hpn:p≠[n]:=ig (hs.objs p _ hp).1 hn
 refine h B hB ds (aA β [n] none) a w' hds (h1.rebox (cs:=cs) (by simpa [St.add,aA,hpn] using hp) (by simp) fun v i x x' hx hx' hv=>?_) Q'
 by_cases e:j=i
 ·subst e
  rw [hj] at hx
  cases hx
  rw [List.getElem?_set_self (List.getElem?_eq_some_iff.1 hj).1] at hx'
  cases hx'
  have:=hv.toD
  cases this
  exact .vw _ _ _ _ ⟨n,[],rfl,List.mem_cons_self⟩ rfl fun ty' w' xs hx=>by
   have:some (Ob.arrT tg w [])=some (.arrT ty' w' xs):=by rw [← hx];simp [St.add,aA]
   cases this
   exact ⟨Nat.le_refl _,none,0,rfl,.inl ⟨rfl,rfl⟩⟩
 ·rw [List.getElem?_set_ne e,hx] at hx'
  cases hx'
  exact hv
theorem qH (E:Eng P cf Q) {d t e:Nat} {x y:Operand} {ty:TypeId} {pos:String} {af:Array Edge} (tg:Option Nat) (p q:Name) (xs ys:List D) (hk:(P.ti t).k=.slice e) (hz:(P.ti e).zOk=true) (hw:(P.ti e).isW (P.ti e).w=true) (hew:(P.ti e).w=none)
  (htg:tg.getD e=e) (hd:d<cf.n∧d ∉ s.used) (hx:ev s x=.vw p 0 xs.length) (hp:s.hp p=some (.arrT tg none xs)) (hy:ev s y=.vw q 0 ys.length) (hq:s.hp q=some (.arr none ys)) (hl:(xs.length+ys.length)*(P.ti e).by1≤140737488355328)
  (h:E.run k (((s.set p none).add d (.arrT tg none (xs++ys))).put d (.vw [d] 0 (xs.length+ys.length)))) :
  E.stp { dst:=some d,op:=.call { callee:=.builtin .append,args:=#[x,y],argTypes:=#[t,t] },type:=ty,pos:=pos,after:=af,guard:=none } s k .no:=by
 rw [aK]
 rw [E.run_eq] at h
 intro B hB ds β a w hds hs Q'
 have hvx:=hs.ev x
 have hvy:=hs.ev y
 rw [hx] at hvx
 rw [hy] at hvy
 have key:=jF (P:=P) (t:=t) hs hvx hvy hk hz hw ty (some d) tg htg
 have e1:jr tg B.n (P.ti e) (some d) s (.vw p 0 xs.length) (.vw q 0 ys.length)=.need ((xs.length+ys.length)*(P.ti e).by1≤140737488355328) (.ok (((s.set p none).add d (.arrT tg none (xs++ys))).put d (.vw [d] 0 (xs.length+ys.length)))):=by
  unfold jr
  have hlo:bN (P.ti e).w s.hp (.vw q 0 ys.length)=some ys:=by simp [bN,hq,hew]
  rw [hlo]
  simp only [hp]
  rw [if_pos ⟨trivial,hew.symm⟩]
  have hd2:d<B.n∧d ∉ (s.set p none).used:=⟨by rw [hB.1];exact hd.1,hd.2⟩
  unfold ir
  simp only
  rw [if_pos hd2]
  simp
 rw [e1] at key
 obtain ⟨dd,v,w',β',hdd,hrun,hsim⟩:=key hl
 cases hdd
 exact aE (v:=v) (by simp) (by simp [execOp,resolve,invoke,builtin,hrun]) (.inl rfl) ⟨hds,_,β',aU h,hsim⟩
end
section
variable {P:Program} {cf:Cf} {Q:Exit→St→Prop} {s:St} {k:List It}
theorem iS {o:Oper} {d:Nat} {x:AV} (hd:o.dst=some d) (hdn:d<cf.n) (hnd:∀ c,o.op≠.defer c)
  (hrun:∀ (B:Base) (β:Name→Option Blk) (a:Act) (w:World),Sim B β s a.tmps w→∃ v,(execOp a.eval o).run P w=.ok (.value v) w∧VR w.heap (s.own B.A β) s.used s.hp β v x) (h:run P cf k Q (s.put d x)):AOk P cf o s k Q:=by
 intro B hB ds β a w hds hs Q'
 obtain ⟨v,h1,h2⟩:=hrun B β a w hs
 refine aE (v:=v) hnd h1 (.inl rfl) ?_
 rw [hd]
 exact ⟨hds,_,β,aU h,hs.put (by rw [hB.1];exact hdn) h2⟩
theorem lP (E:Eng P cf Q) {o:Oper} {d:Nat} {x:AV} (hd:o.dst=some d) (hdn:d<cf.n) (hnd:∀ c,o.op≠.defer c)
  (hrun:∀ (B:Base) (β:Name→Option Blk) (a:Act) (w:World),Sim B β s a.tmps w→∃ v,(execOp a.eval o).run P w=.ok (.value v) w∧VR w.heap (s.own B.A β) s.used s.hp β v x) (h:E.run k (s.put d x)):E.stp o s k .no:=by
 rw [aK]
 rw [E.run_eq] at h
 exact iS hd hdn hnd hrun h
theorem rn {t e:Nat} (h:(P.ti t).k=.ptr e):P.underlying t=some (.pointer e):=by
 obtain ⟨i,d,_,hd,hk,_⟩:=cJ (P:=P) (t:=t) (by rw [h];rfl)
 rw [h] at hk
 cases d<;>simp [tk] at hk
 rw [hd,hk]
def AW (hp:Name→Option Ob):AV→Option Bool
 | .d .nilp=>some true
 | .d (.ptr _)=>some false
 | .at p _=>match hp p with
   | some (.boxT _ _)=>some false
   | _=>none
 | _=>none
theorem vJ {H:Array Obj} {own:Nat→Prop} {used:List Nat} {hp:Name→Option Ob} {β:Name→Option Blk} {v:Value} {x:AV} {b:Bool} (h:VR H own used hp β v x) (hn:AW hp x=some b):∃ ad,v=.pointer ad∧ad.isNone=b:=by
 cases x with
 | d z =>
   cases z<;>simp [AW] at hn
   ·subst hn
    have:=h.toD
    cases this;exact ⟨none,rfl,rfl⟩
   ·subst hn
    have:=h.toD
    cases this;exact ⟨_,rfl,rfl⟩
 | «at» p c =>
   simp only [AW] at hn
   split at hn
   ·rename_i ty cs ho
    cases hn
    cases h with
    | «at» _ _ _ _ _ hx =>
      obtain ⟨k,_,_,rfl⟩:=hx _ _ ho
      exact ⟨_,rfl,rfl⟩
   ·cases hn
 | _=>simp [AW] at hn
theorem ru (E:Eng P cf Q) {t e:TypeId} {x:Operand} {yt:TypeId} {dst:Nat} {ty:TypeId} {ps:String} {af:Array Edge} (b:Bool) (hk:(P.ti t).k=.ptr e) (hd:dst<cf.n) (hx:AW s.hp (ev s x)=some b) (h:E.run k (s.put dst (.d (.bool b)))) :
  E.stp { dst:=some dst,op:=.binOp .eql t x (.const (.pointer none)) yt,type:=ty,pos:=ps,after:=af,guard:=none } s k .no:=by
 refine lP E rfl hd (by simp) (fun B β a w hs=>⟨.bool b,?_,.d _ _ (.bool _)⟩) h
 obtain ⟨ad,hv,rfl⟩:=vJ (hs.ev x) hx
 have hu:=rn hk
 refine iU ?_ ?_
 ·rw [hv];rfl
 ·rw [hv]
  exact run_eql_pointer_nil w t ad (by rw [hu];simp [Program.pointee,hu])
theorem run_neq_ptr_same {tp te:TypeId} {j:TypeInfo} (w:World) (a:Addr) (hp:P.underlying tp=some (.pointer te)) (hte:P.info? te=some j):(binOp .neq tp (.pointer (some a)) (.pointer (some a))).run P w=.ok (.bool false) w:=by
 have h:∀ d:Nat,(Op.equalIn (d+1) tp (.pointer (some a)) (.pointer (some a))).run P w=.ok true w:=fun d=>by
  simp [Op.equalIn,run_underlying hp,sizeOf,typeInfo,hte,run_sameAddr_same]
 simp only [binOp]
 simp [Op.equal,Op.maxDepth,h 9999]
theorem Fo (E:Eng P cf Q) {t e:TypeId} {x y:Operand} {yt:TypeId} {dst:Nat} {ty:TypeId} {ps:String} {af:Array Edge} (p:Name) (c:Nat) (hk:(P.ti t).k=.ptr e) (he:(P.info? e).isSome=true) (hd:dst<cf.n) (hx:ev s x=.at p c) (hy:ev s y=.at p c) (hp:(match s.hp p with | some (.boxT _ _)=>true | _=>false)=true)
  (h:E.run k (s.put dst (.d (.bool false)))):E.stp { dst:=some dst,op:=.binOp .neq t x y yt,type:=ty,pos:=ps,after:=af,guard:=none } s k .no:=by
 refine lP E rfl hd (by simp) (fun B β a w hs=>⟨.bool false,?_,.d _ _ (.bool _)⟩) h
 split at hp
 rotate_left
 ·cases hp
 rename_i ty' cs ho
 obtain ⟨k,hkk⟩:∃ k:Blk,∀ v,VR w.heap (s.own B.A β) s.used s.hp β v (.at p c)→v=.pointer (some ⟨k.b,c,none⟩):=by
  obtain ⟨k,_,_,hk,_⟩:=(hs.objs p _ ho).2
  refine ⟨k,fun v hv=>?_⟩
  cases hv with
  | «at» _ _ _ _ _ hx =>
    obtain ⟨k',hk',_,rfl⟩:=hx _ _ ho
    rw [hk] at hk';cases hk';rfl
 have h1:=hkk _ (hx ▸ hs.ev x)
 have h2:=hkk _ (hy ▸ hs.ev y)
 obtain ⟨j,hj⟩:=Option.isSome_iff_exists.1 he
 refine iU ?_ ?_
 ·rw [h1,h2];rfl
 ·rw [h1,h2]
  exact run_neq_ptr_same w _ (rn hk) hj
theorem CO {B:Base} {β:Name→Option Blk} {tm:Array Value} {w:World} (hs:Sim B β s tm w) {p:Name} {t:Nat} {cs:List AV} (hp:s.hp p=some (.boxT (some t) cs)):∃ k:Blk,(∀ v c,VR w.heap (s.own B.A β) s.used s.hp β v (.at p c)→v=.pointer (some ⟨k.b,c,none⟩))∧w.shape? k.b=some (t,cs.length):=by
 obtain ⟨k,c,e,hk,_,hc,_,hl,_⟩:=(hs.objs p _ hp).2
 refine ⟨k,fun v c hv=>?_,by simp [World.shape?,hc,hl]⟩
 cases hv with
 | «at» _ _ _ _ _ hx =>
   obtain ⟨k',hk',_,rfl⟩:=hx _ _ hp
   rw [hk] at hk';cases hk';rfl
theorem I3 (E:Eng P cf Q) {a' b' e:TypeId} {x:Operand} {dst:Nat} {ty:TypeId} {ps:String} {af:Array Edge} (p:Name) (c t:Nat) (cs:List AV) (hk:(P.ti a').k=.ptr e) (hu:P.underlying b'=some .unsafePointer) (he:(P.info? e).any (fun j=>j.size != 0)=true) (hd:dst<cf.n) (hx:ev s x=.at p c)
  (hp:s.hp p=some (.boxT (some t) cs)) (hc:c<cs.length) (h:E.run k (s.put dst (.at p c))):E.stp { dst:=some dst,op:=.convert a' b' x,type:=ty,pos:=ps,after:=af,guard:=none } s k .no:=by
 refine lP E (x:=.at p c) rfl hd (by simp) (fun B β a w hs=>⟨a.eval x,?_,hx ▸ hs.ev x⟩) h
 obtain ⟨k,hkk,hsh⟩:=CO hs hp
 have h1:=hkk _ _ (hx ▸ hs.ev x)
 rw [Option.any_eq_true] at he
 obtain ⟨j,hj,hj0⟩:=he
 have:=Lib.run_to_unsafe (P:=P) w (src:=a') (dst:=b') (⟨k.b,c,none⟩:Addr) (rn hk) hu hj (by simpa using hj0) hsh hc
 simp [execOp,h1,this]
theorem Iu (E:Eng P cf Q) {a' b' e:TypeId} {x:Operand} {dst:Nat} {ty:TypeId} {ps:String} {af:Array Edge} (p:Name) (c t:Nat) (cs:List AV) (hk:(P.ti b').k=.ptr e) (hu:P.underlying a'=some .unsafePointer) (he:(P.info? e).isSome=true) (hd:dst<cf.n) (hx:ev s x=.at p c)
  (hp:s.hp p=some (.boxT (some t) cs)) (m:Nat) (hm:cs.length=m) (hl:liesAt P P.depth t (m / P.cellsOf t) c e 1=true) (h:E.run k (s.put dst (.at p c))):E.stp { dst:=some dst,op:=.convert a' b' x,type:=ty,pos:=ps,after:=af,guard:=none } s k .no:=by
 refine lP E (x:=.at p c) rfl hd (by simp) (fun B β a w hs=>⟨a.eval x,?_,hx ▸ hs.ev x⟩) h
 obtain ⟨k,hkk,hsh⟩:=CO hs hp
 have h1:=hkk _ _ (hx ▸ hs.ev x)
 obtain ⟨j,hj⟩:=Option.isSome_iff_exists.1 he
 rw [hm] at hsh
 have:=Lib.run_from_unsafe (P:=P) w (src:=a') (dst:=b') (⟨k.b,c,none⟩:Addr) hu (rn hk) hj hsh hl
 simp [execOp,h1,this]
theorem Gb (E:Eng P cf Q) {fv x:Operand} {at':Array TypeId} {dst:Nat} {ty:TypeId} {ps:String} {af:Array Edge} (f:FuncId) (y:AV) (hr:∀ v w,(callFunc f #[v]).run P w=.ok (.value v) w) (hd:dst<cf.n) (hf:ev s fv=.clo f []) (hx:ev s x=y) (h:E.run k (s.put dst y)) :
  E.stp { dst:=some dst,op:=.call { callee:=.value fv,args:=#[x],argTypes:=at' },type:=ty,pos:=ps,after:=af,guard:=none } s k .no:=by
 refine lP E (x:=y) rfl hd (by simp) (fun B β a w hs=>⟨a.eval x,?_,hx ▸ hs.ev x⟩) h
 have hf':=hs.ev fv
 rw [hf] at hf'
 generalize hfv:a.eval fv=fval at hf'
 cases hf' with
 | clo _ cvs _ hcs hcv =>
 have hc0:cvs=#[]:=Array.eq_empty_of_size_eq_zero (by simpa using hcs)
 subst hc0
 have e:(execOp a.eval { dst:=some dst,op:=.call { callee:=.value fv,args:=#[x],argTypes:=at' },type:=ty,pos:=ps,after:=af,guard:=none }:Sem Next)=callFunc f (#[]++#[x].map a.eval++#[]):=by
  show (do let d ← (Deferred.ofValue (a.eval fv) (#[x].map a.eval));invoke d.target d.args:Sem Next)=_
  rw [hfv];rfl
 rw [e]
 simpa using hr (a.eval x) w
theorem Fy {fv:Operand} {args:Array Operand} {at':Array TypeId} {dst:Nat} {ty:TypeId} {ps:String} {af:Array Edge} {g:Option (Nat × Bool)} (f:FuncId) (ds:List D) (vs:List Value) (r:D) (v:Value) (hv:vals ds=some vs) (hrv:r.val=some v) (hr:∀ w,(callFunc f vs.toArray).run P w=.ok (.value v) w) (hd:dst<cf.n) (hf:ev s fv=.clo f [])
  (hx:args.toList.map (ev s)=ds.map .d) (h:run P cf k Q (s.put dst (.d r))):AOk P cf { dst:=some dst,op:=.call { callee:=.value fv,args:=args,argTypes:=at' },type:=ty,pos:=ps,after:=af,guard:=g } s k Q:=by
 refine iS (x:=.d r) rfl hd (by simp) (fun B β a w hs=>⟨v,?_,.d _ _ (D.D1 hrv)⟩) h
 have hf':=hs.ev fv
 rw [hf] at hf'
 generalize hfv:a.eval fv=fval at hf'
 cases hf' with
 | clo _ cvs _ hcs hcv =>
 have hc0:cvs=#[]:=Array.eq_empty_of_size_eq_zero (by simpa using hcs)
 subst hc0
 have e:(execOp a.eval { dst:=some dst,op:=.call { callee:=.value fv,args:=args,argTypes:=at' },type:=ty,pos:=ps,after:=af,guard:=g }:Sem Next)=callFunc f (#[]++args.map a.eval++#[]):=by
  show (do let d ← (Deferred.ofValue (a.eval fv) (args.map a.eval));invoke d.target d.args:Sem Next)=_
  rw [hfv];rfl
 have e2:#[]++args.map a.eval++#[]=vs.toArray:=by
  obtain ⟨g1,g2⟩:=sX hv
  have hsz:args.size=ds.length:=by have:=congrArg List.length hx;simpa using this
  apply Array.ext
  ·simp [hsz,g1]
  ·intro i hi hi'
   have hia:i<args.size:=by simpa using hi
   have hid:i<ds.length:=by omega
   have h1:(args.toList.map (ev s))[i]?=(ds.map AV.d)[i]?:=by rw [hx]
   simp only [List.getElem?_map,Array.getElem?_toList,Array.getElem?_eq_getElem hia,List.getElem?_eq_getElem hid,Option.map_some,Option.some.injEq] at h1
   have h2:=hs.ev args[i]
   rw [h1] at h2
   have h3:=h2.toD.val (g2 i _ (List.getElem?_eq_getElem hid) ▸ List.getElem?_eq_getElem (by omega:i<vs.length))
   simpa using h3
 rw [e,e2]
 exact hr w
theorem Jq (E:Eng P cf Q) {fv:Operand} {args:Array Operand} {at':Array TypeId} {dst:Nat} {ty:TypeId} {ps:String} {af:Array Edge} (f:FuncId) (ds:List D) (vs:List Value) (r:D) (v:Value) (hv:vals ds=some vs) (hrv:r.val=some v) (hr:∀ w,(callFunc f vs.toArray).run P w=.ok (.value v) w) (hd:dst<cf.n) (hf:ev s fv=.clo f [])
  (hx:args.toList.map (ev s)=ds.map .d) (h:E.run k (s.put dst (.d r))):E.stp { dst:=some dst,op:=.call { callee:=.value fv,args:=args,argTypes:=at' },type:=ty,pos:=ps,after:=af,guard:=none } s k .no:=by
 rw [aK]
 rw [E.run_eq] at h
 exact Fy f ds vs r v hv hrv hr hd hf hx h
end
end Go.Ab

namespace Go.Ab
theorem vQ {P:Program} {e:TypeId} (hc:P.cellsOf e=1) (count o n:Nat) (hn:o+n≤count):liesAt P P.depth e count o e n=true:=by
 have hd:P.depth=(2*(P.types.size+Made.depth)+1)+1:=rfl
 rw [hd]
 simp only [liesAt,Bool.or_eq_true]
 left
 rw [hd]
 simp [rowAt,hc,hn,sameLayout,Nat.mod_one]
theorem iB {P:Program} (w:World) (pt it ty e:TypeId) (hp:P.underlying pt=some (.pointer e)) (hc:P.cellsOf e=1) (g o cells:Nat) (hsh:w.shape? g=some (e,cells)) (l:List UInt8) (h0:l≠[]) (hn:o+l.length≤cells) (h63:l.length≤9223372036854775807)
  (hcell:∀ j x,l[j]?=some x→w.cell? ((⟨g,o,none⟩:Addr).add j)=some (.int .u8 x.toNat)) :
  (Builtin.unsafeString_ #[pt,it] ty #[.pointer (some ⟨g,o,none⟩),.int .i64 l.length]).run P w=.ok (.string ⟨l.toArray⟩) (w.freeze ⟨g,o,none⟩ l.length):=by
 have hl:l.length≠0:=by simpa using h0
 have hlb:=Lib.run_loadBytes (P:=P) w l ⟨g,o,none⟩ .empty hcell
 have hlies:=vQ (P:=P) hc (cells / P.cellsOf e) o l.length (by rw [hc];simpa using hn)
 have h63':¬ (9223372036854775807:Int)<(l.length:Int):=by omega
 have hdef:Builtin.unsafeString_ #[pt,it] ty #[.pointer (some ⟨g,o,none⟩),.int .i64 l.length] =
  (do
   let n ← asInt (.int .i64 l.length)
   if n<0 then runtimePanic (.error "unsafe.String: len out of range")
   if n > IntKind.i64.max then unsupported (.unsafePointer "String: a length above the largest int")
   if n=0 then pure (.string .empty)
   else if ← variablesAt ⟨g,o,none⟩ (← elemOf pt) n.toNat then do
    let s ← loadBytes ⟨g,o,none⟩ .empty n.toNat
    freeze ⟨g,o,none⟩ n.toNat
    pure (.string s)
   else unsupported (.unsafePointer "String: not so many bytes at ptr")):=rfl
 rw [hdef]
 have hmax:IntKind.i64.max=9223372036854775807:=rfl
 have hneg:¬ (l.length:Int)<0:=by omega
 simp [asInt,asIntOf,hmax,h63',hneg,hl,variablesAt,hsh,elemOf,run_underlying hp,hlies,hlb]
def byD (c:UInt8):D:=.int .u8 (c.toNat:Nat)
section
variable {P:Program} {cf:Cf} {Q:Exit→St→Prop} {s:St} {k:List It}
theorem De {d:Nat} {x:Operand} {at':Array TypeId} {ty:TypeId} {pos:String} {af:Array Edge} {g:Option (Nat × Bool)} (hd:d<cf.n) (hx:ev s x=.d .nils) (h:run P cf k Q (s.put d (.d .nilp))) :
  AOk P cf { dst:=some d,op:=.call { callee:=.builtin .unsafeSliceData,args:=#[x],argTypes:=at' },type:=ty,pos:=pos,after:=af,guard:=g } s k Q:=by
 refine iS rfl hd (by simp) (fun B β a w hs=>⟨.pointer none,?_,.d _ _ .nilp⟩) h
 have hv:=hs.ev x
 rw [hx] at hv
 have hv:=hv.nils
 simp [execOp,resolve,invoke,builtin,hv,Lib.run_unsafeSliceData_nil]
theorem Fh {d:Nat} {x:Operand} {at':Array TypeId} {ty:TypeId} {pos:String} {af:Array Edge} {g:Option (Nat × Bool)} (p:Name) (tg:Option Nat) (w0:W) (xs:List D) (l:Nat) (hd:d<cf.n) (hx:ev s x=.vw p 0 l) (hp:s.hp p=some (.arrT tg w0 xs)) (hl:0<l) (h:run P cf k Q (s.put d (.el p 0 0))) :
  AOk P cf { dst:=some d,op:=.call { callee:=.builtin .unsafeSliceData,args:=#[x],argTypes:=at' },type:=ty,pos:=pos,after:=af,guard:=g } s k Q:=by
 refine iS rfl hd (by simp) (fun B β a w hs=>?_) h
 have hv:=hs.ev x
 rw [hx] at hv
 generalize hax:a.eval x=vx at hv
 cases hv with
 | vw _ _ _ _ hn h1 hx' =>
   obtain ⟨hle,a0,cap,rfl,hc⟩:=hx' _ _ _ hp
   rcases hc with ⟨h0,_⟩ | ⟨k,hk,rfl,hcap,hz⟩
   ·omega
   ·refine ⟨.pointer (some ⟨k.b,k.o+0*wd w0,none⟩),?_,.el _ _ _ _ hn rfl fun ty' w' xs' hp'=>?_⟩
    ·obtain ⟨oo,hoo⟩:∃ oo,k.o+0*wd w0=oo:=⟨_,rfl⟩
     rw [hoo] at hax ⊢
     have:=Lib.run_unsafeSliceData_row (P:=P) w at' ty ⟨k.b,oo,none⟩ l cap (by omega)
     simp [execOp,resolve,invoke,builtin,hax,this]
    ·rw [hp] at hp';cases hp'
     exact ⟨by omega,k,hk,rfl⟩
theorem FZ (E:Eng P cf Q) {d pt it:Nat} {x y:Operand} {ty:TypeId} {pos:String} {af:Array Edge} (hd:d<cf.n) (hx:ev s x=.d .nilp) (hy:ev s y=.d (.int .i64 0)) (h:E.run k (s.put d (.d (.str [])))) :
  E.stp { dst:=some d,op:=.call { callee:=.builtin .unsafeString,args:=#[x,y],argTypes:=#[pt,it] },type:=ty,pos:=pos,after:=af,guard:=none } s k .no:=by
 rw [aK]
 rw [E.run_eq] at h
 refine iS rfl hd (by simp) (fun B β a w hs=>⟨.string .empty,?_,.d _ _ (.str [])⟩) h
 have hv:=hs.ev x
 rw [hx] at hv
 have hv:=hv.toD
 have hw:=hs.ev y
 rw [hy] at hw
 have hw:=hw.int
 generalize hax:a.eval x=vx at hv
 cases hv
 have:=Lib.run_unsafeString_none (P:=P) w pt it ty none
 simp [execOp,resolve,invoke,builtin,hax,hw,this]
theorem GY (E:Eng P cf Q) {d pt it e:Nat} {x y:Operand} {ty:TypeId} {pos:String} {af:Array Edge} (p:Name) (l:List UInt8) (hd:d<cf.n) (hpt:P.underlying pt=some (.pointer e)) (hc:P.cellsOf e=1) (h0:l≠[]) (h63:l.length≤9223372036854775807)
  (hx:ev s x=.el p 0 0) (hp:s.hp p=some (.arrT (some e) none (l.map byD))) (hy:ev s y=.d (.int .i64 l.length)) (h:E.run k ((s.set p none).put d (.d (.str l)))) :
  E.stp { dst:=some d,op:=.call { callee:=.builtin .unsafeString,args:=#[x,y],argTypes:=#[pt,it] },type:=ty,pos:=pos,after:=af,guard:=none } s k .no:=by
 rw [aK]
 rw [E.run_eq] at h
 intro B hB ds β a w hds hs Q'
 have hv:=hs.ev x
 rw [hx] at hv
 have hw:=hs.ev y
 rw [hy] at hw
 have hw:=hw.int
 generalize hax:a.eval x=vx at hv
 cases hv with
 | el _ _ _ _ hn h1 hx' =>
 obtain ⟨hlt,k0,hk,rfl⟩:=hx' _ _ _ hp
 rcases (hs.objs p _ hp).2 with ⟨_,h0'⟩ | ⟨k1,c,e',hk1,hh,hz,hl,hok,hrep⟩
 ·simp at h0';exact absurd h0' h0
 rw [hk] at hk1
 cases hk1
 simp only [wd,Nat.mul_one,List.length_map] at hl
 have hsh:w.shape? k0.b=some (e,c.size):=by simp [World.shape?,hh]
 have hcell:∀ j x,l[j]?=some x→w.cell? ((⟨k0.b,k0.o+0*wd none+0,none⟩:Addr).add j)=some (.int .u8 x.toNat):=fun j x hj=>by
  have hjl:=(List.getElem?_eq_some_iff.1 hj).1
  have h2:=hrep j (byD x) 0 (byD x) (by simp [hj]) rfl
  have h3:k0.o+j<c.size:=by omega
  rw [show k0.o+j*wd none+0=k0.o+j by simp [wd]] at h2
  simp only [Array.getD_eq_getD_getElem?,Array.getElem?_eq_getElem h3,Option.getD_some] at h2
  have h4:c[k0.o+j]=.int .u8 x.toNat:=by
   generalize c[k0.o+j]=v at h2
   cases h2;rfl
  rw [br]
  simp [World.cell?,hh,wd,h3,h4]
 have hrun:=iB (P:=P) w pt it ty e hpt hc k0.b (k0.o+0*wd none+0) c.size hsh l h0 (by simp [wd];omega) h63 hcell
 obtain ⟨oo,hoo⟩:∃ oo,k0.o+0*wd none+0=oo:=⟨_,rfl⟩
 rw [hoo] at hrun hax
 refine aE (v:=.string ⟨l.toArray⟩) (w':=w.freeze ⟨k0.b,oo,none⟩ l.length) (by simp) (by simp [execOp,resolve,invoke,builtin,hax,hw,hrun]) (.inl rfl) ⟨hds,_,β,aU h,?_⟩
 refine Sim.put (hs.IY hp hk (w':=w.freeze ⟨k0.b,oo,none⟩ l.length) ?_ ?_ fun b hb=>?_) (by rw [hB.1];exact hd) (.d _ _ (.str l))
 ·unfold World.freeze;split<;>rfl
 ·unfold World.freeze;split<;>simp
 ·unfold World.freeze
  split
  ·rfl
  ·simp only [Array.getElem?_modify]
   rw [if_neg (fun e=>hb e.symm)]
section
variable {ops:Array Oper} {K:St→Ns→Prop} {r:List Oper} {ns:Ns}
theorem bS (E:XEng P cf ops K) {d:Nat} {x:Operand} {ty:TypeId} {pos:String} {af:Array Edge} (p:Name) (c:Nat) (ty':Option Nat) (cs:List AV) (hd:d<cf.n) (hx:ev s x=.at p c) (hp:s.hp p=some (.boxT ty' cs)) (h:E.run r (s.put d (.at p c)) (ns++[([p],[],[])])) :
  E.stp { dst:=some d,op:=.nilCheck x,type:=ty,pos:=pos,after:=af,guard:=none } r s ns .no:=by
 refine n8 E (x:=.at p c) [p] (fun t ht=>by rw [Option.mem_def,Option.some.injEq] at ht;rw [← ht];exact hd) (fun s' hh he=>?_) h
 have h1:ev s' x=.at p c:=(he x (by simp [Op.operands])).trans hx
 have h2:s'.hp p=some (.boxT ty' cs):=(hh p (by simp)).trans hp
 refine ff (o:={ dst:=some d,op:=.nilCheck x,type:=ty,pos:=pos,after:=af,guard:=none }) rfl ?_
 have h3:opR P.ti cf.n (.nilCheck x) (some d) s'=.ok (s'.put d (.at p c)):=by
  unfold opR B9
  simp only [h1,h2]
  simp [R.bind,bE,hd]
 unfold stp
 simp only [h3,R.run]
 rw [eK];rfl
theorem HW (E:XEng P cf ops K) {d:Nat} {x:Operand} {at':Array TypeId} {ty:TypeId} {pos:String} {af:Array Edge} {g:Option (Nat × Bool)} (hd:d<cf.n) (hx:ev s x=.d .nils) (h:E.run r (s.put d (.d .nilp)) (ns++[([],[],[])])) :
  E.stp { dst:=some d,op:=.call { callee:=.builtin .unsafeSliceData,args:=#[x],argTypes:=at' },type:=ty,pos:=pos,after:=af,guard:=g } r s ns .no:=by
 refine n8 E (x:=.d .nilp) [] (fun t ht=>by rw [Option.mem_def,Option.some.injEq] at ht;rw [← ht];exact hd) (fun s' _ he=>?_) h
 exact De hd ((he x (by simp [Op.operands,Call.operands])).trans hx) (by rw [eK];rfl)
theorem IM (E:XEng P cf ops K) {d:Nat} {x:Operand} {at':Array TypeId} {ty:TypeId} {pos:String} {af:Array Edge} {g:Option (Nat × Bool)} (p:Name) (tg:Option Nat) (w0:W) (xs:List D) (l:Nat) (hd:d<cf.n) (hx:ev s x=.vw p 0 l) (hp:s.hp p=some (.arrT tg w0 xs)) (hl:0<l)
  (h:E.run r (s.put d (.el p 0 0)) (ns++[([p],[],[])])) :
  E.stp { dst:=some d,op:=.call { callee:=.builtin .unsafeSliceData,args:=#[x],argTypes:=at' },type:=ty,pos:=pos,after:=af,guard:=g } r s ns .no:=by
 refine n8 E (x:=.el p 0 0) [p] (fun t ht=>by rw [Option.mem_def,Option.some.injEq] at ht;rw [← ht];exact hd) (fun s' hh he=>?_) h
 exact Fh p tg w0 xs l hd ((he x (by simp [Op.operands,Call.operands])).trans hx) ((hh p (by simp)).trans hp) hl (by rw [eK];rfl)
end
end
theorem qZ (tf:Nat→TI) (dd:Option Nat) (s:St) (x:Operand):opE tf (.nilCheck x) dd s=.no:=rfl
attribute [go_sem] qZ
end Go.Ab

namespace Go.Ab
section
variable {P:Program} {F:Fence} {n:Nat} {ops:Array Oper} {Q Q':Exit→Act→World→Prop}
theorem vk {o:Oper} {a:Act} {w:World} {K K':Act→World→Prop} (h:∀ a w,K a w→K' a w) (hq:∀ e a w,Q e a w→Q' e a w) (hh:o.wpIn F n P a w K Q):o.wpIn F n P a w K' Q':=by
 unfold Oper.wpIn at *
 refine ⟨hh.1,?_⟩
 have hh:=hh.2
 generalize (o.semAt F.round a.eval).run P w=r at *
 cases r with
 | ok x w' =>
   cases x<;>simp only [Oper.uponIn] at hh ⊢ <;>
    first
     | exact h _ _ hh
     | exact ⟨hh.1,CallsIn.mono hh.2 (fun e w'' he=>by cases e<;>first | exact h _ _ he | exact hq _ _ _ he | exact he.elim fun a he=>he.elim fun w he=>⟨a,w,hq _ _ _ he⟩ | exact he)⟩
     | exact ⟨hh.1,RowsIn.mono hh.2 (fun _ _ he=>h _ _ he)⟩
     | exact ⟨hh.1,RoundIn.mono hh.2 (fun e w'' he=>by cases e<;>first | exact h _ _ he | exact hq _ _ _ he | exact he.elim fun a he=>he.elim fun w he=>⟨a,w,hq _ _ _ he⟩ | exact he)⟩
 | halt x w'=>cases x<;>simp only [Oper.uponIn] at hh ⊢<;>first | exact hq _ _ _ hh | exact hh
theorem dH (hq:∀ e a w,Q e a w→Q' e a w):∀ (l:List Nat) (a:Act) (w:World),wpOpsIn F n P ops Q l a w→wpOpsIn F n P ops Q' l a w
 | [],_,_,h=>hq _ _ _ h
 | i::r,a,w,h=>by
   simp only [wpOpsIn] at h ⊢
   split
   ·rename_i hn
    simp only [hn] at h
    exact dH hq r a w h
   ·rename_i o ho
    simp only [ho] at h
    split
    ·rename_i hw
     simp only [hw,if_true] at h
     exact vk (fun a w=>dH hq r a w) hq h
    ·rename_i hw
     simp only [hw] at h
     exact ⟨h.1,dH hq r _ w h.2⟩
end
section
variable {P:Program} {cf:Cf} {Φ:Exit→Act→World→Prop} {I:Base→List Deferred→Prop} {k:List It} {s:St}
theorem jb {all:Array Oper} {r:List Oper} (h:∀ E:Eng P cf (yq P cf Φ I k),E.run [.ops all r] s):ARY P cf Φ I (.ops all r::k) s:=by
 have h1:run P cf [.ops all r] (yq P cf Φ I k) s:=veil h
 intro B hB ds β a w hds hI hs l hl
 have h2:=aU h1 B hB ds β a w hds hs l hl
 exact dH (fun _ _ _ hq=>yh hB hI hq) l a w h2
theorem CN {B0:Base} {X:Type} {Iv:X→St} {fr0 fr:List (Nat × AV)} {hp0 hp:List (Name × Ob)} {u0 u:List Nat} (hl:LKL (mk fr0 hp0 u0) hp) (h:ARX cf Φ (CI B0) .ret (mk fr0 hp u)):rq P cf Φ B0 k Iv (mk fr0 hp0 u0) .ret (mk fr hp u):=⟨p3 (gO hl),h⟩
end
end Go.Ab

namespace Go.Ab
theorem Cb (p:Name):∀ (a b:List (Name × Option Ob)),wl (a++b) p=match wl b p with | some v=>some v | none=>wl a p
 | [],b=>by cases h:wl b p<;>simp [wl,h]
 | q::r,b=>by
   rw [List.cons_append,wl,Cb p r b]
   cases wl b p<;>simp [wl]
theorem Cu (p:Name) (z:Option Ob):∀ l:List (Name × Option Ob),(wl l.reverse p).getD z=lkA z l p
 | []=>rfl
 | q::r=>by
   rw [List.reverse_cons,Cb,dt]
   by_cases h:p=q.1
   ·simp [wl,h]
   ·simp only [wl,if_neg h]
    exact Cu p z r
def wrO (d:Nat) (chp hp':List (Name × Ob)):List (Name × Option Ob):=((hp'.map fun x:Name × Ob=>(eB id d chp x.1,some (x.2.ren (eB id d chp))))++chp.map fun x:Name × Ob=>(x.1,none)).reverse
theorem zY (d:Nat) (chp hp':List (Name × Ob)):(wrO d chp hp').map (fun x=>x.1)=((hp'.map fun x:Name × Ob=>eB id d chp x.1)++chp.map fun x:Name × Ob=>x.1).reverse:=by
 unfold wrO
 rw [List.map_reverse,List.map_append,List.map_map,List.map_map]
 rfl
attribute [go_sem] zY List.reverse_cons List.reverse_nil
theorem yd {α β:Type} [DecidableEq α] (z:β) (i:α):∀ a b:List (α × β),lkA z (a++b) i=lkA (lkA z b i) a i
 | [],_=>rfl
 | q::r,b=>by rw [List.cons_append,dt,dt,yd z i r b]
theorem BX (s:St) (d:Nat) (chp hp':List (Name × Ob)) (r:AV):aft s id d chp hp' r=s.go (some d) (r.ren (eB id d chp)) ⟨wrO d chp hp',[d]⟩:=by
 refine Ba (funext fun q=>?_) rfl fun t=>rfl
 show lkA (lkA (s.hp q) (chp.map fun x=>(x.1,none)) q) _ q=(wl (wrO d chp hp') q).getD (s.hp q)
 unfold wrO
 rw [Cu,yd]
section
variable {P:Program} {cf:Cf} {ops:Array Oper} {K:St→Ns→Prop} {r:List Oper} {s:St} {ns:Ns}
theorem aM (E:XEng P cf ops K) {d:Nat} {fv:Operand} {args:Array Operand} {at':Array TypeId} {ty:TypeId} {pos:String} {af:Array Edge} {g:Option (Nat × Bool)}
  {f:FuncId} {caps:List AV} (cargs:List AV) (chp:List (Name × Ob)) (cu:List Nat) (x:AV) (hp':List (Name × Ob)) (hc:HCall P cf.G f cargs chp cu (fun y h=>y=x∧h=hp'))
  (hev:ev s fv=.clo f caps) (hargs:args.toList.map (ev s)++caps=cargs) (hd:d<cf.n∧d ∉ s.used) (hcu:dV cu cargs=true) (hpass:ej id cu s chp) (hinj:lI id chp)
  (hl:ik chp hp') (hk:E.run r (aft s id d chp hp' x) (ns++[(chp.map (·.1),(wrO d chp hp').map (·.1),[d])])) :
  E.stp { dst:=some d,op:=.call { callee:=.value fv,args:=args,argTypes:=at' },type:=ty,pos:=pos,after:=af,guard:=g } r s ns .no:=by
 rw [E.stp_eq]
 refine ⟨x.ren (eB id d chp),(chp.map (·.1),⟨wrO d chp hp',[d]⟩),fun s' hu hh he B hB ds' β a w hds hs Q'=>?_,fun y hy=>?_,hd.1,?_⟩
 ·have hm:∀ y,y=fv∨y∈args→ev s' y=ev s y:=fun y hy=>he y (by
   simp only [Op.operands,Call.operands]
   rcases hy with rfl | hy<;>simp_all)
  have hpass':ej id cu s' chp:=by
   have:∀ l:List (Name × Ob),(∀ q∈l,q.1∈chp.map (·.1))→ej id cu s l→ej id cu s' l:=by
    intro l
    induction l with
    | nil=>intros;trivial
    | cons q r ih =>
      intro hq h
      refine ⟨⟨?_,h.1.2⟩,ih (fun x hx=>hq x (List.mem_cons_of_mem _ hx)) h.2⟩
      rw [show s'.hp (id q.1)=s.hp (id q.1) from hh _ (hq q List.mem_cons_self)]
      exact h.1.1
   exact this chp (fun q hq=>List.mem_map.2 ⟨q,hq,rfl⟩) hpass
  have hok:AOk P cf { dst:=some d,op:=.call { callee:=.value fv,args:=args,argTypes:=at' },type:=ty,pos:=pos,after:=af,guard:=g } s' [] (fun _ s2=>s2=aft s' id d chp hp' x):=by
   refine rp d id cargs chp cu _ ((hm fv (.inl rfl)).trans hev) ?_ hcu (hu d (by simp)) (fun t ht=>?_) hpass' hinj hc fun y h hr=>?_
   ·rw [vI (s:=s) (s':=s') fun y hy=>hm y (.inr (by simpa using hy)),hargs,u5]
   ·obtain rfl:=Option.some.inj ht
    exact ⟨hd.1,rfl⟩
   ·obtain ⟨rfl,rfl⟩:=hr
    exact ⟨hl,by rw [eK];rfl⟩
  refine Oper.wpIn_mono ?_ (hok B hB ds' β a w hds hs Q')
  rintro a' w' ⟨hd',s2,β',hrun,hs2⟩
  obtain ⟨_,s3,β3,rfl,hs3⟩:=hrun B hB ds' β' a' w' hd' hs2
  exact ⟨hd',β3,by rw [← BX];exact hs3⟩
 ·obtain rfl:=List.mem_singleton.1 hy
  exact hd.2
 ·rw [← E.run_eq,← BX]
  exact hk
theorem E6 {H:Array Obj} {own:Nat→Prop} {v:Value} {wf:W} {l:List D} (h:Rep H own v (.sl wf l)):v.oneCell'=true:=by
 generalize hz:D.sl wf l=d at h
 cases h<;>first | rfl | cases hz
theorem v5 {H:Array Obj} {own:Nat→Prop} {us:List Nat} {hp:Name→Option Ob} {β:Name→Option Blk} {v:Value} {wf:W} {l:List D} (h:VR H own us hp β v (.d (.sl wf l))):v.oneCell'=true:=by
 cases h with
 | d _ _ h=>exact E6 h
theorem b9 (E:XEng P cf ops K) {t:Nat} (u:Nat) (p:Name) (wf:W) (xs:List D) {off len:Nat} {fv:Operand} {args:Array Operand} {at':Array TypeId} {ty:TypeId} {pos:String} {af:Array Edge} {gg:Option (Nat × Bool)}
  {f:FuncId} {caps:List AV} {ds:List D} {x:AV} (hc:HP P cf.G f ds (fun r=>r=x)) (hfv:∀ s,ev s fv=.clo f caps) (hp:s.hp p=some (.arr wf xs)) (hev:s.fr u=.vw p off len) (hu:(t == u)=false) (hin:Operand.tmp u∈args)
  (hargs:args.toList.map (ev (s.put u (.d (.sl wf ((xs.drop off).take len)))))++caps=ds.map .d) (hdst:t<cf.n) (hk:E.run r ((s.set p none).put t x) (ns++[([p],[p],[])])) :
  E.stp { dst:=some t,op:=.call { callee:=.value fv,args:=args,argTypes:=at' },type:=ty,pos:=pos,after:=af,guard:=gg } r s ns .no:=by
 have htu:¬ t=u:=by simpa using hu
 have hgo:∀ s:St,(s.set p none).put t x=s.go (some t) x ⟨[(p,none)],[]⟩:=fun s=>by unfold St.go;rw [rY];rfl
 rw [E.stp_eq]
 refine ⟨x,([p],⟨[(p,none)],[]⟩),fun s' _ hh he=>?_,fun y hy=>(by cases hy),hdst,?_⟩
 ·have hm:∀ y,y∈args→ev s' y=ev s y:=fun y hy=>he y (by
   simp only [Op.operands,Call.operands]
   simp_all)
  have hp':s'.hp p=some (.arr wf xs):=(hh p (by simp)).trans hp
  have hev':s'.fr u=.vw p off len:=(hm (.tmp u) hin).trans hev
  obtain ⟨y,hy⟩:∃ y,y=AV.d (.sl wf ((xs.drop off).take len)):=⟨_,rfl⟩
  rw [← hy] at hargs
  have hargs':args.toList.map (ev ((s'.set p none).put u y))++caps=ds.map .d:=by
   rw [← hargs]
   congr 1
   refine List.map_congr_left fun z hz=>?_
   have h0:=hm z (by simpa using hz)
   cases z with
   | tmp i =>
     by_cases e:i=u
     ·subst e
      show ((s'.set p none).put i _).fr i=(s.put i _).fr i
      simp [St.put,dB]
     ·have h0':s'.fr i=s.fr i:=h0
      show ((s'.set p none).put u _).fr i=(s.put u _).fr i
      simp [St.put,St.set,dB,e,h0']
   | _=>rfl
  have h1:=kO (k:=[]) (Q:=fun _ s2=>s2=((s'.set p none).put u y).put t x) (dst:=some t) (fv:=fv) (args:=args) (at':=at') (ty:=ty) (pos:=pos) (af:=af) (g:=gg) hc
   (hfv _) hargs' (fun y hy=>by rw [Option.mem_def,Option.some.injEq] at hy;rw [← hy];exact hdst) (fun r hr=>by subst hr;rw [eK];rfl)
  intro B hB ds' β a w hds hs Q'
  have hs0:=hs.drop p
  have hs1:Sim B β ((s'.set p none).put u y) a.tmps w:=hs0.setv (by
   have:=(hs.frz hp').slots u
   rw [show (s'.frz p wf xs).fr u=(s'.fr u).frz p wf xs from rfl,hev',AV.frz,if_pos rfl,← hy] at this
   exact this)
  refine Oper.wpIn_mono ?_ (h1 B hB ds' β a w hds hs1 Q')
  rintro a' w' ⟨hd',s2,β',hrun,hs2⟩
  obtain ⟨_,s3,β3,rfl,hs3⟩:=hrun B hB ds' β' a' w' hd' hs2
  refine ⟨hd',β3,?_⟩
  rw [← hgo]
  have hv:=hs3.slots u
  have e1:(((s'.set p none).put u y).put t x).fr u=y:=by simp [St.put,dB,Ne.symm htu,fun h:u=t=>htu h.symm]
  rw [e1,hy] at hv
  have hnm:=(hs.objs p _ hp').1
  have e2:((s'.set p none).put t x)=(((s'.set p none).put u y).put t x).put u (.vw p off len):=by
   refine kK (fun _=>rfl) rfl fun i=>?_
   simp only [St.put,St.set,dB]
   by_cases h1:i=u
   ·subst h1
    have h3:¬ i=t:=fun h=>htu h.symm
    simp [h3,hev']
   ·simp [h1]
  have h5:=hs3.setv (t:=u) (x:=.vw p off len) (.vw _ _ _ _ hnm (by
   exact v5 hv) (fun ty w xs h=>by
    have h:aA s'.hp p none p=some _:=h
    simp [aA] at h))
  rw [e2]
  exact h5
 ·rw [← E.run_eq,← hgo]
  exact hk
end
end Go.Ab

namespace Go.Proofs.YtejpnabbmgpmaaaGreat
open Go.Ab
theorem JN:∀ (m:Nat) (ks:List Int),m≤3→jW [.int .i64 0,.int .i64 0,.int .i64 0] ((ks.take m).map i64) 0 3=[i64 (if 0<m then ks.getD 0 0 else 0),i64 (if 1<m then ks.getD 1 0 else 0),i64 (if 2<m then ks.getD 2 0 else 0)]
 | 0,_,_=>rfl
 | 1,[],_=>rfl
 | 2,[],_=>rfl
 | 3,[],_=>rfl
 | 1,[x],_=>rfl
 | 2,[x],_=>rfl
 | 3,[x],_=>rfl
 | 1,x::y::r,_=>by simp [jW,i64]
 | 2,[x,y],_=>rfl
 | 3,[x,y],_=>rfl
 | 2,x::y::z::r,_=>by simp [jW,i64]
 | 3,[x,y,z],_=>rfl
 | 3,x::y::z::w::r,_=>by simp [jW,i64]
theorem Bs {α:Type} (k:Nat) (l:List α) (N:Nat) (h:l.length=N) [Decidable ((N:Int)<(k:Int))]:List.take ((if (N:Int)<(k:Int) then (N:Int) else (k:Int)).toNat-0) l=l.take k:=by
 split
 ·rw [List.take_of_length_le (by omega),List.take_of_length_le (by omega)]
 ·congr 1
theorem AT {G}:HCall Tryz.prog G 156 [.d .nils] [] [] (fun r hp'=>r=.vw [0] 0 0∧hp'=[([0],.arr (some 3) [])]):=by
 refine HCall.thaw (Q:=fun r hp'=>(r=.d .nils∧hp'=[])∨(r=.vw [0] 0 0∧hp'=[([0],.arr (some 3) [])])) ?_ 0 (some 3) (by simp) ?_
 ·refine aq Tryz.func156 rfl (by decide +kernel) (by simp [Tryz.ntmps156]) (veil fun E=>?_)
  simp only [go_sem]
  refine Ei E 3 (some 3) rfl ?_
  refine sx E (e:=177) (by simp only [go_sem]) (by simp only [go_sem]) rfl fun b hb=>?_
  simp only [go_sem]
  refine aZ E (fun h=>?_) (fun h=>?_)<;>simp only [go_sem]
  ·refine ⟨_,[],[],id,.inl ⟨rfl,rfl⟩,?_⟩
   simp only [go_sem]
  ·refine ⟨_,_,[0],tau [([0],[7])],.inr ⟨rfl,rfl⟩,?_⟩
   simp only [go_sem]
 ·rintro r hp' (⟨rfl,rfl⟩ | h)
  ·exact .inr ⟨rfl,rfl,rfl,rfl⟩
  ·exact .inl h
theorem bk {ks:List Int} {k:Nat} (h:k<ks.length):(ks.map i64).getD k .nilp=i64 (ks.getD k 0):=by simp [h]
theorem qi (ks:List Int) (o:Nat):∀ (a b:List EF) (i:Nat),aW ks o (a++b) i=aW ks o a i++aW ks o b (i+a.length)
 | [],b,i=>by simp [aW]
 | f::r,b,i=>by
   simp only [List.cons_append,aW,qi ks o r b (i+1),List.length_cons]
   rw [show i+1+r.length=i+(r.length+1) by omega]
def dY (ks:List Int) (o:Nat) (l:List EF) (i:Nat):List EF:=aW ks o (l.take i) 0++l.drop i
theorem y5 (ks:List Int) (o:Nat) (l:List EF) (i:Nat):(dY ks o l i).length=l.length:=by
 simp only [dY,List.length_append,cR,List.length_take,List.length_drop];omega
theorem vz (ks:List Int) (o:Nat) (l:List EF):dY ks o l 0=l:=by simp [dY,aW]
theorem y0 (ks:List Int) (o:Nat) (l:List EF):dY ks o l l.length=aW ks o l 0:=by simp [dY]
theorem vN {ks:List Int} {o:Nat} {l:List EF} {i:Nat} (h:i<l.length):dY ks o l (i+1)=(dY ks o l i).set i (if o+i<ks.length then { fdE l i with to:=ks.getD (o+i) 0 } else fdE l i):=by
 have h1:l.take (i+1)=l.take i++[l[i]]:=by simp
 have h2:l.drop i=l[i]::l.drop (i+1):=List.drop_eq_getElem_cons h
 have hf:fdE l i=l[i]:=by simp [fdE,h]
 unfold dY
 rw [h1,qi,h2,hf]
 have h3:(aW ks o (l.take i) 0).length=i:=by rw [cR,List.length_take];omega
 rw [List.set_append_right _ _ (by omega),h3,Nat.sub_self]
 simp only [aW,Nat.zero_add,List.length_take,Nat.min_eq_left (Nat.le_of_lt h),List.append_assoc,List.singleton_append,List.set_cons_zero]
theorem qj {ks:List Int} {o:Nat} {l:List EF} {i:Nat} (h:i<l.length):(dY ks o l i)[i]?=some (fdE l i):=by
 have h3:(aW ks o (l.take i) 0).length=i:=by rw [cR,List.length_take];omega
 unfold dY
 rw [List.getElem?_append_right (by omega),h3,Nat.sub_self,List.drop_eq_getElem_cons h]
 simp [fdE,h]
theorem qM {G} (n:EN) (ks:List Int) (hl:n.l.length≤1000000) (hks:ks.length≤1000000):HP Tryz.prog G 105 [enD n,.sl none (ks.map i64)] (fun r=>r=.d (enD (aI n ks))):=by
 unfold enD efD
 refine aR Tryz.func105 rfl (by decide +kernel) (by simp [Tryz.ntmps105]) (veil fun E=>?_)
 simp only [go_sem]
 refine ae E (mX n.k) rfl rfl (by simp) ?_
 rintro _ rfl
 simp only [go_sem]
 have hk3:=bJ n.k
 refine Jd E [6] 6 77 [.int .i64 0,.int .i64 0,.int .i64 0] ?_ rfl rfl (by decide) rfl ?_
 ·rw [aa];decide
 simp only [go_sem]
 refine jI 8 mixed E (by simp only [List.take_succ_cons,List.take_zero];exact rfl) (by simp only [List.drop_succ_cons,List.drop_zero];exact rfl) rfl rfl (by decide +kernel) fun X=>?_
 simp only [go_sem]
 refine ⟨by split<;>constructor<;>omega,by decide +kernel,?_⟩
 rw [Bs (aH n.k) (ks.map i64) ks.length (by simp),← List.map_take]
 refine Hp E (d:=21) (dT:=95) (e0:=3) (by simp only [go_sem]) (by rw [Jf]) (by rw [ti3];decide) rfl rfl rfl ?_
 rw [JN _ _ hk3]
 obtain ⟨a,ha⟩:∃ a,a=if 0<aH n.k then ks.getD 0 0 else 0:=⟨_,rfl⟩
 obtain ⟨b,hb⟩:∃ b,b=if 1<aH n.k then ks.getD 1 0 else 0:=⟨_,rfl⟩
 obtain ⟨c,hc⟩:∃ c,c=if 2<aH n.k then ks.getD 2 0 else 0:=⟨_,rfl⟩
 rw [← ha,← hb,← hc]
 simp only [go_sem]
 refine aj mixed E fun X=>?_
 simp only [go_sem]
 simp only [List.getD_cons_succ,List.getD_cons_zero]
 simp only [go_sem]
 simp only [List.getD_cons_succ,List.getD_cons_zero]
 simp only [go_sem]
 refine ⟨by decide +kernel,?_⟩
 refine aZ E (fun hp=>?_) (fun hp=>?_)<;>simp only [go_sem]
 ·refine ab E [.d .nils] [] [] AT rfl rfl ⟨by simp only [go_sem],by rw [aa];decide⟩ rfl (by simp only [go_sem]) (by simp only [go_sem]) ?_
  rintro _ _ ⟨rfl,rfl⟩
  simp only [go_sem]
  refine a9 E (X:=Unit) (fun _=>[(1,.d (.sl none (ks.map i64))),(2,.at [2] 0),(4,.at [4] 0),(5,.at [5] 0),(41,.d (i64 0)),(42,.d (i64 0))])
   (fun _=>[([2],.box [.d (i64 n.k),.d (i64 a),.d (i64 b),.d (i64 c),.d (i64 n.n),.d (.str n.name),.d (.str n.s),.vw [37,0] 0 0,.d (i64 n.pos)]),([4],.box [.d (i64 0),.d (i64 0),.d (i64 0),.d (i64 0),.d (i64 0),.d (.str []),.d (.str []),.d .nils,.d (i64 0)]),([5],.box [.d (i64 (aH n.k)),.d (.bool (aw n.k))]),([37,0],.arr (some 3) [])]) [2,4,5,37] (fun _=>0) () id ?_ ?_
  ·simp only [go_sem]
   all_goals rfl
  rintro _ E0
  refine bb E0 fun Q' hQ E'=>?_
  simp only [go_sem]
  rw [hQ]
  simp only [go_sem]
  refine ⟨[([37,0],some 3,[])],?_⟩
  simp only [go_sem]
  have hw:aI n ks={ n with a:=a,b:=b,c:=c,l:=[] }:=by
   have hp':aw n.k=false:=by simpa using hp
   simp [aI,ha,hb,hc,hp']
  rw [hw]
  rfl
 ·refine ab E [.d (efD n.l)] [] [] (C7 n.l hl) rfl rfl ⟨by simp only [go_sem],by rw [aa];decide⟩ rfl (by simp only [go_sem]) (by simp only [go_sem]) ?_
  rintro _ _ ⟨rfl,rfl⟩
  simp only [go_sem]
  refine a9 E (X:={ i:Nat // i≤n.l.length }) (fun x=>[(1,.d (.sl none (ks.map i64))),(2,.at [2] 0),(4,.at [4] 0),(5,.at [5] 0),(41,.d (i64 n.l.length)),(42,.d (i64 x.1))])
   (fun x=>[([2],.box [.d (i64 n.k),.d (i64 a),.d (i64 b),.d (i64 c),.d (i64 n.n),.d (.str n.name),.d (.str n.s),.vw [37,0] 0 n.l.length,.d (i64 n.pos)]),([4],.box [.d (i64 0),.d (i64 0),.d (i64 0),.d (i64 0),.d (i64 0),.d (.str []),.d (.str []),.d .nils,.d (i64 0)]),([5],.box [.d (i64 (aH n.k)),.d (.bool (aw n.k))]),([37,0],.arr (some 3) ((dY ks (aH n.k) n.l x.1).map fD))]) [2,4,5,37] (fun x=>n.l.length-x.1) ⟨0,Nat.zero_le _⟩ id ?_ ?_
  ·simp only [go_sem]
   all_goals (first | rfl | (rw [vz]))
  rintro ⟨i,hi⟩ E0
  refine bb E0 fun Q' hQ E'=>?_
  simp only at hi ⊢
  simp only [go_sem]
  refine ai E' (fun h1=>?_) (fun h1=>?_)<;>simp only [go_sem]
  ·have h1':i<n.l.length:=by omega
   rw [ak ⟨by omega,by omega⟩]
   have hpl:=y5 ks (aH n.k) n.l i
   have hst:=vN (ks:=ks) (o:=aH n.k) h1'
   refine ai E' (fun h2=>?_) (fun h2=>?_)<;>simp only [go_sem]
   ·have h2':aH n.k+i<ks.length:=by omega
    rw [if_pos h2'] at hst
    refine aj mixed E' fun X=>?_
    simp only [go_sem]
    refine ⟨⟨by omega,by omega⟩,?_⟩
    rw [show ((aH n.k:Nat)+(i:Int)).toNat=aH n.k+i by omega,bk h2']
    simp only [go_sem]
    have hgt:(List.map fD (dY ks (aH n.k) n.l i)).getD i .nilp=.agg [.str (fdE n.l i).nm,.str (fdE n.l i).var,i64 (fdE n.l i).to]:=by
     rw [List.getD_eq_getElem?_getD,List.getElem?_map,qj h1'];rfl
    refine ⟨⟨by omega,by omega⟩,?_⟩
    rw [hgt]
    simp only [go_sem]
    have hmp:(List.map fD (dY ks (aH n.k) n.l i)).set i (.agg [.str (fdE n.l i).nm,.str (fdE n.l i).var,i64 (ks.getD (aH n.k+i) 0)])=(dY ks (aH n.k) n.l (i+1)).map fD:=by
     rw [hst,List.map_set];rfl
    rw [hmp]
    refine ⟨by decide +kernel,?_⟩
    rw [hQ]
    simp only [go_sem]
    refine ⟨⟨i+1,by omega⟩,by show n.l.length-(i+1)<_;omega,id,?_⟩
    rw [ak ⟨by omega,by omega⟩]
    simp only [go_sem]
    all_goals rfl
   ·have h2':¬ aH n.k+i<ks.length:=by omega
    rw [if_neg h2'] at hst
    have hst2:dY ks (aH n.k) n.l (i+1)=dY ks (aH n.k) n.l i:=by
     rw [hst]
     refine List.ext_getElem? fun j=>?_
     rw [List.getElem?_set]
     split
     ·rename_i e;subst e
      rw [if_pos (by omega),qj h1']
     ·rfl
    rw [hQ]
    simp only [go_sem]
    refine ⟨⟨i+1,by omega⟩,by show n.l.length-(i+1)<_;omega,id,?_⟩
    rw [hst2,ak ⟨by omega,by omega⟩]
    simp only [go_sem]
    all_goals rfl
  ·rw [hQ]
   simp only [go_sem]
   have hi2:i=n.l.length:=by omega
   subst hi2
   rw [y0]
   refine ⟨[([37,0],some 3,(aW ks (aH n.k) n.l 0).map fD)],?_⟩
   simp only [go_sem]
   have hw:aI n ks={ n with a:=a,b:=b,c:=c,l:=aW ks (aH n.k) n.l 0 }:=by
    have hp':aw n.k=true:=by simpa using hp
    simp [aI,ha,hb,hc,hp']
   rw [hw,List.take_of_length_le (by rw [List.length_map,cR];exact Nat.le_refl _)]
end Go.Proofs.YtejpnabbmgpmaaaGreat

namespace Go.Proofs.YtejpnabbmgpmaaaGreat
open Go.Ab
theorem En {G} (a b:Int):HP Tryz.prog G 275 [i64 a,i64 b] (fun r=>r=.d (i64 (w64 (a+b)))):=by
 refine ao Tryz.func275 rfl (by decide +kernel) (by simp [Tryz.ntmps275]) (veil fun E=>?_)
 simp only [go_sem]
theorem Eg {G} (a b:Int):HP Tryz.prog G 276 [i64 a,i64 b] (fun r=>r=.d (i64 (w64 (a-b)))):=by
 refine ao Tryz.func276 rfl (by decide +kernel) (by simp [Tryz.ntmps276]) (veil fun E=>?_)
 simp only [go_sem]
theorem Fx {G} (a b:Int):HP Tryz.prog G 277 [i64 a,i64 b] (fun r=>r=.d (i64 (w64 (a*b)))):=by
 refine ao Tryz.func277 rfl (by decide +kernel) (by simp [Tryz.ntmps277]) (veil fun E=>?_)
 simp only [go_sem]
theorem EG {G} (a b:Int):HP Tryz.prog G 278 [i64 a,i64 b] (fun r=>r=.tup [.d (i64 (Cx a b)),.d (i64 (EK b))]):=by
 refine ao Tryz.func278 rfl (by decide +kernel) (by simp [Tryz.ntmps278]) (veil fun E=>?_)
 simp only [go_sem]
 refine ai E (fun h=>?_) (fun h=>?_)<;>simp only [go_sem]
 ·simp [Cx,EK,h]
 ·simp [Cx,EK,h]
end Go.Proofs.YtejpnabbmgpmaaaGreat

namespace Go.Proofs.YtejpnabbmgpmaaaGreat
open Go.Ab
def bp (s p:List UInt8):Bool:=decide (p.length≤s.length) && (s.take p.length == p)
theorem wO {G} (s p:List UInt8):HP Tryz.prog G 304 [.str s,.str p] (fun r=>r=.d (.bool (bp s p))):=by
 refine ao Tryz.func304 rfl (by decide +kernel) (by simp [Tryz.ntmps304]) (veil fun E=>?_)
 simp only [go_sem]
 refine aO E (fun h=>?_) (fun h=>?_)<;>simp only [go_sem]
 ·have hl:p.length≤s.length:=by simpa using h
  refine ⟨by simpa using hl,?_⟩
  simp [bp,hl,Ir]
 ·have hl:¬ p.length≤s.length:=by simpa using h
  simp [bp,hl]
theorem yJ {s p:List UInt8} (h:bp s p=true):p.length≤s.length:=by
 simp only [bp,Bool.and_eq_true,decide_eq_true_eq] at h
 exact h.1
theorem Gg {G} (s p:List UInt8):HP Tryz.prog G 327 [.str s,.str p] (fun r=>r=.tup [.d (.str (if bp s p then s.drop p.length else s)),.d (.bool (bp s p))]):=by
 refine ao Tryz.func327 rfl (by decide +kernel) (by simp [Tryz.ntmps327]) (veil fun E=>?_)
 simp only [go_sem]
 refine ae E (wO s p) rfl rfl (by simp) ?_
 rintro _ rfl
 simp only [go_sem]
 refine aZ E (fun h=>?_) (fun h=>?_)<;>simp only [go_sem]
 ·have h:bp s p=false:=by simpa using h
  simp [h]
 ·have h:bp s p=true:=by simpa using h
  have:=yJ h
  simp [h]
  refine ⟨by omega,?_⟩
  rw [List.take_of_length_le]
  simp
theorem xc {G} (s p:List UInt8):HP Tryz.prog G 297 [.str s,.str p] (fun r=>r=.tup [.d (.str (if bp s p then s.drop p.length else s)),.d (.bool (bp s p))]):=by
 refine ao Tryz.func297 rfl (by decide +kernel) (by simp [Tryz.ntmps297]) (veil fun E=>?_)
 simp only [go_sem]
 refine ae E (Gg s p) rfl rfl (by simp) ?_
 rintro _ rfl
 simp only [go_sem]
end Go.Proofs.YtejpnabbmgpmaaaGreat

namespace Go.Proofs.YtejpnabbmgpmaaaGreat
open Go.Ab
def fT (k a b:Int):Int:=if k=1 then w64 (a+b) else if k=2 then w64 (a-b) else if k=3 then w64 (a*b) else if k=4 then Cx a b else if k=5 then (if a<b then 1 else 0) else if k=6 then (if a=b then 1 else 0) else 0
def mC (k b:Int):Int:=if k=1 then 0 else if k=2 then 0 else if k=3 then 0 else if k=4 then EK b else if k=5 then 0 else if k=6 then 0 else 2
def tj (k a b:Int):AV:=.tup [.d (i64 (fT k a b)),.d (i64 (mC k b))]
theorem xJ {G} (b:Bool):HP Tryz.prog G 279 [.bool b] (fun r=>r=.d (i64 (if b then 1 else 0))):=by
 refine ao Tryz.func279 rfl (by decide +kernel) (by simp [Tryz.ntmps279]) (veil fun E=>?_)
 cases b<;>simp only [go_sem]
theorem Gj {G} (k a b:Int):HP Tryz.prog G 241 [i64 k,i64 a,i64 b] (fun r=>r=tj k a b):=by
 refine ao Tryz.func241 rfl (by decide +kernel) (by simp [Tryz.ntmps241]) (veil fun E=>?_)
 simp only [go_sem]
 refine ai E (fun h=>?_) (fun h=>?_)<;>simp only [go_sem]
 ·subst h
  refine ae E (En a b) rfl rfl (by simp) ?_
  rintro _ rfl
  simp only [go_sem]
  rfl
 refine ai E (fun h=>?_) (fun h=>?_)<;>simp only [go_sem]
 ·subst h
  refine ae E (Eg a b) rfl rfl (by simp) ?_
  rintro _ rfl
  simp only [go_sem]
  rfl
 refine ai E (fun h=>?_) (fun h=>?_)<;>simp only [go_sem]
 ·subst h
  refine ae E (Fx a b) rfl rfl (by simp) ?_
  rintro _ rfl
  simp only [go_sem]
  rfl
 refine ai E (fun h=>?_) (fun h=>?_)<;>simp only [go_sem]
 ·subst h
  refine ae E (EG a b) rfl rfl (by simp) ?_
  rintro _ rfl
  simp only [go_sem]
  rfl
 refine ai E (fun h=>?_) (fun h=>?_)<;>simp only [go_sem]
 ·subst h
  refine ae E (xJ (decide (a<b))) rfl rfl (by simp) ?_
  rintro _ rfl
  simp only [go_sem]
  by_cases hh:a<b<;>simp [tj,fT,mC,hh]
 refine ai E (fun h=>?_) (fun h=>?_)<;>simp only [go_sem]
 ·subst h
  refine ae E (xJ (decide (a=b))) rfl rfl (by simp) ?_
  rintro _ rfl
  simp only [go_sem]
  by_cases hh:a=b<;>simp [tj,fT,mC,hh]
 ·simp_all [tj,fT,mC]
end Go.Proofs.YtejpnabbmgpmaaaGreat

namespace Go.Proofs.YtejpnabbmgpmaaaGreat
open Go.Ab
def dd (u:Nat):List UInt8:=if u=0 then [] else Lib.decDigits u
theorem H2 (m:Int):m.tdiv 10=if m<0 then -((m.natAbs / 10:Nat):Int) else ((m.natAbs / 10:Nat):Int):=by
 cases m with
 | ofNat k=>rw [if_neg (show ¬ Int.ofNat k<0 from Int.not_lt.2 (Int.natCast_nonneg k))];rfl
 | negSucc k=>rw [if_pos (Int.negSucc_lt_zero k)];rfl
end Go.Proofs.YtejpnabbmgpmaaaGreat

namespace Go.Proofs.YtejpnabbmgpmaaaGreat
open Go.Ab
def bH (c:UInt8):Bool:=decide (48≤c.toNat) && decide (c.toNat≤57)
def bW (l:List UInt8):Nat:=l.foldl (fun v c=>10*v+(c.toNat-48)) 0
theorem pT (l:List UInt8) (c:UInt8):bW (l++[c])=10*bW l+(c.toNat-48):=by simp [bW]
theorem p6 {l:List UInt8} {i:Nat} (h:i<l.length):l.take (i+1)=l.take i++[l[i]]:=by simp
theorem eQ {l:List UInt8} {i:Nat} (h:i<l.length):bW (l.take (i+1))=10*bW (l.take i)+(l[i].toNat-48):=by
 rw [p6 h,pT]
theorem zM (l:List UInt8) (i:Nat):bW (l.take i)≤bW l:=by
 suffices h:∀ r m:List UInt8,bW m≤bW (m++r) by
  have:=h (l.drop i) (l.take i)
  rwa [List.take_append_drop] at this
 intro r
 induction r with
 | nil=>intro m;simp
 | cons c r ih =>
   intro m
   have h1:=ih (m++[c])
   rw [pT,List.append_assoc] at h1
   have h2:bW (m++c::r)=bW (m++([c]++r)):=rfl
   rw [h2];omega
def cV (l:List UInt8):Bool:=!l.isEmpty && !(decide (1<l.length) && l.head? == some 48) && l.all bH && decide (bW l≤9223372036854775808)
def b8 (neg:Bool) (l:List UInt8):Bool:=cV l && !(neg && decide (bW l=0)) && !(!neg && decide (bW l=9223372036854775808))
def cK (neg:Bool) (l:List UInt8):AV:=.tup [.d (i64 (if b8 neg l then (if neg then -(bW l:Int) else bW l) else 0)),.d (i64 (if b8 neg l then 0 else 5))]
def q6 (s:List UInt8):AV:=if bp s [126] then cK true (s.drop 1) else cK false s
theorem gl {l:List UInt8} {i:Nat} (hi:i<l.length) (h:bH l[i]=false):cV l=false:=by
 cases hd:cV l with
 | false=>rfl
 | true =>
   simp only [cV,Bool.and_eq_true] at hd
   have:=List.all_eq_true.1 hd.1.2 _ (List.getElem_mem hi)
   rw [h] at this;cases this
theorem vY {l:List UInt8} (h1:1<l.length) (h:l.head?=some 48):cV l=false:=by
 simp [cV,h1,h]
theorem qa {l:List UInt8} {i:Nat} (h:9223372036854775808<bW (l.take i)):cV l=false:=by
 have:=zM l i
 have:¬ bW l≤9223372036854775808:=by omega
 simp [cV,this]
theorem nR {neg:Bool} {l:List UInt8} (h:cV l=false):b8 neg l=false:=by simp [b8,h]
theorem gR {neg:Bool} {l:List UInt8} (h:b8 neg l=false):cK neg l=.tup [.d (i64 0),.d (i64 5)]:=by simp [cK,h]
theorem qI {l:List UInt8} (h0:1≤l.length) (hlead:¬ (1<l.length∧l.head?=some 48)) (hall:l.all bH=true) (hv:bW l≤9223372036854775808):cV l=true:=by
 simp only [cV,Bool.and_eq_true,Bool.not_eq_true',decide_eq_true_eq,Bool.and_eq_false_iff,decide_eq_false_iff_not,beq_eq_false_iff_ne]
 refine ⟨⟨⟨?_,?_⟩,hall⟩,hv⟩
 ·cases l with
  | nil=>simp at h0
  | cons c r=>rfl
 ·by_cases h:1<l.length
  ·exact .inr fun e=>hlead ⟨h,e⟩
  ·exact .inl h
theorem tw {l:List UInt8} {i:Nat} (hi:i<l.length) (hall:(l.take i).all bH=true) (h:bH l[i]=true):(l.take (i+1)).all bH=true:=by
 rw [p6 hi,List.all_append,hall]
 simp [h]
end Go.Proofs.YtejpnabbmgpmaaaGreat

