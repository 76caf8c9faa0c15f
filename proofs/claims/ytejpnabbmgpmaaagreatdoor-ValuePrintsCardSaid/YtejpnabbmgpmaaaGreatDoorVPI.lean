/-
  Values that come in: of a type that holds itself; not too many parts, and not too deep. (with the parts that follow it)
-/
import Derived.Test.YtejpnabbmgpmaaaGreatDoorVPH
import Derived.Test.YtejpnabbmgpmaaaGreatDoorVPC
import Derived.Test.YtejpnabbmgpmaaaGreatDoorVPG
import Derived.Test.YtejpnabbmgpmaaaGreatDoorVPF
import Derived.Test.YtejpnabbmgpmaaaGreatDoorVPE
import Derived.Lib.ItoaLen
import Derived.Deep.Upon
import Derived.Lib.MakeNoZero
set_option linter.all false
namespace Go.Proofs.YtejpnabbmgpmaaaGreatDoor
open Go.Ab
mutual
def VT.inn:VT→Prop
 | .mk _ n s nms vs=>(inR n∧s.length≤maxLen∧nms.length=vs.length∧vs.length≤maxLen∧∀ x∈nms,x.length≤maxLen)∧VT.inns vs
def VT.inns:List VT→Prop
 | []=>True
 | v::r=>v.inn∧VT.inns r
end
theorem mJ:∀ l:List VT,VT.inns l↔∀ v∈l,v.inn
 | []=>by simp [VT.inns]
 | v::r=>by rw [VT.inns,mJ r];simp
theorem GV:shp Tryz.prog 1 2=some [.int .i64]:=by kernel_rfl
theorem Hi:shp Tryz.prog 1 3=some [.int .i64]:=by kernel_rfl
theorem Gc:shp Tryz.prog 1 9=some [.str]:=by kernel_rfl
theorem AN:Tryz.prog.cellsOf 2=1:=by kernel_rfl
theorem x7:Tryz.prog.cellsOf 3=1:=by kernel_rfl
theorem qt:Tryz.prog.cellsOf 9=1:=by kernel_rfl
theorem wW:Tryz.prog.cellsOf 35=1:=by kernel_rfl
theorem ou:Tryz.prog.cellsOf 37=4:=by kernel_rfl
theorem og:Tryz.prog.cellsOf 74=5:=by kernel_rfl
theorem Gx:(Tryz.prog.ti 37).k=.struct [(0,3),(1,2),(2,9),(3,35)]:=by kernel_rfl
theorem G2:(Tryz.prog.ti 74).k=.struct [(0,9),(1,37)]:=by kernel_rfl
theorem GH:(Tryz.prog.ti 35).k=.slice 74:=by kernel_rfl
section
variable {H:Type} {enc:TypeId × Value→H} {w:World} {spare:Nat→Bool} {held:Bool}
theorem my {t:TypeId} {fs:List (Nat × Nat)} (hk:(Tryz.prog.ti t).k=.struct fs) {n':Nat} {cs:List Value} {x:DataW H × List MemPlace} (h:DataW.trod enc Tryz.prog w 0 spare held n' t cs=some x) :
  cs.length=Tryz.prog.cellsOf t∧∃ n,n'=n+1∧∀ i o e:Nat,fs[i]?=some (o,e)→∃ y,DataW.trod enc Tryz.prog w 0 spare held n e ((cs.drop o).take (Tryz.prog.cellsOf e))=some y:=by
 obtain ⟨fl,hu,rfl⟩:=fm hk
 obtain ⟨xs,n,rfl,_,hcl,hxl,hf⟩:=DataW.trod_struct hu h
 refine ⟨hcl,n,rfl,fun i o e hi=>?_⟩
 rw [List.getElem?_map] at hi
 cases hq:fl.toList[i]? with
 | none=>rw [hq] at hi;cases hi
 | some f =>
   rw [hq] at hi
   obtain ⟨rfl,rfl⟩:=Prod.mk.inj (Option.some.inj hi)
   have hq':fl[i]?=some f:=by simpa using hq
   have h1:=hf i f hq'
   have hlt:i<xs.length:=by
    have:=(Array.getElem?_eq_some_iff.1 hq').1
    omega
   exact ⟨xs[i],by rw [h1];simp [hlt]⟩
theorem FM {cs:List Value} {o:Nat} {d:D} (h:CD w ((cs.drop o).take 1) [d]):Rep w.heap (fun _=>False) (cs.getD o undef) d:=by
 have:=h.2 0 d rfl
 rw [List.getD_eq_getElem?_getD,List.getElem?_take,if_pos (by omega),List.getElem?_drop] at this
 simpa [List.getD_eq_getElem?_getD] using this
theorem iY {t:TypeId} {ty:TS} (hs:shp Tryz.prog 1 t=some [ty]) (hc:Tryz.prog.cellsOf t=1) {n:Nat} {cs:List Value} {o:Nat} {y:DataW H × List MemPlace} (h:DataW.trod enc Tryz.prog w 0 spare held n t ((cs.drop o).take (Tryz.prog.cellsOf t))=some y) :
  ∃ d,ty.ok d∧Rep w.heap (fun _=>False) (cs.getD o undef) d:=by
 obtain ⟨ds,h1,h2,h3⟩:=(tj 1).1 n t _ _ _ hs h
 rw [hc] at h2 h3
 match ds,h1 with
 | [d],h1=>exact ⟨d,h1.1,FM h3⟩
theorem ux:∀ (N n':Nat),n'≤N→∀ (cs:List Value) (x:DataW H × List MemPlace),DataW.trod enc Tryz.prog w 0 spare held n' 37 cs=some x →
  ∃ v:VT,v.inn∧cs.length=4∧∀ (j:Nat) d,([i64 v.k,i64 v.n,.str v.s,.sl (some 5) v.ps]:List D)[j]?=some d→Rep w.heap (fun _=>False) (cs.getD j undef) d
 | 0,n',hn,cs,x,h=>by
   obtain ⟨_,n,rfl,_⟩:=my Gx h
   omega
 | N+1,n',hn,cs,x,h=>by
   obtain ⟨hcl,n,rfl,hf⟩:=my Gx h
   rw [ou] at hcl
   obtain ⟨y0,g0⟩:=hf 0 0 3 rfl
   obtain ⟨y1,g1⟩:=hf 1 1 2 rfl
   obtain ⟨y2,g2⟩:=hf 2 2 9 rfl
   obtain ⟨y3,g3⟩:=hf 3 3 35 rfl
   obtain ⟨d0,k0,r0⟩:=iY Hi x7 g0
   obtain ⟨d1,k1,r1⟩:=iY GV AN g1
   obtain ⟨d2,k2,r2⟩:=iY Gc qt g2
   obtain ⟨z0,rfl⟩:∃ z,d0=i64 z:=by
    cases d0<;>first | (exact k0.elim) | skip
    obtain ⟨rfl,_⟩:=k0
    exact ⟨_,rfl⟩
   obtain ⟨z1,rfl,hz1⟩:∃ z,d1=i64 z∧inR z:=by
    cases d1<;>first | (exact k1.elim) | skip
    obtain ⟨rfl,hz⟩:=k1
    refine ⟨_,rfl,?_⟩
    have e1:IntKind.i64.min = -9223372036854775808:=by decide
    have e2:IntKind.i64.max=9223372036854775807:=by decide
    rw [e1,e2] at hz
    exact hz
   obtain ⟨s,rfl,hs⟩:∃ s,d2=.str s∧s.length≤maxLen:=by
    cases d2<;>first | (exact k2.elim) | skip
    exact ⟨_,rfl,k2⟩
   rw [wW] at g3
   have e3:(cs.drop 3).take 1=[cs.getD 3 undef]:=by
    rw [List.drop_eq_getElem_cons (show 3<cs.length by omega),List.take_succ_cons,List.take_zero,List.getD_eq_getElem?_getD,List.getElem?_eq_getElem (show 3<cs.length by omega)]
    rfl
   rw [e3] at g3
   obtain ⟨nms,vs,hln,hlm,hnl,hvs,r3⟩:∃ (nms:List (List UInt8)) (vs:List VT),nms.length=vs.length∧vs.length≤maxLen∧(∀ x∈nms,x.length≤maxLen)∧(∀ u∈vs,u.inn)∧Rep w.heap (fun _=>False) (cs.getD 3 undef) (.sl (some 5) (List.zipWith vfD nms (VT.dats vs))):=by
    rcases DataW.trod_slice (aN GH) g3 with ⟨hv,_⟩ | ⟨a,len,cap,elems,rest,n2,hn2,hv,_,_,hlen,hcap,hel,hget,_,_⟩
    ·have hv:cs.getD 3 undef=.slice none 0 0:=by simpa using hv
     rw [hv]
     exact ⟨[],[],rfl,Nat.zero_le _,(fun _ h=>by cases h),(fun _ h=>by cases h),.sl0 _ _ _⟩
    have hv:cs.getD 3 undef=.slice (some a) len cap:=by simpa using hv
    have each:∀ i,i<len→∃ q:List UInt8 × VT,(q.1.length≤maxLen∧q.2.inn)∧∃ ci,w.cells? 0 (a.add (i*Tryz.prog.cellsOf 74)) (Tryz.prog.cellsOf 74)=some ci∧∀ (j:Nat) d,(vfD q.1 q.2.dat).cells[j]?=some d→Rep w.heap (fun _=>False) (ci.getD j undef) d:=by
     intro i hi
     have h1:=hget i hi
     have hi':i<elems.length:=by omega
     rw [List.getElem?_eq_getElem hi',Option.bind_eq_some_iff] at h1
     obtain ⟨ci,hci,htr⟩:=h1
     obtain ⟨hcl2,n3,hn3,hf2⟩:=my G2 htr
     obtain ⟨y4,g4⟩:=hf2 0 0 9 rfl
     obtain ⟨y5,g5⟩:=hf2 1 1 37 rfl
     obtain ⟨d4,k4,r4⟩:=iY Gc qt g4
     obtain ⟨nm,rfl,hnm⟩:∃ s,d4=.str s∧s.length≤maxLen:=by
      cases d4<;>first | (exact k4.elim) | skip
      exact ⟨_,rfl,k4⟩
     obtain ⟨u,hu,_,r5⟩:=ux N n3 (by omega) _ _ g5
     refine ⟨(nm,u),⟨hnm,hu⟩,ci,hci,fun j d hj=>?_⟩
     unfold vfD at hj
     rw [aq] at hj
     cases j with
     | zero =>
       obtain rfl:=Option.some.inj hj
       exact r4
     | succ j =>
       have hj:([i64 u.k,i64 u.n,.str u.s,.sl (some 5) u.ps]:List D)[j]?=some d:=hj
       have:=r5 j d hj
       have hlt:j<4:=(List.getElem?_eq_some_iff.1 hj).1
       rw [ou,List.getD_eq_getElem?_getD,List.getElem?_take,if_pos hlt,List.getElem?_drop] at this
       rw [List.getD_eq_getElem?_getD,Nat.add_comm]
       exact this
    obtain ⟨qs,hql,hqs⟩:=kE each
    have hxs:List.zipWith vfD (qs.map (·.1)) (VT.dats (qs.map (·.2)))=qs.map fun q=>vfD q.1 q.2.dat:=by
     rw [b8,List.map_map,List.zipWith_map,List.zipWith_self]
     rfl
    refine ⟨qs.map (·.1),qs.map (·.2),by simp,by rw [List.length_map];omega,fun x hx=>?_,fun u hu=>?_,?_⟩
    ·obtain ⟨q,hq,rfl⟩:=List.mem_map.1 hx
     obtain ⟨i,hi⟩:=List.mem_iff_getElem?.1 hq
     exact (hqs i q hi).1.1
    ·obtain ⟨q,hq,rfl⟩:=List.mem_map.1 hu
     obtain ⟨i,hi⟩:=List.mem_iff_getElem?.1 hq
     exact (hqs i q hi).1.2
    ·rw [hxs,hv]
     have hr:=oh (w:=w) (a:=a) (cap:=cap) (wf:=some 5) (c:=Tryz.prog.cellsOf 74) (xs:=qs.map fun q=>vfD q.1 q.2.dat) (by rw [og];rfl) (by rw [og];decide) (by rw [List.length_map];omega)
      (fun y hy=>by
       obtain ⟨q,_,rfl⟩:=List.mem_map.1 hy
       unfold vfD
       rw [aq]
       refine ⟨rfl,?_⟩
       show ∀ d∈([.str q.1,i64 q.2.k,i64 q.2.n,.str q.2.s,.sl (some 5) q.2.ps]:List D),d.scal=true
       simp [D.scal])
      (fun i hi=>by
       rw [List.length_map] at hi
       have hi2:qs[i]?=some qs[i]:=List.getElem?_eq_getElem hi
       obtain ⟨_,ci,h2,h3⟩:=hqs i qs[i] hi2
       exact ⟨ci,h2,fun y hy j d hj=>by
        rw [List.getElem?_map,hi2] at hy
        obtain rfl:=Option.some.inj hy
        exact h3 j d hj⟩)
     rw [List.length_map,hql] at hr
     exact hr
   refine ⟨.mk z0 z1 s nms vs,?_,hcl,fun j d hj=>?_⟩
   ·rw [VT.inn,mJ]
    exact ⟨⟨hz1,hs,hln,hlm,hnl⟩,hvs⟩
   ·rcases j with _ | _ | _ | _ | j
    ·obtain rfl:=Option.some.inj hj;exact r0
    ·obtain rfl:=Option.some.inj hj;exact r1
    ·obtain rfl:=Option.some.inj hj;exact r2
    ·obtain rfl:=Option.some.inj hj;exact r3
    ·simp at hj
theorem AO {vs:Array Value} {dw:DataW H} {ps:List MemPlace} (h:DataW.Trod enc Tryz.prog w 0 spare held 37 (.agg vs) dw ps):∃ v:VT,v.inn∧Rep w.heap (fun _=>False) (.agg vs) v.dat:=by
 obtain ⟨n,hn⟩:=h
 obtain ⟨v,h1,h2,h3⟩:=ux n n (Nat.le_refl _) _ _ hn
 refine ⟨v,h1,?_⟩
 rw [aq]
 have h2:vs.size=4:=by simpa [Value.cells] using h2
 refine .agg vs _ (by rw [h2];rfl) (by simp [D.scal]) fun i d hi=>?_
 have:=h3 i d hi
 simpa [Value.cells,Array.getD_eq_getD_getElem?,List.getD_eq_getElem?_getD] using this
end
def bE:Nat→VT→VT
 | 0,_=>.mk 1 0 [] [] []
 | d+1,.mk k n s nms vs=>.mk k n (s.take 300) (nms.take 6) ((vs.take 6).map (bE d))
theorem gK (v:VT):bE 0 v=.mk 1 0 [] [] []:=by rw [bE]
theorem xz (d:Nat) (v:VT):(bE (d+1) v).k=v.k∧(bE (d+1) v).n=v.n∧(bE (d+1) v).s=v.s.take 300∧(bE (d+1) v).nms=v.nms.take 6∧(bE (d+1) v).vs=(v.vs.take 6).map (bE d):=by
 cases v
 rw [bE]
 exact ⟨rfl,rfl,rfl,rfl,rfl⟩
structure VT.In (v:VT):Prop where
 n:inR v.n
 s:v.s.length≤maxLen
 len:v.nms.length=v.vs.length
 few:v.vs.length≤maxLen
 nl:∀ x∈v.nms,x.length≤maxLen
 kids:∀ u∈v.vs,u.inn
theorem VT.inn.of {v:VT} (h:v.inn):v.In:=by
 cases v with
 | mk k n s nms vs =>
   rw [VT.inn,mJ] at h
   exact ⟨h.1.1,h.1.2.1,h.1.2.2.1,h.1.2.2.2.1,h.1.2.2.2.2,h.2⟩
theorem sk:maxLen≤9223372036854775807:=by unfold maxLen;omega
theorem oM:∀ (d:Nat) (v:VT),v.inn→(bE d v).wf
 | 0,v,_=>by
   rw [gK,VT.wf,VT.wfs]
   exact ⟨⟨rfl,Nat.zero_le _,Nat.zero_le _,fun _ h=>by cases h⟩,trivial⟩
 | d+1,v,h=>by
   have hi:=h.of
   have:=sk
   cases v with
   | mk k n s nms vs =>
     rw [bE,VT.wf,jh]
     have h1:nms.length=vs.length:=hi.len
     have h2:s.length≤maxLen:=hi.s
     refine ⟨⟨by simp only [List.length_take,List.length_map];omega,by simp only [List.length_take,List.length_map];omega,by rw [List.length_take];omega,fun x hx=>?_⟩,fun u hu=>?_⟩
     ·have:=hi.nl x (List.mem_of_mem_take hx)
      omega
     ·obtain ⟨q,hq,rfl⟩:=List.mem_map.1 hu
      exact oM d q (hi.kids q (List.mem_of_mem_take hq))
theorem yn:∀ (d:Nat) (v:VT),(bE d v).sz≤7 ^ (d+1)
 | 0,v=>by rw [gK];simp [VT.sz,VT.szs]
 | d+1,v=>by
   have key:∀ l:List VT,VT.szs (l.map (bE d))≤l.length*7 ^ (d+1):=fun l=>by
    induction l with
    | nil=>exact Nat.zero_le _
    | cons a r ih =>
      rw [List.map_cons,VT.szs,List.length_cons,Nat.add_mul]
      have:=yn d a
      omega
   cases v with
   | mk k n s nms vs =>
     rw [bE,VT.sz]
     have h1:=key (vs.take 6)
     have h2:(vs.take 6).length*7 ^ (d+1)≤6*7 ^ (d+1):=Nat.mul_le_mul_right _ (by rw [List.length_take];omega)
     have h3:0<7 ^ (d+1):=Nat.pow_pos (by decide)
     rw [Nat.pow_succ 7 (d+1)]
     omega
end Go.Proofs.YtejpnabbmgpmaaaGreatDoor

namespace Go.Proofs.YtejpnabbmgpmaaaGreatDoor
open Go.Ab
theorem HP.leR {P:Program} {G:List (Nat × Obj)} {f:FuncId} {args:List D} {x y:D} (h:HP P G f args (fun r=>r=.d x)) (hl:DLe x y):HP P G f args (fun r=>r=.d y):=by
 refine ⟨h.1,fun B β vs w h1 h2 h3 h4 h5=>(h.2 B β vs w h1 h2 h3 h4 h5).mono fun e w'=>?_⟩
 rintro ⟨v,r,hp',u',β',he,⟨rfl,_,rfl⟩,hs⟩
 refine ⟨v,.d y,[],u',β',he,⟨rfl,rfl,rfl⟩,{ tms:=hs.tms,io:=hs.io,size:=hs.size,frame:=hs.frame,slots:=fun t=>?_,objs:=hs.objs,blocks:=hs.blocks,inj:=hs.inj,us:=hs.us,stay:=hs.stay }⟩
 have hv:=hs.slots t
 rw [dH] at hv ⊢
 by_cases ht:t=0
 ·subst ht
  have hv:VR _ _ _ _ _ _ (.d x):=hv
  exact .d _ _ (hl.rep hv.toD)
 ·have e1:lkA AV.un [(0,AV.d y)] t=.un:=by simp [lkA,ht]
  rw [e1]
  exact .un _
theorem DU {v:VT} (h:v.In):v.ps.length=v.vs.length:=by
 unfold VT.ps
 rw [List.length_zipWith,b8,List.length_map,h.len,Nat.min_self]
theorem Ey {v:VT} (h:v.In) {i:Nat} (hi:i<v.vs.length):v.ps.getD i .nilp=.agg [.str (v.nm i),i64 (v.kid i).k,i64 (v.kid i).n,.str (v.kid i).s,.sl (some 5) (v.kid i).ps]:=by
 have hn:i<v.nms.length:=by rw [h.len];exact hi
 have hd:(VT.dats v.vs)[i]?=some (v.kid i).dat:=by
  rw [b8,List.getElem?_map,List.getElem?_eq_getElem hi]
  unfold VT.kid
  rw [List.getD_eq_getElem?_getD,List.getElem?_eq_getElem hi];rfl
 unfold VT.ps
 rw [List.getD_eq_getElem?_getD,List.getElem?_zipWith,List.getElem?_eq_getElem hn,hd]
 simp only [Option.getD_some]
 unfold vfD
 rw [aq]
 unfold VT.nm
 rw [List.getD_eq_getElem?_getD,List.getElem?_eq_getElem hn]
 rfl
def psF (d:Nat) (v:VT) (i:Nat):List D:=List.zipWith vfD (v.nms.take i) (VT.dats ((v.vs.take i).map (bE d)))
theorem Cm {d:Nat} {v:VT} (h:v.In) {i:Nat} (hi:i≤v.vs.length):(psF d v i).length=i:=by
 have:=h.len
 unfold psF
 rw [List.length_zipWith,b8,List.length_map,List.length_map,List.length_take,List.length_take]
 omega
theorem yg {d:Nat} {v:VT} (h:v.In) {i:Nat} (hi:i<v.vs.length):psF d v (i+1)=psF d v i++[.agg [.str (v.nm i),i64 (bE d (v.kid i)).k,i64 (bE d (v.kid i)).n,.str (bE d (v.kid i)).s,.sl (some 5) (bE d (v.kid i)).ps]]:=by
 have hn:i<v.nms.length:=by rw [h.len];exact hi
 have hl:=h.len
 unfold psF
 rw [List.take_succ_eq_append_getElem hn,List.take_succ_eq_append_getElem hi,List.map_append,b8,b8,List.map_append,List.zipWith_append (by simp only [List.length_take,List.length_map];omega)]
 congr 1
 show [vfD v.nms[i] (bE d v.vs[i]).dat]=_
 unfold vfD
 rw [aq]
 unfold VT.nm VT.kid
 rw [List.getD_eq_getElem?_getD,List.getElem?_eq_getElem hn,List.getD_eq_getElem?_getD,List.getElem?_eq_getElem hi]
 rfl
theorem CO {d:Nat} {v:VT} (h:v.In) {i:Nat} (hi:i≤v.vs.length∧i≤6) (he:¬ (i<v.vs.length∧i<6)):psF d v i=(bE (d+1) v).ps:=by
 have hl:=h.len
 obtain ⟨_,_,_,g1,g2⟩:=xz d v
 unfold VT.ps psF
 rw [g1,g2]
 have t1:v.nms.take i=v.nms.take 6:=by
  by_cases h6:i=6
  ·rw [h6]
  ·rw [List.take_of_length_le (by omega),List.take_of_length_le (by omega)]
 have t2:v.vs.take i=v.vs.take 6:=by
  by_cases h6:i=6
  ·rw [h6]
  ·rw [List.take_of_length_le (by omega),List.take_of_length_le (by omega)]
 rw [t1,t2]
theorem xw {G} (v:VT):HP Tryz.prog G 18 [v.dat,i64 0] (fun r=>r=.d (.agg [i64 1,i64 0,.str [],.nils])):=by
 rw [aq]
 refine bz Tryz.func18 rfl (by decide +kernel) (by simp [Tryz.ntmps18]) (veil fun E=>?_)
 simp only [go_sem]
 refine ⟨[],?_⟩
 simp only [go_sem]
theorem tE {G}:∀ (d:Nat) (v:VT),v.inn→d≤1000→HP Tryz.prog G 18 [v.dat,i64 (d:Int)] (fun r=>r=.d (bE d v).dat)
 | 0,v,h,_=>by
   refine HP.leR (xw v) ?_
   rw [gK,aq]
   refine .agg _ _ rfl (by simp [D.scal]) fun i x y hx hy=>?_
   rcases i with _ | _ | _ | _ | i
   ·cases hx;cases hy;exact .inl rfl
   ·cases hx;cases hy;exact .inl rfl
   ·cases hx;cases hy;exact .inl rfl
   ·cases hx;cases hy;exact .inr ⟨some 5,rfl,rfl⟩
   ·simp at hx
 | d+1,v,h,hd=>by
   have hi:=h.of
   have hm:=sk
   have hpl:=DU hi
   have hf:=hi.few
   have hs:=hi.s
   obtain ⟨g1,g2,g3,g4,g5⟩:=xz d v
   have hkid:∀ i,i<v.vs.length→HP Tryz.prog G 18 [.agg [i64 (v.kid i).k,i64 (v.kid i).n,.str (v.kid i).s,.sl (some 5) (v.kid i).ps],i64 (d:Int)] (fun r=>r=.d (.agg [i64 (bE d (v.kid i)).k,i64 (bE d (v.kid i)).n,.str (bE d (v.kid i)).s,.sl (some 5) (bE d (v.kid i)).ps])):=fun i hi2=>by
    have:=tE (G:=G) d (v.kid i) (hi.kids _ (bh hi2)) (by omega)
    rw [aq,aq] at this
    exact this
   have hst:=fun i (h:i<v.vs.length)=>yg (d:=d) hi h
   have hpsl:=fun i (h:i≤v.vs.length)=>Cm (d:=d) hi h
   have hend:=fun i h1 h2=>CO (d:=d) (i:=i) hi h1 h2
   rw [aq,aq (bE (d+1) v),g1,g2,g3]
   generalize (bE (d+1) v).ps=PS at hend ⊢
   refine bz Tryz.func18 rfl (by decide +kernel) (by simp [Tryz.ntmps18]) (veil fun E=>?_)
   simp only [go_sem]
   refine ah E (fun h1=>?_) (fun h1=>?_)<;>simp only [go_sem]
   ·omega
   refine al mixed E fun X=>?_
   simp only [go_sem]
   refine ⟨DW 300 v.s.length (by decide) (by omega),?_⟩
   rw [D2 300 (by decide) v.s,show (300:Int).toNat=300 from rfl]
   refine ⟨by decide +kernel,?_⟩
   refine pn E [5] 3 99 (some 5) [.d (i64 v.k),.d (i64 v.n),.d (.str (v.s.take 300)),.d .nils] rfl rfl (by rw [aa];decide) ?_
   simp only [go_sem]
   refine aw E (X:={ i:Nat // i≤v.vs.length∧i≤6 }) (fun x=>[(1,.d (i64 ((d+1:Nat):Int))),(2,.bx [2] 0),(4,.bx [4] 0),(5,.bx [5] 0),(6,.d (i64 x.1))])
    (fun x=>[([2],.box [.d (i64 v.k),.d (i64 v.n),.d (.str v.s),.d (.sl (some 5) v.ps)]),([4],.box [.d (i64 0),.d (i64 0),.d (.str []),.d .nils]),([5],.box [.d (i64 v.k),.d (i64 v.n),.d (.str (v.s.take 300)),.vw [99] 0 x.1]),([99],.arr (some 5) (psF d v x.1))]) [2,4,5,99] (fun x=>v.vs.length-x.1) ⟨0,Nat.zero_le _,Nat.zero_le _⟩ id ?_ ?_
   ·simp only [go_sem]
    all_goals ((repeat' apply And.intro)<;>first | rfl | trivial)
   rintro ⟨i,hi1,hi6⟩ E0
   refine aH E0 fun Q' hQ E'=>?_
   simp only at hi1 hi6 ⊢
   have hpi:=hpsl i hi1
   simp only [go_sem]
   repeat (first
    | (apply dP E';(· simp only [go_sem]);(· intro h;(try simp only [bq] at h);simp only [↓h,go_sem];rfl);simp only [go_sem])
    | (apply bJ E';(· simp only [go_sem]);(· intro h;(try simp only [bq] at h);simp only [↓h,go_sem];rfl);(· intro h;(try simp only [bq] at h);simp only [↓h,go_sem];rfl);simp only [go_sem])
    | (apply bK E';(· simp only [go_sem]);(· rfl);(· intro h h';(try simp only [bq] at h h');simp only [↓h,↓h',go_sem];rfl);simp only [go_sem])
    | (apply bj E';(· simp only [go_sem]);(· rfl);(· intro h h';(try simp only [bq] at h h');simp only [↓h,↓h',go_sem];rfl);(· intro h h';(try simp only [bq] at h h');simp only [↓h,↓h',go_sem];rfl);simp only [go_sem])
    | (apply dv E';(· decide);simp only [go_sem]))
   refine aI E' (fun g0=>?_) (fun g0=>?_)<;>simp only [go_sem]
   ·have g2:i<v.vs.length∧i<6:=by
     simp only [Bool.and_eq_true,decide_eq_true_eq] at g0
     omega
    have hc:=hkid i g2.1
    have hst':=hst i g2.1
    have hg0:=Ey hi g2.1
    refine al mixed E' fun X=>?_
    simp only [go_sem]
    refine ⟨by omega,?_⟩
    rw [hg0]
    simp only [go_sem]
    refine ⟨by omega,?_⟩
    rw [hg0]
    simp only [go_sem]
    rw [ai (n:=((d+1:Nat):Int)-1) ⟨by omega,by omega⟩,show ((d+1:Nat):Int)-1=(d:Int) by omega]
    generalize bE d (v.kid i)=u at hc hst'
    refine aF X hc rfl rfl (by simp) ?_
    simp only [go_sem]
    refine ⟨by omega,by decide +kernel,?_⟩
    rw [List.take_of_length_le (show (psF d v i).length≤i by omega),← hst',hQ]
    simp only [go_sem]
    rw [ai (n:=(i:Int)+1) ⟨by omega,by omega⟩]
    refine ⟨⟨i+1,by omega,by omega⟩,by show v.vs.length-(i+1)<v.vs.length-i;omega,tau [([99],[52])],?_⟩
    simp only [go_sem]
    all_goals ((repeat' apply And.intro)<;>first | rfl | trivial)
   ·have g2:¬ (i<v.vs.length∧i<6):=by
     rw [Bool.eq_false_iff] at g0
     intro h
     apply g0
     simp only [Bool.and_eq_true,decide_eq_true_eq]
     omega
    rw [hQ]
    simp only [go_sem]
    refine ⟨[([99],some 5,psF d v i)],?_⟩
    simp only [go_sem]
    rw [List.take_of_length_le (show (psF d v i).length≤i by omega),hend i ⟨hi1,hi6⟩ g2]
end Go.Proofs.YtejpnabbmgpmaaaGreatDoor

namespace Go.Proofs.YtejpnabbmgpmaaaGreatDoor
open Go.Ab
mutual
def VT.pl:VT→Bool
 | .mk k _ _ _ vs=>VT.pls vs && decide (k≠4)
def VT.pls:List VT→Bool
 | []=>true
 | v::r=>v.pl && VT.pls r
end
structure Bare (v:VT):Prop where
 k:1≤v.k∧v.k≤6
 leaf:v.k≤4→v.nms=[]∧v.vs=[]
 s:v.k≠3→v.k≠6→v.s=[]
 n:v.k≠1→v.k≠2→v.n=0
 b:v.k=2→v.n=0∨v.n=1
 r:v.k=5→v.nms.all aD=true
 t:v.k=6→eY v.s=true∧v.nms=[[]]∧∃ u,v.vs=[u]
theorem mn {v:VT} (ok:v.Ok) (h:v.may=true):Bare v:=by
 have hl:=ok.len
 rw [dF] at h
 simp only [Bool.and_eq_true,Bool.or_eq_true,decide_eq_true_eq] at h
 obtain ⟨hb,⟨_,hr⟩,_⟩:=h
 have nil:v.nms.length=0→v.nms=[]∧v.vs=[]:=fun g=>⟨List.length_eq_zero_iff.1 g,List.length_eq_zero_iff.1 (by omega)⟩
 have hr':v.k=5→v.nms.all aD=true:=fun g=>hr.resolve_left (fun q=>q g)
 unfold ba at hb
 split at hb
 ·rename_i h1
  simp only [Bool.and_eq_true,decide_eq_true_eq,beq_iff_eq] at hb
  exact ⟨by omega,fun _=>nil hb.2,fun _ _=>hb.1,fun g=>absurd h1 g,fun g=>by omega,hr',fun g=>by omega⟩
 split at hb
 ·rename_i h0 h1
  simp only [Bool.and_eq_true,Bool.or_eq_true,decide_eq_true_eq,beq_iff_eq] at hb
  exact ⟨by omega,fun _=>nil hb.2,fun _ _=>hb.1.2,fun _ g=>absurd h1 g,fun _=>hb.1.1,hr',fun g=>by omega⟩
 split at hb
 ·rename_i h1
  simp only [Bool.and_eq_true,decide_eq_true_eq] at hb
  exact ⟨by omega,fun _=>nil hb.2,fun g=>absurd h1 g,fun _ _=>hb.1,fun g=>by omega,hr',fun g=>by omega⟩
 split at hb
 ·rename_i h1
  simp only [Bool.and_eq_true,decide_eq_true_eq,beq_iff_eq] at hb
  exact ⟨by omega,fun _=>nil hb.2,fun _ _=>hb.1.2,fun _ _=>hb.1.1,fun g=>by omega,hr',fun g=>by omega⟩
 split at hb
 ·rename_i h1
  simp only [Bool.and_eq_true,decide_eq_true_eq,beq_iff_eq] at hb
  exact ⟨by omega,fun g=>by omega,fun _ _=>hb.2,fun _ _=>hb.1,fun g=>by omega,hr',fun g=>by omega⟩
 split at hb
 ·rename_i h1
  simp only [Bool.and_eq_true,decide_eq_true_eq,beq_iff_eq] at hb
  obtain ⟨⟨⟨g1,g2⟩,g3⟩,g4⟩:=hb
  have e1:v.nms=[[]]:=by
   obtain ⟨x,hx⟩:=List.length_eq_one_iff.1 g3
   rw [hx] at g4 ⊢
   simp at g4
   rw [g4]
  exact ⟨by omega,fun g=>by omega,fun _ g=>absurd h1 g,fun _ _=>g1,fun g=>by omega,hr',fun _=>⟨g2,e1,List.length_eq_one_iff.1 (by omega)⟩⟩
 ·cases hb
def j6 (nms:List (List UInt8)) (vs:List VT):List (List UInt8):=List.zipWith (fun nm t=>nm++eqB++t) nms (vs.map VT.txt)
theorem Ep {v:VT} (h:v.k=1):v.txt=eh v.n:=by rw [jQ];unfold qy;rw [if_pos h]
theorem Eo {v:VT} (h:v.k=2):v.txt=if v.n=1 then gb else dC:=by rw [jQ];unfold qy;rw [if_neg (by omega),if_pos h]
theorem Fk {v:VT} (h:v.k=3):v.txt=quS v.s:=by rw [jQ];unfold qy;rw [if_neg (by omega),if_neg (by omega),if_pos h]
theorem Eg {v:VT} (h:v.k=4):v.txt=FT:=by rw [jQ];unfold qy;rw [if_neg (by omega),if_neg (by omega),if_neg (by omega),if_pos h]
theorem Cp {v u:VT} (h:v.k=6) (hv:v.vs=[u]):v.txt=v.s++32::(if u.k=6 then 40::(u.txt++[41]) else u.txt):=by
 rw [jQ];unfold qy
 rw [if_neg (by omega),if_neg (by omega),if_neg (by omega),if_neg (by omega),if_pos h,hv];rfl
theorem BC {v:VT} (h:v.k=5):v.txt=123::(bY ei (j6 v.nms v.vs)++[125]):=by
 rw [jQ];unfold qy
 rw [if_neg (by omega),if_neg (by omega),if_neg (by omega),if_neg (by omega),if_neg (by omega)];rfl
theorem p9 {v u:VT} (h:v.may=true) (hu:u∈v.vs):u.may=true:=by
 rw [dF] at h
 simp only [Bool.and_eq_true] at h
 exact List.all_eq_true.1 h.2.1.1 u hu
end Go.Proofs.YtejpnabbmgpmaaaGreatDoor

namespace Go.Proofs.YtejpnabbmgpmaaaGreatDoor
open Go.Ab
def RwN (x:D) (n:EN):Prop:=∃ F,x=.agg [i64 n.k,i64 n.a,i64 n.b,i64 n.c,i64 n.n,.str n.name,.str n.s,F,i64 n.pos]∧(F=.nils∧n.l=[]∨F=efD n.l)
def RwL:List D→List EN→Prop
 | [],[]=>True
 | x::xs,n::ns=>RwN x n∧RwL xs ns
 | _,_=>False
theorem RwL.len:∀ {xs:List D} {ns:List EN},RwL xs ns→xs.length=ns.length
 | [],[],_=>rfl
 | _::_,_::_,h=>by simp [RwL.len h.2]
 | [],_::_,h=>h.elim
 | _::_,[],h=>h.elim
theorem RwL.get:∀ {xs:List D} {ns:List EN},RwL xs ns→∀ (i:Nat) x n,xs[i]?=some x→ns[i]?=some n→RwN x n
 | [],_,_,i,x,n,h,_=>by simp at h
 | _::_,[],h,_,_,_,_,_=>h.elim
 | x::xs,n::ns,h,0,_,_,h1,h2=>by simp at h1 h2;subst h1;subst h2;exact h.1
 | x::xs,n::ns,h,i+1,y,m,h1,h2=>h.2.get i y m (by simpa using h1) (by simpa using h2)
end Go.Proofs.YtejpnabbmgpmaaaGreatDoor

namespace Go.Ab
section
variable {P:Program} {cf:Cf} {Q:Exit→St→Prop} {s:St} {k:List It}
end
end Go.Ab

namespace Go.Ab
section
variable {P:Program} {cf:Cf} {k:List It} {s:St} {Φ:Exit→Act→World→Prop} {I:Base→List Deferred→Prop}
end
section
variable {P:Program} {cf:Cf} {N:Nat} {xs:Nat→List D} {z:Itz} {k:List It} {s:St}
end
end Go.Ab

namespace Go.Ab
section
variable {P:Program} {cf:Cf} {Q:Exit→St→Prop} {s:St} {k:List It}
end
end Go.Ab

namespace Go.Ab
inductive Fz where
 | A (p:Name) (w:W) (xs:List D)
 | B (p:Name) (d:D)
def Fz.nm:Fz→Name
 | .A p _ _=>p
 | .B p _=>p
def St.fz (s:St):Fz→St
 | .A p w xs=>s.eA p w xs
 | .B p d=>s.frB p d
def Fz.ok (s:St):Fz→Prop
 | .A p w xs=>s.hp p=some (.arr w xs)
 | .B p d=>s.hp p=some (.box (d.cells.map .d))∧(d.cells.all D.scal)=true
def St.fzL (s:St):List Fz→St
 | []=>s
 | q::L=>(s.fz q).fzL L
def rR (s:St):List Fz→Prop
 | []=>True
 | q::L=>q.ok s∧rR (s.fz q) L
theorem C3 (s:St):s.fzL []=s:=rfl
theorem Gl (s:St) (p:Name) (w:W) (xs:List D) (L:List Fz):s.fzL (.A p w xs::L)=(s.eA p w xs).fzL L:=rfl
theorem Gw (s:St) (p:Name) (d:D) (L:List Fz):s.fzL (.B p d::L)=(s.frB p d).fzL L:=rfl
theorem zo (s:St):rR s []=True:=rfl
theorem zL (s:St) (p:Name) (w:W) (xs:List D) (L:List Fz):rR s (.A p w xs::L)=(s.hp p=some (.arr w xs)∧rR (s.eA p w xs) L):=rfl
theorem xi (s:St) (p:Name) (d:D) (L:List Fz):rR s (.B p d::L)=((s.hp p=some (.box (d.cells.map .d))∧(d.cells.all D.scal)=true)∧rR (s.frB p d) L):=rfl
def St.noO (s:St):St:={ s with hp:=fun _=>none }
theorem Sim.noO {B:Base} {β:Name→Option Blk} {s:St} {tm:Array Value} {w:World} (h:Sim B β s tm w):Sim B β s.noO tm w:=by
 have hr:∀ v d,Rep w.heap (s.own B.A β) v d→Rep w.heap (s.noO.own B.A β) v d:=fun v d hd=>hd.mono (fun _ _ _=>rfl) (by
  rintro b _ (hA | ⟨q,k,hq,_⟩)
  ·exact .inl hA
  ·exact absurd rfl hq)
 exact { tms:=h.tms,io:=h.io,size:=h.size,frame:=h.frame,slots:=fun i=>VR.mono hr (fun _ h=>h) (fun q _ o' ho'=>(by cases ho')) (h.slots i),objs:=fun q o' ho'=>(by cases ho'),blocks:=fun q k hq _=>absurd rfl hq,inj:=fun q q' k k' hq _=>absurd rfl hq,us:=h.us,stay:=h.stay }
section
variable {P:Program} {cf:Cf} {Q:Exit→St→Prop} {s:St} {k:List It}
section
variable {ops:Array Oper} {K:St→Ns→Prop} {r:List Oper} {ns:Ns}
structure Alike (ns:List Name) (ts:List Nat) (s s':St):Prop where
 hp:∀ p∈ns,s'.hp p=s.hp p
 fr:∀ t∈ts,s'.fr t=s.fr t
theorem Alike.fz {ns:List Name} {ts:List Nat} {s s':St} (h:Alike ns ts s s') (q:Fz):Alike ns ts (s.fz q) (s'.fz q):=by
 cases q with
 | A p w xs =>
   refine ⟨fun x hx=>?_,fun t ht=>?_⟩
   ·show (av s'.hp p none x).map _=(av s.hp p none x).map _
    unfold av
    split
    ·rfl
    ·rw [h.hp x hx]
   ·show (s'.fr t).frz p w xs=(s.fr t).frz p w xs
    rw [h.fr t ht]
 | B p d =>
   refine ⟨fun x hx=>?_,fun t ht=>?_⟩
   ·show (av s'.hp p none x).map _=(av s.hp p none x).map _
    unfold av
    split
    ·rfl
    ·rw [h.hp x hx]
   ·show (s'.fr t).frB p d=(s.fr t).frB p d
    rw [h.fr t ht]
theorem Alike.ok {ns:List Name} {ts:List Nat}:∀ {L:List Fz} {s s':St},Alike ns ts s s'→(∀ q∈L,q.nm∈ns)→rR s L→rR s' L
 | [],_,_,_,_,_=>trivial
 | .A p w xs::L,s,s',h,hn,hl=>by
   rw [zL] at hl ⊢
   exact ⟨(h.hp p (hn (.A p w xs) List.mem_cons_self)).trans hl.1,Alike.ok (h.fz (.A p w xs)) (fun q hq=>hn q (List.mem_cons_of_mem _ hq)) hl.2⟩
 | .B p d::L,s,s',h,hn,hl=>by
   rw [xi] at hl ⊢
   exact ⟨⟨(h.hp p (hn (.B p d) List.mem_cons_self)).trans hl.1.1,hl.1.2⟩,Alike.ok (h.fz (.B p d)) (fun q hq=>hn q (List.mem_cons_of_mem _ hq)) hl.2⟩
theorem Alike.fzL {ns:List Name} {ts:List Nat}:∀ (L:List Fz) {s s':St},Alike ns ts s s'→Alike ns ts (s.fzL L) (s'.fzL L)
 | [],_,_,h=>h
 | q::L,_,_,h=>Alike.fzL L (h.fz q)
end
end
attribute [go_sem] C3 Gl Gw zo zL xi Fz.nm
end Go.Ab
namespace Go.Ab
variable {P:Program} {cf:Cf} {Φ:Exit→Act→World→Prop} {I:Base→List Deferred→Prop} {k:List It} {s:St}
def cutq (P:Program) (cf:Cf) (Φ:Exit→Act→World→Prop) (I:Base→List Deferred→Prop) (k:List It) {X:Type} (S:X→St) (e:Exit) (s:St):Prop :=
 match e with
 | .normal=>∃ x τ,Le cf.U τ s (S x)
 | e=>yq P cf Φ I k e s
theorem yW {X:Type} (S:X→St):cutq P cf Φ I k S .ret s=ARX cf Φ I .ret s:=rfl
attribute [go_sem] yW
end Go.Ab

namespace Go.Ab
section
variable {P:Program} {cf:Cf} {ops:Array Oper} {K:St→Ns→Prop} {r:List Oper} {s:St} {ns:Ns}
end
end Go.Ab

namespace Go.Proofs.YtejpnabbmgpmaaaGreatDoor
open Go.Ab
theorem DC {ns:List EN} (ht:fb ns):∀ n∈ns,n.l.length≤900000:=fun n hn=>by have:=ht.l n hn;omega
theorem sq {ns:List EN} (ht:fb ns):∀ n∈ns,iW BIG n:=fun n hn=>by
 obtain ⟨i,hi,rfl⟩:=List.mem_iff_getElem.1 hn
 have:=ht.right i hi
 rw [dA hi] at this
 exact sY this
theorem sU {ns:List EN} (hk:∀ i,i<ns.length→(ar (ndE ns i)).all (inB i)=true) {i:Nat} (hi:i<ns.length):ft (trE ns i)=if (ndE ns i).k=11∨(ndE ns i).k=13 then (ar (ndE ns i)).all (fun k=>ft (trE ns k.toNat)) else decide ((ndE ns i).k=1) || decide ((ndE ns i).k=2) || decide ((ndE ns i).k=3) || decide ((ndE ns i).k=5):=by
 rw [Dn hk hi,ft,mw,nV,List.all_map]
 rfl
theorem C1 {G} {ns:List EN} {f:EF} {b:Bool} (h:HP Tryz.prog G 85 [exD ns,i64 f.to] (fun r=>r=.d (.bool b))):HP Tryz.prog G 121 [fD f,.ptr (exD ns)] (fun r=>r=.d (.bool (!b))):=by
 unfold exD fD at *
 refine aj Tryz.func121 rfl (by decide +kernel) (by simp [Tryz.ntmps121]) (veil fun E=>?_)
 simp only [go_sem]
 refine ae E h rfl rfl (by simp) ?_
 rintro _ rfl
 simp only [go_sem]
theorem ub {α:Type} {p:α→Bool}:∀ l:List α,l.any (fun x=>!p x)=!l.all p
 | []=>rfl
 | x::r=>by rw [List.any_cons,List.all_cons,ub r];simp
theorem zG {G} (ns:List EN) (hN:ns.length≤1000000) (hs:∀ n∈ns,n.l.length≤900000) (hk:∀ i,i<ns.length→(ar (ndE ns i)).all (inB i)=true):∀ (m i:Nat),i<m→i<ns.length→HP Tryz.prog G 85 [exD ns,i64 (i:Int)] (fun r=>r=.d (.bool (ft (trE ns i))))
 | 0,_,h,_=>absurd h (Nat.not_lt_zero _)
 | m+1,i,him,hi=>by
   have ih:=zG (G:=G) ns hN hs hk m
   have hg:=cM hi
   have hsi:=hs _ (by rw [dA hi];exact List.getElem_mem hi:ndE ns i∈ns)
   have hkn:=lF hk hi
   rw [sU hk hi]
   obtain ⟨n,hne⟩:∃ n,n=ndE ns i:=⟨_,rfl⟩
   rw [← hne] at hg hsi hkn ⊢
   generalize hR:(if n.k=11∨n.k=13 then (ar n).all (fun k=>ft (trE ns k.toNat)) else decide (n.k=1) || decide (n.k=2) || decide (n.k=3) || decide (n.k=5))=R
   unfold exD
   refine bz Tryz.func85 rfl (by decide +kernel) (by simp [Tryz.ntmps85]) (veil fun E=>?_)
   simp only [go_sem]
   refine ⟨by omega,?_⟩
   rw [hg]
   simp only [go_sem]
   refine ah E (fun k1=>?_) (fun k1=>?_)<;>simp only [go_sem]
   ·rw [decide_eq_true k1]
    simp only [go_sem]
    rw [← hR]
    simp only [k1]
    exact ⟨[],trivial,rfl,rfl⟩
   refine ah E (fun k2=>?_) (fun k2=>?_)<;>simp only [go_sem]
   ·rw [decide_eq_true k2]
    simp only [go_sem]
    rw [← hR]
    simp only [k2]
    exact ⟨[],trivial,rfl,rfl⟩
   refine ah E (fun k3=>?_) (fun k3=>?_)<;>simp only [go_sem]
   ·rw [decide_eq_true k3]
    simp only [go_sem]
    rw [← hR]
    simp only [k3]
    exact ⟨[],trivial,rfl,rfl⟩
   by_cases k5:n.k=5
   ·rw [decide_eq_true k5]
    simp only [go_sem]
    rw [← hR]
    simp only [k5]
    exact ⟨[],trivial,rfl,rfl⟩
   rw [decide_eq_false k5]
   simp only [go_sem]
   refine ah E (fun k11=>?_) (fun k11=>?_)<;>simp only [go_sem]
   ·have hke:ar n=n.l.map (·.to):=by simp [ar,k11,aU,aL]
    have hc:=va (G:=G) n.l (fun f=>!ft (trE ns f.to.toNat)) 121 [.ptr (exD ns)] (by omega) (fun f hf=>by
     have hm:f.to∈ar n:=by rw [hke];exact List.mem_map_of_mem hf
     obtain ⟨h1,h2⟩:=hkn _ hm
     have:=ih f.to.toNat (by omega) (by omega)
     rw [Int.toNat_of_nonneg h1] at this
     exact C1 this)
    rw [if_pos (.inl k11)] at hR
    rw [ub,show n.l.all (fun f=>ft (trE ns f.to.toNat))=(ar n).all (fun k=>ft (trE ns k.toNat)) by rw [hke,List.all_map];rfl,hR] at hc
    unfold exD at hc
    refine Di E [2] (.agg [.sl (some 9) (ns.map enD)]) rfl rfl ?_
    simp only [go_sem]
    refine ae E (hc) rfl rfl (by simp) ?_
    rintro _ rfl
    simp only [go_sem]
    refine ⟨[],?_⟩
    simp only [go_sem]
   refine ah E (fun k13=>?_) (fun k13=>?_)<;>simp only [go_sem]
   ·have hke:ar n=[n.a]:=by simp [ar,k13,aU,aL]
    obtain ⟨h1,h2⟩:=hkn n.a (by rw [hke];exact List.mem_cons_self)
    have hc:=ih n.a.toNat (by omega) (by omega)
    rw [Int.toNat_of_nonneg h1] at hc
    rw [if_pos (.inr k13),hke] at hR
    simp only [List.all_cons,List.all_nil,Bool.and_true] at hR
    rw [hR] at hc
    unfold exD at hc
    refine ae E (hc) rfl rfl (by simp) ?_
    rintro _ rfl
    simp only [go_sem]
    refine ⟨[],?_⟩
    simp only [go_sem]
   ·rw [if_neg (by omega),decide_eq_false k1,decide_eq_false k2,decide_eq_false k3,decide_eq_false k5] at hR
    rw [← hR]
    refine ⟨[],?_⟩
    simp only [go_sem]
end Go.Proofs.YtejpnabbmgpmaaaGreatDoor

namespace Go.Proofs.YtejpnabbmgpmaaaGreatDoor
open Go.Ab
theorem DQ {G} {ns:List EN} (ht:fb ns) (hm:jL ns=0):HP Tryz.prog G 40 [exD ns] (fun r=>r=.d (.bool (ft (trE ns (ns.length-1))))):=by
 have hf:=ht.few
 have hp:=ht.pos
 have c1:=sO (G:=G) ns (sq ht) (by omega)
 rw [hm] at c1
 have c2:=zG (G:=G) ns (by omega) (DC ht) (gR ht) ns.length (ns.length-1) (by omega) (by omega)
 rw [show ((ns.length-1:Nat):Int)=(ns.length:Int)-1 by omega] at c2
 generalize ft (trE ns (ns.length-1))=b at c2 ⊢
 unfold exD at *
 refine aj Tryz.func40 rfl (by decide +kernel) (by simp [Tryz.ntmps40]) (veil fun E=>?_)
 simp only [go_sem]
 refine ae E (c1) rfl rfl (by simp) ?_
 rintro _ rfl
 simp only [go_sem]
 rw [ai (n:=(ns.length:Int)-1) ⟨by omega,by omega⟩]
 refine ae E (c2) rfl rfl (by simp) ?_
 rintro _ rfl
 simp only [go_sem]
end Go.Proofs.YtejpnabbmgpmaaaGreatDoor

namespace Go.Proofs.YtejpnabbmgpmaaaGreatDoor
open Go.Ab
theorem tT {xs:List EN} (ht:fb xs) {i:Nat} (hi:i<xs.length) {k:Int} (hk:k∈ar (ndE xs i)):∃ a:Nat,k=(a:Int)∧a<i:=by
 obtain ⟨h1,h2⟩:=lF (gR ht) hi k hk
 exact ⟨k.toNat,by omega,by omega⟩
theorem AK {n:EN} (h:n.k=5∨n.k=12∨n.k=13):ar n=[n.a]:=by rcases h with h | h | h<;>simp [ar,h,aU,aL]
theorem zA {n:EN} (h:n.k=11):ar n=n.l.map (·.to):=by simp [ar,h,aU,aL]
end Go.Proofs.YtejpnabbmgpmaaaGreatDoor

namespace Go.Ab
section
variable {P:Program} {cf:Cf} {ops:Array Oper} {K:St→Ns→Prop} {r:List Oper} {s:St} {ns:Ns}
end
end Go.Ab

namespace Go.Proofs.YtejpnabbmgpmaaaGreatDoor
open Go.Ab
structure Low (ns:List EN):Prop where
 len:ns.length≤1000000
 l:∀ n∈ns,n.l.length≤900000
 k:∀ i,i<ns.length→(ar (ndE ns i)).all (inB i)=true
end Go.Proofs.YtejpnabbmgpmaaaGreatDoor

namespace Go.Proofs.YtejpnabbmgpmaaaGreatDoor
open Go.Ab
end Go.Proofs.YtejpnabbmgpmaaaGreatDoor

namespace Go.Proofs.YtejpnabbmgpmaaaGreatDoor
open Go.Ab
end Go.Proofs.YtejpnabbmgpmaaaGreatDoor

namespace Go.Proofs.YtejpnabbmgpmaaaGreatDoor
open Go.Ab
def vtN (n:EN) (vs:List VT):VT :=
 if n.k=1 then .mk 1 n.n [] [] [] else if n.k=2 then .mk 2 n.n [] [] [] else if n.k=3 then .mk 3 0 n.s [] [] else if n.k=5 then .mk 4 0 [] [] [] else if n.k=13 then .mk 6 0 n.name [[]] vs else .mk 5 0 [] (n.l.map (·.nm)) vs
mutual
def vtT:RT→VT
 | .mk n ts=>vtN n (B6 ts)
def B6:List RT→List VT
 | []=>[]
 | t::r=>vtT t::B6 r
end
theorem sh:∀ ts:List RT,B6 ts=ts.map vtT
 | []=>rfl
 | t::r=>by rw [B6,sh r];rfl
theorem Bf (n:EN):(can n).l.map (·.nm)=if aL n.k then n.l.map (·.nm) else []:=by
 show (if aL n.k then aP _ _ n.l 0 else []).map (·.nm)=_
 split
 ·exact ic (fun f:EF=>f.nm) (fun _ _=>rfl) _ _ _ _
 ·rfl
def vtE (ns:List EN) (i:Nat):VT:=vtT (trE ns i)
theorem oy {ns:List EN} (ht:fb ns) {i:Nat} (hi:i<ns.length):vtE ns i=vtN (can (ndE ns i)) ((ar (ndE ns i)).map fun k=>vtE ns k.toNat):=by
 unfold vtE
 rw [Dn (gR ht) hi,vtT,sh,List.map_map]
 rfl
theorem vt1 {ns:List EN} (ht:fb ns) {i:Nat} (hi:i<ns.length) (h:(ndE ns i).k=1):vtE ns i=.mk 1 (ndE ns i).n [] [] []:=by
 rw [oy ht hi]
 unfold vtN
 rw [mw,if_pos h,Dy]
theorem vt2 {ns:List EN} (ht:fb ns) {i:Nat} (hi:i<ns.length) (h:(ndE ns i).k=2):vtE ns i=.mk 2 (ndE ns i).n [] [] []:=by
 rw [oy ht hi]
 unfold vtN
 rw [mw,if_neg (by omega),if_pos h,Dy]
theorem vt3 {ns:List EN} (ht:fb ns) {i:Nat} (hi:i<ns.length) (h:(ndE ns i).k=3):vtE ns i=.mk 3 0 (ndE ns i).s [] []:=by
 rw [oy ht hi]
 unfold vtN
 rw [mw,if_neg (by omega),if_neg (by omega),if_pos h,FV]
theorem vt5 {ns:List EN} (ht:fb ns) {i:Nat} (hi:i<ns.length) (h:(ndE ns i).k=5):vtE ns i=.mk 4 0 [] [] []:=by
 rw [oy ht hi]
 unfold vtN
 rw [mw,if_neg (by omega),if_neg (by omega),if_neg (by omega),if_pos h]
theorem F3 {ns:List EN} (ht:fb ns) {i:Nat} (hi:i<ns.length) (h:(ndE ns i).k=13):vtE ns i=.mk 6 0 (ndE ns i).name [[]] [vtE ns (ndE ns i).a.toNat]:=by
 rw [oy ht hi]
 unfold vtN
 rw [mw,if_neg (by omega),if_neg (by omega),if_neg (by omega),if_neg (by omega),if_pos h,Ak,AK (.inr (.inr h))]
 rfl
theorem Gq {ns:List EN} (ht:fb ns) {i:Nat} (hi:i<ns.length) (h:(ndE ns i).k=11):vtE ns i=.mk 5 0 [] ((ndE ns i).l.map (·.nm)) ((ndE ns i).l.map fun f=>vtE ns f.to.toNat):=by
 rw [oy ht hi]
 unfold vtN
 rw [mw,if_neg (by omega),if_neg (by omega),if_neg (by omega),if_neg (by omega),if_neg (by omega),Bf,if_pos (by unfold aL;rw [h];rfl),zA h,List.map_map]
 rfl
def pN (ns:List EN) (l:List EF):List D:=l.map fun f=>vfD f.nm (vtE ns f.to.toNat).dat
theorem FJ (ns:List EN) (l:List EF):(VT.mk 5 0 [] (l.map (·.nm)) (l.map fun f=>vtE ns f.to.toNat)).ps=pN ns l:=by
 show List.zipWith vfD (l.map (·.nm)) (VT.dats (l.map fun f=>vtE ns f.to.toNat))=_
 rw [b8,List.map_map,List.zipWith_map,List.zipWith_self]
 rfl
theorem BX {ns:List EN} {l:List EF} {q:Nat} (hq:q<l.length):pN ns (l.take (q+1))=pN ns (l.take q)++[.agg [.str (fdE l q).nm,i64 (vtE ns (fdE l q).to.toNat).k,i64 (vtE ns (fdE l q).to.toNat).n,.str (vtE ns (fdE l q).to.toNat).s,.sl (some 5) (vtE ns (fdE l q).to.toNat).ps]]:=by
 have hfq:l[q]=fdE l q:=by simp [fdE,hq]
 unfold pN
 rw [List.take_succ_eq_append_getElem hq,List.map_append,hfq]
 congr 1
 show [vfD _ _]=_
 unfold vfD
 rw [aq]
 rfl
theorem zk (ns:List EN) (l:List EF):(pN ns l).length=l.length:=List.length_map ..
def gi (n:EN):D:=.agg (if n.k=1 then [i64 1,i64 n.n,.str [],.nils] else if n.k=2 then [i64 2,i64 n.n,.str [],.nils] else if n.k=3 then [i64 3,i64 0,.str n.s,.nils] else [i64 4,i64 0,.str [],.nils])
def l0 (n:EN):Prop:=n.k=1∨n.k=2∨n.k=3∨n.k=5
theorem A6 {ns:List EN} (ht:fb ns) {i:Nat} (hi:i<ns.length) (h:l0 (ndE ns i)):DLe (gi (ndE ns i)) (vtE ns i).dat:=by
 have key:∀ (k n:Int) (s:List UInt8),DLe (.agg [i64 k,i64 n,.str s,.nils]) (VT.mk k n s [] []).dat:=fun k n s=>by
  rw [aq]
  refine .agg _ _ rfl (by simp [D.scal]) fun i x y hx hy=>?_
  rcases i with _ | _ | _ | _ | i
  ·cases hx;cases hy;exact .inl rfl
  ·cases hx;cases hy;exact .inl rfl
  ·cases hx;cases hy;exact .inl rfl
  ·cases hx;cases hy;exact .inr ⟨some 5,rfl,rfl⟩
  ·simp at hx
 unfold gi
 rcases h with h | h | h | h
 ·rw [vt1 ht hi h,if_pos h];exact key _ _ _
 ·rw [vt2 ht hi h,if_neg (by omega),if_pos h];exact key _ _ _
 ·rw [vt3 ht hi h,if_neg (by omega),if_neg (by omega),if_pos h];exact key _ _ _
 ·rw [vt5 ht hi h,if_neg (by omega),if_neg (by omega),if_neg (by omega)];exact key _ _ _
theorem zP {G} (ns:List EN) (_:ns.length≤1000000) {i:Nat} (hi:i<ns.length) (h:l0 (ndE ns i)):HP Tryz.prog G 41 [exD ns,i64 (i:Int)] (fun r=>r=.d (gi (ndE ns i))):=by
 have hg:=cM hi
 generalize ndE ns i=n at hg h ⊢
 have q1:n.k=1→gi n=.agg [i64 1,i64 n.n,.str [],.nils]:=fun h=>by unfold gi;rw [if_pos h]
 have q2:n.k=2→gi n=.agg [i64 2,i64 n.n,.str [],.nils]:=fun h=>by unfold gi;rw [if_neg (by omega),if_pos h]
 have q3:n.k=3→gi n=.agg [i64 3,i64 0,.str n.s,.nils]:=fun h=>by unfold gi;rw [if_neg (by omega),if_neg (by omega),if_pos h]
 have q5:n.k=5→gi n=.agg [i64 4,i64 0,.str [],.nils]:=fun h=>by unfold gi;rw [if_neg (by omega),if_neg (by omega),if_neg (by omega)]
 generalize gi n=LD at q1 q2 q3 q5 ⊢
 unfold exD
 unfold l0 at h
 refine bz Tryz.func41 rfl (by decide +kernel) (by simp [Tryz.ntmps41]) (veil fun E=>?_)
 simp only [go_sem]
 refine ⟨by omega,?_⟩
 rw [hg]
 simp only [go_sem]
 refine ah E (fun k1=>?_) (fun k1=>?_)<;>simp only [go_sem]
 ·refine ⟨[],?_⟩
  rw [q1 k1]
  simp only [go_sem]
 refine ah E (fun k2=>?_) (fun k2=>?_)<;>simp only [go_sem]
 ·refine ⟨[],?_⟩
  rw [q2 k2]
  simp only [go_sem]
 refine ah E (fun k3=>?_) (fun k3=>?_)<;>simp only [go_sem]
 ·refine ⟨[],?_⟩
  rw [q3 k3]
  simp only [go_sem]
 refine ah E (fun k5=>?_) (fun k5=>?_)<;>simp only [go_sem]
 ·refine ⟨[],?_⟩
  rw [q5 k5]
  simp only [go_sem]
 omega
theorem zW {G} {ns:List EN} (ht:fb ns):∀ (m i:Nat),i<m→i<ns.length→ft (trE ns i)=true→HP Tryz.prog G 41 [exD ns,i64 (i:Int)] (fun r=>r=.d (vtE ns i).dat)
 | 0,_,h,_,_=>absurd h (Nat.not_lt_zero _)
 | m+1,i,him,hi,hv=>by
   have ih:=zW (G:=G) ht m
   by_cases hleaf:l0 (ndE ns i)
   ·exact HP.leR (zP ns (by have:=ht.few;omega) hi hleaf) (A6 ht hi hleaf)
   unfold l0 at hleaf
   have hg:=cM hi
   have hlt:=ht.few
   have hsi:=DC ht _ (by rw [dA hi];exact List.getElem_mem hi:ndE ns i∈ns)
   have hkn:=fun k hk=>tT ht hi (k:=k) hk
   have hva:=sU (gR ht) hi
   rw [hv] at hva
   have v13:=F3 ht hi
   have v11:=Gq ht hi
   have hno:¬ ((ndE ns i).k=1∨(ndE ns i).k=2∨(ndE ns i).k=3∨(ndE ns i).k=5):=hleaf
   have hkid:∀ k,k∈ar (ndE ns i)→HP Tryz.prog G 41 [exD ns,i64 k] (fun r=>r=.d (.agg [i64 (vtE ns k.toNat).k,i64 (vtE ns k.toNat).n,.str (vtE ns k.toNat).s,.sl (some 5) (vtE ns k.toNat).ps])):=fun k hk=>by
    obtain ⟨a,rfl,ha⟩:=hkn k hk
    have hva2:ft (trE ns a)=true:=by
     by_cases hc:(ndE ns i).k=11∨(ndE ns i).k=13
     ·rw [if_pos hc] at hva
      exact List.all_eq_true.1 hva.symm _ hk
     ·rw [if_neg hc] at hva
      exfalso
      apply hno
      have hva:=hva.symm
      simp only [Bool.or_eq_true,decide_eq_true_eq] at hva
      omega
    have:=ih a (by omega) (by omega) hva2
    rw [aq] at this
    exact this
   have h1113:(ndE ns i).k=11∨(ndE ns i).k=13:=by
    by_cases hc:(ndE ns i).k=11∨(ndE ns i).k=13
    ·exact hc
    ·rw [if_neg hc] at hva
     exfalso
     apply hno
     have hva:=hva.symm
     simp only [Bool.or_eq_true,decide_eq_true_eq] at hva
     omega
   rw [aq]
   generalize vtE ns i=V at v13 v11 ⊢
   clear hva
   generalize ndE ns i=n at hg hsi v13 v11 hno hkid h1113
   have hst:=fun q (hq:q<n.l.length)=>BX (ns:=ns) hq
   have hpn:=fun q=>zk ns (n.l.take q)
   unfold exD at *
   refine bz Tryz.func41 rfl (by decide +kernel) (by simp [Tryz.ntmps41]) (veil fun E=>?_)
   simp only [go_sem]
   refine ⟨by omega,?_⟩
   rw [hg]
   simp only [go_sem]
   refine ah E (fun k1=>?_) (fun k1=>?_)<;>simp only [go_sem]
   ·omega
   refine ah E (fun k2=>?_) (fun k2=>?_)<;>simp only [go_sem]
   ·omega
   refine ah E (fun k3=>?_) (fun k3=>?_)<;>simp only [go_sem]
   ·omega
   refine ah E (fun k5=>?_) (fun k5=>?_)<;>simp only [go_sem]
   ·omega
   refine ah E (fun k13=>?_) (fun k13=>?_)<;>simp only [go_sem]
   ·have hV:=v13 k13
    have hc:=hkid n.a (by rw [AK (.inr (.inr k13))];exact List.mem_singleton_self _)
    refine al mixed E fun X=>?_
    simp only [go_sem]
    generalize vtE ns n.a.toNat=u at hc hV
    refine aF X hc rfl rfl (by simp) ?_
    simp only [go_sem]
    refine ⟨by decide +kernel,[([43],some 5,[.agg [.str [],i64 u.k,i64 u.n,.str u.s,.sl (some 5) u.ps]])],?_⟩
    simp only [go_sem]
    rw [hV]
    show _=AV.d (D.agg [i64 6,i64 0,.str n.name,.sl (some 5) [vfD [] u.dat]])
    unfold vfD
    rw [aq]
    rfl
   have k11:n.k=11:=by omega
   have hV:=v11 k11
   have hkl:=zA k11
   refine pn E [6] 3 99 (some 5) [.d (i64 5),.d (i64 0),.d (.str []),.d .nils] rfl rfl (by rw [aa];decide) ?_
   simp only [go_sem]
   refine aw E (X:={ q:Nat // q≤n.l.length }) (fun x=>[(2,.bx [2] 0),(4,.bx [4] 0),(6,.bx [6] 0),(47,.d (.sl (some 3) (n.l.map fD))),(48,.d (i64 (n.l.length:Nat))),(49,.d (i64 x.1))])
    (fun x=>[([2],.box [.d (.sl (some 9) (ns.map enD))]),([4],.box [.d (i64 0),.d (i64 0),.d (.str []),.d .nils]),([6],.box [.d (i64 5),.d (i64 0),.d (.str []),.vw [99] 0 x.1]),([99],.arr (some 5) (pN ns (n.l.take x.1)))]) [2,4,6,99] (fun x=>n.l.length-x.1) ⟨0,Nat.zero_le _⟩ id ?_ ?_
   ·simp only [go_sem]
    all_goals ((repeat' apply And.intro)<;>first | rfl | trivial)
   rintro ⟨q,hq⟩ E0
   refine aH E0 fun Q' hQ E'=>?_
   simp only at hq ⊢
   have hpq:=hpn q
   rw [List.length_take] at hpq
   simp only [go_sem]
   refine ah E' (fun g0=>?_) (fun g0=>?_)<;>simp only [go_sem]
   ·have hq':q<n.l.length:=by omega
    have hfq:n.l[q]=fdE n.l q:=by simp [fdE,hq']
    have hc:=hkid (fdE n.l q).to (by rw [hkl,← hfq];exact List.mem_map_of_mem (List.getElem_mem hq'))
    have hst':=hst q hq'
    refine ⟨by omega,?_⟩
    rw [C5 hq']
    simp only [go_sem]
    generalize vtE ns (fdE n.l q).to.toNat=u at hc hst'
    refine al mixed E' fun X=>?_
    simp only [go_sem]
    refine aF X hc rfl rfl (by simp) ?_
    simp only [go_sem]
    refine ⟨by omega,by decide +kernel,?_⟩
    rw [List.take_of_length_le (show (pN ns (n.l.take q)).length≤q by omega),← hst',hQ]
    simp only [go_sem]
    rw [ai (n:=(q:Int)+1) ⟨by omega,by omega⟩]
    refine ⟨⟨q+1,by omega⟩,by show n.l.length-(q+1)<n.l.length-q;omega,tau [([99],[63])],?_⟩
    simp only [go_sem]
    all_goals ((repeat' apply And.intro)<;>first | rfl | trivial)
   ·have hq':q=n.l.length:=by omega
    subst hq'
    rw [hQ]
    simp only [go_sem]
    refine ⟨[([99],some 5,pN ns (n.l.take n.l.length))],?_⟩
    simp only [go_sem]
    rw [List.take_of_length_le (show (pN ns n.l).length≤n.l.length by rw [zk];exact Nat.le_refl _),hV,FJ]
    rfl
end Go.Proofs.YtejpnabbmgpmaaaGreatDoor

namespace Go.Proofs.YtejpnabbmgpmaaaGreatDoor
open Go.Ab
variable {t:TypeId} {fz:Nat × Nat}
theorem DM (n:Int) (hn:inR n):HP Tryz.prog (GT t fz) 95 [i64 n] (fun r=>r=.d (.str (eh n))):=by
 refine aj Tryz.func95 rfl (by decide +kernel) (by simp [Tryz.ntmps95]) (veil fun E=>?_)
 have hl:=Lib.itoa_length_le n hn.1 hn.2
 simp only [go_sem]
 refine ae E (A9 n hn) rfl rfl (by simp) ?_
 rintro _ rfl
 simp only [go_sem]
 refine ae E (oN (Lib.itoa n) [45]) rfl rfl (by simp) ?_
 rintro _ rfl
 simp only [go_sem]
 by_cases h:n<0
 ·have e:Lib.itoa n=45::Lib.decDigits n.natAbs:=by simp [Lib.itoa,h]
  rw [e,show aV (45::Lib.decDigits n.natAbs) [45]=true by simp [aV]]
  rw [e] at hl
  simp only [List.length_cons] at hl
  simp only [go_sem]
  simp only [eh,h,if_true,List.drop_succ_cons,List.drop_zero]
  first | exact ⟨by omega,rfl⟩ | exact ⟨by omega,trivial⟩ | omega
 ·have e:Lib.itoa n=Lib.decDigits n.toNat:=by simp [Lib.itoa,h]
  rw [e,wD]
  simp only [go_sem]
  simp [eh,h]
theorem D7 (n:Int) (hn:inR n):HP Tryz.prog (GT t fz) 98 [i64 n] (fun r=>r=.d (.str (eh n))):=by
 refine aj Tryz.func98 rfl (by decide +kernel) (by simp [Tryz.ntmps98]) (veil fun E=>?_)
 simp only [go_sem]
 refine ah E (fun h=>?_) (fun h=>?_)<;>simp only [go_sem]
 ·subst h
  rw [show eh 0=[48] by decide +kernel]
 refine cB E (X:={ x:Int × List UInt8 // dd x.1.natAbs++x.2=dd n.natAbs∧inR x.1 }) (fun x=>[(0,.d (i64 n)),(2,.d (.str [])),(3,.d (.str x.1.2)),(4,.d (i64 x.1.1))]) (fun x=>x.1.1.natAbs) rfl ⟨(n,[]),by simp,hn⟩ ?_ ?_
 ·simp only [go_sem]
 rintro ⟨⟨m,acc⟩,hacc,hm⟩ E'
 simp only [go_sem]
 have hacc:dd m.natAbs++acc=dd n.natAbs:=hacc
 have hm:inR m:=hm
 obtain ⟨hi1,hi2,hi3⟩:=Ev hm
 have hlen:=EM hn hacc
 refine ah E' (fun h0=>?_) (fun h0=>?_)<;>simp only [go_sem]
 ·have hstep:dd (m.tdiv 10).natAbs++([UInt8.ofNat (48+m.natAbs % 10)]++acc)=dd n.natAbs:=by
   rw [hi3,← List.append_assoc,← B9 _ (by omega)];exact hacc
  have hdec:(m.tdiv 10).natAbs<m.natAbs:=by omega
  refine ah E' (fun h1=>?_) (fun h1=>?_)<;>simp only [go_sem]
  ·rw [aB]
   refine fp [UInt8.ofNat (48+m.natAbs % 10)] (by rw [jB]) (by rw [ti5]) (by rw [ti9]) ?_ (by simp) (veil fun E2=>?_)
   ·simp only [go_sem]
    rw [BO h1,yz _ (by omega)]<;>rfl
   ·simp only [go_sem]
    exact ⟨by omega,⟨(m.tdiv 10,[UInt8.ofNat (48+m.natAbs % 10)]++acc),hstep,hi1⟩,hdec,rfl,by rw [hi2]⟩
  ·rw [aB]
   refine fp [UInt8.ofNat (48+m.natAbs % 10)] (by rw [jB]) (by rw [ti5]) (by rw [ti9]) ?_ (by simp) (veil fun E2=>?_)
   ·simp only [go_sem]
    rw [BA h1,yz _ (by omega)]<;>rfl
   ·simp only [go_sem]
    exact ⟨by omega,⟨(m.tdiv 10,[UInt8.ofNat (48+m.natAbs % 10)]++acc),hstep,hi1⟩,hdec,rfl,by rw [hi2]⟩
 ·have hm0:m=0:=by omega
  subst hm0
  have hacc:acc=Lib.decDigits n.natAbs:=by
   have:dd (0:Int).natAbs++acc=dd n.natAbs:=hacc
   simpa [dd,h] using this
  refine ah E (fun h2=>?_) (fun h2=>?_)<;>simp only [go_sem]
  ·exact ⟨by omega,by simp [eh,h2,hacc]⟩
  ·simp [eh,h2,hacc]
   rw [show n.natAbs=n.toNat by omega]
end Go.Proofs.YtejpnabbmgpmaaaGreatDoor

namespace Go.Ab
section
variable {P:Program} {cf:Cf} {ops:Array Oper} {K:St→Ns→Prop} {r:List Oper} {s:St} {ns:Ns}
end
end Go.Ab

namespace Go.Ab
end Go.Ab

namespace Go.Ab
structure BT (H:Array Obj) (own:Nat→Prop) (wf:W) (xs:List D) (news:List Value):Prop where
 size:news.length=xs.length*wd wf
 ok:∀ x∈xs,okW wf x
 rep:∀ i x j d,xs[i]?=some x→x.cells[j]?=some d→Rep H own (news.getD (i*wd wf+j) undef) d
theorem l5 {H:Array Obj} {own:Nat→Prop} (l:List UInt8):BT H own none (l.map byD) (byteCells ⟨l.toArray⟩):=by
 have hb:byteCells ⟨l.toArray⟩=l.map fun b=>Value.int .u8 b.toNat:=by unfold byteCells;simp
 refine ⟨by rw [hb];simp [wd],fun x hx=>?_,fun i x j d hi hj=>?_⟩
 ·obtain ⟨c,_,rfl⟩:=List.mem_map.1 hx
  rfl
 ·rw [List.getElem?_map] at hi
  cases hc:l[i]? with
  | none=>rw [hc] at hi;cases hi
  | some c =>
    rw [hc] at hi
    obtain rfl:byD c=x:=by simpa using hi
    have hj0:j=0∧d=byD c:=by
     rcases j with _ | j
     ·refine ⟨rfl,?_⟩
      have:some (byD c)=some d:=hj
      exact (Option.some.inj this).symm
     ·have:([byD c]:List D)[j+1]?=some d:=hj
      simp at this
    obtain ⟨rfl,rfl⟩:=hj0
    rw [hb,show i*wd none+0=i by simp [wd],List.getD_eq_getElem?_getD,List.getElem?_map,hc]
    exact .int _ _
section
variable {P:Program} {B:Base} {β:Name→Option Blk} {s:St} {tm:Array Value} {w:World} {t u:TypeId}
section
variable {e:Nat} {i:TypeInfo} {z:Value}
theorem kh (hk:P.underlying t=some (.slice e)) (hi:P.info? e=some i) (hz:i.zero=some z) (ty:TypeId) {own:Nat→Prop} {wf:W} {xv yv:Value} {xs ys:List D} {olds news:List Value} (hs:i.size=wd wf)
  (hx:Seg P w.heap own wf xv xs olds) (hy:Src P i.size u yv ys.length news w) {a:Option Addr} {cap:Nat} (hxv:xv=.slice a xs.length cap) (hgr:cap<xs.length+ys.length) (hb:(xs.length+ys.length)*i.bytes≤140737488355328) (hb':xs.length+ys.length≤140737488355328) :
  ∃ nc,xs.length+ys.length≤nc∧(Builtin.append_ #[t,u] ty #[xv,yv]).run P w =
   .ok (.slice (some ⟨w.heap.size,0,none⟩) (xs.length+ys.length) nc) (w.drew.alloc (.cells (olds.toArray++news.toArray++Builtin.zeroCells z.cells (nc-(xs.length+ys.length))) e)):=by
 subst hxv
 refine ⟨grownCap w (xs.length+ys.length) cap e,grownCap_ge _ _ _ _,?_⟩
 have h:=run_append_grow_src w t u ty e i z hk hi hz a xs.length cap olds (by rw [hs];exact hx.run w.drew rfl) yv ys.length news hy hgr (by omega) (by have:=growslice_fits hgr hb;omega)
 rw [h]
 simp
theorem kl (hk:P.underlying t=some (.slice e)) (hi:P.info? e=some i) (ty:TypeId) {wf:W} {yv:Value} {ys:List D} {news:List Value} (hs:i.size=wd wf)
  (hy:Src P i.size u yv ys.length news w) {b o n cap:Nat} {c:Array Value} {e':TypeId} (hb:w.heap[b]?=some (.cells c e' (0,0))) (hr:n+ys.length≤cap) (hfit:o+n*wd wf+news.length≤c.size) :
  (Builtin.append_ #[t,u] ty #[.slice (some ⟨b,o,none⟩) n cap,yv]).run P w =
   .ok (.slice (some ⟨b,o,none⟩) (n+ys.length) cap) (w.setRow b (splice c.toList (o+n*wd wf) news).toArray):=by
 have hst:=run_storeCells_at (P:=P) b (o+n*wd wf) e' news 0 c w hb (by simpa using hfit) hy.one
 simp only [Nat.add_zero] at hst
 have hc:=hy.cells
 rw [hs] at hc
 rcases hy.kind with ⟨e2,hu⟩ | hu<;>simp [Builtin.append_,run_underlying hk,run_underlying hu,sizeOf,typeInfo,hi,hy.len,hr,hs,hc,aY,hst,splice,List.append_assoc]
end
theorem pW {H:Array Obj} {own:Nat→Prop} {wf:W} {xs ys:List D} {olds news:List Value} {xv:Value} (hx:Seg P H own wf xv xs olds) (hy:BT H own wf ys news) (rest:Array Value) :
  (∀ x∈xs++ys,okW wf x)∧∀ i x j d,(xs++ys)[i]?=some x→x.cells[j]?=some d→Rep H own ((olds.toArray++news.toArray++rest).getD (i*wd wf+j) undef) d:=by
 refine ⟨fun x h=>(List.mem_append.1 h).elim (hx.ok x) (hy.ok x),fun i x j d hi hj=>?_⟩
 have hget:∀ m,(olds.toArray++news.toArray++rest).getD m undef=if m<olds.length then olds.getD m undef else if m<olds.length+news.length then news.getD (m-olds.length) undef else rest.getD (m-(olds.length+news.length)) undef:=by
  intro m
  simp only [Array.getD_eq_getD_getElem?,List.getD_eq_getElem?_getD,Array.getElem?_append,List.size_toArray,Array.size_append,List.getElem?_toArray]
  by_cases h1:m<olds.length
  ·simp [h1,show m<olds.length+news.length by omega]
  ·by_cases h2:m<olds.length+news.length
   ·simp [h1,h2]
   ·simp [h1,h2]
 rw [hget]
 rcases Nat.lt_or_ge i xs.length with hlt | hge
 ·rw [List.getElem?_append_left hlt] at hi
  have hxo:=hx.ok x (List.mem_of_getElem? hi)
  have hjl:j<wd wf:=by rw [← aQ hxo];exact (List.getElem?_eq_some_iff.1 hj).1
  have:i*wd wf+wd wf≤xs.length*wd wf:=by rw [← Nat.succ_mul];exact Nat.mul_le_mul_right _ hlt
  rw [if_pos (by rw [hx.size];omega)]
  exact hx.rep i x j d hi hj
 ·rw [List.getElem?_append_right hge] at hi
  have hxo:=hy.ok x (List.mem_of_getElem? hi)
  have hil:=(List.getElem?_eq_some_iff.1 hi).1
  have hjl:j<wd wf:=by rw [← aQ hxo];exact (List.getElem?_eq_some_iff.1 hj).1
  have h1:xs.length*wd wf≤i*wd wf:=Nat.mul_le_mul_right _ hge
  have h2:(i-xs.length)*wd wf+wd wf≤ys.length*wd wf:=by rw [← Nat.succ_mul];exact Nat.mul_le_mul_right _ hil
  have h3:i*wd wf=(i-xs.length)*wd wf+xs.length*wd wf:=by rw [← Nat.add_mul];congr 1;omega
  rw [if_neg (by rw [hx.size];omega),if_pos (by rw [hx.size,hy.size];omega),hx.size,show i*wd wf+j-xs.length*wd wf=(i-xs.length)*wd wf+j by omega]
  exact hy.rep _ x j d hi hj
theorem ix (h:Sim B β s tm w) {xv yv:Value} {p:Name} {o l:Nat} {tg:Option Nat} {wf:W} {xs ys:List D} {news:List Value} (hx:VR w.heap (s.own B.A β) s.used s.hp β xv (.vw p o l)) (hp:s.hp p=some (.arrT tg wf xs)) {e:Nat} (hk:(P.ti t).k=.slice e)
  (hz:(P.ti e).zOk=true) (hw:(P.ti e).isW (P.ti e).w=true) (hwf:wf=(P.ti e).w) (ty:TypeId) (htg:tg.getD e=e) {dd:Nat} (hdd:dd<B.n) (hud:dd ∉ s.used) (hb:(l+ys.length)*(P.ti e).by1≤140737488355328)
  (hsy:BT w.heap (s.own B.A β) (P.ti e).w ys news) (hsrc:∀ it,P.info? e=some it→Src P it.size u yv ys.length news w) :
  ∃ v w' β',(Builtin.append_ #[t,u] ty #[xv,yv]).run P w=.ok v w'∧Sim B β' (((s.set p none).add dd (.arrT tg wf ((xs.drop o).take l++ys))).put dd (.vw [dd] 0 (l+ys.length))) (tm.setIfInBounds dd v) w':=by
 obtain ⟨hg,hwd,_⟩:=bd hw
 obtain ⟨z,hz,hzl⟩:∃ z,(P.ti e).z=some z∧z.length=(P.ti e).sz:=by
  unfold TI.zOk at hz
  split at hz
  ·rename_i z h1;exact ⟨z,h1,by simpa using hz⟩
  ·cases hz
 obtain ⟨zv,hr,hm,it,hi,hiz,his,hib⟩:=cK hz
 have hu:=aN hk
 have hby:∀ m:Nat,m*(P.ti e).by1≤140737488355328→m*it.bytes≤140737488355328∧m≤140737488355328:=by
  intro m hm'
  unfold TI.by1 at hm'
  rw [hib]
  split at hm'
  ·rename_i h0;rw [h0];simp at hm' ⊢;exact hm'
  ·exact ⟨hm',Nat.le_trans (Nat.le_mul_of_pos_right m (by omega)) hm'⟩
 have fresh:∀ (s1:St) (β1:Name→Option Blk) (xs ys:List D) (olds news:List Value) (xv':Value) (dd nc:Nat),Sim B β1 s1 tm w→Seg P w.heap (s1.own B.A β1) (P.ti e).w xv' xs olds→BT w.heap (s1.own B.A β1) (P.ti e).w ys news→dd<B.n→dd ∉ s1.used →
   xs.length+ys.length≤nc→∃ β',Sim B β' ((s1.add dd (.arrT tg (P.ti e).w (xs++ys))).put dd (.vw [dd] 0 (xs.length+ys.length))) (tm.setIfInBounds dd (.slice (some ⟨w.heap.size,0,none⟩) (xs.length+ys.length) nc))
    (w.drew.alloc (.cells (olds.toArray++news.toArray++Builtin.zeroCells zv.cells (nc-(xs.length+ys.length))) e)):=by
  intro s1 β1 xs ys olds news xv' dd nc h1 hsx hsy hdd hud hnc
  obtain ⟨r1,r2⟩:=pW hsx hsy (Builtin.zeroCells zv.cells (nc-(xs.length+ys.length)))
  have hzs:zv.cells.size=wd (P.ti e).w:=by
   have:=(fJ (H:=w.heap) (own:=s.own B.A β) hm).1
   simp at this;omega
  have hsz:(olds.toArray++news.toArray++Builtin.zeroCells zv.cells (nc-(xs.length+ys.length))).size=nc*wd (P.ti e).w:=by
   simp only [Array.size_append,List.size_toArray,hsx.size,hsy.size,size_zeroCells,hzs,← Nat.add_mul];congr 1;omega
  have:=cL (h1.jx (w':=w.drew) rfl rfl) hdd hud (c:=olds.toArray++news.toArray++Builtin.zeroCells zv.cells (nc-(xs.length+ys.length))) (wf:=(P.ti e).w) (xs:=xs++ys) (cap:=nc) (by simpa using hnc)
   (by rw [hsz];exact Nat.le_refl _) r1 (fun i x j d hi hj=>r2 i x j d hi hj) e tg htg
  simpa using this
 have hsrc:=hsrc it hi
 obtain ⟨hb1,hb2⟩:=hby _ hb
 have hlx:aX (P.ti e).w s.hp (.vw p o l)=some ((xs.drop o).take l):=by simp [aX,hp,hwf]
 obtain ⟨olds,hsx⟩:=cJ (P:=P) h hx hlx
 have hpn:=e6 (h.objs p _ hp).1 hud
 have hcomm:∀ ob,(s.set p none).add dd ob=(s.add dd ob).set p none:=by
  intro ob
  unfold St.add St.set
  simp only [St.mk.injEq,true_and,and_true]
  funext q
  simp only [av]
  by_cases h1:q=[dd]
  ·subst h1;simp [Ne.symm hpn]
  ·simp [h1]
 cases hx with
 | vw _ _ _ _ hn h1 hx =>
   obtain ⟨hle,a,cap,rfl,hx'⟩:=hx _ _ _ hp
   have hlen:((xs.drop o).take l).length=l:=by simp;omega
   by_cases hgr:cap<l+ys.length
   ·-- it grows
    have hgr':cap<((xs.drop o).take l).length+ys.length:=by rw [hlen];exact hgr
    obtain ⟨nc,hnc,hrun⟩:=kh (P:=P) (t:=t) hu hi hiz ty (by rw [his,hwd]) hsx hsrc (a:=a) (cap:=cap) (by rw [hlen]) hgr' (by rw [hlen];exact hb1) (by rw [hlen];exact hb2)
    obtain ⟨β',hs⟩:=fresh s β _ ys olds news _ dd nc h hsx hsy hdd hud hnc
    rw [hlen] at hs hrun
    refine ⟨_,_,β',hrun,?_⟩
    rw [hcomm,hwf]
    have:=hs.drop p
    have e2:((s.add dd (.arrT tg (P.ti e).w ((xs.drop o).take l++ys))).put dd (.vw [dd] 0 (l+ys.length))).set p none=((s.add dd (.arrT tg (P.ti e).w ((xs.drop o).take l++ys))).set p none).put dd (.vw [dd] 0 (l+ys.length)):=rfl
    rwa [e2] at this
   ·-- there is room
    rcases hx' with ⟨rfl,rfl⟩ | ⟨k,hk',rfl,hcap,hz'⟩
    ·have:ys=[]:=List.length_eq_zero_iff.1 (by omega)
     subst this
     have hn0:news=[]:=List.length_eq_zero_iff.1 (by rw [hsy.size];simp)
     subst hn0
     have hsrc0:=hsrc
     have hrun:=run_append_nothing w t u ty e it hu hi a 0 0 (Nat.le_refl 0) yv hsrc0
     refine ⟨_,_,av β [dd] none,hrun,?_⟩
     rw [hcomm]
     have e3:((xs.drop o).take 0++([]:List D))=[]:=by simp
     rw [e3]
     have:=((h.dL hud tg wf).put hdd (v:=.slice a 0 0) (x:=.vw [dd] 0 0) (.vw _ _ _ _ ⟨dd,[],rfl,List.mem_cons_self⟩ rfl fun ty' w' xs' hp'=>by
      have:w'=wf∧xs'=[]:=And.right (a:=ty'=tg) (by simpa [St.add,av,eq_comm] using hp')
      obtain ⟨rfl,rfl⟩:=this
      exact ⟨by simp,a,0,rfl,.inl ⟨rfl,rfl⟩⟩)).drop p
     exact this
    ·have hob:=(h.objs p _ hp).2
     rcases hob with ⟨h0,h0'⟩ | ⟨k',c',e',hk'',hc,hzz,hl',hwx,hcs⟩
     ·rw [h0] at hk';cases hk'
     ·rw [hk'] at hk'';cases hk''
      have hmul:(o+cap)*wd wf=o*wd wf+cap*wd wf:=Nat.add_mul _ _ _
      have hle2:(l+ys.length)*wd wf≤cap*wd wf:=Nat.mul_le_mul_right _ (by omega)
      have hmul2:(l+ys.length)*wd wf=l*wd wf+ys.length*wd wf:=Nat.add_mul _ _ _
      have hns:=hsy.size
      rw [← hwf] at hns
      have hfit:k.o+o*wd wf+l*wd wf+news.length≤c'.size:=by omega
      have hrun:=kl (P:=P) (t:=t) hu hi ty (wf:=wf) (by rw [his,hwf,hwd]) hsrc hc (o:=k.o+o*wd wf) (n:=l) (cap:=cap) (by omega) hfit
      refine ⟨_,_,av β [dd] (some ⟨k.b,k.o+o*wd wf,k.z⟩),hrun,?_⟩
      have hsim:=h.renew hud hp hk' tg wf ((xs.drop o).take l++ys) (k.o+o*wd wf) (w':=w.setRow k.b (splice c'.toList (k.o+o*wd wf+l*wd wf) news).toArray) rfl (by simp)
       (fun b hb=>setRow_other w k.b b _ hb) (fun hr=>?_)
      ·refine hsim.put hdd (.vw _ _ _ _ ⟨dd,[],rfl,List.mem_cons_self⟩ rfl fun ty' w' xs' hp'=>?_)
       have:w'=wf∧xs'=(xs.drop o).take l++ys:=And.right (a:=ty'=tg) (by simpa [St.add,av,eq_comm] using hp')
       obtain ⟨rfl,rfl⟩:=this
       refine ⟨by simp;omega,_,cap,rfl,.inr ⟨_,by simp [av];rfl,by simp,by omega,?_⟩⟩
       simp only [Nat.zero_add];omega
      ·have hsp:=bw c'.toList (k.o+o*wd wf+l*wd wf) news (by simpa using hfit)
       refine ⟨_,e',setRow_heap w k.b c' _ _ (0,0) hc,by simp;rw [hsp];simpa using hzz,?_,fun x hx=>?_,fun i x j d hi hj=>?_⟩
       ·rw [List.length_append,hlen];omega
       ·rcases List.mem_append.1 hx with hx | hx
        ·exact hwx x (List.mem_of_mem_drop (List.mem_of_mem_take hx))
        ·rw [hwf];exact hsy.ok x hx
       ·have hgetc:((splice c'.toList (k.o+o*wd wf+l*wd wf) news).toArray).getD (k.o+o*wd wf+i*wd wf+j) undef =
          if k.o+o*wd wf+l*wd wf≤k.o+o*wd wf+i*wd wf+j∧k.o+o*wd wf+i*wd wf+j<k.o+o*wd wf+l*wd wf+news.length then news.getD (k.o+o*wd wf+i*wd wf+j-(k.o+o*wd wf+l*wd wf)) undef else c'.getD (k.o+o*wd wf+i*wd wf+j) undef:=by
         have:=bR c'.toList (k.o+o*wd wf+l*wd wf) news (by simpa using hfit) (k.o+o*wd wf+i*wd wf+j)
         simp only [Array.getElem?_toList] at this
         simp only [Array.getD_eq_getD_getElem?,List.getElem?_toArray,this,List.getD_eq_getElem?_getD]
         split<;>rfl
        rw [hgetc]
        rcases Nat.lt_or_ge i l with hlt | hge
        ·rw [List.getElem?_append_left (by rw [hlen];exact hlt),List.getElem?_take,if_pos hlt,List.getElem?_drop] at hi
         have hxo:=hwx x (List.mem_of_getElem? hi)
         have hjl:j<wd wf:=by rw [← aQ hxo];exact (List.getElem?_eq_some_iff.1 hj).1
         have:i*wd wf+wd wf≤l*wd wf:=by rw [← Nat.succ_mul];exact Nat.mul_le_mul_right _ hlt
         rw [if_neg (by omega)]
         have:=hr _ _ (hcs _ x j d hi hj)
         rwa [show k.o+o*wd wf+i*wd wf+j=k.o+(o+i)*wd wf+j by rw [Nat.add_mul];omega]
        ·rw [List.getElem?_append_right (by rw [hlen];exact hge),hlen] at hi
         have hxo:=hsy.ok x (List.mem_of_getElem? hi)
         rw [← hwf] at hxo
         have hil:=(List.getElem?_eq_some_iff.1 hi).1
         have hjl:j<wd wf:=by rw [← aQ hxo];exact (List.getElem?_eq_some_iff.1 hj).1
         have g1:l*wd wf≤i*wd wf:=Nat.mul_le_mul_right _ hge
         have g2:(i-l)*wd wf+wd wf≤ys.length*wd wf:=by rw [← Nat.succ_mul];exact Nat.mul_le_mul_right _ hil
         have g3:i*wd wf=(i-l)*wd wf+l*wd wf:=by rw [← Nat.add_mul];congr 1;omega
         rw [if_pos (by omega),show k.o+o*wd wf+i*wd wf+j-(k.o+o*wd wf+l*wd wf)=(i-l)*wd wf+j by omega]
         have:=hsy.rep _ x j d hi hj
         rw [← hwf] at this
         exact hr _ _ this
end
section
variable {P:Program} {cf:Cf} {Q:Exit→St→Prop} {s:St} {k:List It}
theorem wO (E:Eng P cf Q) {d t u e:Nat} {x y:Operand} {ty:TypeId} {pos:String} {af:Array Edge} (tg:Option Nat) (p:Name) (xs:List D) (l:List UInt8) (hk:(P.ti t).k=.slice e) (hu:(P.ti u).k=.str) (hz:(P.ti e).zOk=true) (hw:(P.ti e).isW (P.ti e).w=true) (hew:(P.ti e).w=none)
  (htg:tg.getD e=e) (hd:d<cf.n∧d ∉ s.used) (hx:ev s x=.vw p 0 xs.length) (hp:s.hp p=some (.arrT tg none xs)) (hy:ev s y=.d (.str l)) (hl:(xs.length+l.length)*(P.ti e).by1≤140737488355328)
  (h:E.run k (((s.set p none).add d (.arrT tg none (xs++l.map byD))).put d (.vw [d] 0 (xs.length+l.length)))) :
  E.stp { dst:=some d,op:=.call { callee:=.builtin .append,args:=#[x,y],argTypes:=#[t,u] },type:=ty,pos:=pos,after:=af,guard:=none } s k .no:=by
 rw [aB]
 rw [E.run_eq] at h
 intro B hB ds β a w hds hs Q'
 have hvx:=hs.ev x
 have hvy:=hs.ev y
 rw [hx] at hvx
 rw [hy] at hvy
 have hyv:a.eval y=.string ⟨l.toArray⟩:=by
  have g:∀ v,Rep w.heap (s.own B.A β) v (.str l)→v=.string ⟨l.toArray⟩:=fun v hv=>by
   cases hv with
   | str l=>rfl
  exact g _ hvy.toD
 obtain ⟨hg,hwd,_⟩:=bd hw
 have hus:P.underlying u=some .string:=dB hu
 have key:=ix (P:=P) (t:=t) (u:=u) (ys:=l.map byD) (news:=byteCells ⟨l.toArray⟩) hs hvx hp hk hz hw hew.symm ty htg (by rw [hB.1];exact hd.1) hd.2 (by rw [List.length_map];exact hl) (by rw [hew];exact l5 l) (yv:=.string ⟨l.toArray⟩) (fun it hi=>by
  have h1:=Src.ofString (P:=P) w hus ⟨l.toArray⟩
  have h2:it.size=1:=by
   have hz':=hz
   unfold TI.zOk at hz'
   split at hz'
   ·rename_i z hz1
    obtain ⟨_,_,_,it',hi',_,his,_⟩:=cK hz1
    rw [hi] at hi'
    cases hi'
    rw [his,← hwd,hew];rfl
   ·cases hz'
  rw [h2,List.length_map]
  exact h1)
 obtain ⟨v,w',β',hrun,hsim⟩:=key
 rw [List.drop_zero,List.take_length,List.length_map] at hsim
 refine ax (v:=v) (by simp) (by simp [execOp,resolve,invoke,builtin,hyv,hrun]) (.inl rfl) ⟨hds,_,β',aG h,hsim⟩
end
end Go.Ab

namespace Go.Proofs.YtejpnabbmgpmaaaGreatDoor
open Go.Ab
theorem gz {G} (l s:List UInt8) (hl:l.length+s.length≤1000000000):HCall Tryz.prog G 108 [.bx [0] 0,.d (.str s)] (au l) [0,1] (fun r hp'=>r=.tup [.d (i64 (s.length:Nat)),.d .nili]∧hp'=cY (l++s)):=by
 have h0:=qE (G:=G) l
 unfold au at *
 unfold cY
 refine an Tryz.func108 rfl (by decide +kernel) (by simp [Tryz.ntmps108]) (veil fun E=>?_)
 simp only [go_sem]
 refine ab E [.bx [0] 0] [([0],.boxT (some 53) [.bx [0] 0,.vw [1] 0 l.length]),([1],.arrT (some 5) none (l.map byD))] [0,1] h0 rfl rfl ⟨by simp only [go_sem],by rw [aa];decide⟩ rfl (by simp only [go_sem]) (by simp only [go_sem]) ?_
 rintro _ _ ⟨rfl,rfl⟩
 simp only [go_sem]
 refine ⟨Nat.le_refl _,?_⟩
 have hlm:(l.map byD).length=l.length:=by simp
 refine wO E (d:=14) (e:=5) (some 5) [1] (l.map byD) s (by rw [jB]) (by rw [ti9]) (by rw [ti5];rfl) (by rw [ti5];rfl) (by rw [ti5];rfl) rfl ⟨by simp only [go_sem],by rw [aa];decide⟩ (by rw [hlm];rfl) rfl rfl (by rw [ti5,hlm];simp [TI.by1];omega) ?_
 rw [hlm,← List.map_append]
 simp only [go_sem]
 refine ⟨_,_,[0,1,2],tau [([2],[14])],⟨rfl,rfl⟩,?_⟩
 rw [show (l++s).length=l.length+s.length by simp]
 simp only [go_sem]
structure QpI (s:List UInt8) (i:Nat) (acc:List UInt8):Prop where
 hi:i≤s.length
 he:acc=34::(s.take i).flatMap quC
 hl:acc.length≤4*i+1
theorem QpI.init (s:List UInt8):QpI s 0 [34]:=⟨Nat.zero_le _,rfl,by simp⟩
theorem vp (c:UInt8):(quC c).length≤4:=by
 unfold quC
 split
 ·simp
 split
 ·simp
 split
 ·simp
 split<;>simp
theorem QpI.step {s:List UInt8} {i:Nat} {acc:List UInt8} (h:QpI s i acc) (hi:i<s.length):QpI s (i+1) (acc++quC (s.getD i 0)):=by
 obtain ⟨_,he,hl⟩:=h
 have hq:=vp (s.getD i 0)
 refine ⟨hi,?_,?_⟩
 ·rw [he,List.take_succ_eq_append_getElem hi,List.flatMap_append,List.getD_eq_getElem?_getD,List.getElem?_eq_getElem hi]
  simp
 ·rw [List.length_append];omega
theorem QpI.fin {s:List UInt8} {acc:List UInt8} (h:QpI s s.length acc):acc++[34]=quS s:=by
 rw [h.he,List.take_length];rfl
theorem QpI.ne {s:List UInt8} {i:Nat} {acc:List UInt8} (h:QpI s i acc):acc≠[]:=by rw [h.he];simp
theorem lQ (c:UInt8):IntKind.u8.wrap ((c.toNat:Int).tdiv 16)=((c.toNat / 16:Nat):Int):=by
 have h:∀ n:Fin 256,IntKind.u8.wrap ((n.val:Int).tdiv 16)=((n.val / 16:Nat):Int):=by decide +kernel
 exact h ⟨c.toNat,c.toNat_lt⟩
theorem mf (c:UInt8):(c.toNat:Int).tmod 16=((c.toNat % 16:Nat):Int):=by
 have h:∀ n:Fin 256,((n.val:Int).tmod 16)=((n.val % 16:Nat):Int):=by decide +kernel
 exact h ⟨c.toNat,c.toNat_lt⟩
theorem Fg {G} (s:List UInt8) (hl:s.length≤200000):HP Tryz.prog G 96 [.str s] (fun r=>r=.d (.str (quS s))):=by
 refine aj Tryz.func96 rfl (by decide +kernel) (by simp [Tryz.ntmps96]) (veil fun E=>?_)
 simp only [go_sem]
 refine bp E (tau [([0],[3])]) [.bx [0] 0,.d (byD 34)] bG [0] (mc 34) rfl rfl ⟨by simp only [go_sem],by rw [aa];decide⟩ rfl (by unfold bG;simp only [go_sem]) (by unfold bG;simp only [go_sem]) ?_
 rintro _ _ ⟨rfl,rfl⟩
 unfold cY bG
 simp only [go_sem]
 refine aw E (X:={ x:Nat × List UInt8 // QpI s x.1 x.2 }) (fun x=>[(0,.d (.str s)),(3,.bx [0] 0),(7,.d (.str s)),(8,.d (i64 (s.length:Nat))),(9,.d (i64 x.1.1))]) (fun x=>au x.1.2) [0,1] (fun x=>s.length-x.1.1) ⟨(0,[34]),QpI.init s⟩ (tau [([0],[3]),([1],[6,2])]) ?_ ?_
 ·unfold au
  simp only [go_sem]
  all_goals ((repeat' apply And.intro)<;>first | rfl | trivial)
 rintro ⟨⟨i,acc⟩,hI⟩ E0
 refine aH E0 fun Q' hQ E'=>?_
 simp only at hI ⊢
 have hi:=hI.hi
 have ha:=hI.hl
 unfold au
 simp only [go_sem]
 refine ah E' (fun h1=>?_) (fun h1=>?_)<;>simp only [go_sem]
 ·have h1':i<s.length:=by omega
  refine ⟨by omega,?_⟩
  have hstp:=hI.step h1'
  generalize s.getD i 0=c at hstp ⊢
  refine ae E' (o6 c) rfl rfl (by simp) ?_
  rintro _ rfl
  simp only [go_sem]
  refine aI E' (fun h2=>?_) (fun h2=>?_)<;>simp only [go_sem]
  ·have hq:quC c=[c]:=by unfold quC;rw [if_pos h2]
   rw [hq] at hstp
   refine ab E' [.bx [0] 0,.d (byD c)] (au acc) [0,1] (b7 acc c (by omega)) rfl rfl ⟨by simp only [go_sem],by rw [aa];decide⟩ rfl (by unfold au;simp only [go_sem]) (by unfold au;simp only [go_sem]) ?_
   rintro _ _ ⟨rfl,rfl⟩
   unfold cY au
   simp only [go_sem]
   rw [ai ⟨by omega,by omega⟩,hQ]
   simp only [go_sem]
   refine ⟨⟨(i+1,acc++[c]),hstp⟩,by show s.length-(i+1)<_;omega,tau [([1],[28,2])],?_⟩
   unfold au
   simp only [go_sem]
   all_goals ((repeat' apply And.intro)<;>first | rfl | trivial)
  refine ao E' (fun h3=>?_) (fun h3=>?_)<;>simp only [go_sem]
  ·have hq:quC c=[92,c]:=by unfold quC;rw [if_neg (by rw [h2];simp),if_pos (.inl (b4 34 h3))]
   rw [hq,show acc++[92,c]=acc++[92]++[c] by simp] at hstp
   refine ab E' [.bx [0] 0,.d (byD 92)] (au acc) [0,1] (b7 acc 92 (by omega)) rfl rfl ⟨by simp only [go_sem],by rw [aa];decide⟩ rfl (by unfold au;simp only [go_sem]) (by unfold au;simp only [go_sem]) ?_
   rintro _ _ ⟨rfl,rfl⟩
   unfold cY au
   simp only [go_sem]
   refine bp E' (tau [([1],[36,2])]) [.bx [0] 0,.d (byD c)] (au (acc++[92])) [0,1] (b7 (acc++[92]) c (by simp;omega)) rfl rfl ⟨by simp only [go_sem],by rw [aa];decide⟩ rfl (by unfold au;simp only [go_sem]) (by unfold au;simp only [go_sem]) ?_
   rintro _ _ ⟨rfl,rfl⟩
   unfold cY au
   simp only [go_sem]
   rw [ai ⟨by omega,by omega⟩,hQ]
   simp only [go_sem]
   refine ⟨⟨(i+1,acc++[92]++[c]),hstp⟩,by show s.length-(i+1)<_;omega,tau [([1],[38,2])],?_⟩
   unfold au
   simp only [go_sem]
   all_goals ((repeat' apply And.intro)<;>first | rfl | trivial)
  refine ah E' (fun h4=>?_) (fun h4=>?_)<;>simp only [go_sem]
  ·have hq:quC c=[92,c]:=by unfold quC;rw [if_neg (by rw [h2];simp),if_pos (.inr (b4 92 h4))]
   rw [hq,show acc++[92,c]=acc++[92]++[c] by simp] at hstp
   refine ab E' [.bx [0] 0,.d (byD 92)] (au acc) [0,1] (b7 acc 92 (by omega)) rfl rfl ⟨by simp only [go_sem],by rw [aa];decide⟩ rfl (by unfold au;simp only [go_sem]) (by unfold au;simp only [go_sem]) ?_
   rintro _ _ ⟨rfl,rfl⟩
   unfold cY au
   simp only [go_sem]
   refine bp E' (tau [([1],[36,2])]) [.bx [0] 0,.d (byD c)] (au (acc++[92])) [0,1] (b7 (acc++[92]) c (by simp;omega)) rfl rfl ⟨by simp only [go_sem],by rw [aa];decide⟩ rfl (by unfold au;simp only [go_sem]) (by unfold au;simp only [go_sem]) ?_
   rintro _ _ ⟨rfl,rfl⟩
   unfold cY au
   simp only [go_sem]
   rw [ai ⟨by omega,by omega⟩,hQ]
   simp only [go_sem]
   refine ⟨⟨(i+1,acc++[92]++[c]),hstp⟩,by show s.length-(i+1)<_;omega,tau [([1],[38,2])],?_⟩
   unfold au
   simp only [go_sem]
   all_goals ((repeat' apply And.intro)<;>first | rfl | trivial)
  have hno:¬ (c=34∨c=92):=fun h=>h.elim (aC 34 h3) (aC 92 h4)
  refine ah E' (fun h5=>?_) (fun h5=>?_)<;>simp only [go_sem]
  ·have hq:quC c=[92,110]:=by unfold quC;rw [if_neg (by rw [h2];simp),if_neg hno,if_pos (b4 10 h5)]
   rw [hq] at hstp
   refine ab E' [.bx [0] 0,.d (.str [92,110])] (au acc) [0,1] (gz acc [92,110] (by simp;omega)) rfl rfl ⟨by simp only [go_sem],by rw [aa];decide⟩ rfl (by unfold au;simp only [go_sem]) (by unfold au;simp only [go_sem]) ?_
   rintro _ _ ⟨rfl,rfl⟩
   unfold cY au
   simp only [go_sem]
   rw [ai ⟨by omega,by omega⟩,hQ]
   simp only [go_sem]
   refine ⟨⟨(i+1,acc++[92,110]),hstp⟩,by show s.length-(i+1)<_;omega,tau [([1],[42,2])],?_⟩
   unfold au
   simp only [go_sem]
   all_goals ((repeat' apply And.intro)<;>first | rfl | trivial)
  refine ah E' (fun h6=>?_) (fun h6=>?_)<;>simp only [go_sem]
  ·have hq:quC c=[92,116]:=by unfold quC;rw [if_neg (by rw [h2];simp),if_neg hno,if_neg (aC 10 h5),if_pos (b4 9 h6)]
   rw [hq] at hstp
   refine ab E' [.bx [0] 0,.d (.str [92,116])] (au acc) [0,1] (gz acc [92,116] (by simp;omega)) rfl rfl ⟨by simp only [go_sem],by rw [aa];decide⟩ rfl (by unfold au;simp only [go_sem]) (by unfold au;simp only [go_sem]) ?_
   rintro _ _ ⟨rfl,rfl⟩
   unfold cY au
   simp only [go_sem]
   rw [ai ⟨by omega,by omega⟩,hQ]
   simp only [go_sem]
   refine ⟨⟨(i+1,acc++[92,116]),hstp⟩,by show s.length-(i+1)<_;omega,tau [([1],[46,2])],?_⟩
   unfold au
   simp only [go_sem]
   all_goals ((repeat' apply And.intro)<;>first | rfl | trivial)
  have hq:quC c=[92,120,cO (c.toNat / 16),cO (c.toNat % 16)]:=by unfold quC;rw [if_neg (by rw [h2];simp),if_neg hno,if_neg (aC 10 h5),if_neg (aC 9 h6)]
  rw [hq] at hstp
  refine ab E' [.bx [0] 0,.d (.str [92,120])] (au acc) [0,1] (gz acc [92,120] (by simp;omega)) rfl rfl ⟨by simp only [go_sem],by rw [aa];decide⟩ rfl (by unfold au;simp only [go_sem]) (by unfold au;simp only [go_sem]) ?_
  rintro _ _ ⟨rfl,rfl⟩
  unfold cY au
  simp only [go_sem]
  have e1:=lQ c
  have e2:=mf c
  have hc:=c.toNat_lt
  rw [e1]
  refine ⟨by omega,?_⟩
  refine bp E' (tau [([1],[15,2])]) [.bx [0] 0,.d (byD (cO (c.toNat / 16)))] (au (acc++[92,120])) [0,1] (b7 (acc++[92,120]) (cO (c.toNat / 16)) (by simp;omega)) rfl rfl ⟨by simp only [go_sem],by rw [aa];decide⟩ rfl (by unfold au;simp only [go_sem]) (by unfold au;simp only [go_sem]) ?_
  rintro _ _ ⟨rfl,rfl⟩
  unfold cY au
  simp only [go_sem]
  rw [e2]
  refine ⟨by omega,?_⟩
  refine bp E' (tau [([1],[19,2])]) [.bx [0] 0,.d (byD (cO (c.toNat % 16)))] (au (acc++[92,120]++[cO (c.toNat / 16)])) [0,1] (b7 (acc++[92,120]++[cO (c.toNat / 16)]) (cO (c.toNat % 16)) (by simp;omega)) rfl rfl ⟨by simp only [go_sem],by rw [aa];decide⟩ rfl (by unfold au;simp only [go_sem]) (by unfold au;simp only [go_sem]) ?_
  rintro _ _ ⟨rfl,rfl⟩
  unfold cY au
  rw [show acc++[92,120,cO (c.toNat / 16),cO (c.toNat % 16)]=acc++[92,120]++[cO (c.toNat / 16)]++[cO (c.toNat % 16)] by simp] at hstp
  simp only [go_sem]
  rw [ai ⟨by omega,by omega⟩,hQ]
  simp only [go_sem]
  refine ⟨⟨(i+1,acc++[92,120]++[cO (c.toNat / 16)]++[cO (c.toNat % 16)]),hstp⟩,by show s.length-(i+1)<_;omega,tau [([1],[23,2])],?_⟩
  unfold au
  simp only [go_sem]
  all_goals ((repeat' apply And.intro)<;>first | rfl | trivial)
 ·have he:i=s.length:=by omega
  subst he
  have hne:=hI.ne
  have hfin:=hI.fin
  rw [hQ]
  simp only [go_sem]
  refine ab E [.bx [0] 0,.d (byD 34)] (au acc) [0,1] (b7 acc 34 (by omega)) rfl rfl ⟨by simp only [go_sem],by rw [aa];decide⟩ rfl (by unfold au;simp only [go_sem]) (by unfold au;simp only [go_sem]) ?_
  rintro _ _ ⟨rfl,rfl⟩
  unfold cY au
  simp only [go_sem]
  rw [hfin]
  refine bp E (tau [([1],[48,2])]) [.bx [0] 0] (au (quS s)) [0,1] (pJ (quS s) (by rw [← hfin];simp) (by rw [← hfin,List.length_append];simp;omega)) rfl rfl ⟨by simp only [go_sem],by rw [aa];decide⟩ rfl (by unfold au;simp only [go_sem]) (by unfold au;simp only [go_sem]) ?_
  rintro _ _ ⟨rfl,rfl⟩
  simp only [go_sem]
end Go.Proofs.YtejpnabbmgpmaaaGreatDoor

namespace Go.Ab
theorem lR:∀ (n t:Nat) (acc:Array Value),(∀ v∈acc,v.oneCell'=true)→∀ v∈Extern.BytealgMakeNoZero.digits n t acc,v.oneCell'=true
 | 0,_,_,h=>h
 | n+1,t,acc,h=>by
   rw [Extern.BytealgMakeNoZero.digits]
   refine lR n _ _ fun v hv=>?_
   rcases Array.mem_push.1 hv with hv | rfl
   ·exact h v hv
   ·rfl
theorem CF {P:Program} (w:World) (ps:Array TypeId) (t e:TypeId) (ht:P.underlying t=some (.slice e)) (n:Nat) (hn:n≤281474976710656) :
  ∃ cs:Array Value,(Extern.BytealgMakeNoZero.makeNoZero ps #[t] #[.int .i64 n]).run P w=.ok (.slice (some ⟨w.heap.size,0,none⟩) n cs.size) (w.drew.drew.alloc (.cells cs e))∧n≤cs.size∧∀ v∈cs,v.oneCell'=true:=by
 obtain ⟨z1,z2,z3,hz3,hdef⟩:∃ (z1 z2:String) (z3:Question),z3.forced=false∧Extern.BytealgMakeNoZero.makeNoZero ps #[t] #[.int .i64 n] =
  (do
   let .slice elem ← underlying t | stuck z1
   if (n:Int)<0 || (n:Int) > 2 ^ 48 then runtimePanic (.error z2)
   let cap ← choose (.appendCap (n:Int).toNat 0 elem)
   askRoom cap
   let bytes ← choose z3
   let a ← newRow elem (Extern.BytealgMakeNoZero.digits cap bytes #[])
   pure (.slice (some a) (n:Int).toNat cap)):=⟨_,_,_,rfl,rfl⟩
 refine ⟨Extern.BytealgMakeNoZero.digits (grownCap w n 0 e) (z3.cut (w.tape (w.drawn+1) z3)) #[],?_,?_,lR _ _ _ fun v hv=>by simp at hv⟩
 ·rw [hdef]
  have h1:¬ (n:Int)<0:=by omega
  have h2:¬ (281474976710656:Int)<(n:Int):=by omega
  simp [run_underlying ht,h1,h2,show ∀ a b c,(Question.appendCap a b c).forced=false from fun _ _ _=>rfl,hz3,newRow,Lib.size_digits,grownCap]
 ·rw [Lib.size_digits]
  simpa using grownCap_ge w n 0 e
section
variable {P:Program} {cf:Cf} {ops:Array Oper} {K:St→Ns→Prop} {r:List Oper} {s:St} {ns:Ns}
theorem FH (E:XEng P cf ops K) {d e n:Nat} {fv x:Operand} {at':Array TypeId} {ty:TypeId} {pos:String} {af:Array Edge} (f:FuncId)
  (hrun:∀ w:World,∃ cs:Array Value,(callFunc f #[.int .i64 n]).run P w=.ok (.value (.slice (some ⟨w.heap.size,0,none⟩) n cs.size)) (w.drew.drew.alloc (.cells cs e))∧n≤cs.size∧∀ v∈cs,v.oneCell'=true)
  (hd:d<cf.n∧d ∉ s.used) (hf:ev s fv=.clo f []) (hx:ev s x=.d (.int .i64 n))
  (hk:E.run r ((s.add d (.arrT (some e) none (List.replicate n .unk))).put d (.vw [d] 0 n)) (ns++[([],[[d]],[d])])) :
  E.stp { dst:=some d,op:=.call { callee:=.value fv,args:=#[x],argTypes:=at' },type:=ty,pos:=pos,after:=af,guard:=none } r s ns .no:=by
 have hgo:∀ s':St,(s'.add d (.arrT (some e) none (List.replicate n .unk))).put d (.vw [d] 0 n)=s'.go (some d) (.vw [d] 0 n) ⟨[([d],some (.arrT (some e) none (List.replicate n .unk)))],[d]⟩:=fun s'=>by unfold St.go;rw [oW];rfl
 rw [E.stp_eq]
 refine ⟨.vw [d] 0 n,([],⟨[([d],some (.arrT (some e) none (List.replicate n .unk)))],[d]⟩),fun s' hu hh he B hB ds' β a w hds hs Q'=>?_,fun q hq=>?_,hd.1,?_⟩
 ·have h1:ev s' fv=.clo f []:=(he fv (by simp [Op.operands,Call.operands])).trans hf
  have h2:ev s' x=.d (.int .i64 n):=(he x (by simp [Op.operands,Call.operands])).trans hx
  have hf':=hs.ev fv
  rw [h1] at hf'
  have hx':=hs.ev x
  rw [h2] at hx'
  have hx':=hx'.int
  generalize hfv:a.eval fv=fval at hf'
  cases hf' with
  | clo _ cvs _ hcs hcv =>
  have hc0:cvs=#[]:=Array.eq_empty_of_size_eq_zero (by simpa using hcs)
  subst hc0
  obtain ⟨cs,hrn,hle,hone⟩:=hrun w
  have e1:(execOp a.eval { dst:=some d,op:=.call { callee:=.value fv,args:=#[x],argTypes:=at' },type:=ty,pos:=pos,after:=af,guard:=none }:Sem Next)=callFunc f (#[]++#[x].map a.eval++#[]):=by
   show (do let d ← (Deferred.ofValue (a.eval fv) (#[x].map a.eval));invoke d.target d.args:Sem Next)=_
   rw [hfv];rfl
  have hdn:d<B.n:=by rw [hB.1];exact hd.1
  obtain ⟨β',hsim⟩:=cL (hs.jx (w':=w.drew.drew) rfl rfl) hdn (hu d (by simp)) (c:=cs) (wf:=none) (xs:=List.replicate n .unk) (cap:=cs.size) (by simpa using hle) (by simp [wd]) (fun y hy=>by rw [List.eq_of_mem_replicate hy];rfl)
   (fun i y j q hi hj=>by
    have hy:y=.unk:=List.eq_of_mem_replicate (List.mem_of_getElem? hi)
    subst hy
    have hil:i<n:=by have:=(List.getElem?_eq_some_iff.1 hi).1;simpa using this
    have hj0:j=0∧q=.unk:=by
     rcases j with _ | j
     ·have:some D.unk=some q:=hj
      exact ⟨rfl,(Option.some.inj this).symm⟩
     ·have:([D.unk]:List D)[j+1]?=some q:=hj
      simp at this
    obtain ⟨rfl,rfl⟩:=hj0
    refine .unk _ ?_
    have:i*wd none+0<cs.size:=by simp [wd];omega
    rw [Array.getD_eq_getD_getElem?,Array.getElem?_eq_getElem this]
    exact hone _ (Array.getElem_mem this)) e (some e) rfl
  rw [List.length_replicate] at hsim
  refine ax (v:=.slice (some ⟨w.heap.size,0,none⟩) n cs.size) (w':=w.drew.drew.alloc (.cells cs e)) (by simp) (by rw [e1];simpa [hx'] using hrn) (.inl rfl) ⟨hds,β',by rw [← hgo];exact hsim⟩
 ·obtain rfl:=List.mem_singleton.1 hq
  exact hd.2
 ·rw [← E.run_eq,← hgo]
  exact hk
theorem yr (E:XEng P cf ops K) {d t e:Nat} {x:Operand} {ty:TypeId} {pos:String} {af:Array Edge} {g:Option (Nat × Bool)} (hk:(P.ti t).k=.slice e) (hd:d<cf.n) (hx:ev s x=.d .nils) (h:E.run r (s.put d (.d (.int .i64 0))) (ns++[([],[],[])])) :
  E.stp { dst:=some d,op:=.call { callee:=.builtin .cap,args:=#[x],argTypes:=#[t] },type:=ty,pos:=pos,after:=af,guard:=g } r s ns .no:=by
 refine iI E (x:=.d (.int .i64 0)) [] (fun t ht=>by rw [Option.mem_def,Option.some.injEq] at ht;rw [← ht];exact hd) (fun s' _ he=>?_) h
 refine dX rfl hd (by simp) (fun B β a w hs=>⟨.int .i64 0,?_,.d _ _ (.int _ _)⟩) (by rw [cA];rfl)
 have hv:=hs.ev x
 rw [(he x (by simp [Op.operands,Call.operands])).trans hx] at hv
 have hv:=hv.nils
 simp [execOp,resolve,invoke,builtin,hv,Builtin.cap_,run_underlying (aN hk),goInt]
theorem F4 (E:XEng P cf ops K) {d t e n o b:Nat} {x h:Operand} {ty:TypeId} {pos:String} {af:Array Edge} {g:Option (Nat × Bool)} (p:Name) (tg:Option Nat) (wf:W) (xs:List D) (hk:(P.ti t).k=.slice e) (hw:(P.ti e).isW wf=true) (hd:d<cf.n)
  (hx:ev s x=.vw p o n) (hp:s.hp p=some (.arrT tg wf xs)) (hh:ev s h=.d (.int .i64 b)) (hb:b≤n) (hr:E.run r (s.put d (.vw p o b)) (ns++[([p],[],[])])) :
  E.stp { dst:=some d,op:=.slice t x none (some h) none,type:=ty,pos:=pos,after:=af,guard:=g } r s ns .no:=by
 refine iI E (x:=.vw p o b) [p] (fun q hq=>by rw [Option.mem_def,Option.some.injEq] at hq;rw [← hq];exact hd) (fun s' hhp he=>?_) hr
 refine dX rfl hd (by simp) (fun B β a w hs=>?_) (by rw [cA];rfl)
 have hvx:=hs.ev x
 have hvh:=hs.ev h
 rw [(he x (by simp [Op.operands])).trans hx] at hvx
 rw [(he h (by simp [Op.operands])).trans hh] at hvh
 have hp':s'.hp p=some (.arrT tg wf xs):=(hhp p (by simp)).trans hp
 obtain ⟨hg,hwd,_⟩:=bd hw
 have hu:=aN hk
 generalize hax:a.eval x=vx at hvx
 cases hvx with
 | vw _ _ _ _ hn h1' hx =>
   obtain ⟨hle,a0,cap,rfl,hx'⟩:=hx _ _ _ hp'
   have hcap:n≤cap:=by
    rcases hx' with ⟨rfl,rfl⟩ | ⟨k,_,_,h,_⟩
    ·exact Nat.le_refl _
    ·exact h
   have hbd:=cX (P:=P) true n cap none (some (.int .i64 b)) 0 b (.inl ⟨rfl,rfl⟩) (.inr ⟨_,rfl⟩) (Int.le_refl 0) (by omega) (by omega) w
   refine ⟨.slice (if cap=0 then a0 else a0.map (·.add (0*(P.ti e).sz))) b cap,?_,.vw _ _ _ _ hn rfl fun ty' w' xs' hp2=>?_⟩
   ·have e1:(Instr.sliceAt t (.slice a0 n cap) none (some (.int .i64 b)) none).run P w=.ok (.slice (if cap=0 then a0 else a0.map (·.add (0*(P.ti e).sz))) b cap) w:=by
     simp [Instr.sliceAt,run_underlying hu,Instr.slice,hbd,run_sizeOf hg]
    simp [execOp,hax,hvh.int,e1]
   ·rw [hp'] at hp2;cases hp2
    refine ⟨by omega,_,_,rfl,?_⟩
    by_cases hc0:cap=0
    ·exact .inl ⟨by omega,hc0⟩
    ·rw [if_neg hc0]
     rcases hx' with ⟨rfl,rfl⟩ | ⟨k,hk',rfl,h3,h4⟩
     ·exact absurd rfl hc0
     ·exact .inr ⟨k,hk',by simp [aY],by omega,h4⟩
theorem uv (E:XEng P cf ops K) {src dst' e:Nat} {x:Operand} {t:Nat} {ty:TypeId} {pos:String} {af:Array Edge} (p:Name) (o l:Nat) (bs:List UInt8) (hs:(P.ti src).k=.slice e) (he:(P.ti e).k=.int .u8) (hd:(P.ti dst').k=.str)
  (hx:ev s x=.vw p o l) (hl:aX none s.hp (.vw p o l)=some (bs.map fun b=>.int .u8 b.toNat)) (ht:t<cf.n) (hk:E.run r (s.put t (.d (.str bs))) (ns++[([p],[],[])])) :
  E.stp { dst:=some t,op:=.convert src dst' x,type:=ty,pos:=pos,after:=af,guard:=none } r s ns .no:=by
 refine iI E (x:=.d (.str bs)) [p] (fun q hq=>by rw [Option.mem_def,Option.some.injEq] at hq;rw [← hq];exact ht) (fun s' hh he'=>?_) hk
 refine fp bs hs he hd ?_ ht (by rw [cA];rfl)
 rw [(he' x (by simp [Op.operands])).trans hx]
 have e1:aX none s'.hp (.vw p o l)=aX none s.hp (.vw p o l):=by simp only [aX,hh p (by simp)]
 rw [e1];exact hl
end
section
variable {P:Program} {cf:Cf} {Q:Exit→St→Prop} {s:St} {k:List It}
theorem Bn (E:Eng P cf Q) {x y:Operand} {d:Nat} {dT sT e0:Nat} {ty:TypeId} {pos:String} {af:Array Edge} {p:Name} {off len:Nat} {tg:Option Nat} {zs:List D} (hd:d<cf.n) (hk:(P.ti dT).k=.slice e0) (hw:(P.ti e0).isW none=true)
  (hx:ev s x=.vw p off len) (hp:s.hp p=some (.arrT tg none zs)) (hy:ev s y=.d .nils) (h:E.run k (s.put d (.d (.int .i64 0)))) :
  E.stp { dst:=some d,op:=.call { callee:=.builtin .copy,args:=#[x,y],argTypes:=#[dT,sT] },type:=ty,pos:=pos,after:=af,guard:=none } s k .no:=by
 obtain ⟨hg,hwd,_⟩:=bd hw
 have hu:=aN hk
 have hsz:(P.info? e0).map (·.size)=some 1:=by
  obtain ⟨i,_,hi,_,_,hsz,_⟩:=bV hg
  rw [hi]
  simp only [Option.map_some,Option.some.injEq]
  rw [← hsz,← hwd];rfl
 refine jT E (x:=.d (.int .i64 0)) rfl hd (by simp) (fun B β a w hs=>⟨goInt 0,?_,.d _ _ (.int _ _)⟩) h
 have hvx:=hs.ev x
 rw [hx] at hvx
 have hvy:=hs.ev y
 rw [hy] at hvy
 have hvy:=hvy.nils
 generalize hax:a.eval x=vx at hvx
 cases hvx with
 | vw _ _ _ _ hn h1' hx' =>
 obtain ⟨hle,a0,cap,rfl,hx''⟩:=hx' _ _ _ hp
 have hr:=run_copy_none (P:=P) w dT sT ty e0 a0 none len cap 0 0 hu hsz (Nat.min_eq_left (Nat.zero_le _))
 simp [execOp,resolve,invoke,builtin,hax,hvy,hr,Result.andThen]
theorem w9 (E:Eng P cf Q) {d t u e:Nat} {x y:Operand} {ty:TypeId} {pos:String} {af:Array Edge} (tg:Option Nat) (p:Name) (xs:List D) (n:Nat) (l:List UInt8) (hk:(P.ti t).k=.slice e) (hu:(P.ti u).k=.str) (hz:(P.ti e).zOk=true) (hw:(P.ti e).isW (P.ti e).w=true) (hew:(P.ti e).w=none)
  (htg:tg.getD e=e) (hd:d<cf.n∧d ∉ s.used) (hx:ev s x=.vw p 0 n) (hp:s.hp p=some (.arrT tg none xs)) (hy:ev s y=.d (.str l)) (hl:(n+l.length)*(P.ti e).by1≤140737488355328)
  (h:E.run k (((s.set p none).add d (.arrT tg none (xs.take n++l.map byD))).put d (.vw [d] 0 (n+l.length)))) :
  E.stp { dst:=some d,op:=.call { callee:=.builtin .append,args:=#[x,y],argTypes:=#[t,u] },type:=ty,pos:=pos,after:=af,guard:=none } s k .no:=by
 rw [aB]
 rw [E.run_eq] at h
 intro B hB ds β a w hds hs Q'
 have hvx:=hs.ev x
 have hvy:=hs.ev y
 rw [hx] at hvx
 rw [hy] at hvy
 have hyv:a.eval y=.string ⟨l.toArray⟩:=by
  have g:∀ v,Rep w.heap (s.own B.A β) v (.str l)→v=.string ⟨l.toArray⟩:=fun v hv=>by
   cases hv with
   | str l=>rfl
  exact g _ hvy.toD
 obtain ⟨hg,hwd,_⟩:=bd hw
 have hus:P.underlying u=some .string:=dB hu
 have key:=ix (P:=P) (t:=t) (u:=u) (ys:=l.map byD) (news:=byteCells ⟨l.toArray⟩) hs hvx hp hk hz hw hew.symm ty htg (by rw [hB.1];exact hd.1) hd.2 (by rw [List.length_map];exact hl) (by rw [hew];exact l5 l) (yv:=.string ⟨l.toArray⟩) (fun it hi=>by
  have h1:=Src.ofString (P:=P) w hus ⟨l.toArray⟩
  have h2:it.size=1:=by
   have hz':=hz
   unfold TI.zOk at hz'
   split at hz'
   ·rename_i z hz1
    obtain ⟨_,_,_,it',hi',_,his,_⟩:=cK hz1
    rw [hi] at hi'
    cases hi'
    rw [his,← hwd,hew];rfl
   ·cases hz'
  rw [h2,List.length_map]
  exact h1)
 obtain ⟨v,w',β',hrun,hsim⟩:=key
 rw [List.drop_zero,List.length_map] at hsim
 refine ax (v:=v) (by simp) (by simp [execOp,resolve,invoke,builtin,hyv,hrun]) (.inl rfl) ⟨hds,_,β',aG h,hsim⟩
end
end Go.Ab

namespace Go.Proofs.YtejpnabbmgpmaaaGreatDoor
open Go.Ab
theorem ES {G} (s:List UInt8) (hl:s.length≤200000):HP Tryz.prog G 99 [.str s] (fun r=>r=.d (.str (quS s))):=by
 refine aj Tryz.func99 rfl (by decide +kernel) (by simp [Tryz.ntmps99]) (veil fun E=>?_)
 simp only [go_sem]
 refine aw E (X:={ x:Nat × List UInt8 // QpI s x.1 x.2 }) (fun x=>[(0,.d (.str s)),(3,.d (.str x.1.2)),(4,.d (i64 x.1.1))]) (fun _=>[]) [] (fun x=>s.length-x.1.1) ⟨(0,[34]),QpI.init s⟩ id ?_ ?_
 ·simp only [go_sem]
  all_goals ((repeat' apply And.intro)<;>first | rfl | trivial)
 rintro ⟨⟨i,acc⟩,hI⟩ E0
 refine aH E0 fun Q' hQ E'=>?_
 simp only at hI ⊢
 have hi:=hI.hi
 have ha:=hI.hl
 simp only [go_sem]
 refine ah E' (fun h1=>?_) (fun h1=>?_)<;>simp only [go_sem]
 ·have h1':i<s.length:=by omega
  refine ⟨by omega,?_⟩
  have hstp:=hI.step h1'
  generalize s.getD i 0=c at hstp ⊢
  refine ah E' (fun h3=>?_) (fun h3=>?_)<;>simp only [go_sem]
  ·have hq:quC c=[92,34]:=by have e:=b4 34 h3;subst e;decide
   rw [hq] at hstp
   refine ⟨by omega,?_⟩
   rw [hQ]
   simp only [go_sem]
   rw [ai (n:=(i:Int)+1) ⟨by omega,by omega⟩]
   refine ⟨⟨(i+1,acc++[92,34]),hstp⟩,by show s.length-(i+1)<s.length-i;omega,id,?_⟩
   simp only [go_sem]
   all_goals ((repeat' apply And.intro)<;>first | rfl | trivial)
  refine ah E' (fun h4=>?_) (fun h4=>?_)<;>simp only [go_sem]
  ·have hq:quC c=[92,92]:=by have e:=b4 92 h4;subst e;decide
   rw [hq] at hstp
   refine ⟨by omega,?_⟩
   rw [hQ]
   simp only [go_sem]
   rw [ai (n:=(i:Int)+1) ⟨by omega,by omega⟩]
   refine ⟨⟨(i+1,acc++[92,92]),hstp⟩,by show s.length-(i+1)<s.length-i;omega,id,?_⟩
   simp only [go_sem]
   all_goals ((repeat' apply And.intro)<;>first | rfl | trivial)
  refine ah E' (fun h5=>?_) (fun h5=>?_)<;>simp only [go_sem]
  ·have hq:quC c=[92,110]:=by have e:=b4 10 h5;subst e;decide
   rw [hq] at hstp
   refine ⟨by omega,?_⟩
   rw [hQ]
   simp only [go_sem]
   rw [ai (n:=(i:Int)+1) ⟨by omega,by omega⟩]
   refine ⟨⟨(i+1,acc++[92,110]),hstp⟩,by show s.length-(i+1)<s.length-i;omega,id,?_⟩
   simp only [go_sem]
   all_goals ((repeat' apply And.intro)<;>first | rfl | trivial)
  refine ah E' (fun h6=>?_) (fun h6=>?_)<;>simp only [go_sem]
  ·have hq:quC c=[92,116]:=by have e:=b4 9 h6;subst e;decide
   rw [hq] at hstp
   refine ⟨by omega,?_⟩
   rw [hQ]
   simp only [go_sem]
   rw [ai (n:=(i:Int)+1) ⟨by omega,by omega⟩]
   refine ⟨⟨(i+1,acc++[92,116]),hstp⟩,by show s.length-(i+1)<s.length-i;omega,id,?_⟩
   simp only [go_sem]
   all_goals ((repeat' apply And.intro)<;>first | rfl | trivial)
  refine ao E' (fun h7=>?_) (fun h7=>?_)<;>simp only [go_sem]
  ·refine ah E' (fun h8=>?_) (fun h8=>?_)<;>simp only [go_sem]
   ·have hq:quC c=[c]:=by
     unfold quC eK
     simp [aC 34 h3,aC 92 h4]
     intro h
     omega
    refine CT E' (e:=5) [c] (by rw [jB]) (by rw [ti5]) (by rw [ti9]) rfl (by simp only [go_sem]) ?_
    simp only [go_sem]
    rw [hq] at hstp
    refine ⟨by omega,?_⟩
    rw [hQ]
    simp only [go_sem]
    rw [ai (n:=(i:Int)+1) ⟨by omega,by omega⟩]
    refine ⟨⟨(i+1,acc++[c]),hstp⟩,by show s.length-(i+1)<s.length-i;omega,id,?_⟩
    simp only [go_sem]
    all_goals ((repeat' apply And.intro)<;>first | rfl | trivial)
   ·have hq:quC c=[92,120,cO (c.toNat / 16),cO (c.toNat % 16)]:=by
     unfold quC
     rw [if_neg (by unfold eK;simp;omega),if_neg (fun h=>h.elim (aC 34 h3) (aC 92 h4)),if_neg (aC 10 h5),if_neg (aC 9 h6)]
    have e1:=lQ c
    have e2:=mf c
    have hc:=c.toNat_lt
    refine al mixed E' fun X=>?_
    simp only [go_sem]
    rw [e1]
    refine ⟨by omega,?_⟩
    simp only [go_sem]
    rw [e2]
    refine ⟨by omega,?_⟩
    simp only [go_sem]
    refine uv X [25] 0 2 [cO (c.toNat / 16),cO (c.toNat % 16)] (by rw [jB]) (by rw [ti5]) (by rw [ti9]) (by simp only [go_sem]) (by simp only [go_sem];rfl) (by simp only [go_sem]) ?_
    simp only [go_sem]
    refine ⟨by omega,?_⟩
    refine ⟨by decide +kernel,?_⟩
    rw [hq] at hstp
    rw [hQ]
    simp only [go_sem]
    rw [ai (n:=(i:Int)+1) ⟨by omega,by omega⟩]
    refine ⟨⟨(i+1,acc++[92,120,cO (c.toNat / 16),cO (c.toNat % 16)]),hstp⟩,by show s.length-(i+1)<s.length-i;omega,id,?_⟩
    simp only [go_sem]
    all_goals ((repeat' apply And.intro)<;>first | rfl | trivial)
  ·have hq:quC c=[92,120,cO (c.toNat / 16),cO (c.toNat % 16)]:=by
    unfold quC
    rw [if_neg (by unfold eK;simp;omega),if_neg (fun h=>h.elim (aC 34 h3) (aC 92 h4)),if_neg (aC 10 h5),if_neg (aC 9 h6)]
   have e1:=lQ c
   have e2:=mf c
   have hc:=c.toNat_lt
   refine al mixed E' fun X=>?_
   simp only [go_sem]
   rw [e1]
   refine ⟨by omega,?_⟩
   simp only [go_sem]
   rw [e2]
   refine ⟨by omega,?_⟩
   simp only [go_sem]
   refine uv X [25] 0 2 [cO (c.toNat / 16),cO (c.toNat % 16)] (by rw [jB]) (by rw [ti5]) (by rw [ti9]) (by simp only [go_sem]) (by simp only [go_sem];rfl) (by simp only [go_sem]) ?_
   simp only [go_sem]
   refine ⟨by omega,?_⟩
   refine ⟨by decide +kernel,?_⟩
   rw [hq] at hstp
   rw [hQ]
   simp only [go_sem]
   rw [ai (n:=(i:Int)+1) ⟨by omega,by omega⟩]
   refine ⟨⟨(i+1,acc++[92,120,cO (c.toNat / 16),cO (c.toNat % 16)]),hstp⟩,by show s.length-(i+1)<s.length-i;omega,id,?_⟩
   simp only [go_sem]
   all_goals ((repeat' apply And.intro)<;>first | rfl | trivial)
 ·have he:i=s.length:=by omega
  subst he
  have hfin:=hI.fin
  rw [hQ]
  simp only [go_sem]
  refine ⟨by omega,?_⟩
  rw [hfin]
end Go.Proofs.YtejpnabbmgpmaaaGreatDoor

namespace Go.Proofs.YtejpnabbmgpmaaaGreatDoor
open Go.Ab
def xm:List (Name × Ob):=[([0],.boxT (some 53) [.bx [0] 0,.d .nils])]
def yj (n:Nat):List (Name × Ob):=[([0],.boxT (some 53) [.bx [0] 0,.vw [2] 0 0]),([2],.arrT (some 5) none (List.replicate n .unk))]
def pO (n:Nat):List (Name × Ob):=[([0],.boxT (some 53) [.bx [0] 0,.vw [1] 0 0]),([1],.arrT (some 5) none (List.replicate n .unk))]
theorem yb {G}:HCall Tryz.prog G 135 [.bx [0] 0] bG [0] (fun r hp'=>r=.tup []∧hp'=xm):=by
 unfold bG xm
 refine an Tryz.func135 rfl (by decide +kernel) (by simp [Tryz.ntmps135]) (veil fun E=>?_)
 simp only [go_sem]
 refine jP E (e:=53) true (by rw [lY]) (by simp only [go_sem]) rfl ?_
 simp only [go_sem]
 refine Dx E (e:=53) [0] 0 53 [.d .nilp,.d .nils] (by rw [lY]) Ca (by kernel_rfl) (by simp only [go_sem]) rfl rfl (by decide) ?_
 simp only [go_sem]
 refine tY E 154 (.bx [0] 0) noesc (by simp only [go_sem]) rfl rfl ?_
 simp only [go_sem]
 simp only [DB]
 simp only [go_sem]
 refine DA E (e:=53) [0] 0 53 [.d .nilp,.d .nils] (by rw [lY]) Ca (by kernel_rfl) (by simp only [go_sem]) rfl rfl 2 rfl (by kernel_rfl) ?_
 simp only [go_sem]
 refine ⟨_,_,[0],id,⟨rfl,rfl⟩,?_⟩
 simp only [go_sem]
theorem ET {G} (n:Nat):HCall Tryz.prog G 135 [.bx [0] 0] (pO n) [0,1] (fun r hp'=>r=.tup []∧hp'=pO n):=by
 unfold pO
 generalize List.replicate n D.unk=xs
 refine an Tryz.func135 rfl (by decide +kernel) (by simp [Tryz.ntmps135]) (veil fun E=>?_)
 simp only [go_sem]
 refine jP E (e:=53) false (by rw [lY]) (by simp only [go_sem]) rfl ?_
 simp only [go_sem]
 refine vv E (e:=53) [0] 0 (by rw [lY]) (by kernel_rfl) (by simp only [go_sem]) rfl rfl rfl ?_
 simp only [go_sem]
 refine ⟨_,_,[0,1],id,⟨rfl,rfl⟩,?_⟩
 simp only [go_sem]
theorem Ea {G} (n:Nat) (s:List UInt8) (hl:s.length≤100000000):HCall Tryz.prog G 108 [.bx [0] 0,.d (.str s)] (pO n) [0,1] (fun r hp'=>r=.tup [.d (i64 (s.length:Nat)),.d .nili]∧hp'=cY s):=by
 have h0:=ET (G:=G) n
 unfold pO at *
 unfold cY
 generalize List.replicate n D.unk=xs at *
 refine an Tryz.func108 rfl (by decide +kernel) (by simp [Tryz.ntmps108]) (veil fun E=>?_)
 simp only [go_sem]
 refine ab E [.bx [0] 0] [([0],.boxT (some 53) [.bx [0] 0,.vw [1] 0 0]),([1],.arrT (some 5) none xs)] [0,1] h0 rfl rfl ⟨by simp only [go_sem],by rw [aa];decide⟩ rfl (by simp only [go_sem]) (by simp only [go_sem]) ?_
 rintro _ _ ⟨rfl,rfl⟩
 simp only [go_sem]
 refine ⟨Nat.le_refl _,?_⟩
 refine w9 E (d:=14) (e:=5) (some 5) [1] xs 0 s (by rw [jB]) (by rw [ti9]) (by rw [ti5];rfl) (by rw [ti5];rfl) (by rw [ti5];rfl) rfl ⟨by simp only [go_sem],by rw [aa];decide⟩ rfl rfl rfl (by rw [ti5];simp [TI.by1];omega) ?_
 rw [List.take_zero,List.nil_append,Nat.zero_add]
 simp only [go_sem]
 refine ⟨_,_,[0,1,2],tau [([2],[14])],⟨rfl,rfl⟩,?_⟩
 simp only [go_sem]
theorem De (n:Nat) (hn:n≤281474976710656) (w:World):∃ cs:Array Value,(callFunc 166 #[.int .i64 n]).run Tryz.prog w=.ok (.value (.slice (some ⟨w.heap.size,0,none⟩) n cs.size)) (w.drew.drew.alloc (.cells cs 5))∧n≤cs.size∧∀ v∈cs,v.oneCell'=true:=by
 obtain ⟨cs,h1,h2,h3⟩:=CF (P:=Tryz.prog) w #[3] 51 5 (by kernel_rfl) n hn
 refine ⟨cs,?_,h2,h3⟩
 rw [run_callFunc_extern Tryz.func166 (by kernel_rfl) (by kernel_rfl) (by kernel_rfl) (e:=Extern.BytealgMakeNoZero.makeNoZero #[3] #[51]) (by kernel_rfl),h1]
 rfl
theorem CZ {G} (n:Nat) (hn:n≤200000000):HCall Tryz.prog G 153 [.bx [0] 0,.d (i64 (n:Int))] xm [0] (fun r hp'=>r=.tup []∧hp'=yj n):=by
 unfold xm yj
 refine an Tryz.func153 rfl (by decide +kernel) (by simp [Tryz.ntmps153]) (veil fun E=>?_)
 simp only [go_sem]
 refine al mixed E fun X=>?_
 simp only [go_sem]
 refine dD X (d:=6) [0] 0 (some 53) [.bx [0] 0,.d .nils] (by simp only [go_sem]) rfl rfl ?_
 simp only [go_sem]
 refine yr X (d:=9) (t:=51) (e:=5) (by rw [jB]) (by simp only [go_sem]) rfl ?_
 simp only [go_sem]
 have hw:w64 (w64 (2*0)+(n:Int))=(n:Int):=by rw [show w64 (2*0)=0 by decide +kernel,Int.zero_add,ai ⟨by omega,by omega⟩]
 refine FH X (d:=13) (e:=5) (n:=n) 166 (De n (by omega)) ⟨by simp only [go_sem],by rw [aa];decide⟩ rfl (by simp only [go_sem];rw [hw]) ?_
 simp only [go_sem]
 refine dD X (d:=15) [0] 0 (some 53) [.bx [0] 0,.d .nils] (by simp only [go_sem]) rfl rfl ?_
 simp only [go_sem]
 refine F4 X (d:=19) (t:=51) (e:=5) (b:=0) [13] (some 5) none (List.replicate n .unk) (by rw [jB]) (by rw [ti5];rfl) (by simp only [go_sem]) rfl rfl rfl (Nat.zero_le _) ?_
 simp only [go_sem]
 refine ⟨by decide +kernel,?_⟩
 refine Bn E (d:=25) (e0:=5) (by simp only [go_sem]) (by rw [jB]) (by rw [ti5];rfl) rfl rfl rfl ?_
 simp only [go_sem]
 refine ⟨_,_,[0,2],tau [([2],[13])],⟨rfl,rfl⟩,?_⟩
 simp only [go_sem]
theorem CP {G} (n:Nat) (h0:0<n) (hn:n≤200000000):HCall Tryz.prog G 131 [.bx [0] 0,.d (i64 (n:Int))] bG [0] (fun r hp'=>r=.tup []∧hp'=yj n):=by
 have hc:=yb (G:=G)
 have hg:=CZ (G:=G) n hn
 unfold yj bG xm at *
 generalize List.replicate n D.unk=xs at *
 refine an Tryz.func131 rfl (by decide +kernel) (by simp [Tryz.ntmps131]) (veil fun E=>?_)
 simp only [go_sem]
 refine ab E [.bx [0] 0] [([0],.boxT (some 53) [.d .nilp,.d .nils])] [0] hc rfl rfl ⟨by simp only [go_sem],by rw [aa];decide⟩ rfl (by simp only [go_sem]) (by simp only [go_sem]) ?_
 rintro _ _ ⟨rfl,rfl⟩
 simp only [go_sem]
 refine ah E (fun h1=>?_) (fun h1=>?_)<;>simp only [go_sem]
 ·omega
 refine al mixed E fun X=>?_
 simp only [go_sem]
 refine dD X (d:=10) [0] 0 (some 53) [.bx [0] 0,.d .nils] (by simp only [go_sem]) rfl rfl ?_
 simp only [go_sem]
 refine yr X (d:=13) (t:=51) (e:=5) (by rw [jB]) (by simp only [go_sem]) rfl ?_
 simp only [go_sem]
 refine dD X (d:=15) [0] 0 (some 53) [.bx [0] 0,.d .nils] (by simp only [go_sem]) rfl rfl ?_
 simp only [go_sem]
 refine ⟨by decide +kernel,?_⟩
 refine ah E (fun h2=>?_) (fun h2=>?_)<;>simp only [go_sem]
 ·refine ab E [.bx [0] 0,.d (i64 (n:Int))] [([0],.boxT (some 53) [.bx [0] 0,.d .nils])] [0] hg rfl rfl ⟨by simp only [go_sem],by rw [aa];decide⟩ rfl (by simp only [go_sem]) (by simp only [go_sem]) ?_
  rintro _ _ ⟨rfl,rfl⟩
  simp only [go_sem]
  refine ⟨_,_,[0,2],tau [([2],[24,2])],⟨rfl,rfl⟩,?_⟩
  simp only [go_sem]
 ·rw [show w64 0=0 by decide +kernel] at h2
  omega
theorem A4 (k:Nat) (h1:1≤k) (h2:k≤1000):2<(9223372036854775807:Int).tdiv (k:Int):=by
 rw [Int.tdiv_eq_ediv_of_nonneg (by decide)]
 have:(3:Int)≤9223372036854775807 / (k:Int):=(Int.le_ediv_iff_mul_le (by omega)).2 (by omega)
 omega
def cN (l:List (List UInt8)):Nat:=(l.map List.length).sum
theorem oK {l:List (List UInt8)} {i:Nat} (h:i<l.length):cN (l.take (i+1))=cN (l.take i)+(l.getD i []).length:=by
 unfold cN
 rw [List.take_succ_eq_append_getElem h,List.map_append,List.sum_append,List.getD_eq_getElem?_getD,List.getElem?_eq_getElem h]
 simp
theorem qg (l:List (List UInt8)) (i:Nat):cN (l.take i)≤cN l:=by
 have h:cN l=cN (l.take i)+cN (l.drop i):=by
  unfold cN
  rw [← List.sum_append,← List.map_append,List.take_append_drop]
 omega
theorem ny (r:List (List UInt8)):(r.flatMap (ei++·)).length=cN r+2*r.length:=by
 induction r with
 | nil=>rfl
 | cons a r ih =>
   rw [List.flatMap_cons,List.length_append,List.length_append,ih]
   unfold cN
   rw [List.map_cons,List.sum_cons,List.length_cons,show ei.length=2 from rfl]
   omega
theorem EE {G} (l:List (List UInt8)) (hn:l.length≤1000) (hs:cN l≤90000000):HP Tryz.prog G 97 [strs l,.str [44,32]] (fun r=>r=.d (.str (bY ei l))):=by
 unfold strs
 have hml:(l.map D.str).length=l.length:=List.length_map ..
 have hget:=fun i (h:i<l.length)=>fj (l:=l) h
 have hle:=qg l
 have hstp:=fun i (h:i<l.length)=>oK (l:=l) h
 refine aj Tryz.func97 rfl (by decide +kernel) (by simp [Tryz.ntmps97]) (veil fun E=>?_)
 simp only [go_sem]
 refine ah E (fun h0=>?_) (fun h0=>?_)<;>simp only [go_sem]
 ·have:l=[]:=List.length_eq_zero_iff.1 (by omega)
  rw [this];rfl
 refine ah E (fun h1=>?_) (fun h1=>?_)<;>simp only [go_sem]
 ·obtain ⟨a,rfl⟩:=List.length_eq_one_iff.1 (show l.length=1 by omega)
  refine ⟨by simp,?_⟩
  simp only [List.map_cons,List.map_nil,List.getD_cons_zero]
  simp only [go_sem]
  simp [bY]
 have hk:=A4 (l.length-1) (by omega) (by omega)
 have ew:w64 ((l.length:Int)-1)=((l.length-1:Nat):Int):=by rw [ai ⟨by omega,by omega⟩];omega
 have hk2:(9223372036854775807:Int).tdiv ((l.length-1:Nat):Int)≤9223372036854775807:=by
  rw [Int.tdiv_eq_ediv_of_nonneg (by decide)]
  exact Int.ediv_le_self _ (by decide)
 refine ⟨by rw [ew];omega,?_⟩
 refine ah E (fun h2=>?_) (fun h2=>?_)<;>simp only [go_sem]
 ·exfalso
  rw [ew,ai ⟨by omega,by omega⟩] at h2
  omega
 have e5:w64 (0+w64 (2*w64 ((l.length:Int)-1)))=((2*(l.length-1):Nat):Int):=by
  rw [ew,ai (n:=2*((l.length-1:Nat):Int)) ⟨by omega,by omega⟩,Int.zero_add,ai ⟨by omega,by omega⟩]
  omega
 have hall:=qg l
 refine aw E (X:={ i:Nat // i≤l.length }) (fun x=>[(0,.d (.sl none (l.map .str))),(1,.d (.str [44,32])),(5,.d (i64 ((2*(l.length-1)+cN (l.take x.1):Nat):Int))),(39,.d (.sl none (l.map .str))),(40,.d (i64 (l.length:Nat))),(41,.d (i64 x.1))])
  (fun _=>[]) [] (fun x=>l.length-x.1) ⟨0,Nat.zero_le _⟩ id ?_ ?_
 ·simp only [go_sem]
  rw [e5]
  all_goals ((repeat' apply And.intro)<;>first | rfl | trivial)
 rintro ⟨i,hi⟩ E0
 refine aH E0 fun Q' hQ E'=>?_
 simp only at hi ⊢
 simp only [go_sem]
 refine ah E' (fun g=>?_) (fun g=>?_)<;>simp only [go_sem]
 ·have hi':i<l.length:=by omega
  have h3:=hstp i hi'
  have h4:=hle (i+1)
  refine ⟨by omega,?_⟩
  rw [hget i hi']
  simp only [go_sem]
  generalize l.getD i []=s at h3 ⊢
  refine ah E' (fun g2=>?_) (fun g2=>?_)<;>simp only [go_sem]
  ·exfalso
   rw [ai ⟨by omega,by omega⟩] at g2
   omega
  rw [hQ]
  simp only [go_sem]
  rw [ai (n:=((2*(l.length-1)+cN (l.take i):Nat):Int)+(s.length:Int)) ⟨by omega,by omega⟩,ai (n:=(i:Int)+1) ⟨by omega,by omega⟩]
  refine ⟨⟨i+1,by omega⟩,by show l.length-(i+1)<l.length-i;omega,id,?_⟩
  simp only [go_sem]
  rw [show ((2*(l.length-1)+cN (l.take (i+1)):Nat):Int)=((2*(l.length-1)+cN (l.take i):Nat):Int)+(s.length:Int) by omega]
  all_goals ((repeat' apply And.intro)<;>first | rfl | trivial)
 have hi':i=l.length:=by omega
 subst hi'
 rw [List.take_length] at *
 rw [hQ]
 simp only [go_sem]
 obtain ⟨a,r,hl⟩:∃ a r,l=a::r:=by
  cases l with
  | nil=>simp at h0
  | cons a r=>exact ⟨a,r,rfl⟩
 subst hl
 rw [List.length_cons] at *
 have hsa:cN (a::r)=a.length+cN r:=by unfold cN;rw [List.map_cons,List.sum_cons]
 have hfl:=fun i=>ny (r.take i)
 have hrl:=qg r
 have hbd:∀ i,((r.take i).flatMap (ei++·)).length≤90000000+2000:=fun i=>by
  have h1:=hfl i
  have h2:=hrl i
  rw [List.length_take] at h1
  omega
 have hst2:∀ i,i<r.length→(r.take (i+1)).flatMap (ei++·)=(r.take i).flatMap (ei++·)++[44,32]++r.getD i []:=fun i hi=>by
  rw [List.take_succ_eq_append_getElem hi,List.flatMap_append,List.getD_eq_getElem?_getD,List.getElem?_eq_getElem hi]
  simp [ei]
 have hgr:=fun i (h:i<r.length)=>fj (l:=r) h
 have hel:∀ i,(r.getD i []).length≤90000000:=fun i=>by
  by_cases hi:i<r.length
  ·have h1:=oK hi
   have h2:=hrl (i+1)
   omega
  ·rw [List.getD_eq_getElem?_getD,List.getElem?_eq_none (by omega)]
   exact Nat.zero_le _
 refine bp E (tau [([0],[8])]) [.bx [0] 0,.d (i64 ((2*(r.length+1-1)+cN (a::r):Nat):Int))] bG [0] (CP (2*(r.length+1-1)+cN (a::r)) (by omega) (by omega)) rfl rfl ⟨by simp only [go_sem],by rw [aa];decide⟩ rfl (by unfold bG;simp only [go_sem]) (by unfold bG;simp only [go_sem]) ?_
 rintro _ _ ⟨rfl,rfl⟩
 unfold yj bG
 simp only [go_sem]
 refine ⟨by omega,?_⟩
 refine bp E (tau [([0],[8]),([1],[57,2])]) [.bx [0] 0,.d (.str a)] (pO (2*r.length+cN (a::r))) [0,1] (Ea _ a (by omega)) rfl rfl ⟨by simp only [go_sem],by rw [aa];decide⟩ rfl (by unfold pO;simp only [go_sem]) (by unfold pO;simp only [go_sem]) ?_
 rintro _ _ ⟨rfl,rfl⟩
 unfold cY pO
 simp only [go_sem]
 refine ⟨by omega,?_⟩
 refine aw E (X:={ i:Nat // i≤r.length }) (fun x=>[(1,.d (.str [44,32])),(8,.bx [0] 0),(63,.d (.sl none (r.map .str))),(64,.d (i64 (r.length:Nat))),(65,.d (i64 x.1))])
  (fun x=>au (a++(r.take x.1).flatMap (ei++·))) [0,1] (fun x=>r.length-x.1) ⟨0,Nat.zero_le _⟩ (tau [([0],[8]),([1],[61,2])]) ?_ ?_
 ·unfold au
  simp only [go_sem]
  rw [List.append_nil]
  all_goals ((repeat' apply And.intro)<;>first | rfl | trivial)
 rintro ⟨i,hi⟩ E0
 refine aH E0 fun Q' hQ E'=>?_
 simp only at hi ⊢
 have hb0:=hbd i
 have hs0:=hst2 i
 generalize hacc:a++(r.take i).flatMap (ei++·)=acc
 have hal:acc.length≤190000000:=by rw [← hacc,List.length_append];omega
 unfold au
 simp only [go_sem]
 refine ah E' (fun g=>?_) (fun g=>?_)<;>simp only [go_sem]
 ·have hi':i<r.length:=by omega
  refine ⟨by omega,?_⟩
  rw [hgr i hi']
  simp only [go_sem]
  have hs1:=hs0 hi'
  have hls:=hel i
  generalize r.getD i []=s at hs1 hls ⊢
  have hnx:a++(r.take (i+1)).flatMap (ei++·)=acc++[44,32]++s:=by rw [hs1,← hacc];simp only [List.append_assoc]
  refine ab E' [.bx [0] 0,.d (.str [44,32])] (au acc) [0,1] (gz acc [44,32] (by simp only [List.length_cons,List.length_nil];omega)) rfl rfl ⟨by simp only [go_sem],by rw [aa];decide⟩ rfl (by unfold au;simp only [go_sem]) (by unfold au;simp only [go_sem]) ?_
  rintro _ _ ⟨rfl,rfl⟩
  unfold cY au
  simp only [go_sem]
  refine bp E' (tau [([1],[70,2])]) [.bx [0] 0,.d (.str s)] (au (acc++[44,32])) [0,1] (gz (acc++[44,32]) s (by simp only [List.length_append,List.length_cons,List.length_nil];omega)) rfl rfl ⟨by simp only [go_sem],by rw [aa];decide⟩ rfl (by unfold au;simp only [go_sem]) (by unfold au;simp only [go_sem]) ?_
  rintro _ _ ⟨rfl,rfl⟩
  unfold cY au
  simp only [go_sem]
  rw [ai ⟨by omega,by omega⟩,hQ]
  simp only [go_sem]
  refine ⟨⟨i+1,by omega⟩,by show r.length-(i+1)<r.length-i;omega,tau [([1],[72,2])],?_⟩
  simp only [hnx]
  unfold au
  simp only [go_sem]
  all_goals ((repeat' apply And.intro)<;>first | rfl | trivial)
 ·have hi':i=r.length:=by omega
  subst hi'
  have hfr:=hfl r.length
  rw [List.take_length] at hacc hfr
  have hne:acc≠[]:=fun e=>by
   have:=congrArg List.length hacc
   rw [e,List.length_append] at this
   simp only [List.length_nil] at this
   omega
  rw [hQ]
  simp only [go_sem]
  refine ab E [.bx [0] 0] (au acc) [0,1] (pJ acc hne (by omega)) rfl rfl ⟨by simp only [go_sem],by rw [aa];decide⟩ rfl (by unfold au;simp only [go_sem]) (by unfold au;simp only [go_sem]) ?_
  rintro _ _ ⟨rfl,rfl⟩
  simp only [go_sem]
  rw [← hacc];rfl
end Go.Proofs.YtejpnabbmgpmaaaGreatDoor

namespace Go.Proofs.YtejpnabbmgpmaaaGreatDoor
open Go.Ab
mutual
def VT.fine:VT→Prop
 | .mk _ n s _ vs=>(inR n∧s.length≤200000)∧VT.fines vs
def VT.fines:List VT→Prop
 | []=>True
 | v::r=>v.fine∧VT.fines r
end
theorem eM:∀ l:List VT,VT.fines l↔∀ v∈l,v.fine
 | []=>by simp [VT.fines]
 | v::r=>by rw [VT.fines,eM r];simp
theorem Ay {v:VT} (h:v.fine):inR v.n∧v.s.length≤200000:=by
 cases v with
 | mk k n s nms vs=>rw [VT.fine] at h;exact h.1
theorem rN {v u:VT} (h:v.fine) (hu:u∈v.vs):u.fine:=by
 cases v with
 | mk k n s nms vs =>
   rw [VT.fine,eM] at h
   exact h.2 u hu
def itE (v:VT) (i:Nat):List UInt8:=v.nm i++eqB++(v.kid i).txt
theorem lC {v:VT} (ok:v.Ok) {i:Nat} (hi:i<v.vs.length):(j6 v.nms v.vs)[i]?=some (itE v i):=by
 have hn:i<v.nms.length:=by rw [ok.len];exact hi
 unfold j6 itE VT.nm VT.kid
 rw [List.getElem?_zipWith,List.getElem?_map,List.getElem?_eq_getElem hn,List.getElem?_eq_getElem hi,List.getD_eq_getElem?_getD,List.getD_eq_getElem?_getD,List.getElem?_eq_getElem hn,List.getElem?_eq_getElem hi]
 rfl
theorem o5 {v:VT} (ok:v.Ok):(j6 v.nms v.vs).length=v.vs.length:=by
 unfold j6
 rw [List.length_zipWith,List.length_map,ok.len,Nat.min_self]
theorem jt (sep:List UInt8):∀ (l:List (List UInt8)) (i:Nat),((l.take i).flatMap (sep++·)).length≤(l.flatMap (sep++·)).length
 | [],i=>by rw [List.take_nil];exact Nat.le_refl _
 | a::l,0=>by rw [List.take_zero];exact Nat.zero_le _
 | a::l,i+1=>by
   rw [List.take_succ_cons,List.flatMap_cons,List.flatMap_cons]
   simp only [List.length_append]
   have:=jt sep l i
   omega
theorem pR (sep:List UInt8) (l:List (List UInt8)) (i:Nat):(bY sep (l.take i)).length≤(bY sep l).length:=by
 cases l with
 | nil=>rw [List.take_nil];exact Nat.le_refl _
 | cons a l =>
   cases i with
   | zero=>rw [List.take_zero];exact Nat.zero_le _
   | succ i =>
     rw [List.take_succ_cons,bY,bY,List.length_append,List.length_append]
     have:=jt sep l i
     omega
theorem wY (sep:List UInt8) {l:List (List UInt8)} {i:Nat} {x:List UInt8} (hx:l[i]?=some x):bY sep (l.take (i+1))=if i=0 then x else bY sep (l.take i)++sep++x:=by
 obtain ⟨hi,hx⟩:=List.getElem?_eq_some_iff.1 hx
 cases l with
 | nil=>simp at hi
 | cons a l =>
   cases i with
   | zero =>
     simp only [List.getElem_cons_zero] at hx
     simp [bY,hx]
   | succ i =>
     simp only [List.getElem_cons_succ,List.length_cons] at hx hi
     rw [List.take_succ_cons,List.take_succ_cons,bY,bY,List.take_succ_eq_append_getElem (by omega),List.flatMap_append,if_neg (by omega),hx]
     simp [List.append_assoc]
theorem kB (sep:List UInt8):∀ (l:List (List UInt8)) (x:List UInt8),x∈l→x.length≤(l.flatMap (sep++·)).length
 | a::l,x,h=>by
   rw [List.flatMap_cons,List.length_append,List.length_append]
   rcases List.mem_cons.1 h with rfl | h
   ·omega
   ·have:=kB sep l x h
    omega
theorem kz (sep:List UInt8) {l:List (List UInt8)} {x:List UInt8} (h:x∈l):x.length≤(bY sep l).length:=by
 cases l with
 | nil=>cases h
 | cons a l =>
   rw [bY,List.length_append]
   rcases List.mem_cons.1 h with rfl | h
   ·omega
   ·have:=kB sep l x h
    omega
theorem uT {v:VT} (ok:v.Ok) (B:Bare v) {i:Nat} (hi:i<v.vs.length):(v.kid i).txt.length≤v.txt.length:=by
 have hk:=B.k
 by_cases h4:v.k≤4
 ·have:=(B.leaf h4).2
  rw [this] at hi
  simp at hi
 by_cases h5:v.k=5
 ·have:=kz ei (List.mem_of_getElem? (lC ok hi))
  rw [BC h5]
  unfold itE at this
  simp only [List.length_append,List.length_cons] at this ⊢
  omega
 ·have h6:v.k=6:=by omega
  obtain ⟨_,_,u,hu⟩:=B.t h6
  have hi0:i=0:=by rw [hu] at hi;simpa using hi
  subst hi0
  have e:v.kid 0=u:=by unfold VT.kid;rw [hu];rfl
  rw [Cp h6 hu,e]
  split<;>simp only [List.length_append,List.length_cons]<;>omega
theorem yE {tt:TypeId} {fz:Nat × Nat}:∀ (m:Nat) (v:VT),v.hg≤m→v.wf→v.may=true→v.fine→v.txt.length≤100000000→HP Tryz.prog (GT tt fz) 51 [v.dat] (fun r=>r=.d (.str v.txt))
 | 0,v,h,_,_,_,_=>absurd (gy v) (by omega)
 | m+1,v,h,hw,hm,hfi,hlen=>by
   have ok:=hw.ok
   have B:=mn ok hm
   have hpl:=ok.b6
   have hf:=ok.few
   have hk:=B.k
   obtain ⟨hn,hs⟩:=Ay hfi
   have hkid:∀ i,i<v.vs.length→HP Tryz.prog (GT tt fz) 51 [.agg [i64 (v.kid i).k,i64 (v.kid i).n,.str (v.kid i).s,.sl (some 5) (v.kid i).ps]] (fun r=>r=.d (.str (v.kid i).txt)):=fun i hi=>by
    have h1:=gJ (bh hi)
    have h2:=uT ok B hi
    have:=yE (tt:=tt) (fz:=fz) m (v.kid i) (by omega) (ok.kids _ (bh hi)) (p9 hm (bh hi)) (rN hfi (bh hi)) (by omega)
    rw [aq] at this
    exact this
   have t1:=@Ep v
   have t2:=@Eo v
   have t3:=@Fk v
   have t4:=@Eg v
   have t5:=@BC v
   have t6:=@Cp v
   generalize v.txt=T0 at hlen t1 t2 t3 t4 t5 t6 ⊢
   rw [aq]
   refine aj Tryz.func51 rfl (by decide +kernel) (by simp [Tryz.ntmps51]) (veil fun E=>?_)
   simp only [go_sem]
   refine ah E (fun h1=>?_) (fun h1=>?_)<;>simp only [go_sem]
   ·refine ae E (D7 v.n hn) rfl rfl (by simp) ?_
    rintro _ rfl
    simp only [go_sem]
    rw [t1 h1]
   refine ah E (fun h2=>?_) (fun h2=>?_)<;>simp only [go_sem]
   ·refine ah E (fun g=>?_) (fun g=>?_)<;>simp only [go_sem]
    ·rw [t2 h2,if_pos g];rfl
    ·rw [t2 h2,if_neg g];rfl
   refine ah E (fun h3=>?_) (fun h3=>?_)<;>simp only [go_sem]
   ·refine ae E (ES v.s hs) rfl rfl (by simp) ?_
    rintro _ rfl
    simp only [go_sem]
    rw [t3 h3]
   refine ah E (fun h4=>?_) (fun h4=>?_)<;>simp only [go_sem]
   ·rw [t4 h4];rfl
   refine ah E (fun h6=>?_) (fun h6=>?_)<;>simp only [go_sem]
   ·obtain ⟨_,_,u,hu⟩:=B.t h6
    have hi0:0<v.vs.length:=by rw [hu];simp
    have hku:v.kid 0=u:=by unfold VT.kid;rw [hu];rfl
    have ht:=t6 h6 hu
    have hc:=hkid 0 hi0
    have hg0:=ok.bD hi0
    rw [hku] at hc hg0
    clear t1 t2 t3 t4 t5 t6
    generalize u.txt=T at ht hc
    refine ⟨by omega,?_⟩
    rw [hg0]
    simp only [go_sem]
    refine ae E hc rfl rfl (by simp) ?_
    rintro _ rfl
    simp only [go_sem]
    refine ⟨by omega,?_⟩
    rw [hg0]
    simp only [go_sem]
    refine ah E (fun h7=>?_) (fun h7=>?_)<;>simp only [go_sem]
    ·rw [if_pos h7] at ht
     rw [ht] at hlen
     simp only [List.length_append,List.length_cons,List.length_nil] at hlen
     refine ⟨by omega,by omega,by omega,by simp only [List.length_append,List.length_cons,List.length_nil];omega,?_⟩
     rw [ht,List.append_assoc];rfl
    ·rw [if_neg h7] at ht
     rw [ht] at hlen
     simp only [List.length_append,List.length_cons,List.length_nil] at hlen
     refine ⟨by omega,by simp only [List.length_append,List.length_cons,List.length_nil];omega,?_⟩
     rw [ht,List.append_assoc];rfl
   have h5:v.k=5:=by omega
   have ht:=t5 h5
   clear t1 t2 t3 t4 t5 t6
   have hl2:=hlen
   rw [ht] at hl2
   have hrl:=o5 ok
   have hrg:=fun i (hi:i<v.vs.length)=>wY ei (lC ok hi)
   have hrb:=pR ei (j6 v.nms v.vs)
   have hfull:(j6 v.nms v.vs).take v.vs.length=j6 v.nms v.vs:=by rw [← hrl,List.take_length]
   simp only [List.length_append,List.length_cons] at hl2
   generalize j6 v.nms v.vs=L at hl2 ht hrl hrg hrb hfull
   refine aw E (X:={ i:Nat // i≤v.vs.length }) (fun x=>[(1,.bx [1] 0),(4,.d (.str (123::bY ei (L.take x.1)))),(5,.d (i64 x.1))])
    (fun _=>[([1],.box [.d (i64 v.k),.d (i64 v.n),.d (.str v.s),.d (.sl (some 5) v.ps)])]) [1] (fun x=>v.vs.length-x.1) ⟨0,Nat.zero_le _⟩ id ?_ ?_
   ·simp only [go_sem]
    all_goals ((repeat' apply And.intro)<;>first | rfl | trivial)
   rintro ⟨i,hi⟩ E0
   refine aH E0 fun Q' hQ E'=>?_
   simp only at hi ⊢
   simp only [go_sem]
   refine ah E' (fun g=>?_) (fun g=>?_)<;>simp only [go_sem]
   ·have hi':i<v.vs.length:=by omega
    have hst:=hrg i hi'
    have hle:=hrb (i+1)
    have hle0:=hrb i
    have hnm:=fZ (List.all_eq_true.1 (B.r h5) _ (ek (v:=v) (i:=i) (by rw [ok.len];exact hi')))
    have hc:=hkid i hi'
    have hg0:=ok.bD hi'
    rw [hst] at hle
    have hte:(itE v i)=v.nm i++eqB++(v.kid i).txt:=rfl
    refine ah E' (fun g0=>?_) (fun g0=>?_)<;>simp only [go_sem]
    ·rw [if_neg (by omega)] at hst hle
     rw [hte] at hst hle
     generalize (v.kid i).txt=T at hc hst hle
     generalize v.nm i=nm at hnm hg0 hst hle
     simp only [List.length_append,List.length_cons,List.length_nil,show eqB.length=3 from rfl,show ei.length=2 from rfl] at hle
     refine ⟨by omega,?_⟩
     refine al mixed E' fun X=>?_
     simp only [go_sem]
     refine ⟨by omega,?_⟩
     rw [hg0]
     simp only [go_sem]
     refine ⟨by omega,⟨by omega,by omega⟩,?_⟩
     rw [hg0]
     simp only [go_sem]
     refine aF X hc rfl rfl (by simp) ?_
     simp only [go_sem]
     refine ⟨by simp only [List.length_append,List.length_cons,List.length_nil];omega,by simp only [List.length_append,List.length_cons,List.length_nil];omega,by decide +kernel,?_⟩
     rw [hQ]
     simp only [go_sem]
     rw [ai (n:=(i:Int)+1) ⟨by omega,by omega⟩]
     refine ⟨⟨i+1,by omega⟩,by show v.vs.length-(i+1)<v.vs.length-i;omega,id,?_⟩
     simp only [hst]
     simp only [go_sem]
     all_goals ((repeat' apply And.intro)<;>first | rfl | trivial)
    ·have hi0:i=0:=by omega
     rw [if_pos hi0] at hst hle
     rw [hte] at hst hle
     generalize (v.kid i).txt=T at hc hst hle
     generalize v.nm i=nm at hnm hg0 hst hle
     simp only [List.length_append,List.length_cons,List.length_nil,show eqB.length=3 from rfl,show ei.length=2 from rfl] at hle
     have hst2:bY ei (L.take (i+1))=bY ei (L.take i)++(nm++eqB++T):=by rw [hst,hi0];rfl
     clear hst
     have hst:=hst2
     refine al mixed E' fun X=>?_
     simp only [go_sem]
     refine ⟨by omega,?_⟩
     rw [hg0]
     simp only [go_sem]
     refine ⟨by omega,⟨by omega,by omega⟩,?_⟩
     rw [hg0]
     simp only [go_sem]
     refine aF X hc rfl rfl (by simp) ?_
     simp only [go_sem]
     refine ⟨by simp only [List.length_append,List.length_cons,List.length_nil];omega,by simp only [List.length_append,List.length_cons,List.length_nil];omega,by decide +kernel,?_⟩
     rw [hQ]
     simp only [go_sem]
     rw [ai (n:=(i:Int)+1) ⟨by omega,by omega⟩]
     refine ⟨⟨i+1,by omega⟩,by show v.vs.length-(i+1)<v.vs.length-i;omega,id,?_⟩
     simp only [hst]
     simp only [go_sem]
     all_goals ((repeat' apply And.intro)<;>first | rfl | trivial)
   ·have hi':i=v.vs.length:=by omega
    subst hi'
    rw [hQ]
    simp only [go_sem]
    rw [hfull]
    refine ⟨by omega,?_⟩
    rw [ht]
end Go.Proofs.YtejpnabbmgpmaaaGreatDoor

namespace Go.Proofs.YtejpnabbmgpmaaaGreatDoor
open Go.Ab
def bu (v:VT) (i:Nat):Prop:=i≤v.vs.length∧(v.vs.take i).all VT.may=true∧(v.k=5→(v.nms.take i).all aD=true)
theorem bu.zero (v:VT):bu v 0:=⟨Nat.zero_le _,rfl,fun _=>rfl⟩
theorem bu.step {v:VT} (ok:v.Ok) {i:Nat} (h:bu v i) (hi:i<v.vs.length) (h1:(v.kid i).may=true) (h2:v.k=5→aD (v.nm i)=true):bu v (i+1):=by
 obtain ⟨_,g1,g2⟩:=h
 refine ⟨hi,?_,fun h5=>?_⟩
 ·rw [List.take_succ_eq_append_getElem hi,List.all_append,g1]
  unfold VT.kid at h1
  rw [List.getD_eq_getElem?_getD,List.getElem?_eq_getElem hi] at h1
  simpa using h1
 ·have hn:i<v.nms.length:=by rw [ok.len];exact hi
  have h2:=h2 h5
  rw [List.take_succ_eq_append_getElem hn,List.all_append,g2 h5]
  unfold VT.nm at h2
  rw [List.getD_eq_getElem?_getD,List.getElem?_eq_getElem hn] at h2
  simpa using h2
theorem fI {v:VT} (ok:v.Ok) {i:Nat} (hi:i<v.vs.length) (h:(v.kid i).may=false∨(v.k=5∧aD (v.nm i)=false)):v.may=false:=by
 rw [dF]
 rcases h with h | ⟨h5,h⟩
 ·have:v.vs.all VT.may=false:=by
   rw [Bool.eq_false_iff]
   intro g
   have:=List.all_eq_true.1 g _ (bh hi)
   rw [h] at this
   cases this
  rw [this];simp
 ·have hn:i<v.nms.length:=by rw [ok.len];exact hi
  have:v.nms.all aD=false:=by
   rw [Bool.eq_false_iff]
   intro g
   have:=List.all_eq_true.1 g _ (ek hn)
   rw [h] at this
   cases this
  rw [this,h5];simp
theorem fw {v:VT} (h:bu v v.vs.length) (ok:v.Ok) (hb:ba v.k v.n v.s v.nms=true):v.may=decide v.nms.Nodup:=by
 obtain ⟨_,g1,g2⟩:=h
 rw [List.take_length] at g1
 rw [dF,hb,g1]
 by_cases h5:v.k=5
 ·have:=g2 h5
  rw [← ok.len,List.take_length] at this
  rw [this];simp
 ·simp [h5]
def aM (l:List (List UInt8)):List D:=l.map .str
theorem dt {v:VT} (ok:v.Ok) {i:Nat} (hi:i<v.vs.length):aM (v.nms.take (i+1))=aM (v.nms.take i)++[.str (v.nm i)]:=by
 have hn:i<v.nms.length:=by rw [ok.len];exact hi
 unfold aM VT.nm
 rw [List.take_succ_eq_append_getElem hn,List.map_append,List.getD_eq_getElem?_getD,List.getElem?_eq_getElem hn];rfl
theorem eC {v:VT} (ok:v.Ok) {i:Nat} (hi:i≤v.vs.length):(aM (v.nms.take i)).length=i:=by
 unfold aM
 rw [List.length_map,List.length_take,ok.len];omega
theorem iR {G}:∀ (m:Nat) (v:VT),v.hg≤m→v.wf→HP Tryz.prog G 16 [v.dat] (fun r=>r=.d (.bool v.may))
 | 0,v,h,_=>absurd (gy v) (by omega)
 | m+1,v,h,hw=>by
   have ok:=hw.ok
   have hpl:=ok.b6
   have hf:=ok.few
   have hnl:=ok.len
   have hbr:=EY (G:=G) v hw
   have hkid:∀ i,i<v.vs.length→HP Tryz.prog G 16 [.agg [i64 (v.kid i).k,i64 (v.kid i).n,.str (v.kid i).s,.sl (some 5) (v.kid i).ps]] (fun r=>r=.d (.bool (v.kid i).may)):=fun i hi=>by
    have h1:=gJ (bh hi)
    have:=iR (G:=G) m (v.kid i) (by omega) (ok.kids _ (bh hi))
    rw [aq] at this
    exact this
   have htw:=tD (G:=G) v.nms (by omega)
   have hR1:=fun h:bu v v.vs.length=>fw h ok
   have hR2:∀ i,i<v.vs.length→((v.kid i).may=false∨(v.k=5∧aD (v.nm i)=false))→v.may=false:=fun i hi=>fI ok hi
   have hR3:ba v.k v.n v.s v.nms=false→v.may=false:=fun h=>by rw [dF,h];rfl
   have hst:=fun i=>bu.step (v:=v) (i:=i) ok
   generalize v.may=R at hR1 hR2 hR3 ⊢
   generalize ba v.k v.n v.s v.nms=bb at hbr hR1 hR3
   rw [aq] at hbr ⊢
   refine aj Tryz.func16 rfl (by decide +kernel) (by simp [Tryz.ntmps16]) (veil fun E=>?_)
   simp only [go_sem]
   refine ae E hbr rfl rfl (by simp) ?_
   rintro _ rfl
   simp only [go_sem]
   refine aI E (fun hb=>?_) (fun hb=>?_)<;>simp only [go_sem]
   ·rw [hR3 (by simpa using hb)]
   have hb:bb=true:=by simpa using hb
   refine pj E 3 97 none (by simp only [go_sem]) (by rw [aa];decide) ?_
   simp only [go_sem]
   refine aw E (X:={ i:Nat // bu v i }) (fun x=>[(1,.bx [1] 0),(3,.vw [97] 0 x.1),(10,.d (.sl (some 5) v.ps)),(11,.d (i64 (v.ps.length:Nat))),(12,.d (i64 x.1))])
    (fun x=>[([1],.box [.d (i64 v.k),.d (i64 v.n),.d (.str v.s),.d (.sl (some 5) v.ps)]),([97],.arr none (aM (v.nms.take x.1)))]) [1,97] (fun x=>v.vs.length-x.1) ⟨0,bu.zero v⟩ id ?_ ?_
   ·simp only [go_sem]
    all_goals ((repeat' apply And.intro)<;>first | rfl | trivial)
   rintro ⟨i,hI⟩ E0
   refine aH E0 fun Q' hQ E'=>?_
   simp only at hI ⊢
   have hi:=hI.1
   have hnl2:=eC ok hi
   simp only [go_sem]
   refine ah E' (fun g=>?_) (fun g=>?_)<;>simp only [go_sem]
   ·have hi':i<v.vs.length:=by omega
    have hn':i<v.nms.length:=by omega
    refine ⟨by omega,?_⟩
    rw [ok.bD hi']
    simp only [go_sem]
    refine ae E' (hkid i hi') rfl rfl (by simp) ?_
    rintro _ rfl
    simp only [go_sem]
    have hstp:=dt ok hi'
    have hnm:=o7 (G:=G) (v.nm i) (ok.nl _ (ek hn'))
    have go:(v.kid i).may=true→(v.k=5→aD (v.nm i)=true)→bu v (i+1):=hst i hI hi'
    have bad:=hR2 i hi'
    generalize (v.kid i).may=km at go bad ⊢
    generalize aD (v.nm i)=nb at hnm go bad ⊢
    cases km with
    | false =>
      simp only [go_sem]
      rw [hQ]
      simp only [go_sem]
      rw [bad (.inl rfl)]
    | true =>
      simp only [go_sem]
      refine ao E' (fun g5=>?_) (fun g5=>?_)<;>simp only [go_sem]
      ·refine ae E' hnm rfl rfl (by simp) ?_
       rintro _ rfl
       cases nb with
       | false =>
         simp only [go_sem]
         rw [hQ]
         simp only [go_sem]
         rw [bad (.inr ⟨g5,rfl⟩)]
       | true =>
         simp only [go_sem]
         refine ⟨by omega,?_⟩
         rw [List.take_of_length_le (show (aM (v.nms.take i)).length≤i by omega),← hstp]
         rw [hQ]
         simp only [go_sem]
         rw [ai (n:=(i:Int)+1) ⟨by omega,by omega⟩]
         refine ⟨⟨i+1,go rfl fun _=>rfl⟩,by show v.vs.length-(i+1)<v.vs.length-i;omega,tau [([97],[35])],?_⟩
         simp only [go_sem]
         all_goals ((repeat' apply And.intro)<;>first | rfl | trivial)
      ·refine ⟨by omega,?_⟩
       rw [List.take_of_length_le (show (aM (v.nms.take i)).length≤i by omega),← hstp]
       rw [hQ]
       simp only [go_sem]
       rw [ai (n:=(i:Int)+1) ⟨by omega,by omega⟩]
       refine ⟨⟨i+1,go rfl fun h=>absurd h g5⟩,by show v.vs.length-(i+1)<v.vs.length-i;omega,tau [([97],[35])],?_⟩
       simp only [go_sem]
       all_goals ((repeat' apply And.intro)<;>first | rfl | trivial)
   ·have hi':i=v.vs.length:=by omega
    subst hi'
    have hfull:aM (v.nms.take v.vs.length)=aM v.nms:=by rw [← hnl,List.take_length]
    rw [hQ]
    simp only [go_sem]
    rw [hfull]
    unfold strs at htw
    refine dx E [97] none (aM v.nms) rfl (by simp only [go_sem];rfl) ?_
    simp only [go_sem]
    rw [show List.take v.vs.length (aM v.nms)=v.nms.map .str by unfold aM;exact List.take_of_length_le (by rw [List.length_map];omega)]
    refine ae E htw rfl rfl (by simp) ?_
    rintro _ rfl
    simp only [go_sem]
    rw [hR1 hI hb]
    unfold twice
    simp
end Go.Proofs.YtejpnabbmgpmaaaGreatDoor

