/-
  Whether two values are the same, by the program and by the document. (with the parts that follow it)
-/
import Derived.Test.YtejpnabbmgpmaaaGreatDoorVPI
import Derived.Test.YtejpnabbmgpmaaaGreatDoorVPG
import Derived.Test.YtejpnabbmgpmaaaGreatDoorVPF
import Derived.Test.YtejpnabbmgpmaaaGreatDoorVPH
import Derived.Test.YtejpnabbmgpmaaaGreatDoorVPE
set_option linter.all false
namespace Go.Proofs.YtejpnabbmgpmaaaGreatDoor
open Go.Ab
def vfE (v:VT) (i:Nat):D:=.agg [.str (v.nm i),i64 (v.kid i).k,i64 (v.kid i).n,.str (v.kid i).s,.sl (some 5) (v.kid i).ps]
def cQ (a b:VT) (i:Nat):Bool:=(a.nm i == b.nm i) && (a.kid i).eq (b.kid i)
theorem ra {a b:VT} (oa:a.Ok) (ob:b.Ok) (hk:a.k=b.k) (hn:a.n=b.n) (hs:a.s=b.s) (hl:a.vs.length=b.vs.length) (h:∀ i,i<a.vs.length→cQ a b i=true):a.eq b=true:=by
 rw [eq_iff]
 have hna:=oa.len
 have hnb:=ob.len
 have h1:a.nms=b.nms:=by
  refine List.ext_getElem (by omega) fun i g1 g2=>?_
  have:=h i (by omega)
  unfold cQ at this
  rw [Bool.and_eq_true] at this
  have:=eq_of_beq this.1
  unfold VT.nm at this
  simpa [List.getD_eq_getElem?_getD,g1,g2] using this
 have h2:a.vs=b.vs:=by
  refine List.ext_getElem hl fun i g1 g2=>?_
  have:=h i g1
  unfold cQ at this
  rw [Bool.and_eq_true,eq_iff] at this
  have:=this.2
  unfold VT.kid at this
  simpa [List.getD_eq_getElem?_getD,g1,g2] using this
 cases a;cases b
 simp only [VT.k,VT.n,VT.s,VT.nms,VT.vs] at *
 subst hk hn hs h1 h2
 rfl
theorem AW {a b:VT} (h:a≠b):a.eq b=false:=by
 rw [Bool.eq_false_iff]
 intro g
 exact h ((eq_iff a b).1 g)
theorem uZ {a b:VT} {i:Nat} (h:cQ a b i=false):a.eq b=false:=by
 refine AW fun e=>?_
 subst e
 unfold cQ at h
 rw [(eq_iff (a.kid i) (a.kid i)).2 rfl] at h
 simp at h
theorem CV {G} {x y:List UInt8} {v w:VT} (h:HP Tryz.prog G 53 [v.dat,w.dat] (fun r=>r=.d (.bool (v.eq w)))):HP Tryz.prog G 101 [.agg [.str x,i64 v.k,i64 v.n,.str v.s,.sl (some 5) v.ps],.agg [.str y,i64 w.k,i64 w.n,.str w.s,.sl (some 5) w.ps]] (fun r=>r=.d (.bool ((x == y) && v.eq w))):=by
 rw [aq,aq] at h
 generalize v.eq w=e at h ⊢
 refine aj Tryz.func101 rfl (by decide +kernel) (by simp [Tryz.ntmps101]) (veil fun E=>?_)
 simp only [go_sem]
 refine bl E (fun g=>?_) (fun g=>?_)<;>simp only [go_sem]
 ·refine ae E h rfl rfl (by simp) ?_
  rintro _ rfl
  simp only [go_sem]
  rw [g,Bool.true_and]
 ·rw [g];rfl
theorem Dc {G} {a b:VT} (oa:a.Ok) (ob:b.Ok) (h:∀ i,i<a.vs.length→i<b.vs.length→HP Tryz.prog G 101 [vfE a i,vfE b i] (fun r=>r=.d (.bool (cQ a b i)))) :
  HP Tryz.prog G 100 [.sl (some 5) a.ps,.sl (some 5) b.ps,.clo 101 []] (fun r=>r=.d (.bool (decide (a.vs.length=b.vs.length) && (List.range a.vs.length).all (cQ a b)))):=by
 have ha:=oa.b6
 have hb:=ob.b6
 have hfa:=oa.few
 have hfb:=ob.few
 have hga:=fun i (hi:i<a.vs.length)=>oa.bD hi
 have hgb:=fun i (hi:i<b.vs.length)=>ob.bD hi
 unfold vfE at h
 refine aj Tryz.func100 rfl (by decide +kernel) (by simp [Tryz.ntmps100]) (veil fun E=>?_)
 simp only [go_sem]
 refine ah E (fun g=>?_) (fun g=>?_)<;>simp only [go_sem]
 ·rw [decide_eq_false (by omega),Bool.false_and]
 have hl:a.vs.length=b.vs.length:=by omega
 refine aw E (X:={ i:Nat // i≤a.vs.length∧∀ j,j<i→cQ a b j=true }) (fun x=>[(1,.d (.sl (some 5) b.ps)),(2,.d (.clo 101 [])),(15,.d (.sl (some 5) a.ps)),(16,.d (i64 (a.ps.length:Nat))),(17,.d (i64 x.1))])
  (fun _=>[]) [] (fun x=>a.vs.length-x.1) ⟨0,Nat.zero_le _,fun _ h=>absurd h (Nat.not_lt_zero _)⟩ id ?_ ?_
 ·simp only [go_sem]
  all_goals ((repeat' apply And.intro)<;>first | rfl | trivial)
 rintro ⟨i,hi,hj⟩ E0
 refine aH E0 fun Q' hQ E'=>?_
 simp only at hi hj ⊢
 simp only [go_sem]
 refine ah E' (fun g2=>?_) (fun g2=>?_)<;>simp only [go_sem]
 ·have hi':i<a.vs.length:=by omega
  refine ⟨by omega,?_⟩
  rw [hga i hi']
  simp only [go_sem]
  refine ⟨by omega,?_⟩
  rw [hgb i (by omega)]
  simp only [go_sem]
  refine lI E' (h i hi' (by omega)) rfl rfl (by simp) ?_
  rintro _ rfl
  simp only [go_sem]
  refine aI E' (fun g3=>?_) (fun g3=>?_)<;>simp only [go_sem]
  ·have g3:cQ a b i=false:=by simpa using g3
   have:(List.range a.vs.length).all (cQ a b)=false:=by
    rw [Bool.eq_false_iff]
    intro q
    have:=List.all_eq_true.1 q i (List.mem_range.2 hi')
    rw [g3] at this
    cases this
   rw [hQ]
   simp only [go_sem]
   rw [this,Bool.and_false]
  ·have g3:cQ a b i=true:=by simpa using g3
   rw [hQ]
   simp only [go_sem]
   rw [ai (n:=(i:Int)+1) ⟨by omega,by omega⟩]
   refine ⟨⟨i+1,by omega,fun j h=>?_⟩,by show a.vs.length-(i+1)<a.vs.length-i;omega,id,?_⟩
   ·rcases Nat.lt_succ_iff_lt_or_eq.1 h with h | rfl
    ·exact hj j h
    ·exact g3
   simp only [go_sem]
   all_goals ((repeat' apply And.intro)<;>first | rfl | trivial)
 ·have:(List.range a.vs.length).all (cQ a b)=true:=List.all_eq_true.2 fun j h=>hj j (by have:=List.mem_range.1 h;omega)
  rw [hQ]
  simp only [go_sem]
  rw [this,decide_eq_true hl];rfl
theorem Ax {G}:∀ (m:Nat) (a b:VT),a.hg≤m→a.wf→b.wf→HP Tryz.prog G 53 [a.dat,b.dat] (fun r=>r=.d (.bool (a.eq b)))
 | 0,a,_,h,_,_=>absurd (gy a) (by omega)
 | m+1,a,b,h,hwa,hwb=>by
   have oa:=hwa.ok
   have ob:=hwb.ok
   have c:=Dc (G:=G) oa ob fun i h1 h2=>CV (Ax m (a.kid i) (b.kid i) (by have:=gJ (bh h1);omega) (oa.kids _ (bh h1)) (ob.kids _ (bh h2)))
   have hp:=fun h1 h2 h3 h4=>ra (a:=a) (b:=b) oa ob h1 h2 h3 h4
   have hno:=@AW a b
   have hpa:=fun i=>@uZ a b i
   generalize a.eq b=R at hp hno hpa ⊢
   rw [aq,aq]
   refine aj Tryz.func53 rfl (by decide +kernel) (by simp [Tryz.ntmps53]) (veil fun E=>?_)
   simp only [go_sem]
   refine ao E (fun h1=>?_) (fun h1=>?_)<;>simp only [go_sem]
   ·rw [hno fun e=>h1 (by rw [e])]
   refine ao E (fun h2=>?_) (fun h2=>?_)<;>simp only [go_sem]
   ·rw [hno fun e=>h2 (by rw [e])]
   refine aI E (fun h3=>?_) (fun h3=>?_)<;>simp only [go_sem]
   ·have h3:¬ a.s=b.s:=by simpa using h3
    rw [hno fun e=>h3 (by rw [e])]
   have h1:a.k=b.k:=by simpa using h1
   have h2:a.n=b.n:=by simpa using h2
   have h3:a.s=b.s:=by simpa using h3
   have c3:=HP.clo (args:=[.d (.sl (some 5) a.ps),.d (.sl (some 5) b.ps),.clo 101 []]) rfl (fun i x y hx hy=>by
    rcases i with _ | _ | _ | i
    ·cases hx;cases hy;exact .inl rfl
    ·cases hx;cases hy;exact .inl rfl
    ·cases hx;cases hy;exact .inr ⟨101,rfl,rfl⟩
    ·cases hx) c
   refine ab E [.d (.sl (some 5) a.ps),.d (.sl (some 5) b.ps),.clo 101 []] [] [] c3 rfl rfl ⟨by simp only [go_sem],by rw [aa];decide⟩ rfl (by simp only [go_sem]) (by simp only [go_sem]) ?_
   rintro _ _ ⟨rfl,_,rfl⟩
   simp only [go_sem]
   by_cases hl:a.vs.length=b.vs.length
   ·rw [decide_eq_true hl,Bool.true_and]
    cases hall:(List.range a.vs.length).all (cQ a b) with
    | true=>rw [hp h1 h2 h3 hl fun i hi=>List.all_eq_true.1 hall i (List.mem_range.2 hi)]
    | false =>
      obtain ⟨i,hi,hs⟩:∃ i,i∈List.range a.vs.length∧cQ a b i=false:=by
       refine Classical.byContradiction fun hn=>?_
       have:(List.range a.vs.length).all (cQ a b)=true:=List.all_eq_true.2 fun i hi=>by
        cases hq:cQ a b i with
        | true=>rfl
        | false=>exact absurd ⟨i,hi,hq⟩ hn
       rw [hall] at this
       cases this
      rw [hpa i hs]
   ·rw [decide_eq_false hl,Bool.false_and,hno fun e=>hl (by rw [e])]
theorem zp {G}:∀ (m:Nat) (a b:VT),a.hg≤m→a.wf→b.wf→HP Tryz.prog G 15 [a.dat,b.dat] (fun r=>r=.d (.bool (a.eq b)))
 | 0,a,_,h,_,_=>absurd (gy a) (by omega)
 | m+1,a,b,h,hwa,hwb=>by
   have oa:=hwa.ok
   have ob:=hwb.ok
   have ha:=oa.b6
   have hb:=ob.b6
   have hfa:=oa.few
   have hfb:=ob.few
   have hga:=fun i (hi:i<a.vs.length)=>oa.bD hi
   have hgb:=fun i (hi:i<b.vs.length)=>ob.bD hi
   have c:∀ i,i<a.vs.length→i<b.vs.length→HP Tryz.prog G 15 [.agg [i64 (a.kid i).k,i64 (a.kid i).n,.str (a.kid i).s,.sl (some 5) (a.kid i).ps],.agg [i64 (b.kid i).k,i64 (b.kid i).n,.str (b.kid i).s,.sl (some 5) (b.kid i).ps]] (fun r=>r=.d (.bool ((a.kid i).eq (b.kid i)))):=fun i h1 h2=>by
    have:=zp (G:=G) m (a.kid i) (b.kid i) (by have:=gJ (bh h1);omega) (oa.kids _ (bh h1)) (ob.kids _ (bh h2))
    rw [aq,aq] at this
    exact this
   have hp:=fun h1 h2 h3 h4=>ra (a:=a) (b:=b) oa ob h1 h2 h3 h4
   have hno:=@AW a b
   have hpa:=fun i=>@uZ a b i
   generalize a.eq b=R at hp hno hpa ⊢
   rw [aq,aq]
   refine aj Tryz.func15 rfl (by decide +kernel) (by simp [Tryz.ntmps15]) (veil fun E=>?_)
   simp only [go_sem]
   refine ao E (fun h1=>?_) (fun h1=>?_)<;>simp only [go_sem]
   ·rw [hno fun e=>h1 (by rw [e])]
   refine ao E (fun h2=>?_) (fun h2=>?_)<;>simp only [go_sem]
   ·rw [hno fun e=>h2 (by rw [e])]
   refine bl E (fun h3=>?_) (fun h3=>?_)<;>simp only [go_sem]
   ·have h3:¬ a.s=b.s:=by simpa using h3
    rw [hno fun e=>h3 (by rw [e])]
   refine ah E (fun h4=>?_) (fun h4=>?_)<;>simp only [go_sem]
   ·rw [hno fun e=>h4 (by rw [e])]
   have h1:a.k=b.k:=by simpa using h1
   have h2:a.n=b.n:=by simpa using h2
   have h3:a.s=b.s:=by simpa using h3
   have hl:a.vs.length=b.vs.length:=by omega
   refine aw E (X:={ i:Nat // i≤a.vs.length∧∀ j,j<i→cQ a b j=true }) (fun x=>[(2,.bx [2] 0),(3,.bx [3] 0),(5,.d (i64 x.1))])
    (fun _=>[([2],.box [.d (i64 a.k),.d (i64 a.n),.d (.str a.s),.d (.sl (some 5) a.ps)]),([3],.box [.d (i64 b.k),.d (i64 b.n),.d (.str b.s),.d (.sl (some 5) b.ps)])]) [2,3] (fun x=>a.vs.length-x.1) ⟨0,Nat.zero_le _,fun _ h=>absurd h (Nat.not_lt_zero _)⟩ id ?_ ?_
   ·simp only [go_sem]
    all_goals ((repeat' apply And.intro)<;>first | rfl | trivial)
   rintro ⟨i,hi,hj⟩ E0
   refine aH E0 fun Q' hQ E'=>?_
   simp only at hi hj ⊢
   simp only [go_sem]
   refine ah E' (fun g2=>?_) (fun g2=>?_)<;>simp only [go_sem]
   ·have hi':i<a.vs.length:=by omega
    refine al mixed E' fun X=>?_
    simp only [go_sem]
    refine ⟨by omega,?_⟩
    rw [hga i hi']
    simp only [go_sem]
    refine ⟨by omega,?_⟩
    rw [hgb i (by omega)]
    simp only [go_sem]
    have hsm:cQ a b i=((a.nm i == b.nm i) && (a.kid i).eq (b.kid i)):=rfl
    refine Du X (fun g=>?_) (fun g=>?_)<;>simp only [go_sem]
    ·have g:(a.nm i == b.nm i)=false:=by simpa using g
     refine ⟨by decide +kernel,?_⟩
     rw [hQ]
     simp only [go_sem]
     rw [hpa i (by rw [hsm,g];rfl)]
    ·have g:(a.nm i == b.nm i)=true:=by simpa using g
     refine ⟨by omega,?_⟩
     rw [hga i hi']
     simp only [go_sem]
     refine ⟨by omega,?_⟩
     rw [hgb i (by omega)]
     simp only [go_sem]
     refine aF X (c i hi' (by omega)) rfl rfl (by simp) ?_
     simp only [go_sem]
     refine ⟨by decide +kernel,?_⟩
     refine aI E' (fun g3=>?_) (fun g3=>?_)<;>simp only [go_sem]
     ·have g3:(a.kid i).eq (b.kid i)=false:=by simpa using g3
      rw [hQ]
      simp only [go_sem]
      rw [hpa i (by rw [hsm,g,g3];rfl)]
     ·have g3:(a.kid i).eq (b.kid i)=true:=by simpa using g3
      rw [hQ]
      simp only [go_sem]
      rw [ai (n:=(i:Int)+1) ⟨by omega,by omega⟩]
      refine ⟨⟨i+1,by omega,fun j h=>?_⟩,by show a.vs.length-(i+1)<a.vs.length-i;omega,id,?_⟩
      ·rcases Nat.lt_succ_iff_lt_or_eq.1 h with h | rfl
       ·exact hj j h
       ·rw [hsm,g,g3];rfl
      simp only [go_sem]
      all_goals ((repeat' apply And.intro)<;>first | rfl | trivial)
   ·rw [hQ]
    simp only [go_sem]
    rw [hp h1 h2 h3 hl fun j h=>hj j (by omega)]
end Go.Proofs.YtejpnabbmgpmaaaGreatDoor

namespace Go.Proofs.YtejpnabbmgpmaaaGreatDoor
open Go.Ab
def jd (L:List (List UInt8)) (n i:Nat):List D:=(L.take i).map .str++List.replicate (n-i) (.str [])
theorem vM (L:List (List UInt8)) (n:Nat):jd L n 0=List.replicate n (.str []):=by
 unfold jd
 rw [List.take_zero];rfl
theorem zY {L:List (List UInt8)} {n i:Nat} (hL:L.length=n) (h:i≤n):(jd L n i).length=n:=by
 unfold jd
 simp only [List.length_append,List.length_map,List.length_take,List.length_replicate]
 omega
theorem xn {L:List (List UInt8)} {n:Nat} (hL:L.length=n):jd L n n=L.map .str:=by
 unfold jd
 rw [← hL,List.take_length,Nat.sub_self]
 simp
theorem A1 {L:List (List UInt8)} {n i:Nat} {x:List UInt8} (hL:L.length=n) (hi:i<n) (hx:L[i]?=some x):(jd L n i).set i (.str x)=jd L n (i+1):=by
 unfold jd
 have hl:((L.take i).map D.str).length=i:=by rw [List.length_map,List.length_take];omega
 obtain ⟨m,hm⟩:∃ m,n-i=m+1:=⟨n-i-1,by omega⟩
 have hx':L[i]'(by omega)=x:=(List.getElem?_eq_some_iff.1 hx).2
 rw [List.set_append_right _ _ (by omega),hl,Nat.sub_self,hm,List.replicate_succ,List.set_cons_zero,List.take_succ_eq_append_getElem (by omega),List.map_append,show n-(i+1)=m by omega,hx']
 simp
theorem v8 (L:List (List UInt8)):cN L≤(bY ei L).length:=by
 cases L with
 | nil=>exact Nat.zero_le _
 | cons a r =>
   have:=ny r
   unfold cN at *
   rw [bY,List.length_append,List.map_cons,List.sum_cons]
   omega
theorem zn {tt:TypeId} {fz:Nat × Nat}:∀ (m:Nat) (v:VT),v.hg≤m→v.wf→v.may=true→v.fine→v.txt.length≤80000000→HP Tryz.prog (GT tt fz) 50 [v.dat] (fun r=>r=.d (.str v.txt))
 | 0,v,h,_,_,_,_=>absurd (gy v) (by omega)
 | m+1,v,h,hw,hm,hfi,hlen=>by
   have ok:=hw.ok
   have B:=mn ok hm
   have hpl:=ok.b6
   have hf:=ok.few
   have hk:=B.k
   obtain ⟨hn,hs⟩:=Ay hfi
   have hkid:∀ i,i<v.vs.length→HP Tryz.prog (GT tt fz) 50 [.agg [i64 (v.kid i).k,i64 (v.kid i).n,.str (v.kid i).s,.sl (some 5) (v.kid i).ps]] (fun r=>r=.d (.str (v.kid i).txt)):=fun i hi=>by
    have h1:=gJ (bh hi)
    have h2:=uT ok B hi
    have:=zn (tt:=tt) (fz:=fz) m (v.kid i) (by omega) (ok.kids _ (bh hi)) (p9 hm (bh hi)) (rN hfi (bh hi)) (by omega)
    rw [aq] at this
    exact this
   have t1:=@Ep v
   have t2:=@Eo v
   have t3:=@Fk v
   have t4:=@Eg v
   have t5:=@BC v
   have t6:=@Cp v
   generalize v.txt=T0 at hlen t1 t2 t3 t4 t5 t6 ⊢
   rw [aq]
   refine aj Tryz.func50 rfl (by decide +kernel) (by simp [Tryz.ntmps50]) (veil fun E=>?_)
   simp only [go_sem]
   refine ah E (fun h1=>?_) (fun h1=>?_)<;>simp only [go_sem]
   ·refine ae E (DM v.n hn) rfl rfl (by simp) ?_
    rintro _ rfl
    simp only [go_sem]
    rw [t1 h1]
   refine ah E (fun h2=>?_) (fun h2=>?_)<;>simp only [go_sem]
   ·refine ah E (fun g=>?_) (fun g=>?_)<;>simp only [go_sem]
    ·rw [t2 h2,if_pos g];rfl
    ·rw [t2 h2,if_neg g];rfl
   refine ah E (fun h3=>?_) (fun h3=>?_)<;>simp only [go_sem]
   ·refine ae E (Fg v.s hs) rfl rfl (by simp) ?_
    rintro _ rfl
    simp only [go_sem]
    rw [t3 h3]
   refine ah E (fun h4=>?_) (fun h4=>?_)<;>simp only [go_sem]
   ·rw [t4 h4];rfl
   refine ah E (fun h6=>?_) (fun h6=>?_)<;>simp only [go_sem]
   ·obtain ⟨_,_,u,hu⟩:=B.t h6
    have hi0:0<v.vs.length:=by rw [hu];simp
    have hku:v.kid 0=u:=by unfold VT.kid;rw [hu];rfl
    have ht:=t6 h6 hu
    have hc:=hkid 0 hi0
    have hg0:=ok.bD hi0
    rw [hku] at hc hg0
    clear t1 t2 t3 t4 t5 t6
    generalize u.txt=T at ht hc
    refine ⟨by omega,?_⟩
    rw [hg0]
    simp only [go_sem]
    refine ae E hc rfl rfl (by simp) ?_
    rintro _ rfl
    simp only [go_sem]
    refine ⟨by omega,?_⟩
    rw [hg0]
    simp only [go_sem]
    refine ah E (fun h7=>?_) (fun h7=>?_)<;>simp only [go_sem]
    ·rw [if_pos h7] at ht
     rw [ht] at hlen
     simp only [List.length_append,List.length_cons,List.length_nil] at hlen
     refine ⟨by omega,by omega,by omega,by simp only [List.length_append,List.length_cons,List.length_nil];omega,?_⟩
     rw [ht,List.append_assoc];rfl
    ·rw [if_neg h7] at ht
     rw [ht] at hlen
     simp only [List.length_append,List.length_cons,List.length_nil] at hlen
     refine ⟨by omega,by simp only [List.length_append,List.length_cons,List.length_nil];omega,?_⟩
     rw [ht,List.append_assoc];rfl
   have h5:v.k=5:=by omega
   have ht:=t5 h5
   clear t1 t2 t3 t4 t5 t6
   have hl2:=hlen
   rw [ht] at hl2
   have hrl:=o5 ok
   have hrg:=fun i (hi:i<v.vs.length)=>lC ok hi
   have hie:∀ i,itE v i=v.nm i++eqB++(v.kid i).txt:=fun _=>rfl
   have hmem:=fun i (hi:i<v.vs.length)=>kz ei (List.mem_of_getElem? (lC ok hi))
   simp only [List.length_append,List.length_cons] at hl2
   generalize j6 v.nms v.vs=L at hl2 ht hrl hrg hmem
   have hjl:=v8 L
   have hJ:=EE (G:=GT tt fz) L (by omega) (by omega)
   have hset:=fun i (hi:i<v.vs.length)=>A1 hrl hi (hrg i hi)
   have hal:=fun i (hi:i≤v.vs.length)=>zY hrl hi
   refine ⟨by omega,?_⟩
   refine aw E (X:={ i:Nat // i≤v.vs.length }) (fun x=>[(1,.bx [1] 0),(4,.vw [52] 0 v.ps.length),(54,.d (.sl (some 5) v.ps)),(55,.d (i64 (v.ps.length:Nat))),(56,.d (i64 x.1))])
    (fun x=>[([1],.box [.d (i64 v.k),.d (i64 v.n),.d (.str v.s),.d (.sl (some 5) v.ps)]),([52],.arr none (jd L v.vs.length x.1))]) [1,52] (fun x=>v.vs.length-x.1) ⟨0,Nat.zero_le _⟩ id ?_ ?_
   ·simp only [go_sem]
    rw [vM,hpl]
    all_goals ((repeat' apply And.intro)<;>first | rfl | trivial)
   rintro ⟨i,hi⟩ E0
   refine aH E0 fun Q' hQ E'=>?_
   simp only at hi ⊢
   have hal0:=hal i hi
   simp only [go_sem]
   refine ah E' (fun g=>?_) (fun g=>?_)<;>simp only [go_sem]
   ·have hi':i<v.vs.length:=by omega
    have hnm:=fZ (List.all_eq_true.1 (B.r h5) _ (ek (v:=v) (i:=i) (by rw [ok.len];exact hi')))
    have hc:=hkid i hi'
    have hg0:=ok.bD hi'
    have hst:=hset i hi'
    have hme:=hmem i hi'
    rw [hie] at hst hme
    refine ⟨by omega,?_⟩
    rw [hg0]
    simp only [go_sem]
    generalize (v.kid i).txt=T at hc hst hme
    generalize v.nm i=nm at hnm hst hme ⊢
    simp only [List.length_append,show eqB.length=3 from rfl] at hme
    refine al mixed E' fun X=>?_
    simp only [go_sem]
    refine ⟨by omega,?_⟩
    refine aF X hc rfl rfl (by simp) ?_
    simp only [go_sem]
    have hst':(jd L v.vs.length i).set i (.str (nm++[32,61,32]++T))=jd L v.vs.length (i+1):=hst
    refine ⟨by simp only [List.length_append,List.length_cons,List.length_nil];omega,⟨by omega,by omega⟩,by decide +kernel,?_⟩
    rw [hst',hQ]
    simp only [go_sem]
    rw [ai (n:=(i:Int)+1) ⟨by omega,by omega⟩]
    refine ⟨⟨i+1,by omega⟩,by show v.vs.length-(i+1)<v.vs.length-i;omega,id,?_⟩
    simp only [go_sem]
    all_goals ((repeat' apply And.intro)<;>first | rfl | trivial)
   ·have hi':i=v.vs.length:=by omega
    subst hi'
    rw [hQ]
    simp only [go_sem]
    refine dx E [52] none (jd L v.vs.length v.vs.length) rfl (by simp only [go_sem];rfl) ?_
    simp only [go_sem]
    rw [show List.take v.ps.length (jd L v.vs.length v.vs.length)=L.map .str by rw [List.take_of_length_le (by omega),xn hrl]]
    unfold strs at hJ
    refine ae E hJ rfl rfl (by simp) ?_
    rintro _ rfl
    simp only [go_sem]
    refine ⟨by omega,by omega,?_⟩
    rw [ht]
theorem zE {tt:TypeId} {fz:Nat × Nat} (v:VT) (hw:v.wf) (hfi:v.fine) (hlen:v.may=true→v.txt.length≤80000000):HP Tryz.prog (GT tt fz) 21 [v.dat] (fun r=>r=.d (.str (if v.may then v.txt else []))):=by
 have h1:=iR (G:=GT tt fz) v.hg v (Nat.le_refl _) hw
 have h2:=fun h=>zn (tt:=tt) (fz:=fz) v.hg v (Nat.le_refl _) hw h hfi (hlen h)
 generalize v.may=b at h1 h2 hlen ⊢
 generalize v.txt=T at h2 ⊢
 rw [aq] at *
 refine aj Tryz.func21 rfl (by decide +kernel) (by simp [Tryz.ntmps21]) (veil fun E=>?_)
 simp only [go_sem]
 refine ae E h1 rfl rfl (by simp) ?_
 rintro _ rfl
 cases b with
 | false=>simp only [go_sem]
 | true =>
   simp only [go_sem]
   refine ae E (h2 rfl) rfl rfl (by simp) ?_
   rintro _ rfl
   simp only [go_sem]
theorem E6 {tt:TypeId} {fz:Nat × Nat} (hM:∀ v:VT,v.wf→HP Tryz.prog (GT tt fz) 19 [v.dat] (fun r=>r=.d (.bool v.may))) (v:VT) (hw:v.wf) (hfi:v.fine) (hlen:v.may=true→v.txt.length≤80000000):HP Tryz.prog (GT tt fz) 22 [v.dat] (fun r=>r=.d (.str (if v.may then v.txt else []))):=by
 have h1:=hM v hw
 have h2:=fun h=>yE (tt:=tt) (fz:=fz) v.hg v (Nat.le_refl _) hw h hfi (Nat.le_trans (hlen h) (by decide))
 generalize v.may=b at h1 h2 hlen ⊢
 generalize v.txt=T at h2 ⊢
 rw [aq] at *
 refine aj Tryz.func22 rfl (by decide +kernel) (by simp [Tryz.ntmps22]) (veil fun E=>?_)
 simp only [go_sem]
 refine ae E h1 rfl rfl (by simp) ?_
 rintro _ rfl
 cases b with
 | false=>simp only [go_sem]
 | true =>
   simp only [go_sem]
   refine ae E (h2 rfl) rfl rfl (by simp) ?_
   rintro _ rfl
   simp only [go_sem]
theorem A0 {G} (v:VT) (hw:v.wf) (hs:v.sz≤1000000000):HP Tryz.prog G 23 [v.dat] (fun r=>r=.d (i64 (if v.may then ((v.sz:Nat):Int) else 0))):=by
 have h1:=iR (G:=G) v.hg v (Nat.le_refl _) hw
 have h2:=yP (G:=G) v.hg v (Nat.le_refl _) hw hs
 generalize v.may=b at h1 ⊢
 generalize v.sz=z at h2 ⊢
 rw [aq] at *
 refine aj Tryz.func23 rfl (by decide +kernel) (by simp [Tryz.ntmps23]) (veil fun E=>?_)
 simp only [go_sem]
 refine ae E h1 rfl rfl (by simp) ?_
 rintro _ rfl
 cases b with
 | false=>simp only [go_sem]
 | true =>
   simp only [go_sem]
   refine ae E h2 rfl rfl (by simp) ?_
   rintro _ rfl
   simp only [go_sem]
theorem EK {G} (a b:VT) (wa:a.wf) (wb:b.wf):HP Tryz.prog G 24 [a.dat,b.dat] (fun r=>r=.d (.bool (a.may && b.may && a.eq b))):=by
 have h1:=iR (G:=G) a.hg a (Nat.le_refl _) wa
 have h2:=iR (G:=G) b.hg b (Nat.le_refl _) wb
 have h3:=Ax (G:=G) a.hg a b (Nat.le_refl _) wa wb
 generalize a.may=k1 at h1 ⊢
 generalize b.may=k2 at h2 ⊢
 generalize a.eq b=k3 at h3 ⊢
 rw [aq] at *
 rw [aq] at *
 refine aj Tryz.func24 rfl (by decide +kernel) (by simp [Tryz.ntmps24]) (veil fun E=>?_)
 simp only [go_sem]
 refine ae E h1 rfl rfl (by simp) ?_
 rintro _ rfl
 cases k1 with
 | false=>simp only [go_sem]
 | true =>
   simp only [go_sem]
   refine ae E h2 rfl rfl (by simp) ?_
   rintro _ rfl
   cases k2 with
   | false=>simp only [go_sem]
   | true =>
     simp only [go_sem]
     refine ae E h3 rfl rfl (by simp) ?_
     rintro _ rfl
     simp only [go_sem]
end Go.Proofs.YtejpnabbmgpmaaaGreatDoor

namespace Go.Proofs.YtejpnabbmgpmaaaGreatDoor
open Go.Ab
def o4 (s:PS) (ns:List EN):List EN × Int × Int :=
 if s.err≠0 then ([],s.pos,s.err) else if ns.any (fun n=>decide (1048576<n.pos)) then ([],0,7) else if jL ns≠0 then ([],0,jL ns) else (ns,0,0)
def p6 (l:List Tok) (n:Int):PS:=⟨l,n,0,0,0⟩
def qJ (s:PS):PS:=if s.l.isEmpty then s else s.wrong
def cC (s:List UInt8):List EN × Int × Int :=
 if (cG s).2.2≠0 then ([],(cG s).2.1,(cG s).2.2)
 else o4 (qJ (gh 100 (p6 (cG s).1 (cG s).2.1)).2) (gh 100 (p6 (cG s).1 (cG s).2.1)).1
theorem SS.done (s:PS):SS s (qJ s):=by
 unfold qJ
 split
 ·exact SS.refl s
 ·exact SS.wrong s
end Go.Proofs.YtejpnabbmgpmaaaGreatDoor

namespace Go.Proofs.YtejpnabbmgpmaaaGreatDoor
open Go.Ab
def Pq (N:Int) (n:EN):Prop:=0≤n.pos∧n.pos≤N
def Pl (N:Int) (ns:List EN):Prop:=∀ n∈ns,Pq N n
section
variable {N:Int}
variable {ex:PS→PR} (hex:∀ s,GP 1 s (ex s)) (hx:∀ s,PSo N s→Pl N (ex s).1)
include hex hx
end
end Go.Proofs.YtejpnabbmgpmaaaGreatDoor

namespace Go.Proofs.YtejpnabbmgpmaaaGreatDoor
open Go.Ab
theorem uh {α β γ:Type} {g:α→β→γ} {P:γ→Prop}:∀ (l:List α) (ks:List β),(∀ f∈l,∀ q∈ks,P (g f q))→∀ x∈List.zipWith g l ks,P x
 | [],_,_,x,hx=>by rw [List.zipWith_nil_left] at hx;cases hx
 | _::_,[],_,x,hx=>by rw [List.zipWith_nil_right] at hx;cases hx
 | f::l,q::ks,h,x,hx=>by
   rw [List.zipWith_cons_cons] at hx
   rcases List.mem_cons.1 hx with rfl | hx
   ·exact h f List.mem_cons_self q List.mem_cons_self
   ·exact uh l ks (fun f hf q hq=>h f (List.mem_cons_of_mem _ hf) q (List.mem_cons_of_mem _ hq)) x hx
theorem rA {n:EN} (h:a8 n=true) (hp:aL n.k=true):∀ f∈n.l,fc n.k f=true:=by
 unfold a8 cD at h
 simp only [Bool.and_eq_true] at h
 have h1:=h.2.1.2
 rw [if_pos hp] at h1
 simp only [Bool.and_eq_true] at h1
 exact List.all_eq_true.1 h1.1
theorem vE {n:EN} (h:a8 n=true) (hk:n.k=13):eY n.name=true:=by
 unfold a8 fP at h
 simp only [Bool.and_eq_true] at h
 have h1:=h.2.1.1.1
 rw [if_neg (by omega),if_pos hk] at h1
 exact h1
end Go.Proofs.YtejpnabbmgpmaaaGreatDoor

namespace Go.Proofs.YtejpnabbmgpmaaaGreatDoor
open Go.Ab
def FO (s:PS) (l:List EF):List (Name × Ob):=([103],.arr (some 3) (l.map fD))::RO s
theorem uQ {G} (s:PS) (t:Tok) (n:EN) (l:List EF) (hl:l.length≤100000):HCall Tryz.prog G 185 [.bx [100] 0,.d (.agg [i64 t.k,.str t.s,i64 t.n,i64 t.pos]),.agg [.d (i64 n.k),.d (i64 n.a),.d (i64 n.b),.d (i64 n.c),.d (i64 n.n),.d (.str n.name),.d (.str n.s),.vw [103] 0 l.length,.d (i64 n.pos)]] (FO s l) [100,101,103] (fun r hp'=>r=.tup []∧hp'=FO (s.parted t l) l):=by
 generalize hR:s.parted t l=R
 unfold PS.parted at hR
 have c8:=lS (G:=G) s 8 t.pos
 have c5:=lS (G:=G) s 5 t.pos
 unfold FO RO TO ag
 refine an Tryz.func185 rfl (by decide +kernel) (by simp [Tryz.ntmps185]) (veil fun E=>?_)
 simp only [go_sem]
 refine ab E [.bx [100] 0] (RO s) [100,101] (ef s) rfl rfl ⟨by simp only [go_sem],by first | (rw [aa];decide) | (simp only [go_sem]<;>(try rw [aa])<;>decide)⟩ rfl (by unfold RO TO ag;simp only [go_sem]) (by unfold RO TO;simp only [go_sem]) ?_
 rintro _ _ ⟨rfl,rfl⟩
 unfold RO TO ag
 simp only [go_sem]
 refine aI E (fun h1=>?_) (fun h1=>?_)<;>simp only [go_sem]
 ·rw [if_pos (by simpa using h1)] at hR
  rw [← hR]
  refine ⟨_,_,[100,101,103],id,⟨rfl,rfl⟩,?_⟩
  simp only [go_sem]
 rw [if_neg (by simpa using h1)] at hR
 refine ah E (fun h2=>?_) (fun h2=>?_)<;>simp only [go_sem]
 ·rw [if_pos (by omega)] at hR
  refine ab E [.bx [100] 0,.d (i64 8),.d (i64 t.pos)] (RO s) [100,101] (c8) rfl rfl ⟨by simp only [go_sem],by first | (rw [aa];decide) | (simp only [go_sem]<;>(try rw [aa])<;>decide)⟩ rfl (by unfold RO TO ag;simp only [go_sem]) (by unfold RO TO;simp only [go_sem]) ?_
  rintro _ _ ⟨rfl,rfl⟩
  unfold RO TO ag
  simp only [go_sem]
  rw [← hR]
  refine ⟨_,_,[100,101,103],id,⟨rfl,rfl⟩,?_⟩
  simp only [go_sem]
 ·rw [if_neg (by omega)] at hR
  refine Di E [4] (.agg [i64 t.k,.str t.s,i64 t.n,i64 t.pos]) rfl rfl ?_
  simp only [go_sem]
  refine oZ E [([103],some 3,l.map fD)] (va l (fun x=>decide (x.nm=t.s)) 187 [.ptr (.agg [i64 t.k,.str t.s,i64 t.n,i64 t.pos])] (by omega) (fun x _=>BK x t)) (by rintro _ rfl;rfl) (by simp only [go_sem]) rfl (by simp only [go_sem]) (by simp) ?_
  rintro _ rfl
  simp only [go_sem]
  refine aI E (fun h3=>?_) (fun h3=>?_)<;>simp only [go_sem]
  ·rw [if_pos h3] at hR
   refine ab E [.bx [100] 0,.d (i64 5),.d (i64 t.pos)] (RO s) [100,101] (c5) rfl rfl ⟨by simp only [go_sem],by first | (rw [aa];decide) | (simp only [go_sem]<;>(try rw [aa])<;>decide)⟩ rfl (by unfold RO TO ag;simp only [go_sem]) (by unfold RO TO;simp only [go_sem]) ?_
   rintro _ _ ⟨rfl,rfl⟩
   unfold RO TO ag
   simp only [go_sem]
   rw [← hR]
   refine ⟨_,_,[100,101,103],id,⟨rfl,rfl⟩,?_⟩
   simp only [go_sem]
  ·rw [if_neg (by rw [h3];decide)] at hR
   rw [← hR]
   refine ⟨_,_,[100,101,103],id,⟨rfl,rfl⟩,?_⟩
   simp only [go_sem]
end Go.Proofs.YtejpnabbmgpmaaaGreatDoor

namespace Go.Proofs.YtejpnabbmgpmaaaGreatDoor
open Go.Ab
def NO (s:PS) (n:EN) (l:List EF):List (Name × Ob):=([105],.box [.bx [100] 0])::([102],.box [.d (i64 n.k),.d (i64 n.a),.d (i64 n.b),.d (i64 n.c),.d (i64 n.n),.d (.str n.name),.d (.str n.s),.vw [103] 0 l.length,.d (i64 n.pos)])::FO s l
def qb (s:PS) (t:Tok) (l:List EF):EF × PS:=(⟨(s.of 2).1,[],0⟩,(((s.of 2).2.parted t l).must 7 [61]))
def lH (s:PS) (t:Tok) (l:List EF):EF × PS:=(⟨(s.of 3).1,(((s.of 3).2.parted t l).of 2).1,0⟩,(((s.of 3).2.parted t l).of 2).2.must 7 bTo)
theorem qw (s:PS) (t:Tok) (l:List EF):(s.parted t l).l=s.l:=by
 unfold PS.parted
 split
 ·rfl
 split
 ·exact mU _ _ _
 split
 ·exact mU _ _ _
 ·rfl
def yB (G:List (Nat × Obj)) (f:Nat) (part:PS→Tok→List EF→EF × PS):Prop:=∀ (s:PS) (t:Tok) (n:EN) (l:List EF),s.l.length≤100000→l.length≤100000 →
 HCall Tryz.prog G f [.d (.agg [i64 t.k,.str t.s,i64 t.n,i64 t.pos]),.bx [105] 0,.bx [102] 0] (NO s n l) [100,101,102,103,105] (fun r hp'=>r=.d (fD (part s t l).1)∧hp'=NO (part s t l).2 n l)
theorem By {G}:yB G 184 qb:=by
 intro s t n l hs hl
 generalize hR:qb s t l=R
 unfold qb at hR
 have c1:=kq (G:=G) s 2 (by omega)
 have h1:=SS.of s 2
 obtain ⟨nm,s1,e1⟩:∃ nm s1,s.of 2=(nm,s1):=⟨_,_,rfl⟩
 rw [e1] at c1 h1 hR
 simp only at c1 h1 hR
 have l1:=h1.len
 have c2:=uQ (G:=G) s1 t n l hl
 have l2:=qw s1 t l
 generalize s1.parted t l=s2 at c2 l2 hR
 have c3:=ec (G:=G) s2 7 [61] (by rw [l2];omega) (by decide)
 generalize s2.must 7 [61]=s3 at c3 hR
 subst hR
 unfold NO FO RO TO ag
 refine an Tryz.func184 rfl (by decide +kernel) (by simp [Tryz.ntmps184]) (veil fun E=>?_)
 simp only [go_sem]
 refine ab E [.bx [100] 0,.d (i64 2)] (RO s) [100,101] (c1) rfl rfl ⟨by simp only [go_sem],by first | (rw [aa];decide) | (simp only [go_sem]<;>(try rw [aa])<;>decide)⟩ rfl (by unfold RO TO ag;simp only [go_sem]) (by unfold RO TO;simp only [go_sem]) ?_
 rintro _ _ ⟨rfl,rfl⟩
 unfold RO TO ag
 simp only [go_sem]
 refine ab E [.bx [100] 0,.d (.agg [i64 t.k,.str t.s,i64 t.n,i64 t.pos]),.agg [.d (i64 n.k),.d (i64 n.a),.d (i64 n.b),.d (i64 n.c),.d (i64 n.n),.d (.str n.name),.d (.str n.s),.vw [103] 0 l.length,.d (i64 n.pos)]] (FO s1 l) [100,101,103] (c2) rfl rfl ⟨by simp only [go_sem],by first | (rw [aa];decide) | (simp only [go_sem]<;>(try rw [aa])<;>decide)⟩ rfl (by unfold FO RO TO ag;simp only [go_sem]) (by unfold FO RO TO;simp only [go_sem]) ?_
 rintro _ _ ⟨rfl,rfl⟩
 unfold FO RO TO ag
 simp only [go_sem]
 refine ⟨Nat.le_refl _,?_⟩
 refine ab E [.bx [100] 0,.d (i64 7),.d (.str [61])] (RO s2) [100,101] (c3) rfl rfl ⟨by simp only [go_sem],by first | (rw [aa];decide) | (simp only [go_sem]<;>(try rw [aa])<;>decide)⟩ rfl (by unfold RO TO ag;simp only [go_sem]) (by unfold RO TO;simp only [go_sem]) ?_
 rintro _ _ ⟨rfl,rfl⟩
 unfold RO TO ag
 simp only [go_sem]
 refine ⟨_,_,[100,101,102,103,105],id,⟨rfl,rfl⟩,?_⟩
 simp only [go_sem]
 all_goals rfl
theorem Cu {G}:yB G 186 lH:=by
 intro s t n l hs hl
 generalize hR:lH s t l=R
 unfold lH at hR
 have c1:=kq (G:=G) s 3 (by omega)
 have h1:=SS.of s 3
 obtain ⟨nm,s1,e1⟩:∃ nm s1,s.of 3=(nm,s1):=⟨_,_,rfl⟩
 rw [e1] at c1 h1 hR
 simp only at c1 h1 hR
 have l1:=h1.len
 have c2:=uQ (G:=G) s1 t n l hl
 have l2:=qw s1 t l
 generalize s1.parted t l=s2 at c2 l2 hR
 have co:=kq (G:=G) s2 2 (by rw [l2];omega)
 have ho:=SS.of s2 2
 obtain ⟨nv,so,eo⟩:∃ nv so,s2.of 2=(nv,so):=⟨_,_,rfl⟩
 rw [eo] at co ho hR
 simp only at co ho hR
 have lo:=ho.len
 rw [l2] at lo
 have c3:=ec (G:=G) so 7 bTo (by omega) (by decide)
 generalize so.must 7 bTo=s3 at c3 hR
 subst hR
 unfold NO FO RO TO ag
 refine an Tryz.func186 rfl (by decide +kernel) (by simp [Tryz.ntmps186]) (veil fun E=>?_)
 simp only [go_sem]
 refine ab E [.bx [100] 0,.d (i64 3)] (RO s) [100,101] (c1) rfl rfl ⟨by simp only [go_sem],by first | (rw [aa];decide) | (simp only [go_sem]<;>(try rw [aa])<;>decide)⟩ rfl (by unfold RO TO ag;simp only [go_sem]) (by unfold RO TO;simp only [go_sem]) ?_
 rintro _ _ ⟨rfl,rfl⟩
 unfold RO TO ag
 simp only [go_sem]
 refine ab E [.bx [100] 0,.d (.agg [i64 t.k,.str t.s,i64 t.n,i64 t.pos]),.agg [.d (i64 n.k),.d (i64 n.a),.d (i64 n.b),.d (i64 n.c),.d (i64 n.n),.d (.str n.name),.d (.str n.s),.vw [103] 0 l.length,.d (i64 n.pos)]] (FO s1 l) [100,101,103] (c2) rfl rfl ⟨by simp only [go_sem],by first | (rw [aa];decide) | (simp only [go_sem]<;>(try rw [aa])<;>decide)⟩ rfl (by unfold FO RO TO ag;simp only [go_sem]) (by unfold FO RO TO;simp only [go_sem]) ?_
 rintro _ _ ⟨rfl,rfl⟩
 unfold FO RO TO ag
 simp only [go_sem]
 refine ⟨Nat.le_refl _,?_⟩
 refine ab E [.bx [100] 0,.d (i64 2)] (RO s2) [100,101] (co) rfl rfl ⟨by simp only [go_sem],by first | (rw [aa];decide) | (simp only [go_sem]<;>(try rw [aa])<;>decide)⟩ rfl (by unfold RO TO ag;simp only [go_sem]) (by unfold RO TO;simp only [go_sem]) ?_
 rintro _ _ ⟨rfl,rfl⟩
 unfold RO TO ag
 simp only [go_sem]
 refine ab E [.bx [100] 0,.d (i64 7),.d (.str bTo)] (RO so) [100,101] (c3) rfl rfl ⟨by simp only [go_sem],by first | (rw [aa];decide) | (simp only [go_sem]<;>(try rw [aa])<;>decide)⟩ rfl (by unfold RO TO ag;simp only [go_sem]) (by unfold RO TO;simp only [go_sem]) ?_
 rintro _ _ ⟨rfl,rfl⟩
 unfold RO TO ag
 simp only [go_sem]
 refine ⟨_,_,[100,101,102,103,105],id,⟨rfl,rfl⟩,?_⟩
 simp only [go_sem]
 all_goals rfl
end Go.Proofs.YtejpnabbmgpmaaaGreatDoor

namespace Go.Proofs.YtejpnabbmgpmaaaGreatDoor
open Go.Ab
def NQ (s:PS) (n:EN) (l:List EF) (ks:List (List EN)):List (Name × Ob):=([105],.box [.bx [100] 0])::([102],.box [.d (i64 n.k),.d (i64 n.a),.d (i64 n.b),.d (i64 n.c),.d (i64 n.n),.d (.str n.name),.d (.str n.s),.vw [106] 0 l.length,.d (i64 n.pos)])::([106],.arr (some 3) (l.map fD))::([107],.arr (some 1) (ks.map exD))::RO s
theorem uX {G} {N:Nat} {ex:PS→PR} {f:Nat} {part:PS→Tok→List EF→EF × PS} {b:List UInt8} (hex:∀ s,GP 1 s (ex s)) (hc:Reads 34 G N ex) (hp:yB G f part) (hps:∀ s l,SS s (part s s.peek l).2)
  (s:PS) (n:EN) (hl:s.l.length≤100000) (hN:s.nest=N) :
  HCall Tryz.prog G 183 [.bx [100] 0,.bx [102] 0,.d (.str b),.clo f [.bx [105] 0,.bx [102] 0]] (NO s n []) [100,101,102,103,105]
   (fun r hp'=>r=.vw [107] 0 (bn ex b (fun s l=>part s s.peek l) s.l.length.succ s [] []).2.1.length∧hp'=NQ (bn ex b (fun s l=>part s s.peek l) s.l.length.succ s [] []).2.2 n (bn ex b (fun s l=>part s s.peek l) s.l.length.succ s [] []).1 (bn ex b (fun s l=>part s s.peek l) s.l.length.succ s [] []).2.1):=by
 generalize hR:bn ex b (fun s l=>part s s.peek l) s.l.length.succ s [] []=R
 unfold NO FO RO TO ag
 refine an Tryz.func183 rfl (by decide +kernel) (by simp [Tryz.ntmps183]) (veil fun E=>?_)
 simp only [go_sem]
 refine pj E 9 98 (some 1) rfl (by rw [aa];decide) ?_
 simp only [go_sem]
 refine aw E (X:={ x:Nat × PS × List EF × List (List EN) // bn ex b (fun s l=>part s s.peek l) x.1 x.2.1 x.2.2.1 x.2.2.2=R∧(x.2.1.l.length<x.1∧x.2.2.1.length=x.2.2.2.length∧x.2.2.1.length+x.2.1.l.length≤s.l.length∧x.2.1.nest=N) })
  (fun x=>[(0,.bx [100] 0),(1,.bx [102] 0),(2,.d (.str b)),(3,.clo f [.bx [105] 0,.bx [102] 0]),(8,.d .nils),(9,.vw [98] 0 x.1.2.2.2.length)])
  (fun x=>[([105],.box [.bx [100] 0]),([102],.box [.d (i64 n.k),.d (i64 n.a),.d (i64 n.b),.d (i64 n.c),.d (i64 n.n),.d (.str n.name),.d (.str n.s),.vw [97] 0 x.1.2.2.1.length,.d (i64 n.pos)]),([97],.arr (some 3) (x.1.2.2.1.map fD)),([98],.arr (some 1) (x.1.2.2.2.map exD)),([100],.box [.bx [101] 0,.d (i64 x.1.2.1.err),.d (i64 x.1.2.1.pos),.d (i64 x.1.2.1.nest)]),([101],.box [.d (.sl (some 4) (x.1.2.1.l.map fT)),.d (i64 x.1.2.1.fin)])]) [97,98,100,101,102,103,105] (fun x=>x.1.2.1.l.length) ⟨(s.l.length.succ,s,[],[]),hR,Nat.lt_succ_self _,rfl,by simp,hN⟩ (tau [([97],[103])]) ?_ ?_
 ·simp only [go_sem]
  all_goals rfl
 rintro ⟨⟨m,q,l,ks⟩,hb,hm,hlk,hls,hqn⟩ E0
 refine aH E0 fun Q' hQ E'=>?_
 simp only at hb hm hlk hls hqn ⊢
 obtain ⟨m,rfl⟩:∃ k,m=k+1:=⟨m-1,by omega⟩
 rw [bn] at hb
 simp only [go_sem]
 have h1:=hp q q.peek n l (by omega) (by omega)
 have g1:=hps q l
 obtain ⟨fd,s1,e1⟩:∃ fd s1,part q q.peek l=(fd,s1):=⟨_,_,rfl⟩
 rw [e1] at h1 g1 hb
 simp only at h1 g1 hb
 rw [show fD fd=.agg [.str fd.nm,.str fd.var,i64 fd.to] from rfl] at h1
 have n1:=g1.len
 have h2:=hc s1 (by omega) (g1.nest.trans hqn)
 have g2:=hex s1
 obtain ⟨x1,s2,e2⟩:∃ x1 s2,ex s1=(x1,s2):=⟨_,_,rfl⟩
 rw [e2] at h2 g2 hb
 simp only at h2 hb
 have n2:=g2.ss.len
 have z2:=g2.ss.nest
 simp only at n2 z2
 have h3:=gW (G:=G) s2 b (by omega)
 unfold exD at h2
 refine ab E' [.bx [101] 0] (TO q.l q.fin) [101] (cV q.l q.fin (by omega)) rfl rfl ⟨by simp only [go_sem],by first | (rw [aa];decide) | (simp only [go_sem]<;>(try rw [aa])<;>decide)⟩ rfl (by unfold TO ag;simp only [go_sem]) (by unfold TO;simp only [go_sem]) ?_
 rintro _ _ ⟨rfl,rfl⟩
 unfold TO ag
 simp only [go_sem]
 refine bp E' (tau [([103],[97])]) [.d (.agg [i64 q.peek.k,.str q.peek.s,i64 q.peek.n,i64 q.peek.pos]),.bx [105] 0,.bx [102] 0] (NO q n l) [100,101,102,103,105] (h1) rfl (by simp only [go_sem];try rfl) ⟨by simp only [go_sem],by first | (rw [aa];decide) | (simp only [go_sem]<;>(try rw [aa])<;>decide)⟩ rfl (by unfold NO FO RO TO ag;simp only [go_sem]) (by unfold NO FO RO TO;simp only [go_sem]) ?_
 rintro _ _ ⟨rfl,rfl⟩
 unfold NO FO RO TO ag
 simp only [go_sem]
 refine ⟨Nat.le_refl _,?_⟩
 refine ab E' [.bx [100] 0] (RO s1) [100,101] (h2) rfl rfl ⟨by simp only [go_sem],by first | (rw [aa];decide) | (simp only [go_sem]<;>(try rw [aa])<;>decide)⟩ rfl (by unfold RO TO ag;simp only [go_sem]) (by unfold RO TO;simp only [go_sem]) ?_
 rintro _ _ ⟨rfl,rfl⟩
 unfold RO TO ag
 simp only [go_sem]
 refine ⟨by omega,?_⟩
 rw [show List.map exD ks++[.agg [.sl (some 9) (List.map enD x1)]]=(ks++[x1]).map exD by rw [List.map_append];rfl]
 refine al mixed E' fun X=>?_
 simp only [go_sem]
 refine dD X (d:=27) [102] 0 none [.d (i64 n.k),.d (i64 n.a),.d (i64 n.b),.d (i64 n.c),.d (i64 n.n),.d (.str n.name),.d (.str n.s),.vw [97] 0 l.length,.d (i64 n.pos)] (by simp only [go_sem]) rfl rfl ?_
 simp only [go_sem]
 rw [show List.map fD l++[.agg [.str fd.nm,.str fd.var,i64 fd.to]]=(l++[fd]).map fD by rw [List.map_append];rfl]
 refine ⟨by omega,?_⟩
 refine dD X (d:=33) [102] 0 none [.d (i64 n.k),.d (i64 n.a),.d (i64 n.b),.d (i64 n.c),.d (i64 n.n),.d (.str n.name),.d (.str n.s),.vw [97] 0 l.length,.d (i64 n.pos)] (by simp only [go_sem]) rfl rfl ?_
 simp only [go_sem]
 refine ⟨by decide +kernel,?_⟩
 refine ab E' [.bx [100] 0,.d (.str b)] (RO s2) [100,101] (h3) rfl rfl ⟨by simp only [go_sem],by first | (rw [aa];decide) | (simp only [go_sem]<;>(try rw [aa])<;>decide)⟩ rfl (by unfold RO TO ag;simp only [go_sem]) (by unfold RO TO;simp only [go_sem]) ?_
 rintro _ _ ⟨rfl,rfl⟩
 unfold RO TO ag
 simp only [go_sem]
 refine aI E' (fun h=>?_) (fun h=>?_)<;>simp only [go_sem]
 ·have h':s2.sees 7 b=false:=by simpa using h
  rw [dY h',hQ]
  rw [if_neg (by rw [h'];decide)] at hb
  subst hb
  simp only [go_sem]
  refine ⟨_,_,[100,101,102,103,105,106,107],tau [([106],[32]),([107],[24])],⟨rfl,rfl⟩,?_⟩
  unfold NQ RO TO ag
  simp only [go_sem]
  simp only [List.length_append,List.length_singleton,and_self]
 ·have h':s2.sees 7 b=true:=by simpa using h
  have hsl:=aR h'
  rw [cI h',hQ]
  rw [if_pos h'] at hb
  simp only [go_sem]
  refine ⟨⟨(m,s2.next,l++[fd],ks++[x1]),hb,by show s2.next.l.length<m;omega,by simp [hlk],by show (l++[fd]).length+s2.next.l.length≤_;rw [List.length_append,List.length_singleton];omega,by show s2.next.nest=N;rw [← hqn,← g1.nest,← z2];rfl⟩,by show s2.next.l.length<q.l.length;omega,tau [([97],[32]),([98],[24])],?_,?_,?_,?_,?_⟩<;>simp only [go_sem]
  all_goals simp only [List.length_append,List.length_singleton,and_self]
end Go.Proofs.YtejpnabbmgpmaaaGreatDoor

namespace Go.Proofs.YtejpnabbmgpmaaaGreatDoor
open Go.Ab
theorem Bl {G} {N:Nat} {ex:PS→PR} (hex:∀ s,GP 1 s (ex s)) (hc:Reads 34 G N ex):p8 181 G N (dO ex):=by
 intro s p hl hN
 generalize hR:dO ex s p=R
 unfold dO at hR
 have h0:=gW (G:=G) s [125] (by omega)
 have hg:=eg hex [44] fV SS.field s.l.length.succ s [] [] rfl (fun _ h=>by cases h)
 have hp:=uX (G:=G) (b:=[44]) hex hc (By (G:=G)) (fun s l=>SS.field s l) s (nd0 11 p) hl hN
 rw [show (fun s l=>qb s s.peek l)=fV from rfl] at hp
 obtain ⟨F,hF⟩:∃ F,F=bn ex [44] fV s.l.length.succ s [] []:=⟨_,rfl⟩
 rw [← hF] at hg hp
 simp only [← hF] at hR
 obtain ⟨fl,ks,q⟩:=F
 simp only at hp hR
 have g1:=hg.sz
 have g2:=hg.ln
 have g3:=hg.ss.len
 have g4:=hg.eq
 simp only [bg,List.map_nil,List.sum_nil,List.length_nil] at g1 g2 g3 g4
 have hm:=ec (G:=G) q 7 [125] (by omega) (by decide)
 have h4:=qe (G:=G) { nd0 11 p with l:=fl } ks (by simp only;omega) (by omega) (by simp only [bg];omega)
  (fun l h=>(hg.tr l h).kids.2) (fun l h=>(hg.wd (s.l.length+1) (fun _ h=>by cases h) (by simp only;omega) l h).mono (by omega))
 unfold RO TO ag
 refine an Tryz.func181 rfl (by decide +kernel) (by simp [Tryz.ntmps181]) (veil fun E=>?_)
 simp only [go_sem]
 refine ab E [.bx [100] 0,.d (.str [125])] (RO s) [100,101] (h0) rfl rfl ⟨by simp only [go_sem],by first | (rw [aa];decide) | (simp only [go_sem]<;>(try rw [aa])<;>decide)⟩ rfl (by unfold RO TO ag;simp only [go_sem]) (by unfold RO TO;simp only [go_sem]) ?_
 rintro _ _ ⟨rfl,rfl⟩
 unfold RO TO ag
 simp only [go_sem]
 refine aI E (fun h=>?_) (fun h=>?_)<;>simp only [go_sem]
 ·rw [if_pos h] at hR
  rw [cI h]
  have hlf:=eJ (G:=G) (nd0 11 p) rfl
  generalize bP (nd0 11 p)=L at hlf hR
  unfold exD at hlf
  refine ae E hlf rfl rfl (by simp) ?_
  rintro _ rfl
  simp only [go_sem]
  subst hR
  refine ⟨_,_,[100,101],id,⟨rfl,rfl⟩,?_⟩
  simp only [go_sem]
  rfl
 ·rw [if_neg (by rw [h];decide)] at hR
  rw [dY h]
  refine uc E [5] 7 98 (some 3) [.d (i64 11),.d (i64 0),.d (i64 0),.d (i64 0),.d (i64 0),.d (.str []),.d (.str []),.d .nils,.d (i64 p)] rfl rfl (by rw [aa];decide) rfl ?_
  simp only [go_sem]
  refine bp E (tau [([105],[2]),([102],[5]),([103],[98])]) [.bx [100] 0,.bx [102] 0,.d (.str [44]),.clo 184 [.bx [105] 0,.bx [102] 0]] (NO s (nd0 11 p) []) [100,101,102,103,105] (hp) rfl (by simp only [go_sem];try rfl) ⟨by simp only [go_sem],by first | (rw [aa];decide) | (simp only [go_sem]<;>(try rw [aa])<;>decide)⟩ rfl (by unfold NO FO RO TO ag;simp only [go_sem];try rfl) (by unfold NO FO RO TO;simp only [go_sem]) ?_
  rintro _ _ ⟨rfl,rfl⟩
  unfold NQ NO FO RO TO ag nd0
  simp only [go_sem]
  refine ab E [.bx [100] 0,.d (i64 7),.d (.str [125])] (RO q) [100,101] (hm) rfl rfl ⟨by simp only [go_sem],by first | (rw [aa];decide) | (simp only [go_sem]<;>(try rw [aa])<;>decide)⟩ rfl (by unfold RO TO ag;simp only [go_sem]) (by unfold RO TO;simp only [go_sem]) ?_
  rintro _ _ ⟨rfl,rfl⟩
  unfold RO TO ag
  simp only [go_sem]
  refine dx E [15,107] (some 1) (ks.map exD) rfl (by simp only [go_sem];rfl) ?_
  simp only [go_sem]
  refine dx E [15,106] (some 3) (fl.map fD) rfl (by simp only [go_sem];rfl) ?_
  simp only [go_sem]
  generalize aE { nd0 11 p with l:=fl } ks=J at h4 hR
  unfold exD at h4
  refine ae E h4 rfl rfl (by simp) ?_
  rintro _ rfl
  simp only [go_sem]
  subst hR
  refine ⟨_,_,[100,101],id,⟨rfl,rfl⟩,?_⟩
  simp only [go_sem]
  rfl
theorem CU {G} {N:Nat} {ex:PS→PR} (hex:∀ s,GP 1 s (ex s)) (hc:Reads 34 G N ex):p8 182 G N (fY ex):=by
 intro s p hl hN
 generalize hR:fY ex s p=R
 unfold fY at hR
 have ce:=hc s hl hN
 have he:=hex s
 obtain ⟨e,s0,e0⟩:∃ e s0,ex s=(e,s0):=⟨_,_,rfl⟩
 rw [e0] at ce he hR
 simp only at ce hR
 have le:=he.ss.len
 have ne:=he.ss.nest
 have ze:=he.sz
 simp only at le ne ze
 have cm:=ec (G:=G) s0 1 bOf (by omega) (by decide)
 have hm:=SS.must s0 1 bOf
 generalize s0.must 1 bOf=s1 at cm hm hR
 have lm:=hm.len
 have nm:=hm.nest
 have hg:=eg hex [124] dN SS.branch s1.l.length.succ s1 [] [] rfl (fun _ h=>by cases h)
 have hp:=uX (G:=G) (b:=[124]) hex hc (Cu (G:=G)) (fun s l=>SS.branch s l) s1 (nd0 14 p) (by omega) (by rw [nm,ne,hN])
 rw [show (fun s l=>lH s s.peek l)=dN from rfl] at hp
 obtain ⟨F,hF⟩:∃ F,F=bn ex [124] dN s1.l.length.succ s1 [] []:=⟨_,rfl⟩
 rw [← hF] at hg hp
 simp only [← hF] at hR
 obtain ⟨fl,ks,q⟩:=F
 simp only at hp hR
 have g1:=hg.sz
 have g2:=hg.ln
 have g3:=hg.ss.len
 have g4:=hg.eq
 simp only [bg,List.map_nil,List.sum_nil,List.length_nil] at g1 g2 g3 g4
 have cx:=ec (G:=G) q 1 x5 (by omega) (by decide)
 have h4:=qe (G:=G) { nd0 14 p with l:=fl } (e::ks) (by simp only;omega) (by rw [List.length_cons];omega) (by simp only [bg,List.map_cons,List.sum_cons];omega)
  (fun l h=>by
   rcases List.mem_cons.1 h with rfl | h
   ·exact he.tr.kids.2
   ·exact (hg.tr l h).kids.2)
  (fun l h=>by
   rcases List.mem_cons.1 h with rfl | h
   ·exact he.wd.mono (by omega)
   ·exact (hg.wd (s1.l.length+1) (fun _ h=>by cases h) (by simp only;omega) l h).mono (by omega))
 unfold exD at ce
 unfold RO TO ag
 refine an Tryz.func182 rfl (by decide +kernel) (by simp [Tryz.ntmps182]) (veil fun E=>?_)
 simp only [go_sem]
 refine ab E [.bx [100] 0] (RO s) [100,101] (ce) rfl rfl ⟨by simp only [go_sem],by first | (rw [aa];decide) | (simp only [go_sem]<;>(try rw [aa])<;>decide)⟩ rfl (by unfold RO TO ag;simp only [go_sem]) (by unfold RO TO;simp only [go_sem]) ?_
 rintro _ _ ⟨rfl,rfl⟩
 unfold RO TO ag
 simp only [go_sem]
 refine ab E [.bx [100] 0,.d (i64 1),.d (.str bOf)] (RO s0) [100,101] (cm) rfl rfl ⟨by simp only [go_sem],by first | (rw [aa];decide) | (simp only [go_sem]<;>(try rw [aa])<;>decide)⟩ rfl (by unfold RO TO ag;simp only [go_sem]) (by unfold RO TO;simp only [go_sem]) ?_
 rintro _ _ ⟨rfl,rfl⟩
 unfold RO TO ag
 simp only [go_sem]
 refine uc E [5] 7 98 (some 3) [.d (i64 14),.d (i64 0),.d (i64 0),.d (i64 0),.d (i64 0),.d (.str []),.d (.str []),.d .nils,.d (i64 p)] rfl rfl (by rw [aa];decide) rfl ?_
 simp only [go_sem]
 refine bp E (tau [([105],[2]),([102],[5]),([103],[98])]) [.bx [100] 0,.bx [102] 0,.d (.str [124]),.clo 186 [.bx [105] 0,.bx [102] 0]] (NO s1 (nd0 14 p) []) [100,101,102,103,105] (hp) rfl (by simp only [go_sem];try rfl) ⟨by simp only [go_sem],by first | (rw [aa];decide) | (simp only [go_sem]<;>(try rw [aa])<;>decide)⟩ rfl (by unfold NO FO RO TO ag;simp only [go_sem];try rfl) (by unfold NO FO RO TO;simp only [go_sem]) ?_
 rintro _ _ ⟨rfl,rfl⟩
 unfold NQ NO FO RO TO ag nd0
 simp only [go_sem]
 refine ab E [.bx [100] 0,.d (i64 1),.d (.str x5)] (RO q) [100,101] (cx) rfl rfl ⟨by simp only [go_sem],by first | (rw [aa];decide) | (simp only [go_sem]<;>(try rw [aa])<;>decide)⟩ rfl (by unfold RO TO ag;simp only [go_sem]) (by unfold RO TO;simp only [go_sem]) ?_
 rintro _ _ ⟨rfl,rfl⟩
 unfold RO TO ag
 simp only [go_sem]
 refine ky E [16,107] (some 1) (ks.map exD) rfl ?_
 simp only [go_sem]
 refine ky E [16,106] (some 3) (fl.map fD) rfl ?_
 simp only [go_sem]
 refine al mixed E fun X=>?_
 simp only [go_sem]
 refine ⟨by omega,?_⟩
 generalize aE { nd0 14 p with l:=fl } (e::ks)=J at h4 hR
 unfold exD at h4
 refine bX X 23 [23] (some 1) (.agg [.sl (some 9) (e.map enD)]::ks.map exD) h4 (fun _=>rfl) rfl rfl rfl (by simp) (by rw [List.drop_zero,List.take_of_length_le (by simp;omega)];rfl) (by simp only [go_sem]) ?_
 simp only [go_sem]
 refine ⟨by decide +kernel,?_⟩
 subst hR
 refine ⟨_,_,[100,101],id,⟨rfl,rfl⟩,?_⟩
 simp only [go_sem]
 rfl
end Go.Proofs.YtejpnabbmgpmaaaGreatDoor

namespace Go.Proofs.YtejpnabbmgpmaaaGreatDoor
open Go.Ab
theorem BE {G} {N:Nat} {ex:PS→PR} (hex:∀ s,GP 1 s (ex s)) (hc:Reads 34 G N ex):Reads 178 G N (cS ex):=by
 intro s hl hN
 generalize hR:cS ex s=R
 unfold cS at hR
 rw [ig] at hR
 have hpk:=cV (G:=G) s.l s.fin (by omega)
 generalize bF s.l s.fin=t at hpk hR
 simp only at hR
 have hnx:s.next.nest=N:=hN
 have hnl:s.next.l.length≤100000:=by have:=(SS.next s).len;omega
 have c1:=iO (G:=G) s gb (by omega)
 have c2:=iO (G:=G) s dC (by omega)
 have c3:=gW (G:=G) s [40] (by omega)
 have c4:=gW (G:=G) s [123] (by omega)
 have c5:=iO (G:=G) s jo (by omega)
 have cr:=Bl (G:=G) hex hc s.next t.pos hnl hnx
 have cc:=CU (G:=G) hex hc s.next t.pos hnl hnx
 have ce:=hc s.next hnl hnx
 have he:=hex s.next
 generalize dO ex s.next t.pos=R1 at hR cr
 generalize fY ex s.next t.pos=R2 at hR cc
 obtain ⟨e0,s0,h0⟩:∃ e0 s0,ex s.next=(e0,s0):=⟨_,_,rfl⟩
 rw [h0] at ce hR he
 have ln:=he.ss.len
 simp only at hR ce ln
 have cm:=ec (G:=G) s0 7 [41] (by omega) (by decide)
 unfold exD at cr cc ce
 unfold RO TO ag
 refine an Tryz.func178 rfl (by decide +kernel) (by simp [Tryz.ntmps178]) (veil fun E=>?_)
 simp only [go_sem]
 refine ab E [.bx [101] 0] (TO s.l s.fin) [101] (hpk) rfl rfl ⟨by simp only [go_sem],by first | (rw [aa];decide) | (simp only [go_sem]<;>(try rw [aa])<;>decide)⟩ rfl (by unfold TO ag;simp only [go_sem]) (by unfold TO;simp only [go_sem]) ?_
 rintro _ _ ⟨rfl,rfl⟩
 unfold TO ag
 simp only [go_sem]
 refine ab E [.bx [100] 0] (RO s) [100,101] (ef s) rfl rfl ⟨by simp only [go_sem],by first | (rw [aa];decide) | (simp only [go_sem]<;>(try rw [aa])<;>decide)⟩ rfl (by unfold RO TO ag;simp only [go_sem]) (by unfold RO TO;simp only [go_sem]) ?_
 rintro _ _ ⟨rfl,rfl⟩
 unfold RO TO ag
 simp only [go_sem]
 refine aI E (fun h=>?_) (fun h=>?_)<;>simp only [go_sem]
 ·rw [if_pos (by simpa using h)] at hR
  refine ab E [.bx [100] 0] (RO s) [100,101] (mZ s (by omega)) rfl rfl ⟨by simp only [go_sem],by first | (rw [aa];decide) | (simp only [go_sem]<;>(try rw [aa])<;>decide)⟩ rfl (by unfold RO TO ag;simp only [go_sem]) (by unfold RO TO;simp only [go_sem]) ?_
  rintro _ _ ⟨rfl,rfl⟩
  unfold RO TO ag
  simp only [go_sem]
  have hlf:=eJ (G:=G) (nd0 1 0) rfl
  unfold noE at hR
  generalize bP (nd0 1 0)=L at hlf hR
  unfold exD at hlf
  refine ae E hlf rfl rfl (by simp) ?_
  rintro _ rfl
  simp only [go_sem]
  subst hR
  refine ⟨_,_,[100,101],id,⟨rfl,rfl⟩,?_⟩
  simp only [go_sem]
  all_goals first | rfl | exact ⟨rfl,rfl,rfl⟩
 rw [if_neg (by simpa using h)] at hR
 refine ah E (fun h=>?_) (fun h=>?_)<;>simp only [go_sem]
 ·rw [if_pos h] at hR
  refine ab E [.bx [101] 0] (TO s.l s.fin) [101] (gY s.l s.fin (by omega)) rfl rfl ⟨by simp only [go_sem],by first | (rw [aa];decide) | (simp only [go_sem]<;>(try rw [aa])<;>decide)⟩ rfl (by unfold TO ag;simp only [go_sem]) (by unfold TO;simp only [go_sem]) ?_
  rintro _ _ ⟨rfl,rfl⟩
  unfold TO ag
  simp only [go_sem]
  have hlf:=eJ (G:=G) ({ nd0 1 t.pos with n:=t.n }) rfl
  generalize bP ({ nd0 1 t.pos with n:=t.n })=L at hlf hR
  unfold exD at hlf
  refine ae E hlf rfl rfl (by simp) ?_
  rintro _ rfl
  simp only [go_sem]
  subst hR
  refine ⟨_,_,[100,101],id,⟨rfl,rfl⟩,?_⟩
  simp only [go_sem]
  all_goals first | rfl | exact ⟨rfl,rfl,rfl⟩
 rw [if_neg h] at hR
 refine ah E (fun h=>?_) (fun h=>?_)<;>simp only [go_sem]
 ·rw [if_pos h] at hR
  refine ab E [.bx [101] 0] (TO s.l s.fin) [101] (gY s.l s.fin (by omega)) rfl rfl ⟨by simp only [go_sem],by first | (rw [aa];decide) | (simp only [go_sem]<;>(try rw [aa])<;>decide)⟩ rfl (by unfold TO ag;simp only [go_sem]) (by unfold TO;simp only [go_sem]) ?_
  rintro _ _ ⟨rfl,rfl⟩
  unfold TO ag
  simp only [go_sem]
  have hlf:=eJ (G:=G) ({ nd0 3 t.pos with s:=t.s }) rfl
  generalize bP ({ nd0 3 t.pos with s:=t.s })=L at hlf hR
  unfold exD at hlf
  refine ae E hlf rfl rfl (by simp) ?_
  rintro _ rfl
  simp only [go_sem]
  subst hR
  refine ⟨_,_,[100,101],id,⟨rfl,rfl⟩,?_⟩
  simp only [go_sem]
  all_goals first | rfl | exact ⟨rfl,rfl,rfl⟩
 rw [if_neg h] at hR
 refine ah E (fun h=>?_) (fun h=>?_)<;>simp only [go_sem]
 ·rw [if_pos h] at hR
  refine ab E [.bx [101] 0] (TO s.l s.fin) [101] (gY s.l s.fin (by omega)) rfl rfl ⟨by simp only [go_sem],by first | (rw [aa];decide) | (simp only [go_sem]<;>(try rw [aa])<;>decide)⟩ rfl (by unfold TO ag;simp only [go_sem]) (by unfold TO;simp only [go_sem]) ?_
  rintro _ _ ⟨rfl,rfl⟩
  unfold TO ag
  simp only [go_sem]
  have hlf:=eJ (G:=G) ({ nd0 4 t.pos with name:=t.s }) rfl
  generalize bP ({ nd0 4 t.pos with name:=t.s })=L at hlf hR
  unfold exD at hlf
  refine ae E hlf rfl rfl (by simp) ?_
  rintro _ rfl
  simp only [go_sem]
  subst hR
  refine ⟨_,_,[100,101],id,⟨rfl,rfl⟩,?_⟩
  simp only [go_sem]
  all_goals first | rfl | exact ⟨rfl,rfl,rfl⟩
 rw [if_neg h] at hR
 refine ab E [.bx [100] 0,.d (.str gb)] (RO s) [100,101] (c1) rfl rfl ⟨by simp only [go_sem],by first | (rw [aa];decide) | (simp only [go_sem]<;>(try rw [aa])<;>decide)⟩ rfl (by unfold RO TO ag;simp only [go_sem]) (by unfold RO TO;simp only [go_sem]) ?_
 rintro _ _ ⟨rfl,rfl⟩
 unfold RO TO ag
 simp only [go_sem]
 refine aI E (fun h=>?_) (fun h=>?_)<;>simp only [go_sem]
 ·rw [if_pos h] at hR
  rw [cI h]
  have hlf:=eJ (G:=G) ({ nd0 2 t.pos with n:=1 }) rfl
  generalize bP ({ nd0 2 t.pos with n:=1 })=L at hlf hR
  unfold exD at hlf
  refine ae E hlf rfl rfl (by simp) ?_
  rintro _ rfl
  simp only [go_sem]
  subst hR
  refine ⟨_,_,[100,101],id,⟨rfl,rfl⟩,?_⟩
  simp only [go_sem]
  all_goals first | rfl | exact ⟨rfl,rfl,rfl⟩
 rw [if_neg (by rw [h];decide)] at hR
 rw [dY h]
 refine ab E [.bx [100] 0,.d (.str dC)] (RO s) [100,101] (c2) rfl rfl ⟨by simp only [go_sem],by first | (rw [aa];decide) | (simp only [go_sem]<;>(try rw [aa])<;>decide)⟩ rfl (by unfold RO TO ag;simp only [go_sem]) (by unfold RO TO;simp only [go_sem]) ?_
 rintro _ _ ⟨rfl,rfl⟩
 unfold RO TO ag
 simp only [go_sem]
 refine aI E (fun h=>?_) (fun h=>?_)<;>simp only [go_sem]
 ·rw [if_pos h] at hR
  rw [cI h]
  have hlf:=eJ (G:=G) (nd0 2 t.pos) rfl
  generalize bP (nd0 2 t.pos)=L at hlf hR
  unfold exD at hlf
  refine ae E hlf rfl rfl (by simp) ?_
  rintro _ rfl
  simp only [go_sem]
  subst hR
  refine ⟨_,_,[100,101],id,⟨rfl,rfl⟩,?_⟩
  simp only [go_sem]
  all_goals first | rfl | exact ⟨rfl,rfl,rfl⟩
 rw [if_neg (by rw [h];decide)] at hR
 rw [dY h]
 refine ab E [.bx [100] 0,.d (.str [40])] (RO s) [100,101] (c3) rfl rfl ⟨by simp only [go_sem],by first | (rw [aa];decide) | (simp only [go_sem]<;>(try rw [aa])<;>decide)⟩ rfl (by unfold RO TO ag;simp only [go_sem]) (by unfold RO TO;simp only [go_sem]) ?_
 rintro _ _ ⟨rfl,rfl⟩
 unfold RO TO ag
 simp only [go_sem]
 refine aI E (fun h=>?_) (fun h=>?_)<;>simp only [go_sem]
 ·rw [if_pos h] at hR
  rw [cI h]
  refine ab E [.bx [100] 0] (RO s.next) [100,101] (ce) rfl rfl ⟨by simp only [go_sem],by first | (rw [aa];decide) | (simp only [go_sem]<;>(try rw [aa])<;>decide)⟩ rfl (by unfold RO TO ag;simp only [go_sem]) (by unfold RO TO;simp only [go_sem]) ?_
  rintro _ _ ⟨rfl,rfl⟩
  unfold RO TO ag
  simp only [go_sem]
  refine ab E [.bx [100] 0,.d (i64 7),.d (.str [41])] (RO s0) [100,101] (cm) rfl rfl ⟨by simp only [go_sem],by first | (rw [aa];decide) | (simp only [go_sem]<;>(try rw [aa])<;>decide)⟩ rfl (by unfold RO TO ag;simp only [go_sem]) (by unfold RO TO;simp only [go_sem]) ?_
  rintro _ _ ⟨rfl,rfl⟩
  unfold RO TO ag
  simp only [go_sem]
  subst hR
  refine ⟨_,_,[100,101],id,⟨rfl,rfl⟩,?_⟩
  simp only [go_sem]
  all_goals rfl
 rw [if_neg (by rw [h];decide)] at hR
 rw [dY h]
 refine ab E [.bx [100] 0,.d (.str [123])] (RO s) [100,101] (c4) rfl rfl ⟨by simp only [go_sem],by first | (rw [aa];decide) | (simp only [go_sem]<;>(try rw [aa])<;>decide)⟩ rfl (by unfold RO TO ag;simp only [go_sem]) (by unfold RO TO;simp only [go_sem]) ?_
 rintro _ _ ⟨rfl,rfl⟩
 unfold RO TO ag
 simp only [go_sem]
 refine aI E (fun h=>?_) (fun h=>?_)<;>simp only [go_sem]
 ·rw [if_pos h] at hR
  rw [cI h]
  refine ab E [.bx [100] 0,.d (i64 t.pos)] (RO s.next) [100,101] (cr) rfl rfl ⟨by simp only [go_sem],by first | (rw [aa];decide) | (simp only [go_sem]<;>(try rw [aa])<;>decide)⟩ rfl (by unfold RO TO ag;simp only [go_sem]) (by unfold RO TO;simp only [go_sem]) ?_
  rintro _ _ ⟨rfl,rfl⟩
  unfold RO TO ag
  simp only [go_sem]
  subst hR
  refine ⟨_,_,[100,101],id,⟨rfl,rfl⟩,?_⟩
  simp only [go_sem]
  all_goals rfl
 rw [if_neg (by rw [h];decide)] at hR
 rw [dY h]
 refine ab E [.bx [100] 0,.d (.str jo)] (RO s) [100,101] (c5) rfl rfl ⟨by simp only [go_sem],by first | (rw [aa];decide) | (simp only [go_sem]<;>(try rw [aa])<;>decide)⟩ rfl (by unfold RO TO ag;simp only [go_sem]) (by unfold RO TO;simp only [go_sem]) ?_
 rintro _ _ ⟨rfl,rfl⟩
 unfold RO TO ag
 simp only [go_sem]
 refine aI E (fun h=>?_) (fun h=>?_)<;>simp only [go_sem]
 ·rw [if_pos h] at hR
  rw [cI h]
  refine ab E [.bx [100] 0,.d (i64 t.pos)] (RO s.next) [100,101] (cc) rfl rfl ⟨by simp only [go_sem],by first | (rw [aa];decide) | (simp only [go_sem]<;>(try rw [aa])<;>decide)⟩ rfl (by unfold RO TO ag;simp only [go_sem]) (by unfold RO TO;simp only [go_sem]) ?_
  rintro _ _ ⟨rfl,rfl⟩
  unfold RO TO ag
  simp only [go_sem]
  subst hR
  refine ⟨_,_,[100,101],id,⟨rfl,rfl⟩,?_⟩
  simp only [go_sem]
  all_goals rfl
 rw [if_neg (by rw [h];decide)] at hR
 rw [dY h]
 refine ab E [.bx [100] 0] (RO s) [100,101] (mZ s (by omega)) rfl rfl ⟨by simp only [go_sem],by first | (rw [aa];decide) | (simp only [go_sem]<;>(try rw [aa])<;>decide)⟩ rfl (by unfold RO TO ag;simp only [go_sem]) (by unfold RO TO;simp only [go_sem]) ?_
 rintro _ _ ⟨rfl,rfl⟩
 unfold RO TO ag
 simp only [go_sem]
 have hlf:=eJ (G:=G) (nd0 1 0) rfl
 unfold noE at hR
 generalize bP (nd0 1 0)=L at hlf hR
 unfold exD at hlf
 refine ae E hlf rfl rfl (by simp) ?_
 rintro _ rfl
 simp only [go_sem]
 subst hR
 refine ⟨_,_,[100,101],id,⟨rfl,rfl⟩,?_⟩
 simp only [go_sem]
 all_goals first | rfl | exact ⟨rfl,rfl,rfl⟩
end Go.Proofs.YtejpnabbmgpmaaaGreatDoor

namespace Go.Proofs.YtejpnabbmgpmaaaGreatDoor
open Go.Ab
theorem An (s:PS) (e p:Int) (he:e≠0):(s.fail e p).err≠0:=by
 unfold PS.fail
 split
 ·exact he
 ·assumption
theorem y8 {G}:Reads 34 G 100 (gh 0):=by
 intro s hl hN
 generalize hR:gh 0 s=R
 unfold gh at hR
 rw [ig] at hR
 have hpk:=cV (G:=G) s.l s.fin (by omega)
 generalize bF s.l s.fin=t at hpk hR
 have hf:=lS (G:=G) s 6 t.pos
 have hne:=An s 6 t.pos (by decide)
 generalize s.fail 6 t.pos=s2 at hf hne hR
 unfold noE at hR
 have hlf:=eJ (G:=G) (nd0 1 0) rfl
 generalize bP (nd0 1 0)=L at hlf hR
 subst hR
 unfold exD at hlf
 unfold RO TO ag
 refine uV Tryz.func34 rfl (by decide +kernel) (by simp [Tryz.ntmps34]) fun B0 hB0=>?_
 refine bH (aJ fun E=>?_)
 simp only [go_sem]
 refine bH (aJ fun E=>?_)
 simp only [go_sem]
 refine ab E [.bx [101] 0] (TO s.l s.fin) [101] (hpk) rfl rfl ⟨by simp only [go_sem],by first | (rw [aa];decide) | (simp only [go_sem]<;>(try rw [aa])<;>decide)⟩ rfl (by unfold TO ag;simp only [go_sem]) (by unfold TO;simp only [go_sem]) ?_
 rintro _ _ ⟨rfl,rfl⟩
 unfold TO ag
 simp only [go_sem]
 refine bH (aJ fun E=>?_)
 simp only [go_sem]
 refine ah E (fun h=>?_) (fun h=>absurd (by omega) h)<;>simp only [go_sem]
 refine ab E [.bx [100] 0,.d (i64 6),.d (i64 t.pos)] (RO s) [100,101] (hf) rfl rfl ⟨by simp only [go_sem],by first | (rw [aa];decide) | (simp only [go_sem]<;>(try rw [aa])<;>decide)⟩ rfl (by unfold RO TO ag;simp only [go_sem]) (by unfold RO TO;simp only [go_sem]) ?_
 rintro _ _ ⟨rfl,rfl⟩
 unfold RO TO ag
 simp only [go_sem]
 refine bH (aJ fun E=>?_)
 simp only [go_sem]
 refine ab E [.bx [100] 0] (RO s2) [100,101] (ef s2) rfl rfl ⟨by simp only [go_sem],by first | (rw [aa];decide) | (simp only [go_sem]<;>(try rw [aa])<;>decide)⟩ rfl (by unfold RO TO ag;simp only [go_sem]) (by unfold RO TO;simp only [go_sem]) ?_
 rintro _ _ ⟨rfl,rfl⟩
 unfold RO TO ag
 simp only [go_sem]
 refine aI E (fun g=>?_) (fun g=>absurd (by simpa using g) hne)<;>simp only [go_sem]
 refine ae E hlf rfl rfl (by simp) ?_
 rintro _ rfl
 simp only [go_sem]
 refine vk (.inl rfl) hB0 ?_
 simp only [go_sem]
 refine ⟨_,_,[100,101],id,⟨rfl,rfl⟩,?_⟩
 simp only [go_sem]
 rfl
def yX (ex:PS→PR) (s:PS):PR:=if s.err≠0 then (noE,s) else
 let r:=lU ex { s with nest:=s.nest+1 }
 (r.1,{ r.2 with nest:=s.nest })
set_option maxHeartbeats 1000000 in
theorem xE {G} {N:Nat} {ex:PS→PR} (hN0:N<100) (hex:∀ s,GP 1 s (ex s)) (hc:Reads 34 G (N+1) ex):Reads 34 G N (yX ex):=by
 intro s hl hN
 generalize hR:yX ex s=R
 unfold yX lU at hR
 have hp1:({ s with nest:=s.nest+1 }:PS).peek=bF s.l s.fin:=rfl
 obtain ⟨s1,hs1⟩:∃ s1:PS,s1={ s with nest:=s.nest+1 }:=⟨_,rfl⟩
 rw [← hs1] at hp1
 simp only [← hs1,hp1] at hR
 have hpk:=cV (G:=G) s.l s.fin (by omega)
 generalize bF s.l s.fin=t at hpk hR
 have l1:s1.l.length≤100000:=by rw [hs1];exact hl
 have n1:s1.nest=N+1:=by rw [hs1];show s.nest+1=_;rw [hN]
 have hlf:=eJ (G:=G) (nd0 1 0) rfl
 unfold noE at hR
 generalize bP (nd0 1 0)=L at hlf hR
 have c1:=iO (G:=G) s1 Br (by omega)
 have c2:=iO (G:=G) s1 zf (by omega)
 have c3:=iO (G:=G) s1 bIf (by omega)
 have nn:=(SS.next s1).nest
 have ln:=(SS.next s1).len
 have c4:=Ec (G:=G) hex hc s1.next t.pos (by omega) (nn.trans n1)
 have c5:=DZ (G:=G) hex hc s1.next t.pos (by omega) (nn.trans n1)
 have c6:=EP (G:=G) hex (CG hex (Cg hex (Ci hex (CX hex (BE hex hc))))) s1 l1 n1
 have g4:=(rQ hex s1.next t.pos).ss.nest
 have g5:=(vh hex s1.next t.pos).ss.nest
 have g6:=(q9 hex s1).ss.nest
 generalize p7 ex s1.next t.pos=R4 at c4 g4 hR
 generalize ifS ex s1.next t.pos=R5 at c5 g5 hR
 generalize qk ex s1=R6 at c6 g6 hR
 have c7:=kq (G:=G) s1.next 2 (by omega)
 have g7:=SS.of s1.next 2
 obtain ⟨nm,s2,e2⟩:∃ nm s2,s1.next.of 2=(nm,s2):=⟨_,_,rfl⟩
 rw [e2] at c7 g7
 simp only [e2] at hR
 simp only at c7 g7
 have l2:=g7.len
 have n2:=g7.nest
 have c8:=ec (G:=G) s2 7 bTo (by omega) (by decide)
 have g8:=SS.must s2 7 bTo
 generalize s2.must 7 bTo=s3 at c8 g8 hR
 have l3:=g8.len
 have n3:=g8.nest
 have c9:=hc s3 (by omega) (by rw [n3,n2,nn,n1])
 have g9:=hex s3
 obtain ⟨b,s4,e4⟩:∃ b s4,ex s3=(b,s4):=⟨_,_,rfl⟩
 rw [e4] at c9 g9
 simp only [e4] at hR
 have n4:=g9.ss.nest
 have z4:=g9.sz
 simp only at n4 z4
 have h4:=iy (G:=G) { nd0 5 t.pos with name:=nm } [b] rfl (by simp) (by simp only [bg,List.map_cons,List.map_nil,List.sum_cons,List.sum_nil];omega)
  (fun l h=>by rw [List.mem_singleton.1 h];exact g9.tr.kids.2)
  (fun l h=>by rw [List.mem_singleton.1 h];exact g9.wd.mono (by omega))
 generalize aE { nd0 5 t.pos with name:=nm } [b]=J at h4 hR
 unfold exD at hlf c4 c5 c6 c9 h4
 unfold RO TO ag
 refine uV Tryz.func34 rfl (by decide +kernel) (by simp [Tryz.ntmps34]) fun B0 hB0=>?_
 refine bH (aJ fun E=>?_)
 simp only [go_sem]
 refine bH (aJ fun E=>?_)
 simp only [go_sem]
 refine ab E [.bx [101] 0] (TO s.l s.fin) [101] (hpk) rfl rfl ⟨by simp only [go_sem],by first | (rw [aa];decide) | (simp only [go_sem]<;>(try rw [aa])<;>decide)⟩ rfl (by unfold TO ag;simp only [go_sem]) (by unfold TO;simp only [go_sem]) ?_
 rintro _ _ ⟨rfl,rfl⟩
 unfold TO ag
 simp only [go_sem]
 refine bH (aJ fun E=>?_)
 simp only [go_sem]
 refine ah E (fun h=>absurd h (by omega)) (fun h=>?_)<;>simp only [go_sem]
 refine bH (aJ fun E=>?_)
 simp only [go_sem]
 refine ab E [.bx [100] 0] (RO s) [100,101] (ef s) rfl rfl ⟨by simp only [go_sem],by first | (rw [aa];decide) | (simp only [go_sem]<;>(try rw [aa])<;>decide)⟩ rfl (by unfold RO TO ag;simp only [go_sem]) (by unfold RO TO;simp only [go_sem]) ?_
 rintro _ _ ⟨rfl,rfl⟩
 unfold RO TO ag
 simp only [go_sem]
 refine aI E (fun g=>?_) (fun g=>?_)<;>simp only [go_sem]
 ·rw [if_pos (by simpa using g)] at hR
  refine ae E hlf rfl rfl (by simp) ?_
  rintro _ rfl
  simp only [go_sem]
  subst hR
  refine vk (.inl rfl) hB0 ?_
  simp only [go_sem]
  refine ⟨_,_,[100,101],id,⟨rfl,rfl⟩,?_⟩
  simp only [go_sem]
  all_goals first | rfl | exact ⟨rfl,rfl⟩ | exact ⟨rfl,rfl,rfl⟩
 rw [if_neg (by simpa using g)] at hR
 refine bH (aJ fun E=>?_)
 simp only [go_sem]
 rw [ai (n:=(s.nest:Int)+1) ⟨by omega,by omega⟩]
 rw [show s.err=s1.err by rw [hs1],show s.pos=s1.pos by rw [hs1],show s.l=s1.l by rw [hs1],show s.fin=s1.fin by rw [hs1],show (s.nest:Int)+1=(s1.nest:Int) by rw [n1,← hN];rfl]
 refine bH (rh ?_)
 refine Bh rfl ?_
 simp only [go_sem]
 refine Cc [[1]] rfl rfl (by intro p hp;rw [List.mem_singleton.1 hp];exact ⟨_,rfl⟩) ?_
 refine xe ?_
 refine bH (aJ fun E=>?_)
 simp only [go_sem]
 refine ab E [.bx [100] 0,.d (.str Br)] (RO s1) [100,101] (c1) rfl rfl ⟨by simp only [go_sem],by first | (rw [aa];decide) | (simp only [go_sem]<;>(try rw [aa])<;>decide)⟩ rfl (by unfold RO TO ag;simp only [go_sem]) (by unfold RO TO;simp only [go_sem]) ?_
 rintro _ _ ⟨rfl,rfl⟩
 unfold RO TO ag
 simp only [go_sem]
 refine aI E (fun h=>?_) (fun h=>?_)<;>simp only [go_sem]
 ·rw [if_pos h] at hR
  rw [cI h]
  refine ab E [.bx [100] 0,.d (i64 2)] (RO s1.next) [100,101] (c7) rfl rfl ⟨by simp only [go_sem],by first | (rw [aa];decide) | (simp only [go_sem]<;>(try rw [aa])<;>decide)⟩ rfl (by unfold RO TO ag;simp only [go_sem]) (by unfold RO TO;simp only [go_sem]) ?_
  rintro _ _ ⟨rfl,rfl⟩
  unfold RO TO ag
  simp only [go_sem]
  refine ab E [.bx [100] 0,.d (i64 7),.d (.str bTo)] (RO s2) [100,101] (c8) rfl rfl ⟨by simp only [go_sem],by first | (rw [aa];decide) | (simp only [go_sem]<;>(try rw [aa])<;>decide)⟩ rfl (by unfold RO TO ag;simp only [go_sem]) (by unfold RO TO;simp only [go_sem]) ?_
  rintro _ _ ⟨rfl,rfl⟩
  unfold RO TO ag
  simp only [go_sem]
  refine al mixed E fun X=>?_
  simp only [go_sem]
  refine cg X [.bx [100] 0] (RO s3) [100,101] _ _ c9 rfl rfl ⟨by simp only [go_sem],by rw [aa];decide⟩ rfl (by unfold RO TO ag;simp only [go_sem]) (by unfold RO TO;simp only [go_sem]) (by unfold RO TO;simp only [go_sem]) ?_
  unfold RO TO ag
  simp only [go_sem]
  refine bX X 45 [45] (some 1) [.agg [.sl (some 9) (b.map enD)]] h4 (fun _=>rfl) rfl rfl rfl (by simp) rfl (by simp only [go_sem]) ?_
  simp only [go_sem]
  refine ⟨by decide +kernel,?_⟩
  subst hR
  refine py (ns:=[[1]]) (.inl rfl) hB0 Tryz.func73 rfl (by decide +kernel) (by simp [Tryz.ntmps73]) (by intro p hp;rw [List.mem_singleton.1 hp];simp only [go_sem]) (veil fun E=>?_)
  simp only [go_sem]
  rw [gF]
  simp only [go_sem]
  rw [ai (n:=(s4.nest:Int)-1) ⟨by omega,by omega⟩]
  refine ⟨od (fL (by simp only [go_sem])),?_⟩
  simp only [gF]
  simp only [go_sem]
  refine ⟨_,_,[100,101],id,⟨rfl,rfl⟩,?_⟩
  simp only [go_sem]
  have hq:(s4.nest:Int)-1=(s.nest:Int):=by omega
  rw [hq]
  exact ⟨rfl,rfl⟩
 rw [if_neg (by rw [h];decide)] at hR
 rw [dY h]
 refine ab E [.bx [100] 0,.d (.str zf)] (RO s1) [100,101] (c2) rfl rfl ⟨by simp only [go_sem],by first | (rw [aa];decide) | (simp only [go_sem]<;>(try rw [aa])<;>decide)⟩ rfl (by unfold RO TO ag;simp only [go_sem]) (by unfold RO TO;simp only [go_sem]) ?_
 rintro _ _ ⟨rfl,rfl⟩
 unfold RO TO ag
 simp only [go_sem]
 refine aI E (fun h=>?_) (fun h=>?_)<;>simp only [go_sem]
 ·rw [if_pos h] at hR
  rw [cI h]
  refine ab E [.bx [100] 0,.d (i64 t.pos)] (RO s1.next) [100,101] (c4) rfl rfl ⟨by simp only [go_sem],by first | (rw [aa];decide) | (simp only [go_sem]<;>(try rw [aa])<;>decide)⟩ rfl (by unfold RO TO ag;simp only [go_sem]) (by unfold RO TO;simp only [go_sem]) ?_
  rintro _ _ ⟨rfl,rfl⟩
  unfold RO TO ag
  simp only [go_sem]
  subst hR
  refine py (ns:=[[1]]) (.inl rfl) hB0 Tryz.func73 rfl (by decide +kernel) (by simp [Tryz.ntmps73]) (by intro p hp;rw [List.mem_singleton.1 hp];simp only [go_sem]) (veil fun E=>?_)
  simp only [go_sem]
  rw [gF]
  simp only [go_sem]
  rw [ai (n:=(R4.2.nest:Int)-1) ⟨by omega,by omega⟩]
  refine ⟨od (fL (by simp only [go_sem])),?_⟩
  simp only [gF]
  simp only [go_sem]
  refine ⟨_,_,[100,101],id,⟨rfl,rfl⟩,?_⟩
  simp only [go_sem]
  have hq:(R4.2.nest:Int)-1=(s.nest:Int):=by omega
  rw [hq]
  exact ⟨rfl,rfl⟩
 rw [if_neg (by rw [h];decide)] at hR
 rw [dY h]
 refine ab E [.bx [100] 0,.d (.str bIf)] (RO s1) [100,101] (c3) rfl rfl ⟨by simp only [go_sem],by first | (rw [aa];decide) | (simp only [go_sem]<;>(try rw [aa])<;>decide)⟩ rfl (by unfold RO TO ag;simp only [go_sem]) (by unfold RO TO;simp only [go_sem]) ?_
 rintro _ _ ⟨rfl,rfl⟩
 unfold RO TO ag
 simp only [go_sem]
 refine aI E (fun h=>?_) (fun h=>?_)<;>simp only [go_sem]
 ·rw [if_pos h] at hR
  rw [cI h]
  refine ab E [.bx [100] 0,.d (i64 t.pos)] (RO s1.next) [100,101] (c5) rfl rfl ⟨by simp only [go_sem],by first | (rw [aa];decide) | (simp only [go_sem]<;>(try rw [aa])<;>decide)⟩ rfl (by unfold RO TO ag;simp only [go_sem]) (by unfold RO TO;simp only [go_sem]) ?_
  rintro _ _ ⟨rfl,rfl⟩
  unfold RO TO ag
  simp only [go_sem]
  subst hR
  refine py (ns:=[[1]]) (.inl rfl) hB0 Tryz.func73 rfl (by decide +kernel) (by simp [Tryz.ntmps73]) (by intro p hp;rw [List.mem_singleton.1 hp];simp only [go_sem]) (veil fun E=>?_)
  simp only [go_sem]
  rw [gF]
  simp only [go_sem]
  rw [ai (n:=(R5.2.nest:Int)-1) ⟨by omega,by omega⟩]
  refine ⟨od (fL (by simp only [go_sem])),?_⟩
  simp only [gF]
  simp only [go_sem]
  refine ⟨_,_,[100,101],id,⟨rfl,rfl⟩,?_⟩
  simp only [go_sem]
  have hq:(R5.2.nest:Int)-1=(s.nest:Int):=by omega
  rw [hq]
  exact ⟨rfl,rfl⟩
 rw [if_neg (by rw [h];decide)] at hR
 rw [dY h]
 refine aJ fun E=>?_
 simp only [go_sem]
 refine ab E [.bx [100] 0] (RO s1) [100,101] (c6) rfl rfl ⟨by simp only [go_sem],by first | (rw [aa];decide) | (simp only [go_sem]<;>(try rw [aa])<;>decide)⟩ rfl (by unfold RO TO ag;simp only [go_sem]) (by unfold RO TO;simp only [go_sem]) ?_
 rintro _ _ ⟨rfl,rfl⟩
 unfold RO TO ag
 simp only [go_sem]
 subst hR
 refine py (ns:=[[1]]) (.inl rfl) hB0 Tryz.func73 rfl (by decide +kernel) (by simp [Tryz.ntmps73]) (by intro p hp;rw [List.mem_singleton.1 hp];simp only [go_sem]) (veil fun E=>?_)
 simp only [go_sem]
 rw [gF]
 simp only [go_sem]
 rw [ai (n:=(R6.2.nest:Int)-1) ⟨by omega,by omega⟩]
 refine ⟨od (fL (by simp only [go_sem])),?_⟩
 simp only [gF]
 simp only [go_sem]
 refine ⟨_,_,[100,101],id,⟨rfl,rfl⟩,?_⟩
 simp only [go_sem]
 have hq:(R6.2.nest:Int)-1=(s.nest:Int):=by omega
 rw [hq]
 exact ⟨rfl,rfl⟩
theorem yw {G}:∀ (m N:Nat),N+m=100→Reads 34 G N (gh m)
 | 0,N,h=>by
   obtain rfl:N=100:=by omega
   exact y8
 | m+1,N,h=>xE (by omega) (gX m) (yw m (N+1) (by omega))
end Go.Proofs.YtejpnabbmgpmaaaGreatDoor

namespace Go.Proofs.YtejpnabbmgpmaaaGreatDoor
open Go.Ab
def Fm (B:Nat) (f:EF):Prop:=f.nm.length≤B∧f.var.length≤B
def Nm (B:Nat) (n:EN):Prop:=n.name.length≤B∧n.s.length≤B∧∀ f∈n.l,Fm B f
def Sm (B:Nat) (ns:List EN):Prop:=∀ n∈ns,Nm B n
def Tm (B:Nat) (s:PS):Prop:=∀ t∈s.l,t.s.length≤B
section
variable {B:Nat}
theorem qp (ks:List Int) (o:Nat):∀ (l:List EF) (i:Nat),(∀ f∈l,Fm B f)→∀ f∈aP ks o l i,Fm B f
 | [],_,_,f,hf=>by simp [aP] at hf
 | g::r,i,h,f,hf=>by
   rw [aP] at hf
   rcases List.mem_cons.1 hf with rfl | hf
   ·have:=h g List.mem_cons_self
    split<;>exact this
   ·exact qp ks o r (i+1) (fun x hx=>h x (List.mem_cons_of_mem _ hx)) f hf
theorem Nm.with {n:EN} (h:Nm B n) (ks:List Int):Nm B (aZ n ks):=by
 refine ⟨h.1,h.2.1,fun f hf=>?_⟩
 have hf:f∈(if aL n.k then aP ks (aU n.k) n.l 0 else []):=hf
 split at hf
 ·exact qp _ _ _ _ h.2.2 f hf
 ·cases hf
theorem zU:∀ (ls:List (List EN)) (acc:List EN) (rs:List Int),(∀ l∈ls,Sm B l)→Sm B acc→Sm B (bM ls acc rs).1
 | [],_,_,_,h=>h
 | l::r,acc,rs,hl,h=>by
   refine zU r _ _ (fun x hx=>hl x (List.mem_cons_of_mem _ hx)) fun n hn=>?_
   rcases List.mem_append.1 hn with hn | hn
   ·exact h n hn
   ·obtain ⟨m,hm,rfl⟩:=List.mem_map.1 hn
    exact (hl l List.mem_cons_self m hm).with _
theorem cH {n:EN} {ls:List (List EN)} (hn:Nm B n) (hl:∀ l∈ls,Sm B l):Sm B (aE n ls):=by
 intro m hm
 rcases List.mem_append.1 hm with hm | hm
 ·exact zU ls [] [] hl (fun _ h=>by cases h) m hm
 ·rw [List.mem_singleton.1 hm];exact hn.with _
theorem mP (k p:Int):Nm B (nd0 k p):=⟨Nat.zero_le _,Nat.zero_le _,fun _ h=>by cases h⟩
theorem fQ {n:EN} (hn:Nm B n):Sm B (bP n):=cH hn fun _ h=>by cases h
theorem uo:Sm B noE:=fQ (mP 1 0)
theorem Tm.ss {s r:PS} (h:SS s r) (g:Tm B s):Tm B r:=by
 obtain ⟨k,hk⟩:=h.suf
 intro t ht
 rw [hk] at ht
 exact g t (List.mem_of_mem_drop ht)
theorem Tm.peek {s:PS} (g:Tm B s):s.peek.s.length≤B:=by
 unfold PS.peek
 split
 ·exact Nat.zero_le _
 ·rename_i t r e
  exact g t (by rw [e];exact List.mem_cons_self)
theorem Tm.of {s:PS} (g:Tm B s) (k:Int):(s.of k).1.length≤B:=by
 unfold PS.of
 split
 ·exact g.peek
 ·exact Nat.zero_le _
variable {ex:PS→PR} (hex:∀ s,GP 1 s (ex s)) (hx:∀ s,Tm B s→Sm B (ex s).1)
include hex hx
omit hex hx in
theorem yI {s:PS} (g:Tm B s) (l:List EF):Fm B (fV s l).1:=⟨g.of 2,Nat.zero_le _⟩
omit hex hx in
theorem vU {s:PS} (g:Tm B s) (l:List EF):Fm B (dN s l).1 :=
 ⟨g.of 3,Tm.of (g.ss (SS.partp (s:=s) (SS.of s 3) s.peek l fun _ h=>jn h)) 2⟩
theorem mI (between:List UInt8) (part:PS→List EF→EF × PS) (hp:∀ s l,SS s (part s l).2) (hf:∀ s l,Tm B s→Fm B (part s l).1):∀ (m:Nat) (s:PS) (l:List EF) (ks:List (List EN)),Tm B s→(∀ f∈l,Fm B f)→(∀ k∈ks,Sm B k) →
  (∀ f∈(bn ex between part m s l ks).1,Fm B f)∧(∀ k∈(bn ex between part m s l ks).2.1,Sm B k)
 | 0,s,l,ks,_,h1,h2=>⟨h1,h2⟩
 | m+1,s,l,ks,g,h1,h2=>by
   have g1:=g.ss (hp s l)
   have g2:=g1.ss (hex (part s l).2).ss
   have a1:∀ f∈l++[(part s l).1],Fm B f:=fun f h=>by
    rcases List.mem_append.1 h with h | h
    ·exact h1 f h
    ·rw [List.mem_singleton.1 h];exact hf s l g
   have a2:∀ k∈ks++[(ex (part s l).2).1],Sm B k:=fun k h=>by
    rcases List.mem_append.1 h with h | h
    ·exact h2 k h
    ·rw [List.mem_singleton.1 h];exact hx _ g1
   unfold bn
   simp only
   split
   ·exact mI between part hp hf m _ _ _ (g2.ss (SS.next _)) a1 a2
   ·exact ⟨a1,a2⟩
theorem w4 (s:PS) (g:Tm B s) (pos:Int):Sm B (dO ex s pos).1:=by
 unfold dO
 split
 ·exact fQ (mP 11 pos)
 ·have h:=mI hex hx [44] fV SS.field (fun s l g=>yI g l) s.l.length.succ s [] [] g (fun _ h=>by cases h) (fun _ h=>by cases h)
  exact cH ⟨Nat.zero_le _,Nat.zero_le _,h.1⟩ h.2
theorem AL (s:PS) (g:Tm B s) (pos:Int):Sm B (fY ex s pos).1:=by
 unfold fY
 have g1:=(g.ss (hex s).ss).ss (SS.must (ex s).2 1 bOf)
 simp only
 have h:=mI hex hx [124] dN SS.branch (fun s l g=>vU g l) ((ex s).2.must 1 bOf).l.length.succ _ [] [] g1 (fun _ h=>by cases h) (fun _ h=>by cases h)
 refine cH ⟨Nat.zero_le _,Nat.zero_le _,h.1⟩ fun l hl=>?_
 rcases List.mem_cons.1 hl with rfl | hl
 ·exact hx s g
 ·exact h.2 l hl
theorem Be (s:PS) (g:Tm B s):Sm B (cS ex s).1:=by
 have gn:=g.ss (SS.next s)
 unfold cS
 simp only
 repeat' split
 ·exact uo
 ·exact fQ ⟨Nat.zero_le _,Nat.zero_le _,fun _ h=>by cases h⟩
 ·exact fQ ⟨Nat.zero_le _,g.peek,fun _ h=>by cases h⟩
 ·exact fQ ⟨g.peek,Nat.zero_le _,fun _ h=>by cases h⟩
 ·exact fQ ⟨Nat.zero_le _,Nat.zero_le _,fun _ h=>by cases h⟩
 ·exact fQ (mP _ _)
 ·exact hx _ gn
 ·exact w4 hex hx _ gn _
 ·exact AL hex hx _ gn _
 ·exact uo
omit hex hx in
theorem uu:∀ (m:Nat) (a:List EN) (s:PS),Sm B a→Tm B s→Sm B (eL m a s).1
 | 0,_,_,h,_=>h
 | m+1,a,s,h,g=>by
   unfold eL
   split
   ·exact uu m _ _ (cH ⟨(g.ss (SS.next s)).of 2,Nat.zero_le _,fun _ h=>by cases h⟩ fun l hl=>by rw [List.mem_singleton.1 hl];exact h) ((g.ss (SS.next s)).ss (SS.of _ 2))
   ·exact h
theorem oO (s:PS) (g:Tm B s):Sm B (cR ex s).1:=uu _ _ _ (Be hex hx s g) (g.ss (jR hex s).1.ss)
theorem ug:∀ (m:Nat) (a:List EN) (s:PS),Sm B a→Tm B s→Sm B (gm ex m a s).1
 | 0,_,_,h,_=>h
 | m+1,a,s,h,g=>by
   unfold gm
   split
   ·refine ug m _ _ (cH (mP _ _) fun l hl=>?_) (g.ss (dV hex s).1.ss)
    rcases List.mem_cons.1 hl with rfl | hl
    ·exact h
    ·rw [List.mem_singleton.1 hl];exact oO hex hx s g
   ·exact h
theorem Ae (s:PS) (g:Tm B s):Sm B (kj ex s).1:=by
 unfold kj
 simp only
 split
 ·exact cH ⟨g.peek,Nat.zero_le _,fun _ h=>by cases h⟩ fun l hl=>by rw [List.mem_singleton.1 hl];exact oO hex hx _ (g.ss (SS.next s))
 ·exact ug hex hx _ _ _ (oO hex hx s g) (g.ss (dV hex s).1.ss)
omit hex hx in
theorem tI (ops:List (List UInt8 × Int)) (sub:PS→PR) (h1:∀ s,SS s (sub s).2) (h2:∀ s,Tm B s→Sm B (sub s).1):∀ (m:Nat) (a:List EN) (s:PS),Sm B a→Tm B s→Sm B (iP ops sub m a s).1
 | 0,_,_,h,_=>h
 | m+1,a,s,h,g=>by
   unfold iP
   split
   ·have gn:=g.ss (SS.next s)
    refine tI ops sub h1 h2 m _ _ (cH ⟨Nat.zero_le _,Nat.zero_le _,fun _ h=>by cases h⟩ fun l hl=>?_) (gn.ss (h1 _))
    rcases List.mem_cons.1 hl with rfl | hl
    ·exact h
    ·rw [List.mem_singleton.1 hl];exact h2 _ gn
   ·exact h
theorem vu (s:PS) (g:Tm B s):Sm B (iB ex s).1:=tI _ _ (fun s=>(gM hex s).ss) (Ae hex hx) _ _ _ (Ae hex hx s g) (g.ss (gM hex s).ss)
theorem tC (s:PS) (g:Tm B s):Sm B (rZ ex s).1:=tI _ _ (fun s=>(eQ hex s).ss) (vu hex hx) _ _ _ (vu hex hx s g) (g.ss (eQ hex s).ss)
theorem E8 (s:PS) (g:Tm B s):Sm B (qk ex s).1:=by
 unfold qk
 simp only
 split
 ·refine cH ⟨Nat.zero_le _,Nat.zero_le _,fun _ h=>by cases h⟩ fun l hl=>?_
  rcases List.mem_cons.1 hl with rfl | hl
  ·exact tC hex hx s g
  ·rw [List.mem_singleton.1 hl];exact tC hex hx _ ((g.ss (gP hex s).ss).ss (SS.next _))
 ·exact tC hex hx s g
theorem EO (s:PS) (g:Tm B s) (pos:Int):Sm B (p7 ex s pos).1:=by
 unfold p7
 simp only
 obtain ⟨k,hk⟩:∃ k:Int,k=if s.sees 1 iJ=true then 8 else 7:=⟨_,rfl⟩
 rw [← hk]
 have g1:=g.ss (SS.may s 1 iJ)
 have g2:=g1.ss (SS.of _ 2)
 have g3:=g2.ss (SS.must _ 7 [61])
 have g4:=g3.ss (hex _).ss
 refine cH ⟨g1.of 2,Nat.zero_le _,fun _ h=>by cases h⟩ fun l hl=>?_
 rcases List.mem_cons.1 hl with rfl | hl
 ·exact hx _ g3
 ·rw [List.mem_singleton.1 hl]
  refine hx _ (Tm.ss (SS.must _ 1 bIn) ?_)
  split
  ·intro t ht
   rw [mU] at ht
   exact g4 t ht
  ·exact g4
theorem FL (s:PS) (g:Tm B s) (pos:Int):Sm B (ifS ex s pos).1:=by
 unfold ifS
 simp only
 have g1:=(g.ss (hex _).ss).ss (SS.must _ 1 l7)
 have g2:=(g1.ss (hex _).ss).ss (SS.must _ 1 mL)
 refine cH (mP _ _) fun l hl=>?_
 simp only [List.mem_cons,List.not_mem_nil,or_false] at hl
 rcases hl with rfl | rfl | rfl
 ·exact hx _ g
 ·exact hx _ g1
 ·exact hx _ g2
theorem Cz (s:PS) (g:Tm B s):Sm B (lU ex s).1:=by
 have gn:=g.ss (SS.next s)
 unfold lU
 simp only
 repeat' split
 ·exact cH ⟨gn.of 2,Nat.zero_le _,fun _ h=>by cases h⟩ fun l hl=>by rw [List.mem_singleton.1 hl];exact hx _ ((gn.ss (SS.of _ 2)).ss (SS.must _ 7 bTo))
 ·exact EO hex hx _ gn _
 ·exact FL hex hx _ gn _
 ·exact E8 hex hx s g
end
theorem uH {B:Nat}:∀ (m:Nat) (s:PS),Tm B s→Sm B (gh m s).1
 | 0,s,_=>uo
 | m+1,s,g=>by
   unfold gh
   split
   ·exact uo
   ·exact Cz (gX m) (uH m) _ g
theorem pB:∀ (m:Nat) (r:List UInt8) (i:Nat) (acc:List UInt8),(du m r i acc).1.length≤200
 | 0,_,_,_=>Nat.zero_le _
 | _+1,[],_,_=>Nat.zero_le _
 | m+1,c::r,i,acc=>by
   unfold du
   split
   ·split
    ·exact Nat.zero_le _
    ·simp only;omega
   split
   ·split
    ·exact Nat.zero_le _
    ·exact pB m _ _ _
   split
   ·exact pB m _ _ _
   ·exact Nat.zero_le _
theorem Dq (s:List UInt8):(bN s).t.s.length≤200:=by
 unfold bN
 split
 ·unfold nw
  repeat' split
  ·exact Nat.zero_le _
  all_goals (show (s.take _).length≤_;rw [List.length_take];omega)
 split
 ·unfold qY
  repeat' split
  ·exact Nat.zero_le _
  ·exact Nat.zero_le _
  ·show ((s.drop 1).take _).length≤_;rw [List.length_take];omega
 split
 ·exact Nat.zero_le _
 split
 ·unfold sv cy
  repeat' split
  ·exact Nat.zero_le _
  ·exact pB _ _ _ _
  ·exact Nat.zero_le _
 ·unfold lP
  repeat' split
  ·show (s.take _).length≤_;rw [List.length_take];omega
  ·exact Nat.zero_le _
  ·show (s.take _).length≤_;rw [List.length_take];omega
theorem Aa:∀ (m:Nat) (s:List UInt8) (a:Nat),∀ q∈de m s a,q.2.t.s.length≤200
 | 0,_,_,_,h=>by simp [de] at h
 | m+1,s,a,q,h=>by
   unfold de at h
   split at h
   ·cases h
   split at h
   ·rw [List.mem_singleton.1 h];exact Dq _
   ·rcases List.mem_cons.1 h with rfl | h
    ·exact Dq _
    ·exact Aa m _ _ q h
theorem Ge (s:List UInt8):∀ t∈(cG s).1,t.s.length≤200:=by
 unfold cG
 split
 ·intro _ h;cases h
 ·intro t ht
  obtain ⟨q,hq,rfl⟩:=List.mem_map.1 ht
  exact Aa _ _ _ q hq
end Go.Proofs.YtejpnabbmgpmaaaGreatDoor

namespace Go.Proofs.YtejpnabbmgpmaaaGreatDoor
open Go.Ab
def fE (q:List EN × Int × Int):AV:=.tup [.d (if q.2.2=0 then exD q.1 else .agg [.nils]),.d (i64 q.2.1),.d (i64 q.2.2)]
theorem DL {G} (s:PS) (ns:List EN) (hN:ns.length≤1000000) (hs:∀ n∈ns,iW BIG n):HCall Tryz.prog G 37 [.bx [100] 0,.d (exD ns)] (RO s) [100,101] (fun r hp'=>r=fE (o4 s ns)∧hp'=RO s):=by
 generalize hR:o4 s ns=R
 unfold o4 at hR
 have c1:=DP (G:=G) ns (fun n=>decide (1048576<n.pos)) 82 [] hN (fun x _=>DY x)
 have c2:=sO (G:=G) ns hs hN
 generalize (ns.any fun n=>decide (1048576<n.pos))=b at c1 hR
 generalize jL ns=m at c2 hR
 have c3:=HP.clo (args:=[.d (.sl (some 9) (ns.map enD)),.clo 82 []]) rfl (fun i x y hx hy=>by
  rcases i with _ | _ | i
  ·cases hx;cases hy;exact .inl rfl
  ·cases hx;cases hy;exact .inr ⟨82,rfl,rfl⟩
  ·cases hx) c1
 unfold exD at *
 unfold RO TO ag
 refine an Tryz.func37 rfl (by decide +kernel) (by simp [Tryz.ntmps37]) (veil fun E=>?_)
 simp only [go_sem]
 refine ab E [.bx [100] 0] (RO s) [100,101] (ef s) rfl rfl ⟨by simp only [go_sem],by first | (rw [aa];decide) | (simp only [go_sem]<;>(try rw [aa])<;>decide)⟩ rfl (by unfold RO TO ag;simp only [go_sem]) (by unfold RO TO;simp only [go_sem]) ?_
 rintro _ _ ⟨rfl,rfl⟩
 unfold RO TO ag
 simp only [go_sem]
 refine aI E (fun h=>?_) (fun h=>?_)<;>simp only [go_sem]
 ·have h':¬ s.err=0:=by simpa using h
  rw [if_pos h'] at hR
  refine al mixed E fun X=>?_
  simp only [go_sem]
  refine dD X (d:=13) [100] 0 none [.bx [101] 0,.d (i64 s.err),.d (i64 s.pos),.d (i64 s.nest)] (by simp only [go_sem]) rfl rfl ?_
  simp only [go_sem]
  refine dD X (d:=17) [100] 0 none [.bx [101] 0,.d (i64 s.err),.d (i64 s.pos),.d (i64 s.nest)] (by simp only [go_sem]) rfl rfl ?_
  simp only [go_sem]
  refine ⟨by decide +kernel,?_⟩
  subst hR
  have he:fE ([],s.pos,s.err)=.tup [.d (.agg [.nils]),.d (i64 s.pos),.d (i64 s.err)]:=by unfold fE;rw [if_neg h']
  rw [he]
  refine ⟨_,_,[100,101],id,⟨rfl,rfl⟩,?_⟩
  simp only [go_sem]
 rw [if_neg (by simpa using h)] at hR
 refine ab E [.d (.sl (some 9) (ns.map enD)),.clo 82 []] [] [] c3 rfl rfl ⟨by simp only [go_sem],by rw [aa];decide⟩ rfl (by simp only [go_sem]) (by simp only [go_sem]) ?_
 rintro _ _ ⟨rfl,_,rfl⟩
 simp only [go_sem]
 refine aI E (fun h=>?_) (fun h=>?_)<;>simp only [go_sem]
 ·rw [if_pos h] at hR
  subst hR
  have he:fE ([],0,7)=.tup [.d (.agg [.nils]),.d (i64 0),.d (i64 7)]:=by unfold fE;rw [if_neg (by decide)]
  rw [he]
  refine ⟨_,_,[100,101],id,⟨rfl,rfl⟩,?_⟩
  simp only [go_sem]
 rw [if_neg (by rw [h];decide)] at hR
 refine ae E c2 rfl rfl (by simp) ?_
 rintro _ rfl
 simp only [go_sem]
 refine aI E (fun h=>?_) (fun h=>?_)<;>simp only [go_sem]
 ·have h':¬ m=0:=by simpa using h
  rw [if_pos h'] at hR
  subst hR
  have he:fE ([],0,m)=.tup [.d (.agg [.nils]),.d (i64 0),.d (i64 m)]:=by unfold fE;rw [if_neg h']
  rw [he]
  refine ⟨_,_,[100,101],id,⟨rfl,rfl⟩,?_⟩
  simp only [go_sem]
 ·have h':m=0:=by simpa using h
  rw [if_neg (by simpa using h')] at hR
  subst hR
  have he:fE (ns,0,0)=.tup [.d (.agg [.sl (some 9) (ns.map enD)]),.d (i64 0),.d (i64 0)]:=by unfold fE;rw [if_pos rfl];rfl
  rw [he]
  refine ⟨_,_,[100,101],id,⟨rfl,rfl⟩,?_⟩
  simp only [go_sem]
theorem C9 {G} (l:List Tok) (fin:Int) (hl:l.length≤1000000):HCall Tryz.prog G 33 [.d (ag l),.d (i64 fin)] [] [] (fun r hp'=>r=.bx [101] 0∧hp'=[([101],.box [.vw [102] 0 l.length,.d (i64 fin)]),([102],.arr (some 4) (l.map fT))]):=by
 unfold ag
 refine an Tryz.func33 rfl (by decide +kernel) (by simp [Tryz.ntmps33]) (veil fun E=>?_)
 simp only [go_sem]
 refine ⟨by omega,?_⟩
 refine ⟨_,_,[101,102],tau [([101],[9]),([102],[6])],⟨rfl,rfl⟩,?_⟩
 simp only [go_sem]
 all_goals rfl
theorem D4 {G} (l:List Tok) (fin:Int) (hl:l.length≤1000000):HCall Tryz.prog G 33 [.d (ag l),.d (i64 fin)] [] [] (fun r hp'=>r=.bx [101] 0∧hp'=TO l fin) :=
 HCall.fA (C9 l fin hl) [102] (by
  rintro r hp' ⟨rfl,rfl⟩
  refine ⟨some 4,l.map fT,by simp only [go_sem],by simp only [go_sem],?_⟩
  unfold TO ag
  simp only [go_sem])
theorem BI {s:PS} {ns:List EN} {r:PS} (h:GP 1 s (ns,r)) (hl:s.l.length≤100000) (hn:Sm 200 ns):ns.length≤1000000∧∀ n∈ns,iW BIG n:=by
 have h1:=h.sz
 have h2:=h.wd
 simp only at h1
 refine ⟨by omega,fun n hm=>?_⟩
 obtain ⟨a,b,c⟩:=hn n hm
 have:=h2 n hm
 simp only at this
 exact ⟨by unfold BIG;omega,by unfold BIG;omega,by omega,fun f hf=>⟨by have:=(c f hf).1;unfold BIG;omega,by have:=(c f hf).2;unfold BIG;omega⟩⟩
set_option maxHeartbeats 1000000 in
theorem Ej {G} (s:List UInt8) (hl:s.length≤100000):HP Tryz.prog G 11 [.str s] (fun r=>r=fE (cC s)):=by
 generalize hR:cC s=R
 unfold cC at hR
 obtain ⟨hl1,hl2,hl3,hl4⟩:=Fu s
 have hls:=Ge s
 cases hb:eZ (aA s) with
 | some q =>
   obtain ⟨i,e⟩:=q
   have c1:=BQ (G:=G) s (by omega) hb
   have hne:=oT hb
   have hlx:cG s=([],i,e):=by unfold cG;rw [hb]
   rw [hlx,if_pos hne] at hR
   simp only at hR hne
   have he:fE R=.tup [.d (.agg [.nils]),.d (i64 i),.d (i64 e)]:=by rw [← hR];unfold fE;rw [if_neg hne]
   rw [he]
   refine bz Tryz.func11 rfl (by decide +kernel) (by simp [Tryz.ntmps11]) (veil fun E=>?_)
   simp only [go_sem]
   refine ae E c1 rfl rfl (by simp) ?_
   rintro _ rfl
   simp only [go_sem]
   refine aI E (fun h=>?_) (fun h=>absurd (by simpa using h) hne)<;>simp only [go_sem]
   refine ⟨[],?_⟩
   simp only [go_sem]
 | none =>
   have c1:=EG (G:=G) s (by omega) hb
   have hz:(cG s).2.2=0:=by unfold cG;rw [hb]
   rw [if_neg (by rw [hz];decide)] at hR
   rw [hz] at c1
   generalize cG s=q at c1 hR hl1 hl2 hl3 hls
   obtain ⟨l,n,z⟩:=q
   simp only at c1 hR hl1 hl2 hl3 hls
   have c2:=D4 (G:=G) l n (by omega)
   have hst:p6 l n=⟨l,n,0,0,0⟩:=rfl
   obtain ⟨st,hs⟩:∃ st,st=p6 l n:=⟨_,rfl⟩
   rw [← hs] at hR hst
   have hsl:st.l.length≤100000:=by rw [hst];simp only;omega
   have c3:=yw (G:=G) 100 0 rfl st hsl (by rw [hst])
   have g3:=gX 100 st
   have n3:=uH (B:=200) 100 st (by rw [hst];exact hls)
   obtain ⟨x,s2,hx⟩:∃ x s2,gh 100 st=(x,s2):=⟨_,_,rfl⟩
   rw [hx] at c3 g3 n3 hR
   simp only at c3 n3 hR
   have hl2':=g3.ss.len
   simp only at hl2'
   obtain ⟨hxl,hxs⟩:=BI g3 hsl n3
   have c4:=tl (G:=G) s2.l s2.fin
   have c5:=mZ (G:=G) s2 (by omega)
   have c6:=DL (G:=G) (qJ s2) x hxl hxs
   unfold qJ at hR c6
   unfold exD at c3 c6
   unfold ag at c2
   refine bz Tryz.func11 rfl (by decide +kernel) (by simp [Tryz.ntmps11]) (veil fun E=>?_)
   simp only [go_sem]
   refine ae E c1 rfl rfl (by simp) ?_
   rintro _ rfl
   simp only [go_sem]
   refine ab E [.d (.sl (some 4) (l.map fT)),.d (i64 n)] [] [] c2 rfl rfl ⟨by simp only [go_sem],by rw [aa];decide⟩ rfl (by simp only [go_sem]) (by simp only [go_sem]) ?_
   rintro _ _ ⟨rfl,rfl⟩
   unfold TO ag
   simp only [go_sem]
   rw [hst] at c3
   refine bp E (tau [([100],[25]),([101],[23,101])]) [.bx [100] 0] (RO ⟨l,n,0,0,0⟩) [100,101] (c3) rfl (by simp only [go_sem];try rfl) ⟨by simp only [go_sem],by first | (rw [aa];decide) | (simp only [go_sem]<;>(try rw [aa])<;>decide)⟩ rfl (by unfold RO TO ag;simp only [go_sem];try rfl) (by unfold RO TO;simp only [go_sem]) ?_
   rintro _ _ ⟨rfl,rfl⟩
   unfold RO TO ag
   simp only [go_sem]
   refine bp E (tau [([101],[23,101])]) [.bx [101] 0] (TO s2.l s2.fin) [101] c4 rfl (by simp only [go_sem];try rfl) ⟨by simp only [go_sem],by rw [aa];decide⟩ rfl (by unfold TO ag;simp only [go_sem];try rfl) (by unfold TO;simp only [go_sem]) ?_
   rintro _ _ ⟨rfl,rfl⟩
   unfold TO ag
   simp only [go_sem]
   refine aI E (fun h=>?_) (fun h=>?_)<;>simp only [go_sem]
   ·have h':s2.l.isEmpty=false:=by simpa using h
    rw [h'] at hR c6
    simp only [Bool.false_eq_true,if_false] at hR c6
    refine bp E (tau [([100],[25]),([101],[23,101])]) [.bx [100] 0] (RO s2) [100,101] (c5) rfl (by simp only [go_sem];try rfl) ⟨by simp only [go_sem],by first | (rw [aa];decide) | (simp only [go_sem]<;>(try rw [aa])<;>decide)⟩ rfl (by unfold RO TO ag;simp only [go_sem];try rfl) (by unfold RO TO;simp only [go_sem]) ?_
    rintro _ _ ⟨rfl,rfl⟩
    unfold RO TO ag
    simp only [go_sem]
    refine bp E (tau [([100],[25]),([101],[23,101])]) [.bx [100] 0,.d (.agg [.sl (some 9) (x.map enD)])] (RO s2.wrong) [100,101] (c6) rfl (by simp only [go_sem];try rfl) ⟨by simp only [go_sem],by first | (rw [aa];decide) | (simp only [go_sem]<;>(try rw [aa])<;>decide)⟩ rfl (by unfold RO TO ag;simp only [go_sem];try rfl) (by unfold RO TO;simp only [go_sem]) ?_
    rintro _ _ ⟨rfl,rfl⟩
    unfold RO TO ag
    simp only [go_sem]
    rw [hR]
    unfold fE exD
    by_cases hz:R.2.2=0
    ·simp only [if_pos hz]
     simp only [go_sem]
     refine ⟨[],?_⟩
     simp only [go_sem]
     unfold fE exD
     rw [if_pos hz]
    ·simp only [if_neg hz]
     simp only [go_sem]
     refine ⟨[],?_⟩
     simp only [go_sem]
     unfold fE
     rw [if_neg hz]
   ·have h':s2.l.isEmpty=true:=by simpa using h
    rw [h'] at hR c6
    simp only [if_true] at hR c6
    refine bp E (tau [([100],[25]),([101],[23,101])]) [.bx [100] 0,.d (.agg [.sl (some 9) (x.map enD)])] (RO s2) [100,101] (c6) rfl (by simp only [go_sem];try rfl) ⟨by simp only [go_sem],by first | (rw [aa];decide) | (simp only [go_sem]<;>(try rw [aa])<;>decide)⟩ rfl (by unfold RO TO ag;simp only [go_sem];try rfl) (by unfold RO TO;simp only [go_sem]) ?_
    rintro _ _ ⟨rfl,rfl⟩
    unfold RO TO ag
    simp only [go_sem]
    rw [hR]
    unfold fE exD
    by_cases hz:R.2.2=0
    ·simp only [if_pos hz]
     simp only [go_sem]
     refine ⟨[],?_⟩
     simp only [go_sem]
     unfold fE exD
     rw [if_pos hz]
    ·simp only [if_neg hz]
     simp only [go_sem]
     refine ⟨[],?_⟩
     simp only [go_sem]
     unfold fE
     rw [if_neg hz]
end Go.Proofs.YtejpnabbmgpmaaaGreatDoor

namespace Go.Proofs.YtejpnabbmgpmaaaGreatDoor
open Go.Ab
theorem u2 {ns:List EN} (ht:fb ns) (hr:∀ n∈ns,inR n.n):∀ (m i:Nat),i<m→i<ns.length→ft (trE ns i)=true→(vtE ns i).may=true∧(vtE ns i).wf∧(vtE ns i).fine
 | 0,_,h,_,_=>absurd h (Nat.not_lt_zero _)
 | m+1,i,him,hi,hv=>by
   have hrt:=ht.right i hi
   have hnr:=hr _ (by rw [dA hi];exact List.getElem_mem hi:ndE ns i∈ns)
   have hs:=u4 hrt
   have z0:inR 0:=⟨by decide,by decide⟩
   have hva:=sU (gR ht) hi
   rw [hv] at hva
   have hkid:(ndE ns i).k=11∨(ndE ns i).k=13→∀ k∈ar (ndE ns i),(vtE ns k.toNat).may=true∧(vtE ns k.toNat).wf∧(vtE ns k.toNat).fine:=fun hc k hk=>by
    rw [if_pos hc] at hva
    have h2:=List.all_eq_true.1 hva.symm _ hk
    obtain ⟨a,rfl,ha⟩:=tT ht hi hk
    exact u2 ht hr m a (by omega) (by omega) h2
   have hcase:(ndE ns i).k=1∨(ndE ns i).k=2∨(ndE ns i).k=3∨(ndE ns i).k=5∨(ndE ns i).k=13∨(ndE ns i).k=11:=by
    by_cases hc:(ndE ns i).k=11∨(ndE ns i).k=13
    ·omega
    ·rw [if_neg hc] at hva
     have hva:=hva.symm
     simp only [Bool.or_eq_true,decide_eq_true_eq] at hva
     omega
   rcases hcase with h | h | h | h | h | h
   ·rw [vt1 ht hi h]
    refine ⟨by simp [VT.may,VT.mays,ba],?_,?_⟩
    ·rw [VT.wf,VT.wfs];exact ⟨⟨rfl,Nat.zero_le _,Nat.zero_le _,fun _ h=>by cases h⟩,trivial⟩
    ·rw [VT.fine,VT.fines];exact ⟨⟨hnr,Nat.zero_le _⟩,trivial⟩
   ·rw [vt2 ht hi h]
    have hc:(ndE ns i).n=0∨(ndE ns i).n=1:=by
     unfold a8 cE at hrt
     simp only [Bool.and_eq_true] at hrt
     have h1:=hrt.2.1.1.2
     rw [if_neg (by omega),if_pos h] at h1
     simp only [Bool.and_eq_true,Bool.or_eq_true,decide_eq_true_eq] at h1
     exact h1.1
    refine ⟨by rcases hc with e | e<;>simp [VT.may,VT.mays,ba,e],?_,?_⟩
    ·rw [VT.wf,VT.wfs];exact ⟨⟨rfl,Nat.zero_le _,Nat.zero_le _,fun _ h=>by cases h⟩,trivial⟩
    ·rw [VT.fine,VT.fines];exact ⟨⟨hnr,Nat.zero_le _⟩,trivial⟩
   ·rw [vt3 ht hi h]
    refine ⟨by simp [VT.may,VT.mays,ba],?_,?_⟩
    ·rw [VT.wf,VT.wfs];exact ⟨⟨rfl,Nat.zero_le _,by omega,fun _ h=>by cases h⟩,trivial⟩
    ·rw [VT.fine,VT.fines];exact ⟨⟨z0,by omega⟩,trivial⟩
   ·rw [vt5 ht hi h]
    refine ⟨by simp [VT.may,VT.mays,ba],?_,?_⟩
    ·rw [VT.wf,VT.wfs];exact ⟨⟨rfl,Nat.zero_le _,Nat.zero_le _,fun _ h=>by cases h⟩,trivial⟩
    ·rw [VT.fine,VT.fines];exact ⟨⟨z0,Nat.zero_le _⟩,trivial⟩
   ·rw [F3 ht hi h]
    have htg:=vE hrt h
    have htl:=pc htg
    obtain ⟨k1,k2,k3⟩:=hkid (.inr h) (ndE ns i).a (by rw [AK (.inr (.inr h))];exact List.mem_singleton_self _)
    refine ⟨by simp [VT.may,VT.mays,ba,htg,k1],?_,?_⟩
    ·rw [VT.wf,jh]
     refine ⟨⟨rfl,by simp,by omega,fun x hx=>?_⟩,fun u hu=>?_⟩
     ·rw [List.mem_singleton.1 hx];exact Nat.zero_le _
     ·rw [List.mem_singleton.1 hu];exact k2
    ·rw [VT.fine,eM]
     refine ⟨⟨z0,by omega⟩,fun u hu=>?_⟩
     rw [List.mem_singleton.1 hu];exact k3
   ·rw [Gq ht hi h]
    have hp:aL (ndE ns i).k=true:=by unfold aL;rw [h];rfl
    have hpt:=rA hrt hp
    have hl:=pV hrt
    have hnd:((ndE ns i).l.map (·.nm)).Nodup:=by
     unfold a8 cD at hrt
     simp only [Bool.and_eq_true] at hrt
     have h1:=hrt.2.1.2
     rw [if_pos hp] at h1
     simp only [Bool.and_eq_true,decide_eq_true_eq] at h1
     exact h1.2.2
    have hnm:∀ f∈(ndE ns i).l,aD f.nm=true:=fun f hf=>by
     have:=hpt f hf
     unfold fc at this
     rw [if_pos h,Bool.and_eq_true] at this
     exact this.1
    have hk:=hkid (.inl h)
    rw [zA h] at hk
    have hk2:∀ u∈(ndE ns i).l.map (fun f=>vtE ns f.to.toNat),u.may=true∧u.wf∧u.fine:=fun u hu=>by
     obtain ⟨f,hf,rfl⟩:=List.mem_map.1 hu
     exact hk f.to (List.mem_map_of_mem hf)
    refine ⟨?_,?_,?_⟩
    ·rw [VT.may,mz]
     have e1:((ndE ns i).l.map fun f=>vtE ns f.to.toNat).all VT.may=true:=List.all_eq_true.2 fun u hu=>(hk2 u hu).1
     have e2:((ndE ns i).l.map (·.nm)).all aD=true:=List.all_eq_true.2 fun x hx=>by
      obtain ⟨f,hf,rfl⟩:=List.mem_map.1 hx
      exact hnm f hf
     rw [e1,e2,decide_eq_true hnd]
     simp [ba]
    ·rw [VT.wf,jh]
     refine ⟨⟨by simp,by rw [List.length_map];omega,Nat.zero_le _,fun x hx=>?_⟩,fun u hu=>(hk2 u hu).2.1⟩
     obtain ⟨f,hf,rfl⟩:=List.mem_map.1 hx
     have:=fZ (hnm f hf)
     omega
    ·rw [VT.fine,eM]
     exact ⟨⟨z0,Nat.zero_le _⟩,fun u hu=>(hk2 u hu).2.2⟩
def zeroV:D:=.agg [i64 0,i64 0,.str [],.nils]
def ofR (ns:List EN):AV :=
 if jL ns=0 then (if ft (trE ns (ns.length-1)) then .tup [.d (vtE ns (ns.length-1)).dat,.d (i64 0)] else .tup [.d zeroV,.d (i64 2)]) else .tup [.d zeroV,.d (i64 (jL ns))]
theorem Eb {G} (ns:List EN) (hs:∀ n∈ns,iW BIG n) (hN:ns.length≤1000000):HP Tryz.prog G 13 [exD ns] (fun r=>r=ofR ns):=by
 have hm:=sO (G:=G) ns hs hN
 by_cases h0:jL ns=0
 ·have ht:=Gj h0
  have hp:=ht.pos
  have hv:=DQ (G:=G) ht h0
  unfold ofR
  rw [if_pos h0]
  rw [h0] at hm
  have hn:=fun h=>zW (G:=G) ht ns.length (ns.length-1) (by omega) (by omega) h
  rw [show ((ns.length-1:Nat):Int)=(ns.length:Int)-1 by omega,aq] at hn
  rw [aq]
  generalize ft (trE ns (ns.length-1))=b at hv hn ⊢
  generalize vtE ns (ns.length-1)=V at hn ⊢
  unfold exD zeroV at *
  refine bz Tryz.func13 rfl (by decide +kernel) (by simp [Tryz.ntmps13]) (veil fun E=>?_)
  simp only [go_sem]
  refine ae E hm rfl rfl (by simp) ?_
  rintro _ rfl
  simp only [go_sem]
  refine ae E hv rfl rfl (by simp) ?_
  rintro _ rfl
  cases b with
  | false =>
    simp only [go_sem]
    refine ⟨[],?_⟩
    simp only [go_sem]
  | true =>
    simp only [go_sem]
    rw [ai (n:=(ns.length:Int)-1) ⟨by omega,by omega⟩]
    refine ae E (hn rfl) rfl rfl (by simp) ?_
    rintro _ rfl
    simp only [go_sem]
    refine ⟨[],?_⟩
    simp only [go_sem]
 ·unfold ofR
  rw [if_neg h0]
  generalize jL ns=f at h0 hm ⊢
  unfold exD zeroV at *
  refine bz Tryz.func13 rfl (by decide +kernel) (by simp [Tryz.ntmps13]) (veil fun E=>?_)
  simp only [go_sem]
  refine ae E hm rfl rfl (by simp) ?_
  rintro _ rfl
  simp only [go_sem]
  refine ah E (fun g=>?_) (fun g=>?_)<;>simp only [go_sem]
  ·refine ⟨[],?_⟩
   simp only [go_sem]
  ·exact absurd h0 g
def exV:List UInt8:=[123,97,32,61,32,49,44,32,98,32,61,32,65,32,40,66,32,116,114,117,101,41,125]
theorem w8:(cC exV).2.2=0∧(cC exV).2.1=0∧jL (cC exV).1=0∧ft (trE (cC exV).1 ((cC exV).1.length-1))=true:=by
 decide +kernel
theorem B8:(vtE (cC exV).1 ((cC exV).1.length-1)).txt=exV∧(vtE (cC exV).1 ((cC exV).1.length-1)).sz=5∧((cC exV).1.all fun n=>decide (-9223372036854775808≤n.n) && decide (n.n≤9223372036854775807))=true:=by
 decide +kernel
theorem E9 {tt:TypeId} {fz:Nat × Nat}:HP Tryz.prog (GT tt fz) 17 [] (fun r=>r=.d (.bool true)):=by
 obtain ⟨h1,h2,h3,h4⟩:=w8
 obtain ⟨g1,g2,g3⟩:=B8
 have c1:=Ej (G:=GT tt fz) exV (by decide)
 unfold fE at c1
 rw [if_pos h1,h1,h2] at c1
 generalize (cC exV).1=ns at *
 have ht:=Gj h3
 have hr:∀ n∈ns,inR n.n:=fun n hn=>by
  have:=List.all_eq_true.1 g3 n hn
  simp only [Bool.and_eq_true,decide_eq_true_eq] at this
  exact this
 have hp:=ht.pos
 obtain ⟨k1,k2,k3⟩:=u2 ht hr ns.length (ns.length-1) (by omega) (by omega) h4
 have c2:=Eb (G:=GT tt fz) ns (sq ht) (by have:=ht.few;omega)
 unfold ofR at c2
 rw [if_pos h3,if_pos h4] at c2
 generalize vtE ns (ns.length-1)=V at *
 have c3:=zE (tt:=tt) (fz:=fz) V k2 k3 (fun _=>by rw [g1];decide)
 have c4:=A0 (G:=GT tt fz) V k2 (by rw [g2];decide)
 have c5:=iR (G:=GT tt fz) V.hg V (Nat.le_refl _) k2
 rw [k1,if_pos rfl,g1] at c3
 rw [k1,if_pos rfl,g2] at c4
 rw [k1] at c5
 rw [aq] at *
 unfold exD exV at *
 refine aj Tryz.func17 rfl (by decide +kernel) (by simp [Tryz.ntmps17]) (veil fun E=>?_)
 simp only [go_sem]
 refine ae E (c1) rfl rfl (by simp) ?_
 rintro _ rfl
 simp only [go_sem]
 refine ae E (c2) rfl rfl (by simp) ?_
 rintro _ rfl
 simp only [go_sem]
 refine ae E (c3) rfl rfl (by simp) ?_
 rintro _ rfl
 simp only [go_sem]
 refine ae E (c4) rfl rfl (by simp) ?_
 rintro _ rfl
 simp only [go_sem]
 refine ae E (c5) rfl rfl (by simp) ?_
 rintro _ rfl
 simp only [go_sem]
end Go.Proofs.YtejpnabbmgpmaaaGreatDoor

namespace Go.Proofs.YtejpnabbmgpmaaaGreatDoor
open Go.Ab
end Go.Proofs.YtejpnabbmgpmaaaGreatDoor

namespace Go.Proofs.YtejpnabbmgpmaaaGreatDoor
open Go.Ab
theorem rr:∀ (d:Nat) (v:VT),v.inn→(bE d v).fine
 | 0,v,_=>by
   rw [gK,VT.fine,VT.fines]
   exact ⟨⟨⟨by decide,by decide⟩,Nat.zero_le _⟩,trivial⟩
 | d+1,v,h=>by
   have hi:=h.of
   cases v with
   | mk k n s nms vs =>
     rw [bE,VT.fine,eM]
     have h1:inR n:=hi.n
     refine ⟨⟨h1,by rw [List.length_take];omega⟩,fun u hu=>?_⟩
     obtain ⟨q,hq,rfl⟩:=List.mem_map.1 hu
     exact rr d q (hi.kids q (List.mem_of_mem_take hq))
theorem wy {n:Int} (h:inR n):(eh n).length≤20:=by
 have h1:-9223372036854775808≤n∧n≤9223372036854775807:=h
 unfold eh
 split
 ·have:=(n6 (xM n.natAbs (by omega))).2
  rw [List.length_cons]
  omega
 ·have:=(n6 (xM n.toNat (by omega))).2
  omega
theorem El (s:List UInt8):(quS s).length≤4*s.length+2:=by
 have:(s.flatMap quC).length≤4*s.length:=by
  induction s with
  | nil=>exact Nat.le_refl _
  | cons c s ih =>
    have:=vp c
    rw [List.flatMap_cons,List.length_append,List.length_cons]
    omega
 unfold quS
 rw [List.length_cons,List.length_append,List.length_singleton]
 omega
theorem uE {B:Nat}:∀ l:List (List UInt8),(∀ x∈l,x.length≤B)→cN l≤l.length*B
 | [],_=>Nat.zero_le _
 | a::l,h=>by
   have h1:=uE l fun x hx=>h x (List.mem_cons_of_mem _ hx)
   have h2:=h a List.mem_cons_self
   unfold cN at *
   rw [List.map_cons,List.sum_cons,List.length_cons,Nat.add_mul]
   omega
theorem CS (l:List (List UInt8)):(bY ei l).length≤cN l+2*l.length:=by
 cases l with
 | nil=>exact Nat.zero_le _
 | cons a r =>
   have:=ny r
   unfold cN at *
   rw [bY,List.length_append,List.map_cons,List.sum_cons,List.length_cons]
   omega
theorem vc:∀ (d:Nat) (v:VT),v.inn→(bE d v).may=true→(bE d v).txt.length≤1400*7 ^ d
 | 0,v,_,_=>by
   rw [gK]
   decide +kernel
 | d+1,v,h,hm=>by
   have hi:=h.of
   have hw:=oM (d+1) v h
   have B:=mn hw.ok hm
   have hk:=B.k
   obtain ⟨g1,g2,g3,g4,g5⟩:=xz d v
   have hp:1≤7 ^ d:=Nat.pow_pos (by decide)
   rw [Nat.pow_succ]
   have hkid:∀ u∈(bE (d+1) v).vs,u.txt.length≤1400*7 ^ d:=fun u hu=>by
    have hmu:=p9 hm hu
    rw [g5] at hu
    obtain ⟨q,hq,rfl⟩:=List.mem_map.1 hu
    exact vc d q (hi.kids q (List.mem_of_mem_take hq)) hmu
   have hl6:(bE (d+1) v).vs.length≤6:=by rw [g5,List.length_map,List.length_take];omega
   have hs3:(bE (d+1) v).s.length≤300:=by rw [g3,List.length_take];omega
   have hn:inR (bE (d+1) v).n:=by rw [g2];exact hi.n
   have hok:=hw.ok
   generalize bE (d+1) v=w at *
   generalize 7 ^ d=P at *
   rcases (by omega:w.k=1∨w.k=2∨w.k=3∨w.k=4∨w.k=5∨w.k=6) with e | e | e | e | e | e
   ·rw [Ep e]
    have:=wy hn
    omega
   ·rw [Eo e]
    split
    ·show 4≤_;omega
    ·show 5≤_;omega
   ·rw [Fk e]
    have:=El w.s
    omega
   ·rw [Eg e]
    show 5≤_;omega
   ·rw [BC e,List.length_cons,List.length_append,List.length_singleton]
    have h1:=CS (j6 w.nms w.vs)
    have h2:=uE (B:=23+1400*P) (j6 w.nms w.vs) (uh _ _ fun nm hnm t ht=>by
     have h3:=fZ (List.all_eq_true.1 (B.r e) nm hnm)
     obtain ⟨u,hu,rfl⟩:=List.mem_map.1 ht
     have h4:=hkid u hu
     simp only [List.length_append,show eqB.length=3 from rfl]
     omega)
    have h5:=o5 hok
    have h6:(j6 w.nms w.vs).length*(23+1400*P)≤6*(23+1400*P):=Nat.mul_le_mul_right _ (by omega)
    omega
   ·obtain ⟨t1,_,u,hu⟩:=B.t e
    have h1:=hkid u (by rw [hu];exact List.mem_cons_self)
    have h2:=pc t1
    rw [Cp e hu]
    split<;>simp only [List.length_append,List.length_cons,List.length_nil]<;>omega
def noD:VT:=.mk 0 0 [] [] []
theorem zero_le:DLe zeroV noD.dat:=by
 unfold zeroV noD
 rw [aq]
 refine .agg _ _ rfl (by simp [D.scal]) fun i x y hx hy=>?_
 rcases i with _ | _ | _ | _ | i
 ·cases hx;cases hy;exact .inl rfl
 ·cases hx;cases hy;exact .inl rfl
 ·cases hx;cases hy;exact .inl rfl
 ·cases hx;cases hy;exact .inr ⟨some 5,rfl,rfl⟩
 ·simp at hx
end Go.Proofs.YtejpnabbmgpmaaaGreatDoor

namespace Go.Proofs.YtejpnabbmgpmaaaGreatDoor
open Go.Ab
theorem Gk {tt:TypeId} {fz:Nat × Nat} (hM:∀ v:VT,v.wf→HP Tryz.prog (GT tt fz) 19 [v.dat] (fun r=>r=.d (.bool v.may))) (x y:VT) (hx:x.inn) (hy:y.inn):HP Tryz.prog (GT tt fz) 5 [x.dat,y.dat] (fun r=>r=.d (.bool true)):=by
 have w0:=E9 (tt:=tt) (fz:=fz)
 have c1:=tE (G:=GT tt fz) 5 x hx (by decide)
 have c2:=tE (G:=GT tt fz) 5 y hy (by decide)
 have wa:=oM 5 x hx
 have wb:=oM 5 y hy
 have fa:=rr 5 x hx
 have la:=vc 5 x hx
 have za:=yn 5 x
 generalize bE 5 x=a at *
 generalize bE 5 y=b at *
 have m1:=iR (G:=GT tt fz) a.hg a (Nat.le_refl _) wa
 have r1:=hM a wa
 have r2:=hM b wb
 have z1:=x6 (G:=GT tt fz) a.hg a (Nat.le_refl _) wa (Nat.le_trans za (by decide))
 have z2:=A0 (G:=GT tt fz) a wa (Nat.le_trans za (by decide))
 have s1:=EK (G:=GT tt fz) a b wa wb
 have s2:=zp (G:=GT tt fz) a.hg a b (Nat.le_refl _) wa wb
 have p1:=zE (tt:=tt) (fz:=fz) a wa fa (fun h=>Nat.le_trans (la h) (by decide))
 have p2:=E6 (tt:=tt) (fz:=fz) hM a wa fa (fun h=>Nat.le_trans (la h) (by decide))
 clear wa wb fa la za hM
 generalize a.may=ka at *
 generalize b.may=kb at *
 generalize a.eq b=ke at *
 generalize a.txt=T at *
 generalize a.sz=z at *
 simp only [aq] at *
 refine aj Tryz.func5 rfl (by decide +kernel) (by simp [Tryz.ntmps5]) (veil fun E=>?_)
 simp only [go_sem]
 refine al mixed E fun X=>?_
 simp only [go_sem]
 refine aF X c1 rfl rfl (by simp) ?_
 simp only [go_sem]
 refine aF X c2 rfl rfl (by simp) ?_
 simp only [go_sem]
 refine ⟨by decide +kernel,?_⟩
 refine ae E (r1) rfl rfl (by simp) ?_
 rintro _ rfl
 simp only [go_sem]
 cases ka with
 | false =>
   rw [if_neg (by decide)] at p1 p2 z2
   simp only [go_sem]
   refine al mixed E fun X=>?_
   simp only [go_sem]
   refine aF X m1 rfl rfl (by simp) ?_
   simp only [go_sem]
   refine aF X r1 rfl rfl (by simp) ?_
   simp only [go_sem]
   refine aF X p1 rfl rfl (by simp) ?_
   simp only [go_sem]
   refine aF X p2 rfl rfl (by simp) ?_
   simp only [go_sem]
   refine aF X z2 rfl rfl (by simp) ?_
   simp only [go_sem]
   refine aF X s1 rfl rfl (by simp) ?_
   simp only [go_sem]
   refine aF X r1 rfl rfl (by simp) ?_
   simp only [go_sem]
   refine aF X w0 rfl rfl (by simp) ?_
   simp only [go_sem]
   decide +kernel
 | true =>
   rw [if_pos rfl] at p1 p2 z2
   simp only [go_sem]
   refine ae E (z1) rfl rfl (by simp) ?_
   rintro _ rfl
   simp only [go_sem]
   refine al mixed E fun X=>?_
   simp only [go_sem]
   refine aF X m1 rfl rfl (by simp) ?_
   simp only [go_sem]
   refine aF X r1 rfl rfl (by simp) ?_
   simp only [go_sem]
   refine aF X p1 rfl rfl (by simp) ?_
   simp only [go_sem]
   refine aF X p2 rfl rfl (by simp) ?_
   simp only [go_sem]
   refine aF X z2 rfl rfl (by simp) ?_
   simp only [go_sem]
   refine aF X s1 rfl rfl (by simp) ?_
   simp only [go_sem]
   refine aF X r1 rfl rfl (by simp) ?_
   simp only [go_sem]
   refine aF X r2 rfl rfl (by simp) ?_
   cases kb with
   | false =>
     simp only [go_sem]
     refine aF X w0 rfl rfl (by simp) ?_
     simp only [go_sem]
     decide +kernel
   | true =>
     simp only [go_sem]
     refine aF X s2 rfl rfl (by simp) ?_
     cases ke with
     | false =>
       simp only [go_sem]
       refine aF X w0 rfl rfl (by simp) ?_
       simp only [go_sem]
       decide +kernel
     | true =>
       simp only [go_sem]
       refine aF X w0 rfl rfl (by simp) ?_
       simp only [go_sem]
       decide +kernel
end Go.Proofs.YtejpnabbmgpmaaaGreatDoor

