/-
  The document's places under a name: the walk. (with the parts that follow it)
-/
import Derived.Test.YthfodompfpdmgaaGreatDoorSOJ
import Derived.Test.YthfodompfpdmgaaGreatDoorSOF
import Derived.Test.YthfodompfpdmgaaGreatDoorSOH
set_option linter.all false
namespace Go.Proofs.YthfodompfpdmgaaGreatDoor
open Go.Ab
theorem yC {ns:List TN} {l:List Int} {i:Nat} (s:List UInt8) (h:i<l.length):bf ns (l.take (i+1)) s=bf ns (l.take i) s++((nd ns l[i].toNat).l.filter fun q=>q.1 == s).map (·.2):=by
 rw [List.take_succ_eq_append_getElem h,bf,List.flatMap_append]
 simp [bf]
theorem vP (ns:List TN) (s:List UInt8):∀ {l:List Int},(∀ x∈l,(nd ns x.toNat).l.length≤1000)→(bf ns l s).length≤l.length*1000
 | [],_=>Nat.le_refl _
 | x::r,h=>by
   have h1:=vP ns s (l:=r) fun y hy=>h y (List.mem_cons_of_mem _ hy)
   have h2:=h x List.mem_cons_self
   have h3:((nd ns x.toNat).l.filter fun q=>q.1 == s).length≤(nd ns x.toNat).l.length:=List.length_filter_le _ _
   have e:bf ns (x::r) s=((nd ns x.toNat).l.filter fun q=>q.1 == s).map (·.2)++bf ns r s:=by simp [bf]
   rw [e,List.length_append,List.length_map,List.length_cons]
   omega
set_option maxHeartbeats 4000000 in
theorem yG {G} (ns:List TN) (root:Int) (l:List Int) (s:List UInt8) (h:Inn ns) (hl:l.length≤2000) (hk:∀ x∈l,okP ns x) (hf:∀ x∈l,(nd ns x.toNat).l.length≤1000) :
  HP Tryz.prog G 97 [aF ns root,aj l,.str s] (fun r=>r=.d (aj (bf ns l s))):=by
 have hn:=h.len
 refine fc ?_
 unfold aj aF
 refine aP Tryz.func97 rfl (by decide +kernel) (by simp [Tryz.ntmps97]) (veil fun E=>?_)
 simp only [go_sem]
 refine bL E [3] (.agg [.sl (some 4) (ns.map ah),i64 root]) rfl rfl ?_
 simp only [go_sem]
 refine au E (X:={ i:Nat // i≤l.length }) (fun x=>[(1,.d (.sl none (l.map i64))),(2,.d (.str s)),(3,.d (.ptr (.agg [.sl (some 4) (ns.map ah),i64 root]))),(7,.vw [98] 0 (bf ns (l.take x.1) s).length),(8,.d (i64 x.1))])
  (fun x=>[([98],.arr none ((bf ns (l.take x.1) s).map i64))]) [98] (fun x=>l.length-x.1) ⟨0,Nat.zero_le _⟩ (tau [([98],[10])]) ?_ ?_
 ·simp only [go_sem]
  all_goals first | rfl | ((repeat' apply And.intro)<;>first | rfl | trivial)
 rintro ⟨i,hi⟩ E0
 refine aR E0 fun Q' hQ E'=>?_
 simp only at hi ⊢
 simp only [go_sem]
 refine ai E' (fun h1=>?_) (fun h1=>?_)<;>simp only [go_sem]
 ·have hi':i<l.length:=by omega
  have hx:=hk _ (List.getElem_mem hi')
  have hx1:=hx.1
  have hx2:=hx.2
  have hfx:=hf _ (List.getElem_mem hi')
  have hnx:=yC (ns:=ns) s hi'
  have hgx:(l.map i64).getD i .nilp=i64 l[i]:=aD hi'
  have hle:(bf ns (l.take i) s).length≤2000000:=Nat.le_trans (vP ns s fun x hx=>hf x (List.mem_of_mem_take hx)) (by rw [List.length_take];omega)
  generalize l[i]=x at hx hx1 hx2 hfx hnx hgx
  have hnd:=dO hx
  generalize hN:nd ns x.toNat=N at hfx hnx hnd
  generalize bf ns (l.take i) s=A at hle hnx ⊢
  refine au E' (X:={ j:Nat // j≤N.l.length }) (fun y=>[(1,.d (.sl none (l.map i64))),(2,.d (.str s)),(3,.d (.ptr (.agg [.sl (some 4) (ns.map ah),i64 root]))),(7,.vw [97] 0 (A++((N.l.take y.1).filter fun q=>q.1 == s).map (·.2)).length),(8,.d (i64 i)),(9,.d (i64 y.1))])
   (fun y=>[([97],.arr none ((A++((N.l.take y.1).filter fun q=>q.1 == s).map (·.2)).map i64))]) [97] (fun y=>N.l.length-y.1) ⟨0,Nat.zero_le _⟩ (tau [([97],[98])]) ?_ ?_
  ·simp only [go_sem]
   all_goals first | (simp;done) | rfl | ((repeat' apply And.intro)<;>first | rfl | trivial | simp)
  rintro ⟨j,hj⟩ E1
  refine aR E1 fun Q2 hQ2 E2=>?_
  simp only at hj ⊢
  have hBl:(A++((N.l.take j).filter fun q=>q.1 == s).map (·.2)).length≤2001000:=by
   have:((N.l.take j).filter fun q=>q.1 == s).length≤(N.l.take j).length:=List.length_filter_le _ _
   rw [List.length_take] at this
   rw [List.length_append,List.length_map]
   omega
  have hB1:j<N.l.length→A++((N.l.take (j+1)).filter fun q=>q.1 == s).map (·.2)=(A++((N.l.take j).filter fun q=>q.1 == s).map (·.2))++(if (N.l.getD j ([],0)).1 == s then [(N.l.getD j ([],0)).2] else []):=fun hj'=>by
   rw [df (p:=fun q=>q.1 == s) hj',show N.l.getD j ([],0)=N.l[j] by simp [hj'],List.map_append,List.append_assoc]
   cases N.l[j].1 == s<;>rfl
  generalize hB:A++((N.l.take j).filter fun q=>q.1 == s).map (·.2)=B at hBl hB1 ⊢
  simp only [go_sem]
  refine ag mixed E2 fun X=>?_
  simp only [go_sem]
  refine ⟨by omega,?_⟩
  rw [hgx]
  simp only [go_sem]
  refine ⟨by omega,?_⟩
  rw [hnd]
  simp only [go_sem]
  refine ⟨by decide +kernel,?_⟩
  refine ai E2 (fun h2=>?_) (fun h2=>?_)<;>simp only [go_sem]
  ·have hj':j<N.l.length:=by omega
   refine ag mixed E2 fun X=>?_
   simp only [go_sem]
   refine ⟨by omega,?_⟩
   rw [hgx]
   simp only [go_sem]
   refine ⟨by omega,?_⟩
   rw [hnd]
   simp only [go_sem]
   refine ⟨by omega,?_⟩
   rw [lP hj']
   simp only [go_sem]
   refine ⟨by decide +kernel,?_⟩
   refine aX E2 (fun h3=>?_) (fun h3=>?_)<;>simp only [go_sem]
   ·have hB2:=hB1 hj'
    rw [show N.l.getD j ([],0)=N.l[j] by simp [hj'],h3,if_pos rfl] at hB2
    refine ag mixed E2 fun X=>?_
    simp only [go_sem]
    refine ⟨by omega,?_⟩
    rw [hgx]
    simp only [go_sem]
    refine ⟨by omega,?_⟩
    rw [hnd]
    simp only [go_sem]
    refine ⟨by omega,?_⟩
    rw [lP hj']
    simp only [go_sem]
    refine ⟨by omega,by decide +kernel,?_⟩
    rw [hQ2]
    refine ⟨⟨j+1,hj'⟩,by show N.l.length-(j+1)<N.l.length-j;omega,tau [([97],[61])],?_⟩
    simp only [go_sem]
    rw [ab ⟨by omega,by omega⟩,hB2]
    simp only [List.map_append,List.length_append,List.map_cons,List.map_nil,List.length_cons,List.length_nil]
    (repeat' apply And.intro)<;>first | rfl | trivial
   ·have hB2:=hB1 hj'
    rw [show N.l.getD j ([],0)=N.l[j] by simp [hj'],h3,if_neg (by simp),List.append_nil] at hB2
    rw [hQ2]
    refine ⟨⟨j+1,hj'⟩,by show N.l.length-(j+1)<N.l.length-j;omega,id,?_⟩
    simp only [go_sem]
    rw [ab ⟨by omega,by omega⟩,hB2]
    (repeat' apply And.intro)<;>first | rfl | trivial
  ·have hje:j=N.l.length:=by omega
   subst hje
   rw [List.take_length] at hB
   rw [hQ2]
   simp only [go_sem]
   rw [hQ]
   refine ⟨⟨i+1,hi'⟩,by show l.length-(i+1)<l.length-i;omega,tau [([98],[97])],?_⟩
   simp only [go_sem]
   rw [ab ⟨by omega,by omega⟩,hnx,hB]
   (repeat' apply And.intro)<;>first | rfl | trivial
 ·have hie:i=l.length:=by omega
  subst hie
  rw [List.take_length] at *
  rw [hQ]
  simp only [go_sem]
  refine ⟨[([98],none,(bf ns l s).map i64)],?_⟩
  simp only [go_sem]
  exact ⟨_,rfl,.refl _⟩
end Go.Proofs.YthfodompfpdmgaaGreatDoor

namespace Go.Proofs.YthfodompfpdmgaaGreatDoor
open Go.Ab
theorem eg {l:List (List UInt8)} {i:Nat} (h:i<l.length):(l.map D.str).getD i .nilp=.str l[i]:=by simp [h]
theorem Bn {ns:List TN} {l:List Int} {s:List UInt8} {i:Nat} (h:i<l.length):fI ns (l.take (i+1)) s=fI ns (l.take i) s+(if hasB ns s l[i] then 1 else 0):=by
 unfold fI
 rw [df h,List.length_append]
 cases hasB ns s l[i]<;>rfl
theorem tH (ns:List TN) (l:List Int) (s:List UInt8):fI ns l s≤l.length:=List.length_filter_le _ _
theorem zE (l:List (List UInt8)) (x:List UInt8):(aT l x).length≤l.length+1:=by
 unfold aT
 split
 ·omega
 ·have:=pB x l
  simp
  omega
theorem C8 (ns:List TN) (l:List Int) (all:Bool) (out:List (List UInt8)) (q:Fld):(nmF ns l all out q).length≤out.length+1:=by
 unfold nmF
 split
 ·exact zE _ _
 ·omega
set_option maxHeartbeats 8000000 in
theorem EZ {G} (ns:List TN) (root:Int) (l:List Int) (all:Bool) (h:Inn ns) (hl:l.length≤2000) (hk:∀ x∈l,okP ns x) (hf:∀ x∈l,(nd ns x.toNat).l.length≤1000) (hs:∀ x∈l,∀ q∈(nd ns x.toNat).l,q.1.length≤1000000) :
  HP Tryz.prog G 96 [aF ns root,aj l,.bool all] (fun r=>r=.d (.sl none ((nmL ns l all).map .str))):=by
 have hn:=h.len
 have c1:∀ (x:Int) (s:List UInt8),x∈l→HP Tryz.prog G 97 [aF ns root,aj [x],.str s] (fun r=>r=.d (aj (bf ns [x] s))):=fun x s hx =>
  yG (G:=G) ns root [x] s h (by simp) (fun y hy=>by rw [List.mem_singleton.1 hy];exact hk x hx) (fun y hy=>by rw [List.mem_singleton.1 hy];exact hf x hx)
 refine fc ?_
 unfold aj aF at *
 refine aP Tryz.func96 rfl (by decide +kernel) (by simp [Tryz.ntmps96]) (veil fun E=>?_)
 simp only [go_sem]
 refine bL E [3] (.agg [.sl (some 4) (ns.map ah),i64 root]) rfl rfl ?_
 simp only [go_sem]
 refine au E (X:={ x:Nat × List (List UInt8) // x.1≤l.length∧x.2=(l.take x.1).foldl (fun out x=>(nd ns x.toNat).l.foldl (nmF ns l all) out) []∧eG x.2∧x.2.length≤x.1*1000 }) (fun x=>[(1,.d (.sl none (l.map i64))),(2,.d (.bool all)),(3,.d (.ptr (.agg [.sl (some 4) (ns.map ah),i64 root]))),(7,.vw [98] 0 x.1.2.length),(8,.d (i64 x.1.1))])
  (fun x=>[([98],.arr none (x.1.2.map .str))]) [98] (fun x=>l.length-x.1.1) ⟨(0,[]),Nat.zero_le _,rfl,.nil,Nat.le_refl _⟩ (tau [([98],[14])]) ?_ ?_
 ·simp only [go_sem]
  all_goals first | rfl | ((repeat' apply And.intro)<;>first | rfl | trivial)
 rintro ⟨⟨i,out0⟩,hi,ho,hor,hol⟩ E0
 refine aR E0 fun Q' hQ E'=>?_
 simp only at hi ho hor hol ⊢
 simp only [go_sem]
 refine ai E' (fun h1=>?_) (fun h1=>?_)<;>simp only [go_sem]
 ·have hi':i<l.length:=by omega
  have hxm:=List.getElem_mem hi'
  have hx:=hk _ hxm
  have hx1:=hx.1
  have hx2:=hx.2
  have hfx:=hf _ hxm
  have hsx:=hs _ hxm
  have hgx:(l.map i64).getD i .nilp=i64 l[i]:=aD hi'
  have hnx:(l.take (i+1)).foldl (fun out x=>(nd ns x.toNat).l.foldl (nmF ns l all) out) []=(nd ns l[i].toNat).l.foldl (nmF ns l all) out0:=by rw [List.take_succ_eq_append_getElem hi',List.foldl_append,← ho];rfl
  generalize l[i]=x at hx hx1 hx2 hfx hsx hgx hxm hnx
  have hnd:=dO hx
  generalize hN:nd ns x.toNat=N at hfx hsx hnx hnd
  refine au E' (X:={ y:Nat × List (List UInt8) // y.1≤N.l.length∧y.2=(N.l.take y.1).foldl (nmF ns l all) out0∧eG y.2∧y.2.length≤out0.length+y.1 }) (fun y=>[(1,.d (.sl none (l.map i64))),(2,.d (.bool all)),(3,.d (.ptr (.agg [.sl (some 4) (ns.map ah),i64 root]))),(7,.vw [97] 0 y.1.2.length),(8,.d (i64 i)),(9,.d (i64 y.1.1))])
   (fun y=>[([97],.arr none (y.1.2.map .str))]) [97] (fun y=>N.l.length-y.1.1) ⟨(0,out0),Nat.zero_le _,rfl,hor,Nat.le_refl _⟩ (tau [([97],[98])]) ?_ ?_
  ·simp only [go_sem]
   all_goals first | rfl | ((repeat' apply And.intro)<;>first | rfl | trivial)
  rintro ⟨⟨j,out⟩,hj,hu,hur,hul⟩ E1
  refine aR E1 fun Q2 hQ2 E2=>?_
  simp only at hj hu hur hul ⊢
  simp only [go_sem]
  refine ag mixed E2 fun X=>?_
  simp only [go_sem]
  refine ⟨by omega,?_⟩
  rw [hgx]
  simp only [go_sem]
  refine ⟨by omega,?_⟩
  rw [hnd]
  simp only [go_sem]
  refine ⟨by decide +kernel,?_⟩
  refine ai E2 (fun h2=>?_) (fun h2=>?_)<;>simp only [go_sem]
  ·have hj':j<N.l.length:=by omega
   have hsq:=hsx _ (List.getElem_mem hj')
   have hgq:(N.l.map aG).getD j .nilp=.agg [.str N.l[j].1,i64 N.l[j].2]:=lP hj'
   have hnq:(N.l.take (j+1)).foldl (nmF ns l all) out0=nmF ns l all out N.l[j]:=by rw [List.take_succ_eq_append_getElem hj',List.foldl_append,← hu];rfl
   generalize N.l[j]=q at hsq hgq hnq
   obtain ⟨s,v⟩:=q
   simp only at hsq hgq
   refine ag mixed E2 fun X=>?_
   simp only [go_sem]
   refine ⟨by omega,?_⟩
   rw [hgx]
   simp only [go_sem]
   refine ⟨by omega,?_⟩
   rw [hnd]
   simp only [go_sem]
   refine ⟨by omega,?_⟩
   rw [hgq]
   simp only [go_sem]
   refine ⟨by decide +kernel,?_⟩
   have hcl:=tH ns l s
   refine au E2 (X:={ m:Nat // m≤l.length }) (fun z=>[(1,.d (.sl none (l.map i64))),(2,.d (.bool all)),(3,.d (.ptr (.agg [.sl (some 4) (ns.map ah),i64 root]))),(7,.vw [97] 0 out.length),(8,.d (i64 i)),(9,.d (i64 j)),(10,.d (.str s)),(11,.d (i64 (fI ns (l.take z.1) s:Nat))),(12,.d (i64 z.1))])
    (fun _=>[([97],.arr none (out.map .str))]) [97] (fun z=>l.length-z.1) ⟨0,Nat.zero_le _⟩ id ?_ ?_
   ·simp only [go_sem]
    all_goals first | rfl | ((repeat' apply And.intro)<;>first | rfl | trivial)
   rintro ⟨m,hm⟩ E3
   refine aR E3 fun Q3 hQ3 E4=>?_
   simp only at hm ⊢
   simp only [go_sem]
   refine ai E4 (fun h3=>?_) (fun h3=>?_)<;>simp only [go_sem]
   ·have hm':m<l.length:=by omega
    have hgm:(l.map i64).getD m .nilp=i64 l[m]:=aD hm'
    have c97:=c1 l[m] s (List.getElem_mem hm')
    have hct:=Bn (ns:=ns) (s:=s) hm'
    have hcm:=tH ns (l.take m) s
    rw [List.length_take] at hcm
    generalize l[m]=y at hgm c97 hct
    refine ag mixed E4 fun X=>?_
    simp only [go_sem]
    refine ⟨by omega,?_⟩
    rw [hgm]
    simp only [go_sem]
    refine wg X 59 [59] none [i64 y] c97 (fun _=>rfl) rfl rfl rfl (by simp) rfl (by simp only [go_sem]) ?_
    simp only [go_sem]
    refine ⟨by decide +kernel,?_⟩
    have hst:hasB ns s y=decide ((0:Int)<((bf ns [y] s).length:Int)):=by rw [hasB,decide_eq_decide];omega
    rw [hst] at hct
    refine ai E4 (fun h4=>?_) (fun h4=>?_)<;>simp only [go_sem]
    ·rw [decide_eq_true h4,if_pos rfl] at hct
     rw [hQ3]
     refine ⟨⟨m+1,hm'⟩,by show l.length-(m+1)<l.length-m;omega,id,?_⟩
     simp only [go_sem]
     rw [ab ⟨by omega,by omega⟩,ab ⟨by omega,by omega⟩,hct]
     (repeat' apply And.intro)<;>first | rfl | trivial
    ·rw [decide_eq_false h4,if_neg (by simp),Nat.add_zero] at hct
     rw [hQ3]
     refine ⟨⟨m+1,hm'⟩,by show l.length-(m+1)<l.length-m;omega,id,?_⟩
     simp only [go_sem]
     rw [ab ⟨by omega,by omega⟩,hct]
     (repeat' apply And.intro)<;>first | rfl | trivial
   ·have hme:m=l.length:=by omega
    subst hme
    rw [List.take_length]
    rw [hQ3]
    simp only [go_sem]
    have hpl:=pB s out
    refine au E2 (X:={ v:Nat // v≤bX s out }) (fun z=>[(1,.d (.sl none (l.map i64))),(2,.d (.bool all)),(3,.d (.ptr (.agg [.sl (some 4) (ns.map ah),i64 root]))),(7,.vw [97] 0 out.length),(8,.d (i64 i)),(9,.d (i64 j)),(10,.d (.str s)),(11,.d (i64 (fI ns l s:Nat))),(13,.d (i64 z.1))])
     (fun _=>[([97],.arr none (out.map .str))]) [97] (fun z=>out.length-z.1) ⟨0,Nat.zero_le _⟩ id ?_ ?_
    ·simp only [go_sem]
     all_goals first | rfl | ((repeat' apply And.intro)<;>first | rfl | trivial)
    rintro ⟨v',hv⟩ E5
    refine aR E5 fun Q4 hQ4 E6=>?_
    simp only at hv ⊢
    simp only [go_sem]
    refine aC E6 (fun h5=>?_) (fun h5=>?_)<;>simp only [go_sem]
    ·have hvo:v' < out.length:=by omega
     refine ⟨by omega,?_⟩
     rw [eg hvo]
     simp only [go_sem]
     rw [bytesLess_eq]
     refine ai E6 (fun h6=>?_) (fun h6=>?_)<;>simp only [go_sem]
     ·have hip:v' < bX s out:=by
       rcases Nat.lt_or_ge v' (bX s out) with g | g
       ·exact g
       ·have e:v'=bX s out:=by omega
        subst e
        exact absurd h6 (lL hvo)
      rw [hQ4]
      refine ⟨⟨v'+1,hip⟩,by show out.length-(v'+1)<out.length-v';omega,id,?_⟩
      simp only [go_sem]
      rw [ab ⟨by omega,by omega⟩]
      (repeat' apply And.intro)<;>first | rfl | trivial
     ·have hip:v'=bX s out:=by
       rcases Nat.lt_or_ge v' (bX s out) with g | g
       ·exact absurd (lW hvo g) h6
       ·omega
      rw [hQ4]
      simp only [go_sem]
      refine aC E2 (fun h7=>?_) (fun h7=>?_)<;>simp only [go_sem]
      ·have hcond:(decide (fI ns l s=l.length) || !all)=true:=by rw [decide_eq_true (by omega)];rfl
       refine aC E2 (fun h8=>?_) (fun h8=>?_)<;>simp only [go_sem]
       ·have hno:s ∉ out:=dC hur fun hi=>absurd hi (by omega)
        have hin:aT out s=out.take v'++s::out.drop v':=by rw [aT,if_neg hno,← hip]
        have hil:(aT out s).length=out.length+1:=by rw [hin];simp;omega
        have he:nmF ns l all out (s,v)=aT out s:=by rw [nmF,if_pos hcond]
        rw [he] at hnq
        refine ag mixed E2 fun X=>?_
        simp only [go_sem]
        have hol:out.length≤3000000:=by omega
        refine ⟨⟨by omega,by omega⟩,by simp;omega,by simp;omega,⟨by omega,by omega,by omega⟩,by simp;omega,by decide +kernel,?_⟩
        rw [hQ2]
        refine ⟨⟨(j+1,aT out s),hj',hnq.symm,cS hur s,by show (aT out s).length≤out0.length+(j+1);omega⟩,by show N.l.length-(j+1)<N.l.length-j;omega,tau [([97],[113])],?_⟩
        simp only [go_sem]
        rw [ab ⟨by omega,by omega⟩,hil,hin]
        have e1:(List.take (v' - 0) (out.map D.str)).length=v':=by simp;omega
        have e2:(List.take (out.length-v') (List.drop v' (out.map D.str)))=(out.drop v').map D.str:=by rw [List.take_of_length_le (by simp),List.map_drop]
        have e3:List.take (v' - 0) (out.map D.str)=(out.take v').map D.str:=by rw [Nat.sub_zero,List.map_take]
        rw [e1,e2,e3,List.take_of_length_le (by simp;omega)]
        (repeat' apply And.intro)<;>first | rfl | trivial | (simp;omega) | simp
       ·have hvl:v' < out.length:=by omega
        refine ⟨by omega,?_⟩
        rw [eg hvl]
        simp only [go_sem]
        refine aX E2 (fun h9=>?_) (fun h9=>?_)<;>simp only [go_sem]
        ·have hno:s ∉ out:=dC hur fun hi=>by subst hip;simpa using h9
         have hin:aT out s=out.take v'++s::out.drop v':=by rw [aT,if_neg hno,← hip]
         have hil:(aT out s).length=out.length+1:=by rw [hin];simp;omega
         have he:nmF ns l all out (s,v)=aT out s:=by rw [nmF,if_pos hcond]
         rw [he] at hnq
         refine ag mixed E2 fun X=>?_
         simp only [go_sem]
         have hol:out.length≤3000000:=by omega
         refine ⟨⟨by omega,by omega⟩,by simp;omega,by simp;omega,⟨by omega,by omega,by omega⟩,by simp;omega,by decide +kernel,?_⟩
         rw [hQ2]
         refine ⟨⟨(j+1,aT out s),hj',hnq.symm,cS hur s,by show (aT out s).length≤out0.length+(j+1);omega⟩,by show N.l.length-(j+1)<N.l.length-j;omega,tau [([97],[113])],?_⟩
         simp only [go_sem]
         rw [ab ⟨by omega,by omega⟩,hil,hin]
         have e1:(List.take (v' - 0) (out.map D.str)).length=v':=by simp;omega
         have e2:(List.take (out.length-v') (List.drop v' (out.map D.str)))=(out.drop v').map D.str:=by rw [List.take_of_length_le (by simp),List.map_drop]
         have e3:List.take (v' - 0) (out.map D.str)=(out.take v').map D.str:=by rw [Nat.sub_zero,List.map_take]
         rw [e1,e2,e3,List.take_of_length_le (by simp;omega)]
         (repeat' apply And.intro)<;>first | rfl | trivial | (simp;omega) | simp
        ·have hm:s∈out:=by
          have e:out[v']=s:=by simpa using h9
          rw [← e];exact List.getElem_mem hvl
         have he:nmF ns l all out (s,v)=out:=by rw [nmF,if_pos hcond,aT,if_pos hm]
         rw [he] at hnq
         rw [hQ2]
         refine ⟨⟨(j+1,out),hj',hnq.symm,hur,by show out.length≤out0.length+(j+1);omega⟩,by show N.l.length-(j+1)<N.l.length-j;omega,id,?_⟩
         simp only [go_sem]
         rw [ab ⟨by omega,by omega⟩]
         (repeat' apply And.intro)<;>first | rfl | trivial
      ·refine cX E2 (fun g7=>?_) (fun g7=>?_)<;>simp only [go_sem]
       ·have hcond:(decide (fI ns l s=l.length) || !all)=true:=by rw [g7,Bool.or_true]
        refine aC E2 (fun h8=>?_) (fun h8=>?_)<;>simp only [go_sem]
        ·have hno:s ∉ out:=dC hur fun hi=>absurd hi (by omega)
         have hin:aT out s=out.take v'++s::out.drop v':=by rw [aT,if_neg hno,← hip]
         have hil:(aT out s).length=out.length+1:=by rw [hin];simp;omega
         have he:nmF ns l all out (s,v)=aT out s:=by rw [nmF,if_pos hcond]
         rw [he] at hnq
         refine ag mixed E2 fun X=>?_
         simp only [go_sem]
         have hol:out.length≤3000000:=by omega
         refine ⟨⟨by omega,by omega⟩,by simp;omega,by simp;omega,⟨by omega,by omega,by omega⟩,by simp;omega,by decide +kernel,?_⟩
         rw [hQ2]
         refine ⟨⟨(j+1,aT out s),hj',hnq.symm,cS hur s,by show (aT out s).length≤out0.length+(j+1);omega⟩,by show N.l.length-(j+1)<N.l.length-j;omega,tau [([97],[113])],?_⟩
         simp only [go_sem]
         rw [ab ⟨by omega,by omega⟩,hil,hin]
         have e1:(List.take (v' - 0) (out.map D.str)).length=v':=by simp;omega
         have e2:(List.take (out.length-v') (List.drop v' (out.map D.str)))=(out.drop v').map D.str:=by rw [List.take_of_length_le (by simp),List.map_drop]
         have e3:List.take (v' - 0) (out.map D.str)=(out.take v').map D.str:=by rw [Nat.sub_zero,List.map_take]
         rw [e1,e2,e3,List.take_of_length_le (by simp;omega)]
         (repeat' apply And.intro)<;>first | rfl | trivial | (simp;omega) | simp
        ·have hvl:v' < out.length:=by omega
         refine ⟨by omega,?_⟩
         rw [eg hvl]
         simp only [go_sem]
         refine aX E2 (fun h9=>?_) (fun h9=>?_)<;>simp only [go_sem]
         ·have hno:s ∉ out:=dC hur fun hi=>by subst hip;simpa using h9
          have hin:aT out s=out.take v'++s::out.drop v':=by rw [aT,if_neg hno,← hip]
          have hil:(aT out s).length=out.length+1:=by rw [hin];simp;omega
          have he:nmF ns l all out (s,v)=aT out s:=by rw [nmF,if_pos hcond]
          rw [he] at hnq
          refine ag mixed E2 fun X=>?_
          simp only [go_sem]
          have hol:out.length≤3000000:=by omega
          refine ⟨⟨by omega,by omega⟩,by simp;omega,by simp;omega,⟨by omega,by omega,by omega⟩,by simp;omega,by decide +kernel,?_⟩
          rw [hQ2]
          refine ⟨⟨(j+1,aT out s),hj',hnq.symm,cS hur s,by show (aT out s).length≤out0.length+(j+1);omega⟩,by show N.l.length-(j+1)<N.l.length-j;omega,tau [([97],[113])],?_⟩
          simp only [go_sem]
          rw [ab ⟨by omega,by omega⟩,hil,hin]
          have e1:(List.take (v' - 0) (out.map D.str)).length=v':=by simp;omega
          have e2:(List.take (out.length-v') (List.drop v' (out.map D.str)))=(out.drop v').map D.str:=by rw [List.take_of_length_le (by simp),List.map_drop]
          have e3:List.take (v' - 0) (out.map D.str)=(out.take v').map D.str:=by rw [Nat.sub_zero,List.map_take]
          rw [e1,e2,e3,List.take_of_length_le (by simp;omega)]
          (repeat' apply And.intro)<;>first | rfl | trivial | (simp;omega) | simp
         ·have hm:s∈out:=by
           have e:out[v']=s:=by simpa using h9
           rw [← e];exact List.getElem_mem hvl
          have he:nmF ns l all out (s,v)=out:=by rw [nmF,if_pos hcond,aT,if_pos hm]
          rw [he] at hnq
          rw [hQ2]
          refine ⟨⟨(j+1,out),hj',hnq.symm,hur,by show out.length≤out0.length+(j+1);omega⟩,by show N.l.length-(j+1)<N.l.length-j;omega,id,?_⟩
          simp only [go_sem]
          rw [ab ⟨by omega,by omega⟩]
          (repeat' apply And.intro)<;>first | rfl | trivial
       ·have hcond:(decide (fI ns l s=l.length) || !all)=false:=by rw [g7,decide_eq_false (by omega)];rfl
        have he:nmF ns l all out (s,v)=out:=by rw [nmF,if_neg (by rw [hcond];simp)]
        rw [he] at hnq
        rw [hQ2]
        refine ⟨⟨(j+1,out),hj',hnq.symm,hur,by show out.length≤out0.length+(j+1);omega⟩,by show N.l.length-(j+1)<N.l.length-j;omega,id,?_⟩
        simp only [go_sem]
        rw [ab ⟨by omega,by omega⟩]
        (repeat' apply And.intro)<;>first | rfl | trivial
    ·have hvo:v'=out.length:=by omega
     have hip:v'=bX s out:=by omega
     rw [hQ4]
     simp only [go_sem]
     refine aC E2 (fun h7=>?_) (fun h7=>?_)<;>simp only [go_sem]
     ·have hcond:(decide (fI ns l s=l.length) || !all)=true:=by rw [decide_eq_true (by omega)];rfl
      refine aC E2 (fun h8=>?_) (fun h8=>?_)<;>simp only [go_sem]
      ·have hno:s ∉ out:=dC hur fun hi=>absurd hi (by omega)
       have hin:aT out s=out.take v'++s::out.drop v':=by rw [aT,if_neg hno,← hip]
       have hil:(aT out s).length=out.length+1:=by rw [hin];simp;omega
       have he:nmF ns l all out (s,v)=aT out s:=by rw [nmF,if_pos hcond]
       rw [he] at hnq
       refine ag mixed E2 fun X=>?_
       simp only [go_sem]
       have hol:out.length≤3000000:=by omega
       refine ⟨⟨by omega,by omega⟩,by simp;omega,by simp;omega,⟨by omega,by omega,by omega⟩,by simp;omega,by decide +kernel,?_⟩
       rw [hQ2]
       refine ⟨⟨(j+1,aT out s),hj',hnq.symm,cS hur s,by show (aT out s).length≤out0.length+(j+1);omega⟩,by show N.l.length-(j+1)<N.l.length-j;omega,tau [([97],[113])],?_⟩
       simp only [go_sem]
       rw [ab ⟨by omega,by omega⟩,hil,hin]
       have e1:(List.take (v' - 0) (out.map D.str)).length=v':=by simp;omega
       have e2:(List.take (out.length-v') (List.drop v' (out.map D.str)))=(out.drop v').map D.str:=by rw [List.take_of_length_le (by simp),List.map_drop]
       have e3:List.take (v' - 0) (out.map D.str)=(out.take v').map D.str:=by rw [Nat.sub_zero,List.map_take]
       rw [e1,e2,e3,List.take_of_length_le (by simp;omega)]
       (repeat' apply And.intro)<;>first | rfl | trivial | (simp;omega) | simp
      ·have hvl:v' < out.length:=by omega
       refine ⟨by omega,?_⟩
       rw [eg hvl]
       simp only [go_sem]
       refine aX E2 (fun h9=>?_) (fun h9=>?_)<;>simp only [go_sem]
       ·have hno:s ∉ out:=dC hur fun hi=>by subst hip;simpa using h9
        have hin:aT out s=out.take v'++s::out.drop v':=by rw [aT,if_neg hno,← hip]
        have hil:(aT out s).length=out.length+1:=by rw [hin];simp;omega
        have he:nmF ns l all out (s,v)=aT out s:=by rw [nmF,if_pos hcond]
        rw [he] at hnq
        refine ag mixed E2 fun X=>?_
        simp only [go_sem]
        have hol:out.length≤3000000:=by omega
        refine ⟨⟨by omega,by omega⟩,by simp;omega,by simp;omega,⟨by omega,by omega,by omega⟩,by simp;omega,by decide +kernel,?_⟩
        rw [hQ2]
        refine ⟨⟨(j+1,aT out s),hj',hnq.symm,cS hur s,by show (aT out s).length≤out0.length+(j+1);omega⟩,by show N.l.length-(j+1)<N.l.length-j;omega,tau [([97],[113])],?_⟩
        simp only [go_sem]
        rw [ab ⟨by omega,by omega⟩,hil,hin]
        have e1:(List.take (v' - 0) (out.map D.str)).length=v':=by simp;omega
        have e2:(List.take (out.length-v') (List.drop v' (out.map D.str)))=(out.drop v').map D.str:=by rw [List.take_of_length_le (by simp),List.map_drop]
        have e3:List.take (v' - 0) (out.map D.str)=(out.take v').map D.str:=by rw [Nat.sub_zero,List.map_take]
        rw [e1,e2,e3,List.take_of_length_le (by simp;omega)]
        (repeat' apply And.intro)<;>first | rfl | trivial | (simp;omega) | simp
       ·have hm:s∈out:=by
         have e:out[v']=s:=by simpa using h9
         rw [← e];exact List.getElem_mem hvl
        have he:nmF ns l all out (s,v)=out:=by rw [nmF,if_pos hcond,aT,if_pos hm]
        rw [he] at hnq
        rw [hQ2]
        refine ⟨⟨(j+1,out),hj',hnq.symm,hur,by show out.length≤out0.length+(j+1);omega⟩,by show N.l.length-(j+1)<N.l.length-j;omega,id,?_⟩
        simp only [go_sem]
        rw [ab ⟨by omega,by omega⟩]
        (repeat' apply And.intro)<;>first | rfl | trivial
     ·refine cX E2 (fun g7=>?_) (fun g7=>?_)<;>simp only [go_sem]
      ·have hcond:(decide (fI ns l s=l.length) || !all)=true:=by rw [g7,Bool.or_true]
       refine aC E2 (fun h8=>?_) (fun h8=>?_)<;>simp only [go_sem]
       ·have hno:s ∉ out:=dC hur fun hi=>absurd hi (by omega)
        have hin:aT out s=out.take v'++s::out.drop v':=by rw [aT,if_neg hno,← hip]
        have hil:(aT out s).length=out.length+1:=by rw [hin];simp;omega
        have he:nmF ns l all out (s,v)=aT out s:=by rw [nmF,if_pos hcond]
        rw [he] at hnq
        refine ag mixed E2 fun X=>?_
        simp only [go_sem]
        have hol:out.length≤3000000:=by omega
        refine ⟨⟨by omega,by omega⟩,by simp;omega,by simp;omega,⟨by omega,by omega,by omega⟩,by simp;omega,by decide +kernel,?_⟩
        rw [hQ2]
        refine ⟨⟨(j+1,aT out s),hj',hnq.symm,cS hur s,by show (aT out s).length≤out0.length+(j+1);omega⟩,by show N.l.length-(j+1)<N.l.length-j;omega,tau [([97],[113])],?_⟩
        simp only [go_sem]
        rw [ab ⟨by omega,by omega⟩,hil,hin]
        have e1:(List.take (v' - 0) (out.map D.str)).length=v':=by simp;omega
        have e2:(List.take (out.length-v') (List.drop v' (out.map D.str)))=(out.drop v').map D.str:=by rw [List.take_of_length_le (by simp),List.map_drop]
        have e3:List.take (v' - 0) (out.map D.str)=(out.take v').map D.str:=by rw [Nat.sub_zero,List.map_take]
        rw [e1,e2,e3,List.take_of_length_le (by simp;omega)]
        (repeat' apply And.intro)<;>first | rfl | trivial | (simp;omega) | simp
       ·have hvl:v' < out.length:=by omega
        refine ⟨by omega,?_⟩
        rw [eg hvl]
        simp only [go_sem]
        refine aX E2 (fun h9=>?_) (fun h9=>?_)<;>simp only [go_sem]
        ·have hno:s ∉ out:=dC hur fun hi=>by subst hip;simpa using h9
         have hin:aT out s=out.take v'++s::out.drop v':=by rw [aT,if_neg hno,← hip]
         have hil:(aT out s).length=out.length+1:=by rw [hin];simp;omega
         have he:nmF ns l all out (s,v)=aT out s:=by rw [nmF,if_pos hcond]
         rw [he] at hnq
         refine ag mixed E2 fun X=>?_
         simp only [go_sem]
         have hol:out.length≤3000000:=by omega
         refine ⟨⟨by omega,by omega⟩,by simp;omega,by simp;omega,⟨by omega,by omega,by omega⟩,by simp;omega,by decide +kernel,?_⟩
         rw [hQ2]
         refine ⟨⟨(j+1,aT out s),hj',hnq.symm,cS hur s,by show (aT out s).length≤out0.length+(j+1);omega⟩,by show N.l.length-(j+1)<N.l.length-j;omega,tau [([97],[113])],?_⟩
         simp only [go_sem]
         rw [ab ⟨by omega,by omega⟩,hil,hin]
         have e1:(List.take (v' - 0) (out.map D.str)).length=v':=by simp;omega
         have e2:(List.take (out.length-v') (List.drop v' (out.map D.str)))=(out.drop v').map D.str:=by rw [List.take_of_length_le (by simp),List.map_drop]
         have e3:List.take (v' - 0) (out.map D.str)=(out.take v').map D.str:=by rw [Nat.sub_zero,List.map_take]
         rw [e1,e2,e3,List.take_of_length_le (by simp;omega)]
         (repeat' apply And.intro)<;>first | rfl | trivial | (simp;omega) | simp
        ·have hm:s∈out:=by
          have e:out[v']=s:=by simpa using h9
          rw [← e];exact List.getElem_mem hvl
         have he:nmF ns l all out (s,v)=out:=by rw [nmF,if_pos hcond,aT,if_pos hm]
         rw [he] at hnq
         rw [hQ2]
         refine ⟨⟨(j+1,out),hj',hnq.symm,hur,by show out.length≤out0.length+(j+1);omega⟩,by show N.l.length-(j+1)<N.l.length-j;omega,id,?_⟩
         simp only [go_sem]
         rw [ab ⟨by omega,by omega⟩]
         (repeat' apply And.intro)<;>first | rfl | trivial
      ·have hcond:(decide (fI ns l s=l.length) || !all)=false:=by rw [g7,decide_eq_false (by omega)];rfl
       have he:nmF ns l all out (s,v)=out:=by rw [nmF,if_neg (by rw [hcond];simp)]
       rw [he] at hnq
       rw [hQ2]
       refine ⟨⟨(j+1,out),hj',hnq.symm,hur,by show out.length≤out0.length+(j+1);omega⟩,by show N.l.length-(j+1)<N.l.length-j;omega,id,?_⟩
       simp only [go_sem]
       rw [ab ⟨by omega,by omega⟩]
       (repeat' apply And.intro)<;>first | rfl | trivial
  ·have hje:j=N.l.length:=by omega
   subst hje
   rw [List.take_length] at hu
   rw [hQ2]
   simp only [go_sem]
   rw [hQ]
   refine ⟨⟨(i+1,out),hi',by rw [hnx];exact hu,hur,by show out.length≤(i+1)*1000;omega⟩,by show l.length-(i+1)<l.length-i;omega,tau [([98],[97])],?_⟩
   simp only [go_sem]
   rw [ab ⟨by omega,by omega⟩]
   (repeat' apply And.intro)<;>first | rfl | trivial
 ·have hie:i=l.length:=by omega
  subst hie
  rw [List.take_length] at ho
  rw [show (l.foldl (fun out x=>(nd ns x.toNat).l.foldl (nmF ns l all) out) [])=nmL ns l all from rfl] at ho
  subst ho
  rw [hQ]
  simp only [go_sem]
  refine ⟨[([98],none,(nmL ns l all).map .str)],?_⟩
  simp only [go_sem]
  exact ⟨_,rfl,.refl _⟩
end Go.Proofs.YthfodompfpdmgaaGreatDoor

namespace Go.Ab
section
variable {P:Program} {cf:Cf} {s:St} {ops:Array Oper} {K:St→Ns→Prop} {r:List Oper} {ns:Ns}
theorem wC {o:Oper} {g:Option (Nat × Bool)} {s:St} {k:List It} {Q:Exit→St→Prop} (h:AOk P cf { o with guard:=none } s k Q):AOk P cf { o with guard:=g } s k Q:=by
 intro B hB ds β a w hds hs Q'
 exact h B hB ds β a w hds hs Q'
theorem u9 (E:XEng P cf ops K) {d:Nat} {x:Operand} {ty:TypeId} {pos:String} {af:Array Edge} {g:Option (Nat × Bool)} (p:Name) (c:Nat) (ty':Option Nat) (cs:List AV) (hd:d<cf.n) (hx:ev s x=.bx p c) (hp:s.hp p=some (.boxT ty' cs)) (h:E.run r (s.put d (.bx p c)) (ns++[([p],[],[])])) :
  E.stp { dst:=some d,op:=.nilCheck x,type:=ty,pos:=pos,after:=af,guard:=g } r s ns .no:=by
 refine eW E (x:=.bx p c) [p] (fun t ht=>by rw [Option.mem_def,Option.some.injEq] at ht;rw [← ht];exact hd) (fun s' hh he=>?_) h
 have h1:ev s' x=.bx p c:=(he x (by simp [Op.operands])).trans hx
 have h2:s'.hp p=some (.boxT ty' cs):=(hh p (by simp)).trans hp
 refine wC (o:={ dst:=some d,op:=.nilCheck x,type:=ty,pos:=pos,after:=af,guard:=none }) (g:=g) ?_
 refine cg (o:={ dst:=some d,op:=.nilCheck x,type:=ty,pos:=pos,after:=af,guard:=none }) rfl ?_
 have h3:opR P.ti cf.n (.nilCheck x) (some d) s'=.ok (s'.put d (.bx p c)):=by
  unfold opR wK
  simp only [h1,h2]
  simp [R.bind,bp,hd]
 unfold stp
 simp only [h3,R.run]
 rw [bG];rfl
end
end Go.Ab

namespace Go.Proofs.YthfodompfpdmgaaGreatDoor
open Go.Ab
structure WD (ns:List TN) (W:List Clu):Prop where
 an:gq W
 wo:WOk ns W
def wO (ns:List TN) (root:Int) (W:List Clu) (a:Nat):List (Name × Ob):=[([0],.box [.d (.sl (some 4) (ns.map ah)),.d (i64 root),.vw [a] 0 W.length]),([a],.arr (some 3) (W.map gu))]
theorem s5 {W:List Clu} {i:Nat} (h:i<W.length):(W.map gu).getD i .nilp=.agg [.bool W[i].1,.bool W[i].2.1,lsR W[i]]:=by simp [h,gu]
theorem FC {c d:Clu} (h1:d.1=c.1) (h2:d.2.1=c.2.1) (h3:d.2.2=c.2.2):d=c:=Prod.ext h1 (Prod.ext h2 h3)
theorem E7 (c:Clu):lsR c=.nils∨lsR c=.sl none (c.2.2.map i64):=by
 unfold lsR
 split
 ·exact .inl rfl
 ·exact .inr rfl
set_option maxHeartbeats 4000000 in
theorem pD {G} (ns:List TN) (root:Int) (W:List Clu) (c:Clu) (hW:WD ns W) (hc:iw c) (hWl:W.length≤100000000) :
  HCall Tryz.prog G 29 [.bx [0] 0,.d (gu c)] (wO ns root W 1) [0,1] (fun r hp'=>r=.d (i64 ((ak W c).1:Nat))∧hp'=wO ns root (ak W c).2 6):=by
 have hp1:=@xI c W
 have hp2:=@jk c W hc hW.an
 generalize hR:ak W c=R at hp2
 unfold wO
 rw [show gu c=.agg [.bool c.1,.bool c.2.1,lsR c] from rfl]
 refine aL Tryz.func29 rfl (by decide +kernel) (by simp [Tryz.ntmps29]) (veil fun E=>?_)
 simp only [go_sem]
 refine au E (X:={ i:Nat // i≤W.length∧∀ j,j<i→W.getD j default≠c }) (fun x=>[(0,.bx [0] 0),(3,.bx [3] 0),(5,.d (i64 x.1))])
  (fun _=>[([0],.box [.d (.sl (some 4) (ns.map ah)),.d (i64 root),.vw [1] 0 W.length]),([1],.arr (some 3) (W.map gu)),([3],.box [.d (.bool c.1),.d (.bool c.2.1),.d (lsR c)])]) [3,0,1] (fun x=>W.length-x.1) ⟨0,Nat.zero_le _,by intro j hj;omega⟩ id ?_ ?_
 ·simp only [go_sem]
  all_goals first | rfl | ((repeat' apply And.intro)<;>first | rfl | trivial)
 rintro ⟨i,hi,hno⟩ E0
 refine aR E0 fun Q' hQ E'=>?_
 simp only at hi hno ⊢
 simp only [go_sem]
 refine ai E' (fun h1=>?_) (fun h1=>?_)<;>simp only [go_sem]
 ·have hi':i<W.length:=by omega
  have hm:=List.getElem_mem hi'
  have hdn:=hW.an _ hm
  have hdl:=(hW.wo _ hm).1
  have hgd:W.getD i default=W[i]:=by simp [hi']
  have hget:(W.map gu).getD i .nilp=.agg [.bool W[i].1,.bool W[i].2.1,lsR W[i]]:=s5 hi'
  generalize W[i]=d at hdn hdl hgd hget
  have c20:=(zq (G:=G) d.2.2 c.2.2 (by omega)).wk (show WkL [lsR d,lsR c] [aj d.2.2,aj c.2.2] from ⟨yu hdn.2,yu hc.2,trivial⟩)
  refine ag mixed E' fun X=>?_
  simp only [go_sem]
  refine aI X [0] 0 none [.d (.sl (some 4) (ns.map ah)),.d (i64 root),.vw [1] 0 W.length] (by simp only [go_sem]) rfl rfl ?_
  simp only [go_sem]
  refine ⟨by omega,?_⟩
  rw [hget]
  simp only [go_sem]
  refine cQ X (fun h2=>?_) (fun h2=>?_)<;>simp only [go_sem]
  ·refine u9 X [0] 0 none [.d (.sl (some 4) (ns.map ah)),.d (i64 root),.vw [1] 0 W.length] (by simp only [go_sem]) rfl rfl ?_
   simp only [go_sem]
   refine ⟨by omega,?_⟩
   rw [hget]
   simp only [go_sem]
   refine cQ X (fun h3=>?_) (fun h3=>?_)<;>simp only [go_sem]
   ·refine u9 X [0] 0 none [.d (.sl (some 4) (ns.map ah)),.d (i64 root),.vw [1] 0 W.length] (by simp only [go_sem]) rfl rfl ?_
    simp only [go_sem]
    refine ⟨by omega,?_⟩
    rw [hget]
    simp only [go_sem]
    refine bo X c20 rfl rfl (by simp) ?_
    simp only [go_sem]
    refine ⟨by decide +kernel,?_⟩
    refine ai E' (fun h4=>?_) (fun h4=>?_)<;>simp only [go_sem]
    ·have e:d=c:=FC h2 h3 h4
     have hr:=hp1 hc hW.an hi' hno (by rw [hgd];exact e)
     rw [hR] at hr
     subst hr
     rw [hQ]
     simp only [go_sem]
     refine ⟨_,_,[0,1,6],tau [([6],[1])],⟨rfl,rfl⟩,?_⟩
     simp only [go_sem]
    ·have hne:d≠c:=fun e=>h4 (congrArg (fun x=>x.2.2) e)
     skip
     rw [hQ]
     refine ⟨⟨i+1,hi',fun j hj=>?_⟩,by show W.length-(i+1)<W.length-i;omega,id,?_⟩
     ·rcases Nat.lt_or_ge j i with g | g
      ·exact hno j g
      ·have e:j=i:=by omega
       subst e
       rw [hgd]
       exact hne
     ·simp only [go_sem]
      rw [ab ⟨by omega,by omega⟩]
      (repeat' apply And.intro)<;>first | rfl | trivial
   ·have hne:d≠c:=fun e=>h3 (congrArg (fun x=>x.2.1) e)
    refine ⟨by decide +kernel,?_⟩
    rw [hQ]
    refine ⟨⟨i+1,hi',fun j hj=>?_⟩,by show W.length-(i+1)<W.length-i;omega,id,?_⟩
    ·rcases Nat.lt_or_ge j i with g | g
     ·exact hno j g
     ·have e:j=i:=by omega
      subst e
      rw [hgd]
      exact hne
    ·simp only [go_sem]
     rw [ab ⟨by omega,by omega⟩]
     (repeat' apply And.intro)<;>first | rfl | trivial
  ·have hne:d≠c:=fun e=>h2 (congrArg Prod.fst e)
   refine ⟨by decide +kernel,?_⟩
   rw [hQ]
   refine ⟨⟨i+1,hi',fun j hj=>?_⟩,by show W.length-(i+1)<W.length-i;omega,id,?_⟩
   ·rcases Nat.lt_or_ge j i with g | g
    ·exact hno j g
    ·have e:j=i:=by omega
     subst e
     rw [hgd]
     exact hne
   ·simp only [go_sem]
    rw [ab ⟨by omega,by omega⟩]
    (repeat' apply And.intro)<;>first | rfl | trivial
 ·have hie:i=W.length:=by omega
  subst hie
  rw [hQ]
  simp only [go_sem]
  have hr:=hp2 hno
  subst hr
  rcases E7 c with e | e<;>rw [e]
  ·refine ag mixed E fun X=>?_
   simp only [go_sem]
   refine aI X [0] 0 none [.d (.sl (some 4) (ns.map ah)),.d (i64 root),.vw [1] 0 W.length] (by simp only [go_sem]) rfl rfl ?_
   simp only [go_sem]
   refine ⟨by omega,?_⟩
   refine aI X [0] 0 none [.d (.sl (some 4) (ns.map ah)),.d (i64 root),.vw [1] 0 W.length] (by simp only [go_sem]) rfl rfl ?_
   simp only [go_sem]
   refine ⟨by decide +kernel,?_⟩
   rw [ab ⟨by omega,by omega⟩,show (((W.length+1:Nat):Int)-1)=(W.length:Nat) by omega]
   refine ⟨_,_,[0,1,6],tau [([6],[60])],⟨rfl,rfl⟩,?_⟩
   simp only [go_sem]
   simp [gu,e]
  ·refine ag mixed E fun X=>?_
   simp only [go_sem]
   refine aI X [0] 0 none [.d (.sl (some 4) (ns.map ah)),.d (i64 root),.vw [1] 0 W.length] (by simp only [go_sem]) rfl rfl ?_
   simp only [go_sem]
   refine ⟨by omega,?_⟩
   refine aI X [0] 0 none [.d (.sl (some 4) (ns.map ah)),.d (i64 root),.vw [1] 0 W.length] (by simp only [go_sem]) rfl rfl ?_
   simp only [go_sem]
   refine ⟨by decide +kernel,?_⟩
   rw [ab ⟨by omega,by omega⟩,show (((W.length+1:Nat):Int)-1)=(W.length:Nat) by omega]
   refine ⟨_,_,[0,1,6],tau [([6],[60])],⟨rfl,rfl⟩,?_⟩
   simp only [go_sem]
   simp [gu,e]
end Go.Proofs.YthfodompfpdmgaaGreatDoor

namespace Go.Proofs.YthfodompfpdmgaaGreatDoor
open Go.Ab
theorem WD.place {ns:List TN} (h:Inn ns) {W:List Clu} (hW:WD ns W) {p:Bool} {l:List Int} (hk:∀ x∈l,okP ns x):WD ns (ak W (ofC ns p l)).2 :=
 ⟨(jI h hW.an hk).2.2,gZ hW.wo (jl h hk)⟩
theorem xa {ns:List TN} {p:Bool} {l:List Int} {S:List (List UInt8)} {W:List Clu} {j:Nat} (h:j<S.length):dE ns p l (S.take (j+1)) W=((dE ns p l (S.take j) W).1++[(S[j],((ak (dE ns p l (S.take j) W).2 (ofC ns p (bf ns l S[j]))).1:Int))],(ak (dE ns p l (S.take j) W).2 (ofC ns p (bf ns l S[j]))).2):=by
 rw [List.take_succ_eq_append_getElem h,dE,List.foldl_append];rfl
theorem qe {ns:List TN} (h:Inn ns) (ha:Alls ns) {p:Bool} {l:List Int} (hl:∀ x∈l,okP ns x) {W:List Clu} (hW:WD ns W) (S:List (List UInt8)):WD ns (dE ns p l S W).2∧(dE ns p l S W).2.length≤W.length+S.length∧(dE ns p l S W).1.length=S.length:=by
 have key:∀ (S:List (List UInt8)) (s:List Fld × List Clu),WD ns s.2→WD ns (S.foldl (fun s k=>(s.1++[(k,((ak s.2 (ofC ns p (bf ns l k))).1:Int))],(ak s.2 (ofC ns p (bf ns l k))).2)) s).2 ∧
   (S.foldl (fun s k=>(s.1++[(k,((ak s.2 (ofC ns p (bf ns l k))).1:Int))],(ak s.2 (ofC ns p (bf ns l k))).2)) s).2.length≤s.2.length+S.length ∧
   (S.foldl (fun s k=>(s.1++[(k,((ak s.2 (ofC ns p (bf ns l k))).1:Int))],(ak s.2 (ofC ns p (bf ns l k))).2)) s).1.length=s.1.length+S.length:=by
  intro S
  induction S with
  | nil=>intro s hs;exact ⟨hs,Nat.le_refl _,rfl⟩
  | cons k r ih =>
    intro s hs
    obtain ⟨i1,i2,i3⟩:=ih (s.1++[(k,((ak s.2 (ofC ns p (bf ns l k))).1:Int))],(ak s.2 (ofC ns p (bf ns l k))).2) (hs.place h (tC ha hl k))
    have:=cx s.2 (ofC ns p (bf ns l k))
    rw [List.foldl_cons]
    refine ⟨i1,Nat.le_trans i2 ?_,i3.trans ?_⟩
    ·simp only [List.length_cons];omega
    ·simp only [List.length_append,List.length_cons,List.length_nil];omega
 obtain ⟨k1,k2,k3⟩:=key S ([],W) hW
 exact ⟨k1,k2,k3.trans (by simp)⟩
theorem lZ {ns:List TN} {l:List Int} (hN:ns.length≤14) (hl:l.length≤2000):szL ns (ns.length+1) l≤1000000000:=by
 have h1:=yA ns (ns.length+1) l
 have h2:2 ^ (ns.length+1+1)≤2 ^ 16:=Nat.pow_le_pow_right (by decide) (by omega)
 have h3:l.length*2 ^ (ns.length+1+1)≤2000*2 ^ 16:=Nat.mul_le_mul hl h2
 have h4:2000*2 ^ 16=131072000:=by decide
 omega
theorem pR {ns:List TN} {l:List Int} (hf:∀ x∈l,(nd ns x.toNat).l.length≤1000) (all:Bool):(nmL ns l all).length≤l.length*1000:=by
 have h1:∀ (fs:List Fld) (out:List (List UInt8)),(fs.foldl (nmF ns l all) out).length≤out.length+fs.length:=by
  intro fs
  induction fs with
  | nil=>intro out;exact Nat.le_refl _
  | cons q r ih =>
    intro out
    have g1:=ih (nmF ns l all out q)
    have g2:=C8 ns l all out q
    rw [List.foldl_cons,List.length_cons]
    omega
 have h2:∀ (r:List Int) (out:List (List UInt8)),(∀ x∈r,(nd ns x.toNat).l.length≤1000)→(r.foldl (fun out x=>(nd ns x.toNat).l.foldl (nmF ns l all) out) out).length≤out.length+r.length*1000:=by
  intro r
  induction r with
  | nil=>intro out _;exact Nat.le_refl _
  | cons x r ih =>
    intro out hr
    have g1:=ih ((nd ns x.toNat).l.foldl (nmF ns l all) out) fun y hy=>hr y (List.mem_cons_of_mem _ hy)
    have g2:=h1 (nd ns x.toNat).l out
    have g3:=hr x List.mem_cons_self
    rw [List.foldl_cons,List.length_cons]
    omega
 have:=h2 l [] hf
 simpa [nmL] using this
set_option maxHeartbeats 8000000 in
theorem kG {G} (ns:List TN) (root:Int) (W:List Clu) (p all:Bool) (l m:List Int) (h:Inn ns) (ha:Alls ns) (hN:ns.length≤14) (hnm:Cj ns l) (hW:WD ns W) (hl:l.length≤2000) (hk:∀ x∈l,okP ns x) (hWl:W.length≤90000000) :
  HCall Tryz.prog G 59 [.bx [0] 0,.d (.agg [.bool p,.bool false,.sl none (m.map i64)]),.d (aj l),.d (.bool all)] (wO ns root W 1) [0,1] (fun r hp'=>r=.vw [7] 0 (dE ns p l (nmL ns l all) W).1.length∧hp'=wO ns root (dE ns p l (nmL ns l all) W).2 6++[([7],.arr (some 2) ((dE ns p l (nmL ns l all) W).1.map aG))]):=by
 have hf:∀ x∈l,(nd ns x.toNat).l.length≤1000:=fun x hx=>(ha.fd x (hk x hx)).1
 have c96:=EZ (G:=G) ns root l all h hl hk hf fun x hx q hq=>((ha.fd x (hk x hx)).2 q hq).1
 have hSl:=pR hf all
 generalize hS:nmL ns l all=S at c96 hSl
 unfold wO
 unfold aj aF at *
 refine aL Tryz.func59 rfl (by decide +kernel) (by simp [Tryz.ntmps59]) (veil fun E=>?_)
 simp only [go_sem]
 refine nh E [5] (.agg [.bool p,.bool false,.sl none (m.map i64)]) rfl rfl ?_
 simp only [go_sem]
 refine ae E c96 rfl rfl (by simp) ?_
 rintro _ rfl
 simp only [go_sem]
 refine au E (X:={ x:Nat × (List Fld × List Clu) // x.1≤S.length∧x.2=dE ns p l (S.take x.1) W }) (fun x=>[(0,.bx [0] 0),(2,.d (.sl none (l.map i64))),(5,.d (.ptr (.agg [.bool p,.bool false,.sl none (m.map i64)]))),(9,.vw [98] 0 x.1.2.1.length),(10,.d (.sl none (S.map .str))),(11,.d (i64 x.1.1))])
  (fun x=>[([0],.box [.d (.sl (some 4) (ns.map ah)),.d (i64 root),.vw [97] 0 x.1.2.2.length]),([97],.arr (some 3) (x.1.2.2.map gu)),([98],.arr (some 2) (x.1.2.1.map aG))]) [98,97,0,1] (fun x=>S.length-x.1.1) ⟨(0,([],W)),Nat.zero_le _,rfl⟩ (tau [([97],[1]),([98],[12])]) ?_ ?_
 ·simp only [go_sem]
  all_goals first | rfl | ((repeat' apply And.intro)<;>first | rfl | trivial)
 rintro ⟨⟨j,s⟩,hj,hs⟩ E0
 refine aR E0 fun Q' hQ E'=>?_
 simp only at hj hs ⊢
 obtain ⟨w1,w2,w3⟩:=qe h ha (p:=p) hk hW (S.take j)
 rw [← hs,List.length_take] at w2 w3
 rw [← hs] at w1
 simp only [go_sem]
 refine ai E' (fun h1=>?_) (fun h1=>?_)<;>simp only [go_sem]
 ·have hj':j<S.length:=by omega
  have hnx:=xa (ns:=ns) (p:=p) (l:=l) (W:=W) hj'
  have hgs:(S.map D.str).getD j .nilp=.str S[j]:=eg hj'
  rw [← hs] at hnx
  generalize S[j]=k at hnx hgs
  have hao:=tC ha hk k
  have hal:(bf ns l k).length≤2000:=by rw [vK hnm];exact Nat.le_trans (tH _ _ _) hl
  have c97:=yG (G:=G) ns root l k h hl hk hf
  have c30:=qE (G:=G) ns root h p (bf ns l k) (lZ hN hal) hao
  have c29:=pD (G:=G) ns root s.2 (ofC ns p (bf ns l k)) w1 (oK h hao) (by omega)
  unfold wO at c29
  unfold aj aF at *
  generalize ofC ns p (bf ns l k)=C at hnx c30 c29
  generalize ak s.2 C=P at hnx c29
  refine ag mixed E' fun X=>?_
  simp only [go_sem]
  refine ⟨by omega,?_⟩
  rw [hgs]
  simp only [go_sem]
  refine aI X [0] 0 none [.d (.sl (some 4) (ns.map ah)),.d (i64 root),.vw [97] 0 s.2.length] (by simp only [go_sem]) rfl rfl ?_
  simp only [go_sem]
  refine aI X [0] 0 none [.d (.sl (some 4) (ns.map ah)),.d (i64 root),.vw [97] 0 s.2.length] (by simp only [go_sem]) rfl rfl ?_
  simp only [go_sem]
  refine ⟨by omega,?_⟩
  rw [hgs]
  simp only [go_sem]
  refine bo X c97 rfl rfl (by simp) ?_
  simp only [go_sem]
  refine bo X c30 rfl rfl (by simp) ?_
  simp only [go_sem]
  refine l6 X (tau [([0],[0]),([1],[97])]) _ _ _ _ _ c29 rfl (by simp only [go_sem];try rfl) ⟨by simp only [go_sem],by first | (rw [aa];decide) | (simp only [go_sem]<;>(try rw [aa])<;>decide)⟩ (by simp only [go_sem]) (by simp only [go_sem]) (by simp only [go_sem];try decide) (by simp only [go_sem];try omega) ?_
  simp only [go_sem]
  refine ⟨by omega,by decide +kernel,?_⟩
  rw [hQ]
  refine ⟨⟨(j+1,(s.1++[(k,(P.1:Int))],P.2)),hj',hnx.symm⟩,by show S.length-(j+1)<S.length-j;omega,tau [([97],[49,6]),([98],[52])],?_⟩
  simp only [go_sem]
  rw [ab ⟨by omega,by omega⟩]
  simp only [List.map_append,List.length_append,List.map_cons,List.map_nil,List.length_cons,List.length_nil]
  (repeat' apply And.intro)<;>first | rfl | trivial
 ·have hje:j=S.length:=by omega
  subst hje
  rw [List.take_length] at hs
  subst hs
  rw [hQ]
  simp only [go_sem]
  refine ⟨_,_,[0,1,6,7],tau [([6],[97]),([7],[98])],⟨rfl,rfl⟩,?_⟩
  simp only [go_sem]
end Go.Proofs.YthfodompfpdmgaaGreatDoor

namespace Go.Proofs.YthfodompfpdmgaaGreatDoor
open Go.Ab
def fQ (s:EA):Bool:=decide (s.fl.length≤30) && decide (s.tl.length≤30)
def stR (s:EA):D:=if s.al then .agg [.bool s.plus,.bool true,.bool false,.bool false,.bool false,.bool false,.bool false,.bool false,.nils,i64 0,i64 0,.nils,.nils] else stD s
theorem Bt (f:Int→Int) (i:Nat) (al:List Int):List.take i (((al.take i).map f).map i64)=((al.take i).map f).map i64:=List.take_of_length_le (by simp;omega)
def sdF (p:Bool) (l:List Int):List (Nat × AV):=[(0,.bx [0] 0),(3,.d (.ptr (.agg [.bool p,.bool false,.sl none (l.map i64)]))),(4,.bx [4] 0),(6,.bx [6] 0)]
def sdP (ns:List TN) (root:Int) (W:List Clu) (a:Nat) (p:Bool) (b3 b4 b5 b6 b7 b8:Bool) (V:List Int) (dm cd:Int) (R T:List Fld):List (Name × Ob) :=
 [([0],.box [.d (.sl (some 4) (ns.map ah)),.d (i64 root),.vw [a] 0 W.length]),([a],.arr (some 3) (W.map gu)),
   ([4],.box [.d (.bool false),.d (.bool false),.d (.bool false),.d (.bool false),.d (.bool false),.d (.bool false),.d (.bool false),.d (.bool false),.d .nils,.d (i64 0),.d (i64 0),.d .nils,.d .nils]),
   ([6],.box [.d (.bool p),.d (.bool false),.d (.bool b3),.d (.bool b4),.d (.bool b5),.d (.bool b6),.d (.bool b7),.d (.bool b8),.d (.sl none (V.map i64)),.d (i64 dm),.d (i64 cd),.d (.sl (some 2) (R.map aG)),.d (.sl (some 2) (T.map aG))])]
theorem kW {ns:List TN} {root:Int} (h:Ty ns root) {c:Clu} (hc:gJ ns c) (k:Int) (wh:Bool) (W:List Clu):bg ns c k wh W=if aB ns k c then dE ns c.1 (aw ns k c.2.2) (nmL ns (aw ns k c.2.2) wh) W else ([],W):=by
 unfold bg
 rw [s6 (h.sv fun x hx=>hc.2 x (aq hx).1)]
theorem Av {ns:List TN} (p:Bool) (W:List Clu):bV ns (p,true,[]) W=(⟨p,true,false,false,false,false,false,false,[],0,0,[],[]⟩,W):=by
 have e:∀ k,aB ns k (p,true,[])=false:=fun k=>rfl
 unfold bV
 rw [show bg ns (p,true,[]) 8 (!p)=fun W=>([],W) from rfl]
 simp only [e]
 rw [show gj ns (aw ns 11 [])=[] from mc]
 rfl
set_option maxHeartbeats 8000000 in
theorem Gl {G} (ns:List TN) (root:Int) (W:List Clu) (c:Clu) (h:Ty ns root) (hN:ns.length≤14) (hW:WD ns W) (hc:gJ ns c) (hn:iw c) (hWl:W.length≤100000) :
  HCall Tryz.prog G 31 [.bx [0] 0,.d (gu c)] (wO ns root W 1) [0,1] (fun r hp'=>r=.tup [.d (stR (bV ns c W).1),.d (.bool (fQ (bV ns c W).1))]∧hp'=wO ns root (bV ns c W).2 6):=by
 obtain ⟨p,al,l⟩:=c
 cases al with
 | true =>
   have hl:l=[]:=hn.2 rfl
   subst hl
   rw [Av]
   unfold wO
   rw [show gu (p,true,[])=.agg [.bool p,.bool true,.nils] from rfl]
   refine aL Tryz.func31 rfl (by decide +kernel) (by simp [Tryz.ntmps31]) (veil fun E=>?_)
   simp only [go_sem]
   refine ⟨_,_,[0,1,6],tau [([6],[1])],⟨rfl,rfl⟩,?_⟩
   simp only [go_sem]
   rfl
 | false =>
   have hcl:l.length≤2000:=hc.1
   have hk:∀ x∈l,okP ns x:=hc.2
   have c57:∀ k:Int,HP Tryz.prog G 57 [.agg [.sl (some 4) (ns.map ah),i64 root],.agg [.bool p,.bool false,.sl none (l.map i64)],i64 k] (fun r=>r=.d (.sl none ((aw ns k l).map i64))):=fun k=>FQ (G:=G) ns root k h.inn (p,false,l) hcl hk
   generalize hR:bV ns (p,false,l) W=RR
   unfold bV at hR
   rw [EX rfl]
   unfold wO cH
   refine aL Tryz.func31 rfl (by decide +kernel) (by simp [Tryz.ntmps31]) (veil fun E=>?_)
   simp only [go_sem]
   refine cR E [6] 8 98 none [.d (.bool p),.d (.bool false),.d (.bool false),.d (.bool false),.d (.bool false),.d (.bool false),.d (.bool false),.d (.bool false),.d .nils,.d (i64 0),.d (i64 0),.d .nils,.d .nils] rfl rfl (by rw [aa];decide) ?_
   refine cR E [6] 11 97 (some 2) [.d (.bool p),.d (.bool false),.d (.bool false),.d (.bool false),.d (.bool false),.d (.bool false),.d (.bool false),.d (.bool false),.vw [98] 0 0,.d (i64 0),.d (i64 0),.d .nils,.d .nils] rfl rfl (by show ¬ _∈[98,6,4,3,0,1];decide) ?_
   refine cR E [6] 12 96 (some 2) [.d (.bool p),.d (.bool false),.d (.bool false),.d (.bool false),.d (.bool false),.d (.bool false),.d (.bool false),.d (.bool false),.vw [98] 0 0,.d (i64 0),.d (i64 0),.vw [97] 0 0,.d .nils] rfl rfl (by show ¬ _∈[97,98,6,4,3,0,1];decide) ?_
   refine cU E [98] none [] rfl ?_
   refine cU E [97] (some 2) [] rfl ?_
   refine cU E [96] (some 2) [] rfl ?_
   refine bL E [3] (.agg [.bool p,.bool false,.sl none (l.map i64)]) rfl rfl ?_
   simp only [go_sem]
   refine ix E (τ:=tau [([95],[1])]) (s2:=mk (sdF p l) (sdP ns root W 95 p false false false false false false [] 0 0 [] []) [6,4,0,1,95]) (LeL.le ?_) ?_
   ·unfold sdF sdP
    simp only [go_sem]
    all_goals first | rfl | ((repeat' apply And.intro)<;>first | rfl | trivial)
   unfold sdF sdP
   refine ag mixed E fun X=>?_
   simp only [go_sem]
   refine aI X [0] 0 none [.d (.sl (some 4) (ns.map ah)),.d (i64 root),.vw [95] 0 W.length] (by simp only [go_sem]) rfl rfl ?_
   simp only [go_sem]
   refine bo X (c57 3) rfl rfl (by simp) ?_
   simp only [go_sem]
   refine aI X [0] 0 none [.d (.sl (some 4) (ns.map ah)),.d (i64 root),.vw [95] 0 W.length] (by simp only [go_sem]) rfl rfl ?_
   simp only [go_sem]
   refine bo X (c57 4) rfl rfl (by simp) ?_
   simp only [go_sem]
   refine aI X [0] 0 none [.d (.sl (some 4) (ns.map ah)),.d (i64 root),.vw [95] 0 W.length] (by simp only [go_sem]) rfl rfl ?_
   simp only [go_sem]
   refine bo X (c57 5) rfl rfl (by simp) ?_
   simp only [go_sem]
   refine ⟨by decide +kernel,?_⟩
   refine ag mixed E fun X=>?_
   simp only [go_sem]
   refine aI X [0] 0 none [.d (.sl (some 4) (ns.map ah)),.d (i64 root),.vw [95] 0 W.length] (by simp only [go_sem]) rfl rfl ?_
   simp only [go_sem]
   refine bo X (c57 11) rfl rfl (by simp) ?_
   simp only [go_sem]
   refine ⟨by decide +kernel,?_⟩
   generalize hb3:decide ((0:Int)<((aw ns 3 l).length:Int))=b3
   generalize hb4:decide ((0:Int)<((aw ns 4 l).length:Int))=b4
   generalize hb5:decide ((0:Int)<((aw ns 5 l).length:Int))=b5
   rw [show aB ns 3 (p,false,l)=b3 from hb3,show aB ns 4 (p,false,l)=b4 from hb4,show aB ns 5 (p,false,l)=b5 from hb5] at hR
   obtain ⟨vl,hvl⟩:∃ vl,vl=aw ns 11 l:=⟨_,rfl⟩
   have hv1:∀ x∈vl,okP ns x:=fun x hx=>by rw [hvl] at hx;exact hk x (aq hx).1
   have hv2:vl.length≤2000:=by rw [hvl];exact Nat.le_trans (bd _ _ _) hcl
   have hV:gj ns (aw ns 11 l)=gp (vl.map fun x=>(nd ns x.toNat).a):=by rw [hvl];rfl
   rw [hV] at hR
   rw [← hvl]
   have hnn:=h.inn.len
   refine au E (X:={ i:Nat // i≤vl.length }) (fun x=>sdF p l++[(7,.d (.sl none (vl.map i64))),(8,.vw [98] 0 x.1),(9,.d (i64 x.1))])
    (fun x=>sdP ns root W 95 p b3 b4 b5 false false false [] 0 0 [] []++[([98],.arr none (((vl.take x.1).map fun x=>(nd ns x.toNat).a).map i64))]) [98,6,4,0,1,95] (fun x=>vl.length-x.1) ⟨0,Nat.zero_le _⟩ (tau [([98],[57])]) ?_ ?_
   ·unfold sdF sdP
    simp only [go_sem]
    all_goals first | rfl | ((repeat' apply And.intro)<;>first | rfl | trivial)
   rintro ⟨i,hi⟩ E0
   refine aR E0 fun Q' hQ E'=>?_
   unfold sdF sdP
   simp only at hi ⊢
   simp only [go_sem]
   refine ai E' (fun h1=>?_) (fun h1=>?_)<;>simp only [go_sem]
   ·have hi':i<vl.length:=by omega
    have hx:=hv1 _ (List.getElem_mem hi')
    have hx1:=hx.1
    have hx2:=hx.2
    refine ag mixed E' fun X=>?_
    simp only [go_sem]
    refine aI X [0] 0 none [.d (.sl (some 4) (ns.map ah)),.d (i64 root),.vw [95] 0 W.length] (by simp only [go_sem]) rfl rfl ?_
    simp only [go_sem]
    refine ⟨by omega,?_⟩
    rw [aD hi']
    simp only [go_sem]
    refine ⟨by omega,?_⟩
    rw [dO hx]
    simp only [go_sem]
    refine ⟨by omega,by decide +kernel,?_⟩
    rw [hQ]
    refine ⟨⟨i+1,hi'⟩,by show vl.length-(i+1)<vl.length-i;omega,tau [([98],[78])],?_⟩
    unfold sdF sdP
    simp only [go_sem]
    rw [ab ⟨by omega,by omega⟩,List.take_of_length_le (by simp;omega),List.take_succ_eq_append_getElem hi',List.map_append,List.map_append]
    (repeat' apply And.intro)<;>first | rfl | trivial
   ·have hie:i=vl.length:=by omega
    subst hie
    rw [hQ,List.take_length]
    simp only [go_sem]
    have c58:=yT (G:=G) (vl.map fun x=>(nd ns x.toNat).a) (by rw [List.length_map];omega)
    generalize hVV:gp (vl.map fun x=>(nd ns x.toNat).a)=V at c58 hR
    have hml:(vl.map fun x=>(nd ns x.toNat).a).length=vl.length:=by rw [List.length_map]
    generalize (vl.map fun x=>(nd ns x.toNat).a)=vm at c58 hml
    unfold aj at c58
    refine bt E [98] none (vm.map i64) rfl rfl ?_
    refine ae E c58 rfl (by simp only [go_sem];rw [← hml,List.take_of_length_le (by simp)]) (by simp) ?_
    rintro _ rfl
    simp only [go_sem]
    refine ix E (τ:=id) (s2:=mk (sdF p l) (sdP ns root W 95 p b3 b4 b5 false false false V 0 0 [] []) [6,4,0,1,95]) (LeL.le ?_) ?_
    ·unfold sdF sdP
     simp only [go_sem]
     all_goals first | rfl | ((repeat' apply And.intro)<;>first | rfl | trivial)
    unfold sdF sdP
    obtain ⟨A,hA⟩:∃ A,A=cG ns (p,false,l) W:=⟨_,rfl⟩
    refine ag mixed E fun X=>?_
    simp only [go_sem]
    refine aI X [0] 0 none [.d (.sl (some 4) (ns.map ah)),.d (i64 root),.vw [95] 0 W.length] (by simp only [go_sem]) rfl rfl ?_
    simp only [go_sem]
    refine bo X (c57 6) rfl rfl (by simp) ?_
    simp only [go_sem]
    refine ⟨by decide +kernel,?_⟩
    obtain ⟨al,hal⟩:∃ al,al=aw ns 6 l:=⟨_,rfl⟩
    have ha1:∀ x∈al,okP ns x:=fun x hx=>by rw [hal] at hx;exact hk x (aq hx).1
    have ha2:al.length≤2000:=by rw [hal];exact Nat.le_trans (bd _ _ _) hcl
    have ha3:∀ x∈al,okP ns (nd ns x.toNat).a∧okP ns (nd ns x.toNat).b:=fun x hx=>by rw [hal] at hx;exact h.alls.fn x (hk x (aq hx).1) (aq hx).2
    rw [← hal]
    refine ai E (fun g=>?_) (fun g=>?_)<;>simp only [go_sem]
    ·have hb6:aB ns 6 (p,false,l)=true:=by rw [aB];exact decide_eq_true (by rw [← hal];exact g)
     refine au E (X:={ i:Nat // i≤al.length }) (fun x=>sdF p l++[(10,.d (.sl none (al.map i64))),(11,.vw [98] 0 x.1),(12,.vw [97] 0 x.1),(13,.d (i64 x.1))])
      (fun x=>sdP ns root W 95 p b3 b4 b5 false false false V 0 0 [] []++[([98],.arr none (((al.take x.1).map fun x=>(nd ns x.toNat).a).map i64)),([97],.arr none (((al.take x.1).map fun x=>(nd ns x.toNat).b).map i64))]) [97,98,6,4,0,1,95] (fun x=>al.length-x.1) ⟨0,Nat.zero_le _⟩ (tau [([98],[91]),([97],[92])]) ?_ ?_
     ·unfold sdF sdP
      simp only [go_sem]
      all_goals first | rfl | ((repeat' apply And.intro)<;>first | rfl | trivial)
     rintro ⟨i,hi⟩ E0
     refine aR E0 fun Q' hQ E'=>?_
     unfold sdF sdP
     simp only at hi ⊢
     simp only [go_sem]
     refine ai E' (fun h1=>?_) (fun h1=>?_)<;>simp only [go_sem]
     ·have hi':i<al.length:=by omega
      have hx:=ha1 _ (List.getElem_mem hi')
      have hx1:=hx.1
      have hx2:=hx.2
      refine ag mixed E' fun X=>?_
      simp only [go_sem]
      refine aI X [0] 0 none [.d (.sl (some 4) (ns.map ah)),.d (i64 root),.vw [95] 0 W.length] (by simp only [go_sem]) rfl rfl ?_
      simp only [go_sem]
      refine ⟨by omega,?_⟩
      rw [aD hi']
      simp only [go_sem]
      refine ⟨by omega,?_⟩
      rw [dO hx]
      simp only [go_sem]
      refine ⟨by omega,?_⟩
      refine aI X [0] 0 none [.d (.sl (some 4) (ns.map ah)),.d (i64 root),.vw [95] 0 W.length] (by simp only [go_sem]) rfl rfl ?_
      simp only [go_sem]
      refine ⟨by omega,?_⟩
      rw [aD hi']
      simp only [go_sem]
      refine ⟨by omega,?_⟩
      rw [dO hx]
      simp only [go_sem]
      refine ⟨by omega,by decide +kernel,?_⟩
      rw [hQ]
      refine ⟨⟨i+1,hi'⟩,by show al.length-(i+1)<al.length-i;omega,tau [([98],[113]),([97],[128])],?_⟩
      unfold sdF sdP
      simp only [go_sem]
      rw [ab ⟨by omega,by omega⟩,Bt,Bt,List.take_succ_eq_append_getElem hi',List.map_append,List.map_append,List.map_append,List.map_append]
      (repeat' apply And.intro)<;>first | rfl | trivial
     ·have hie:i=al.length:=by omega
      subst hie
      rw [hQ,List.take_length]
      simp only [go_sem]
      obtain ⟨dm,hdm⟩:∃ dm,dm=al.map fun x=>(nd ns x.toNat).a:=⟨_,rfl⟩
      obtain ⟨cm,hcm⟩:∃ cm,cm=al.map fun x=>(nd ns x.toNat).b:=⟨_,rfl⟩
      have hd1:∀ x∈dm,okP ns x:=fun x hx=>by
       rw [hdm] at hx
       obtain ⟨y,hy,rfl⟩:=List.mem_map.1 hx
       exact (ha3 y hy).1
      have hc1:∀ x∈cm,okP ns x:=fun x hx=>by
       rw [hcm] at hx
       obtain ⟨y,hy,rfl⟩:=List.mem_map.1 hx
       exact (ha3 y hy).2
      have hdl:dm.length=al.length:=by rw [hdm,List.length_map]
      have hcl2:cm.length=al.length:=by rw [hcm,List.length_map]
      have hAy:A=fB ns p al W:=by rw [hA,cG,if_pos hb6,← hal]
      unfold fB at hAy
      rw [← hdm,← hcm] at hAy
      rw [← hdm,← hcm]
      have c30:=qE (G:=G) ns root h.inn (!p) dm (lZ hN (by omega)) hd1
      have c30b:=qE (G:=G) ns root h.inn p cm (lZ hN (by omega)) hc1
      have c29:=pD (G:=G) ns root W (ofC ns (!p) dm) hW (oK h.inn hd1) (by omega)
      have w1:=hW.place h.inn (p:=!p) hd1
      have l1:=cx W (ofC ns (!p) dm)
      have w2:=w1.place h.inn (p:=p) hc1
      have l2:=cx (ak W (ofC ns (!p) dm)).2 (ofC ns p cm)
      have c29b:=pD (G:=G) ns root (ak W (ofC ns (!p) dm)).2 (ofC ns p cm) w1 (oK h.inn hc1) (by omega)
      unfold wO at c29 c29b
      unfold aj aF at c30 c30b
      generalize ofC ns (!p) dm=C1 at hAy c30 c29 c29b w1 l1 w2 l2
      generalize ofC ns p cm=C2 at hAy c30b c29b w2 l2
      generalize ak W C1=P1 at hAy c29 c29b w1 l1 w2 l2
      generalize ak P1.2 C2=P2 at hAy c29b w2 l2
      refine cU E [98] none (dm.map i64) rfl ?_
      refine cU E [97] none (cm.map i64) rfl ?_
      simp only [go_sem]
      refine ag mixed E fun X=>?_
      simp only [go_sem]
      refine aI X [0] 0 none [.d (.sl (some 4) (ns.map ah)),.d (i64 root),.vw [95] 0 W.length] (by simp only [go_sem]) rfl rfl ?_
      simp only [go_sem]
      refine bo X c30 rfl (by simp only [go_sem];rw [← hdl,List.take_of_length_le (by simp)]) (by simp) ?_
      simp only [go_sem]
      refine l6 X (tau [([0],[0]),([1],[95])]) _ _ _ _ _ c29 rfl (by simp only [go_sem];try rfl) ⟨by simp only [go_sem],by first | (rw [aa];decide) | (simp only [go_sem]<;>(try rw [aa])<;>decide)⟩ (by simp only [go_sem]) (by simp only [go_sem]) (by simp only [go_sem];try decide) (by simp only [go_sem];try omega) ?_
      simp only [go_sem]
      refine ⟨by decide +kernel,?_⟩
      refine ag mixed E fun X=>?_
      simp only [go_sem]
      refine aI X [0] 0 none [.d (.sl (some 4) (ns.map ah)),.d (i64 root),.vw [140,6] 0 P1.2.length] (by simp only [go_sem]) rfl rfl ?_
      simp only [go_sem]
      refine bo X c30b rfl (by simp only [go_sem];rw [← hcl2,List.take_of_length_le (by simp)]) (by simp) ?_
      simp only [go_sem]
      refine l6 X (tau [([0],[0]),([1],[140,6])]) _ _ _ _ _ c29b rfl (by simp only [go_sem];try rfl) ⟨by simp only [go_sem],by first | (rw [aa];decide) | (simp only [go_sem]<;>(try rw [aa])<;>decide)⟩ (by simp only [go_sem]) (by simp only [go_sem]) (by simp only [go_sem];try decide) (by simp only [go_sem];try omega) ?_
      simp only [go_sem]
      refine ⟨by decide +kernel,?_⟩
      have hWA:WD ns A.2:=by rw [hAy];exact w2
      have lA:A.2.length≤W.length+2:=by rw [hAy];simp only;omega
      refine ix E (τ:=tau [([94],[151,6])]) (s2:=mk (sdF p l) (sdP ns root A.2 94 p b3 b4 b5 true false false V A.1.1 A.1.2 [] []) [6,4,0,1,94]) (LeL.le ?_) ?_
      ·unfold sdF sdP
       rw [hAy]
       simp only [go_sem]
       all_goals first | rfl | ((repeat' apply And.intro)<;>first | rfl | trivial)
      unfold sdF sdP
      obtain ⟨R7,hR7⟩:∃ R,R=bg ns (p,false,l) 7 p A.2:=⟨_,rfl⟩
      refine ag mixed E fun X=>?_
      simp only [go_sem]
      refine aI X [0] 0 none [.d (.sl (some 4) (ns.map ah)),.d (i64 root),.vw [94] 0 A.2.length] (by simp only [go_sem]) rfl rfl ?_
      simp only [go_sem]
      refine bo X (c57 7) rfl rfl (by simp) ?_
      simp only [go_sem]
      refine ⟨by decide +kernel,?_⟩
      obtain ⟨rl,hrl⟩:∃ rl,rl=aw ns 7 l:=⟨_,rfl⟩
      have hr1:∀ x∈rl,okP ns x:=fun x hx=>by rw [hrl] at hx;exact hk x (aq hx).1
      have hr2:rl.length≤2000:=by rw [hrl];exact Nat.le_trans (bd _ _ _) hcl
      have c59r:=kG (G:=G) ns root A.2 p p rl l h.inn h.alls hN (h.sv hr1) hWA hr2 hr1 (by omega)
      have he59:=qe h.inn h.alls (p:=p) hr1 hWA (nmL ns rl p)
      have hnl:=pR (ns:=ns) (l:=rl) (fun x hx=>(h.alls.fd x (hr1 x hx)).1) p
      unfold wO aj at c59r
      rw [← hrl]
      refine ai E (fun g=>?_) (fun g=>?_)<;>simp only [go_sem]
      ·have hb7:aB ns 7 (p,false,l)=true:=by rw [aB];exact decide_eq_true (by rw [← hrl];exact g)
       have hRy:R7=dE ns p rl (nmL ns rl p) A.2:=by rw [hR7,kW h hc,if_pos hb7,← hrl]
       rw [← hRy] at c59r he59
       have hW7:=he59.1
       have l7:R7.2.length≤3000000:=by have:=he59.2.1;omega
       refine aM E (tau [([1],[94])]) _ _ _ c59r rfl (by simp only [go_sem]) ⟨by simp only [go_sem],by first | (rw [aa];decide) | (simp only [go_sem]<;>(try rw [aa])<;>decide)⟩ rfl (by simp only [go_sem]) (by simp only [go_sem]) ?_
       rintro _ _ ⟨rfl,rfl⟩
       refine ⟨by simp only [go_sem];try simp,?_⟩
       simp only [go_sem]
       refine cU E [168,7] (some 2) (R7.1.map aG) rfl ?_
       refine ix E (τ:=tau [([93],[168,6])]) (s2:=mk (sdF p l) (sdP ns root R7.2 93 p b3 b4 b5 true true false V A.1.1 A.1.2 R7.1 []) [6,4,0,1,93]) (LeL.le ?_) ?_
       ·unfold sdF sdP
        simp only [go_sem]
        all_goals first | rfl | ((repeat' apply And.intro)<;>first | rfl | trivial)
       unfold sdF sdP
       obtain ⟨R8,hR8⟩:∃ R,R=bg ns (p,false,l) 8 (!p) R7.2:=⟨_,rfl⟩
       refine ag mixed E fun X=>?_
       simp only [go_sem]
       refine aI X [0] 0 none [.d (.sl (some 4) (ns.map ah)),.d (i64 root),.vw [93] 0 R7.2.length] (by simp only [go_sem]) rfl rfl ?_
       simp only [go_sem]
       refine bo X (c57 8) rfl rfl (by simp) ?_
       simp only [go_sem]
       refine ⟨by decide +kernel,?_⟩
       obtain ⟨tl,htl⟩:∃ tl,tl=aw ns 8 l:=⟨_,rfl⟩
       have ht1:∀ x∈tl,okP ns x:=fun x hx=>by rw [htl] at hx;exact hk x (aq hx).1
       have ht2:tl.length≤2000:=by rw [htl];exact Nat.le_trans (bd _ _ _) hcl
       have c59t:=kG (G:=G) ns root R7.2 p (!p) tl l h.inn h.alls hN (h.sv ht1) hW7 ht2 ht1 (by omega)
       unfold wO aj at c59t
       rw [← htl]
       refine ai E (fun g=>?_) (fun g=>?_)<;>simp only [go_sem]
       ·have hb8:aB ns 8 (p,false,l)=true:=by rw [aB];exact decide_eq_true (by rw [← htl];exact g)
        have hRy:R8=dE ns p tl (nmL ns tl (!p)) R7.2:=by rw [hR8,kW h hc,if_pos hb8,← htl]
        rw [← hRy] at c59t
        refine aM E (tau [([1],[93])]) _ _ _ c59t rfl (by simp only [go_sem]) ⟨by simp only [go_sem],by first | (rw [aa];decide) | (simp only [go_sem]<;>(try rw [aa])<;>decide)⟩ rfl (by simp only [go_sem]) (by simp only [go_sem]) ?_
        rintro _ _ ⟨rfl,rfl⟩
        refine ⟨by simp only [go_sem];try simp,?_⟩
        simp only [go_sem]
        refine cU E [186,7] (some 2) (R8.1.map aG) rfl ?_
        refine ix E (τ:=tau [([92],[186,6])]) (s2:=mk (sdF p l) (sdP ns root R8.2 92 p b3 b4 b5 true true true V A.1.1 A.1.2 R7.1 R8.1) [6,4,0,1,92]) (LeL.le ?_) ?_
        ·unfold sdF sdP
         simp only [go_sem]
         all_goals first | rfl | ((repeat' apply And.intro)<;>first | rfl | trivial)
        unfold sdF sdP
        rw [← hA,← hR7,← hR8,hb6,hb7,hb8] at hR
        subst hR
        refine ag mixed E fun X=>?_
        simp only [go_sem]
        refine cQ X (fun g1=>?_) (fun g1=>?_)<;>simp only [go_sem]
        ·refine ⟨by decide +kernel,?_⟩
         refine ⟨_,_,[0,1,6],tau [([6],[92])],⟨rfl,rfl⟩,?_⟩
         rw [stR,if_neg (by simp),bb]
         simp only [go_sem]
         simp only [fQ]
         rw [show (decide (R7.1.length≤30) && decide (R8.1.length≤30))=decide ((R8.1.length:Int)≤30) by rw [decide_eq_true (show R7.1.length≤30 by omega),Bool.true_and,decide_eq_decide];omega]
        ·refine ⟨by decide +kernel,?_⟩
         refine ⟨_,_,[0,1,6],tau [([6],[92])],⟨rfl,rfl⟩,?_⟩
         rw [stR,if_neg (by simp),bb]
         simp only [go_sem]
         simp only [fQ]
         rw [decide_eq_false (show ¬ R7.1.length≤30 by omega),Bool.false_and]
       ·have hb8:aB ns 8 (p,false,l)=false:=by rw [aB];exact decide_eq_false (by rw [← htl];exact g)
        have hRy:R8=([],R7.2):=by rw [hR8,bg,if_neg (by rw [hb8];simp)]
        refine ix E (τ:=tau [([92],[93])]) (s2:=mk (sdF p l) (sdP ns root R8.2 92 p b3 b4 b5 true true false V A.1.1 A.1.2 R7.1 R8.1) [6,4,0,1,92]) (LeL.le ?_) ?_
        ·unfold sdF sdP
         rw [hRy]
         simp only [go_sem]
         all_goals first | rfl | ((repeat' apply And.intro)<;>first | rfl | trivial)
        unfold sdF sdP
        rw [← hA,← hR7,← hR8,hb6,hb7,hb8] at hR
        subst hR
        refine ag mixed E fun X=>?_
        simp only [go_sem]
        refine cQ X (fun g1=>?_) (fun g1=>?_)<;>simp only [go_sem]
        ·refine ⟨by decide +kernel,?_⟩
         refine ⟨_,_,[0,1,6],tau [([6],[92])],⟨rfl,rfl⟩,?_⟩
         rw [stR,if_neg (by simp),bb]
         simp only [go_sem]
         simp only [fQ]
         rw [show (decide (R7.1.length≤30) && decide (R8.1.length≤30))=decide ((R8.1.length:Int)≤30) by rw [decide_eq_true (show R7.1.length≤30 by omega),Bool.true_and,decide_eq_decide];omega]
        ·refine ⟨by decide +kernel,?_⟩
         refine ⟨_,_,[0,1,6],tau [([6],[92])],⟨rfl,rfl⟩,?_⟩
         rw [stR,if_neg (by simp),bb]
         simp only [go_sem]
         simp only [fQ]
         rw [decide_eq_false (show ¬ R7.1.length≤30 by omega),Bool.false_and]
      ·have hb7:aB ns 7 (p,false,l)=false:=by rw [aB];exact decide_eq_false (by rw [← hrl];exact g)
       have hRy:R7=([],A.2):=by rw [hR7,bg,if_neg (by rw [hb7];simp)]
       have hW7:WD ns R7.2:=by rw [hRy];exact hWA
       have l7:R7.2.length≤3000000:=by rw [hRy];simp only;omega
       refine ix E (τ:=tau [([93],[94])]) (s2:=mk (sdF p l) (sdP ns root R7.2 93 p b3 b4 b5 true false false V A.1.1 A.1.2 R7.1 []) [6,4,0,1,93]) (LeL.le ?_) ?_
       ·unfold sdF sdP
        rw [hRy]
        simp only [go_sem]
        all_goals first | rfl | ((repeat' apply And.intro)<;>first | rfl | trivial)
       unfold sdF sdP
       obtain ⟨R8,hR8⟩:∃ R,R=bg ns (p,false,l) 8 (!p) R7.2:=⟨_,rfl⟩
       refine ag mixed E fun X=>?_
       simp only [go_sem]
       refine aI X [0] 0 none [.d (.sl (some 4) (ns.map ah)),.d (i64 root),.vw [93] 0 R7.2.length] (by simp only [go_sem]) rfl rfl ?_
       simp only [go_sem]
       refine bo X (c57 8) rfl rfl (by simp) ?_
       simp only [go_sem]
       refine ⟨by decide +kernel,?_⟩
       obtain ⟨tl,htl⟩:∃ tl,tl=aw ns 8 l:=⟨_,rfl⟩
       have ht1:∀ x∈tl,okP ns x:=fun x hx=>by rw [htl] at hx;exact hk x (aq hx).1
       have ht2:tl.length≤2000:=by rw [htl];exact Nat.le_trans (bd _ _ _) hcl
       have c59t:=kG (G:=G) ns root R7.2 p (!p) tl l h.inn h.alls hN (h.sv ht1) hW7 ht2 ht1 (by omega)
       unfold wO aj at c59t
       rw [← htl]
       refine ai E (fun g=>?_) (fun g=>?_)<;>simp only [go_sem]
       ·have hb8:aB ns 8 (p,false,l)=true:=by rw [aB];exact decide_eq_true (by rw [← htl];exact g)
        have hRy:R8=dE ns p tl (nmL ns tl (!p)) R7.2:=by rw [hR8,kW h hc,if_pos hb8,← htl]
        rw [← hRy] at c59t
        refine aM E (tau [([1],[93])]) _ _ _ c59t rfl (by simp only [go_sem]) ⟨by simp only [go_sem],by first | (rw [aa];decide) | (simp only [go_sem]<;>(try rw [aa])<;>decide)⟩ rfl (by simp only [go_sem]) (by simp only [go_sem]) ?_
        rintro _ _ ⟨rfl,rfl⟩
        refine ⟨by simp only [go_sem];try simp,?_⟩
        simp only [go_sem]
        refine cU E [186,7] (some 2) (R8.1.map aG) rfl ?_
        refine ix E (τ:=tau [([92],[186,6])]) (s2:=mk (sdF p l) (sdP ns root R8.2 92 p b3 b4 b5 true false true V A.1.1 A.1.2 R7.1 R8.1) [6,4,0,1,92]) (LeL.le ?_) ?_
        ·unfold sdF sdP
         simp only [go_sem]
         all_goals first | rfl | ((repeat' apply And.intro)<;>first | rfl | trivial)
        unfold sdF sdP
        rw [← hA,← hR7,← hR8,hb6,hb7,hb8] at hR
        subst hR
        refine ag mixed E fun X=>?_
        simp only [go_sem]
        refine cQ X (fun g1=>?_) (fun g1=>?_)<;>simp only [go_sem]
        ·refine ⟨by decide +kernel,?_⟩
         refine ⟨_,_,[0,1,6],tau [([6],[92])],⟨rfl,rfl⟩,?_⟩
         rw [stR,if_neg (by simp),bb]
         simp only [go_sem]
         simp only [fQ]
         rw [show (decide (R7.1.length≤30) && decide (R8.1.length≤30))=decide ((R8.1.length:Int)≤30) by rw [decide_eq_true (show R7.1.length≤30 by omega),Bool.true_and,decide_eq_decide];omega]
        ·refine ⟨by decide +kernel,?_⟩
         refine ⟨_,_,[0,1,6],tau [([6],[92])],⟨rfl,rfl⟩,?_⟩
         rw [stR,if_neg (by simp),bb]
         simp only [go_sem]
         simp only [fQ]
         rw [decide_eq_false (show ¬ R7.1.length≤30 by omega),Bool.false_and]
       ·have hb8:aB ns 8 (p,false,l)=false:=by rw [aB];exact decide_eq_false (by rw [← htl];exact g)
        have hRy:R8=([],R7.2):=by rw [hR8,bg,if_neg (by rw [hb8];simp)]
        refine ix E (τ:=tau [([92],[93])]) (s2:=mk (sdF p l) (sdP ns root R8.2 92 p b3 b4 b5 true false false V A.1.1 A.1.2 R7.1 R8.1) [6,4,0,1,92]) (LeL.le ?_) ?_
        ·unfold sdF sdP
         rw [hRy]
         simp only [go_sem]
         all_goals first | rfl | ((repeat' apply And.intro)<;>first | rfl | trivial)
        unfold sdF sdP
        rw [← hA,← hR7,← hR8,hb6,hb7,hb8] at hR
        subst hR
        refine ag mixed E fun X=>?_
        simp only [go_sem]
        refine cQ X (fun g1=>?_) (fun g1=>?_)<;>simp only [go_sem]
        ·refine ⟨by decide +kernel,?_⟩
         refine ⟨_,_,[0,1,6],tau [([6],[92])],⟨rfl,rfl⟩,?_⟩
         rw [stR,if_neg (by simp),bb]
         simp only [go_sem]
         simp only [fQ]
         rw [show (decide (R7.1.length≤30) && decide (R8.1.length≤30))=decide ((R8.1.length:Int)≤30) by rw [decide_eq_true (show R7.1.length≤30 by omega),Bool.true_and,decide_eq_decide];omega]
        ·refine ⟨by decide +kernel,?_⟩
         refine ⟨_,_,[0,1,6],tau [([6],[92])],⟨rfl,rfl⟩,?_⟩
         rw [stR,if_neg (by simp),bb]
         simp only [go_sem]
         simp only [fQ]
         rw [decide_eq_false (show ¬ R7.1.length≤30 by omega),Bool.false_and]
    ·have hb6:aB ns 6 (p,false,l)=false:=by rw [aB];exact decide_eq_false (by rw [← hal];exact g)
     have hAy:A=((0,0),W):=by rw [hA,cG,if_neg (by rw [hb6];simp)]
     have hWA:WD ns A.2:=by rw [hAy];exact hW
     have lA:A.2.length≤W.length+2:=by rw [hAy];simp only;omega
     refine ix E (τ:=tau [([94],[95])]) (s2:=mk (sdF p l) (sdP ns root A.2 94 p b3 b4 b5 false false false V A.1.1 A.1.2 [] []) [6,4,0,1,94]) (LeL.le ?_) ?_
     ·unfold sdF sdP
      rw [hAy]
      simp only [go_sem]
      all_goals first | rfl | ((repeat' apply And.intro)<;>first | rfl | trivial)
     unfold sdF sdP
     obtain ⟨R7,hR7⟩:∃ R,R=bg ns (p,false,l) 7 p A.2:=⟨_,rfl⟩
     refine ag mixed E fun X=>?_
     simp only [go_sem]
     refine aI X [0] 0 none [.d (.sl (some 4) (ns.map ah)),.d (i64 root),.vw [94] 0 A.2.length] (by simp only [go_sem]) rfl rfl ?_
     simp only [go_sem]
     refine bo X (c57 7) rfl rfl (by simp) ?_
     simp only [go_sem]
     refine ⟨by decide +kernel,?_⟩
     obtain ⟨rl,hrl⟩:∃ rl,rl=aw ns 7 l:=⟨_,rfl⟩
     have hr1:∀ x∈rl,okP ns x:=fun x hx=>by rw [hrl] at hx;exact hk x (aq hx).1
     have hr2:rl.length≤2000:=by rw [hrl];exact Nat.le_trans (bd _ _ _) hcl
     have c59r:=kG (G:=G) ns root A.2 p p rl l h.inn h.alls hN (h.sv hr1) hWA hr2 hr1 (by omega)
     have he59:=qe h.inn h.alls (p:=p) hr1 hWA (nmL ns rl p)
     have hnl:=pR (ns:=ns) (l:=rl) (fun x hx=>(h.alls.fd x (hr1 x hx)).1) p
     unfold wO aj at c59r
     rw [← hrl]
     refine ai E (fun g=>?_) (fun g=>?_)<;>simp only [go_sem]
     ·have hb7:aB ns 7 (p,false,l)=true:=by rw [aB];exact decide_eq_true (by rw [← hrl];exact g)
      have hRy:R7=dE ns p rl (nmL ns rl p) A.2:=by rw [hR7,kW h hc,if_pos hb7,← hrl]
      rw [← hRy] at c59r he59
      have hW7:=he59.1
      have l7:R7.2.length≤3000000:=by have:=he59.2.1;omega
      refine aM E (tau [([1],[94])]) _ _ _ c59r rfl (by simp only [go_sem]) ⟨by simp only [go_sem],by first | (rw [aa];decide) | (simp only [go_sem]<;>(try rw [aa])<;>decide)⟩ rfl (by simp only [go_sem]) (by simp only [go_sem]) ?_
      rintro _ _ ⟨rfl,rfl⟩
      refine ⟨by simp only [go_sem];try simp,?_⟩
      simp only [go_sem]
      refine cU E [168,7] (some 2) (R7.1.map aG) rfl ?_
      refine ix E (τ:=tau [([93],[168,6])]) (s2:=mk (sdF p l) (sdP ns root R7.2 93 p b3 b4 b5 false true false V A.1.1 A.1.2 R7.1 []) [6,4,0,1,93]) (LeL.le ?_) ?_
      ·unfold sdF sdP
       simp only [go_sem]
       all_goals first | rfl | ((repeat' apply And.intro)<;>first | rfl | trivial)
      unfold sdF sdP
      obtain ⟨R8,hR8⟩:∃ R,R=bg ns (p,false,l) 8 (!p) R7.2:=⟨_,rfl⟩
      refine ag mixed E fun X=>?_
      simp only [go_sem]
      refine aI X [0] 0 none [.d (.sl (some 4) (ns.map ah)),.d (i64 root),.vw [93] 0 R7.2.length] (by simp only [go_sem]) rfl rfl ?_
      simp only [go_sem]
      refine bo X (c57 8) rfl rfl (by simp) ?_
      simp only [go_sem]
      refine ⟨by decide +kernel,?_⟩
      obtain ⟨tl,htl⟩:∃ tl,tl=aw ns 8 l:=⟨_,rfl⟩
      have ht1:∀ x∈tl,okP ns x:=fun x hx=>by rw [htl] at hx;exact hk x (aq hx).1
      have ht2:tl.length≤2000:=by rw [htl];exact Nat.le_trans (bd _ _ _) hcl
      have c59t:=kG (G:=G) ns root R7.2 p (!p) tl l h.inn h.alls hN (h.sv ht1) hW7 ht2 ht1 (by omega)
      unfold wO aj at c59t
      rw [← htl]
      refine ai E (fun g=>?_) (fun g=>?_)<;>simp only [go_sem]
      ·have hb8:aB ns 8 (p,false,l)=true:=by rw [aB];exact decide_eq_true (by rw [← htl];exact g)
       have hRy:R8=dE ns p tl (nmL ns tl (!p)) R7.2:=by rw [hR8,kW h hc,if_pos hb8,← htl]
       rw [← hRy] at c59t
       refine aM E (tau [([1],[93])]) _ _ _ c59t rfl (by simp only [go_sem]) ⟨by simp only [go_sem],by first | (rw [aa];decide) | (simp only [go_sem]<;>(try rw [aa])<;>decide)⟩ rfl (by simp only [go_sem]) (by simp only [go_sem]) ?_
       rintro _ _ ⟨rfl,rfl⟩
       refine ⟨by simp only [go_sem];try simp,?_⟩
       simp only [go_sem]
       refine cU E [186,7] (some 2) (R8.1.map aG) rfl ?_
       refine ix E (τ:=tau [([92],[186,6])]) (s2:=mk (sdF p l) (sdP ns root R8.2 92 p b3 b4 b5 false true true V A.1.1 A.1.2 R7.1 R8.1) [6,4,0,1,92]) (LeL.le ?_) ?_
       ·unfold sdF sdP
        simp only [go_sem]
        all_goals first | rfl | ((repeat' apply And.intro)<;>first | rfl | trivial)
       unfold sdF sdP
       rw [← hA,← hR7,← hR8,hb6,hb7,hb8] at hR
       subst hR
       refine ag mixed E fun X=>?_
       simp only [go_sem]
       refine cQ X (fun g1=>?_) (fun g1=>?_)<;>simp only [go_sem]
       ·refine ⟨by decide +kernel,?_⟩
        refine ⟨_,_,[0,1,6],tau [([6],[92])],⟨rfl,rfl⟩,?_⟩
        rw [stR,if_neg (by simp),bb]
        simp only [go_sem]
        simp only [fQ]
        rw [show (decide (R7.1.length≤30) && decide (R8.1.length≤30))=decide ((R8.1.length:Int)≤30) by rw [decide_eq_true (show R7.1.length≤30 by omega),Bool.true_and,decide_eq_decide];omega]
       ·refine ⟨by decide +kernel,?_⟩
        refine ⟨_,_,[0,1,6],tau [([6],[92])],⟨rfl,rfl⟩,?_⟩
        rw [stR,if_neg (by simp),bb]
        simp only [go_sem]
        simp only [fQ]
        rw [decide_eq_false (show ¬ R7.1.length≤30 by omega),Bool.false_and]
      ·have hb8:aB ns 8 (p,false,l)=false:=by rw [aB];exact decide_eq_false (by rw [← htl];exact g)
       have hRy:R8=([],R7.2):=by rw [hR8,bg,if_neg (by rw [hb8];simp)]
       refine ix E (τ:=tau [([92],[93])]) (s2:=mk (sdF p l) (sdP ns root R8.2 92 p b3 b4 b5 false true false V A.1.1 A.1.2 R7.1 R8.1) [6,4,0,1,92]) (LeL.le ?_) ?_
       ·unfold sdF sdP
        rw [hRy]
        simp only [go_sem]
        all_goals first | rfl | ((repeat' apply And.intro)<;>first | rfl | trivial)
       unfold sdF sdP
       rw [← hA,← hR7,← hR8,hb6,hb7,hb8] at hR
       subst hR
       refine ag mixed E fun X=>?_
       simp only [go_sem]
       refine cQ X (fun g1=>?_) (fun g1=>?_)<;>simp only [go_sem]
       ·refine ⟨by decide +kernel,?_⟩
        refine ⟨_,_,[0,1,6],tau [([6],[92])],⟨rfl,rfl⟩,?_⟩
        rw [stR,if_neg (by simp),bb]
        simp only [go_sem]
        simp only [fQ]
        rw [show (decide (R7.1.length≤30) && decide (R8.1.length≤30))=decide ((R8.1.length:Int)≤30) by rw [decide_eq_true (show R7.1.length≤30 by omega),Bool.true_and,decide_eq_decide];omega]
       ·refine ⟨by decide +kernel,?_⟩
        refine ⟨_,_,[0,1,6],tau [([6],[92])],⟨rfl,rfl⟩,?_⟩
        rw [stR,if_neg (by simp),bb]
        simp only [go_sem]
        simp only [fQ]
        rw [decide_eq_false (show ¬ R7.1.length≤30 by omega),Bool.false_and]
     ·have hb7:aB ns 7 (p,false,l)=false:=by rw [aB];exact decide_eq_false (by rw [← hrl];exact g)
      have hRy:R7=([],A.2):=by rw [hR7,bg,if_neg (by rw [hb7];simp)]
      have hW7:WD ns R7.2:=by rw [hRy];exact hWA
      have l7:R7.2.length≤3000000:=by rw [hRy];simp only;omega
      refine ix E (τ:=tau [([93],[94])]) (s2:=mk (sdF p l) (sdP ns root R7.2 93 p b3 b4 b5 false false false V A.1.1 A.1.2 R7.1 []) [6,4,0,1,93]) (LeL.le ?_) ?_
      ·unfold sdF sdP
       rw [hRy]
       simp only [go_sem]
       all_goals first | rfl | ((repeat' apply And.intro)<;>first | rfl | trivial)
      unfold sdF sdP
      obtain ⟨R8,hR8⟩:∃ R,R=bg ns (p,false,l) 8 (!p) R7.2:=⟨_,rfl⟩
      refine ag mixed E fun X=>?_
      simp only [go_sem]
      refine aI X [0] 0 none [.d (.sl (some 4) (ns.map ah)),.d (i64 root),.vw [93] 0 R7.2.length] (by simp only [go_sem]) rfl rfl ?_
      simp only [go_sem]
      refine bo X (c57 8) rfl rfl (by simp) ?_
      simp only [go_sem]
      refine ⟨by decide +kernel,?_⟩
      obtain ⟨tl,htl⟩:∃ tl,tl=aw ns 8 l:=⟨_,rfl⟩
      have ht1:∀ x∈tl,okP ns x:=fun x hx=>by rw [htl] at hx;exact hk x (aq hx).1
      have ht2:tl.length≤2000:=by rw [htl];exact Nat.le_trans (bd _ _ _) hcl
      have c59t:=kG (G:=G) ns root R7.2 p (!p) tl l h.inn h.alls hN (h.sv ht1) hW7 ht2 ht1 (by omega)
      unfold wO aj at c59t
      rw [← htl]
      refine ai E (fun g=>?_) (fun g=>?_)<;>simp only [go_sem]
      ·have hb8:aB ns 8 (p,false,l)=true:=by rw [aB];exact decide_eq_true (by rw [← htl];exact g)
       have hRy:R8=dE ns p tl (nmL ns tl (!p)) R7.2:=by rw [hR8,kW h hc,if_pos hb8,← htl]
       rw [← hRy] at c59t
       refine aM E (tau [([1],[93])]) _ _ _ c59t rfl (by simp only [go_sem]) ⟨by simp only [go_sem],by first | (rw [aa];decide) | (simp only [go_sem]<;>(try rw [aa])<;>decide)⟩ rfl (by simp only [go_sem]) (by simp only [go_sem]) ?_
       rintro _ _ ⟨rfl,rfl⟩
       refine ⟨by simp only [go_sem];try simp,?_⟩
       simp only [go_sem]
       refine cU E [186,7] (some 2) (R8.1.map aG) rfl ?_
       refine ix E (τ:=tau [([92],[186,6])]) (s2:=mk (sdF p l) (sdP ns root R8.2 92 p b3 b4 b5 false false true V A.1.1 A.1.2 R7.1 R8.1) [6,4,0,1,92]) (LeL.le ?_) ?_
       ·unfold sdF sdP
        simp only [go_sem]
        all_goals first | rfl | ((repeat' apply And.intro)<;>first | rfl | trivial)
       unfold sdF sdP
       rw [← hA,← hR7,← hR8,hb6,hb7,hb8] at hR
       subst hR
       refine ag mixed E fun X=>?_
       simp only [go_sem]
       refine cQ X (fun g1=>?_) (fun g1=>?_)<;>simp only [go_sem]
       ·refine ⟨by decide +kernel,?_⟩
        refine ⟨_,_,[0,1,6],tau [([6],[92])],⟨rfl,rfl⟩,?_⟩
        rw [stR,if_neg (by simp),bb]
        simp only [go_sem]
        simp only [fQ]
        rw [show (decide (R7.1.length≤30) && decide (R8.1.length≤30))=decide ((R8.1.length:Int)≤30) by rw [decide_eq_true (show R7.1.length≤30 by omega),Bool.true_and,decide_eq_decide];omega]
       ·refine ⟨by decide +kernel,?_⟩
        refine ⟨_,_,[0,1,6],tau [([6],[92])],⟨rfl,rfl⟩,?_⟩
        rw [stR,if_neg (by simp),bb]
        simp only [go_sem]
        simp only [fQ]
        rw [decide_eq_false (show ¬ R7.1.length≤30 by omega),Bool.false_and]
      ·have hb8:aB ns 8 (p,false,l)=false:=by rw [aB];exact decide_eq_false (by rw [← htl];exact g)
       have hRy:R8=([],R7.2):=by rw [hR8,bg,if_neg (by rw [hb8];simp)]
       refine ix E (τ:=tau [([92],[93])]) (s2:=mk (sdF p l) (sdP ns root R8.2 92 p b3 b4 b5 false false false V A.1.1 A.1.2 R7.1 R8.1) [6,4,0,1,92]) (LeL.le ?_) ?_
       ·unfold sdF sdP
        rw [hRy]
        simp only [go_sem]
        all_goals first | rfl | ((repeat' apply And.intro)<;>first | rfl | trivial)
       unfold sdF sdP
       rw [← hA,← hR7,← hR8,hb6,hb7,hb8] at hR
       subst hR
       refine ag mixed E fun X=>?_
       simp only [go_sem]
       refine cQ X (fun g1=>?_) (fun g1=>?_)<;>simp only [go_sem]
       ·refine ⟨by decide +kernel,?_⟩
        refine ⟨_,_,[0,1,6],tau [([6],[92])],⟨rfl,rfl⟩,?_⟩
        rw [stR,if_neg (by simp),bb]
        simp only [go_sem]
        simp only [fQ]
        rw [show (decide (R7.1.length≤30) && decide (R8.1.length≤30))=decide ((R8.1.length:Int)≤30) by rw [decide_eq_true (show R7.1.length≤30 by omega),Bool.true_and,decide_eq_decide];omega]
       ·refine ⟨by decide +kernel,?_⟩
        refine ⟨_,_,[0,1,6],tau [([6],[92])],⟨rfl,rfl⟩,?_⟩
        rw [stR,if_neg (by simp),bb]
        simp only [go_sem]
        simp only [fQ]
        rw [decide_eq_false (show ¬ R7.1.length≤30 by omega),Bool.false_and]
end Go.Proofs.YthfodompfpdmgaaGreatDoor

namespace Go.Proofs.YthfodompfpdmgaaGreatDoor
open Go.Ab
def auR (L:List EA):D:=.agg [.sl (some 13) (L.map stR),i64 0]
def Fo:Option (List EA)→AV
 | some L=>.tup [.d (auR L),.d (.bool true)]
 | none=>.tup [.d (.agg [.nils,i64 0]),.d (.bool false)]
theorem Gx (s:EA):stR s=.agg [.bool s.plus,.bool true,.bool false,.bool false,.bool false,.bool false,.bool false,.bool false,.nils,i64 0,i64 0,.nils,.nils] ∨
  stR s=.agg [.bool s.plus,.bool s.al,.bool s.int,.bool s.bool,.bool s.str,.bool s.arr,.bool s.rc,.bool s.tg,.sl none (s.vars.map i64),i64 s.dom,i64 s.cod,.sl (some 2) (s.fl.map aG),.sl (some 2) (s.tl.map aG)]:=by
 unfold stR
 split
 ·exact .inl rfl
 ·exact .inr rfl
theorem BI (s:EA):(decide (30<s.fl.length) || decide (30<s.tl.length))=!fQ s:=by
 unfold fQ
 rw [Bool.not_and,← decide_not,← decide_not]
 congr 1<;>rw [decide_eq_decide]<;>omega
theorem Bd (ns:List TN):WD ns []:=⟨fun _ h=>(by cases h),fun _ h=>(by cases h)⟩
set_option maxHeartbeats 8000000 in
theorem Gu {G} (ns:List TN) (root n:Int) (h:Ty ns root) (hN:ns.length≤14) (hn:n≤2000) :
  HP Tryz.prog G 11 [aF ns root,i64 n] (fun r=>r=Fo (dW ns n 2001 [] (ak [] (ofC ns true [root])).2)):=by
 have hk1:∀ x∈[root],okP ns x:=fun x hx=>by rw [List.mem_singleton.1 hx];exact h.rt
 have c30:=qE (G:=G) ns root h.inn true [root] (lZ hN (by simp)) hk1
 have c29:=pD (G:=G) ns root [] (ofC ns true [root]) (Bd ns) (oK h.inn hk1) (by simp)
 have w0:=(Bd ns).place h.inn (p:=true) hk1
 have l0:(ak [] (ofC ns true [root])).2.length=1:=by rw [(sX h).2];rfl
 generalize ofC ns true [root]=C at c30 c29 w0 l0 ⊢
 generalize hR:dW ns n 2001 [] (ak [] C).2=R
 generalize ak [] C=P at c29 w0 l0 hR
 unfold wO at c29
 unfold aj aF at *
 refine aP Tryz.func11 rfl (by decide +kernel) (by simp [Tryz.ntmps11]) (veil fun E=>?_)
 simp only [go_sem]
 refine bt E [18] none [i64 root] rfl rfl ?_
 simp only [go_sem]
 refine ae E c30 rfl (by simp only [go_sem]) (by simp) ?_
 rintro _ rfl
 simp only [go_sem]
 refine kc E [13] 2 97 (some 3) [.d (.sl (some 4) (ns.map ah)),.d (i64 root),.d .nils] rfl rfl (by show ¬ _∈[18,13,4,2];decide) rfl ?_
 refine aM E (tau [([0],[13]),([1],[97])]) _ _ _ c29 rfl (by simp only [go_sem]) ⟨by simp only [go_sem],by first | (rw [aa];decide) | (simp only [go_sem]<;>(try rw [aa])<;>decide)⟩ rfl (by simp only [go_sem];try rfl) (by simp only [go_sem]) ?_
 rintro _ _ ⟨rfl,rfl⟩
 refine ⟨by simp only [go_sem];try simp,?_⟩
 simp only [go_sem]
 refine cR E [7] 0 96 (some 13) [.d .nils,.d (i64 0)] rfl rfl (by rw [aa];decide) ?_
 simp only [go_sem]
 refine au E (X:={ x:List EA × List Clu // WD ns x.2∧x.2.length≤2000∧x.1.length≤2000∧((x.2.length:Int)≤n∨(x.1=[]∧0<x.2.length))∧dW ns n (2001-x.1.length) x.1 x.2=R }) (fun x=>[(1,.d (i64 n)),(4,.bx [4] 0),(6,.bx [13] 0),(7,.bx [7] 0),(8,.d (i64 x.1.1.length))])
  (fun x=>[([4],.box [.d .nils,.d (i64 0)]),([7],.box [.vw [96] 0 x.1.1.length,.d (i64 0)]),([96],.arr (some 13) (x.1.1.map stR)),([13],.box [.d (.sl (some 4) (ns.map ah)),.d (i64 root),.vw [95] 0 x.1.2.length]),([95],.arr (some 3) (x.1.2.map gu))])
  [95,96,7,13,4] (fun x=>2001-x.1.1.length) ⟨([],P.2),w0,by show P.2.length≤2000;omega,Nat.zero_le _,.inr ⟨rfl,by show 0<P.2.length;omega⟩,hR⟩ (tau [([95],[20,6])]) ?_ ?_
 ·simp only [go_sem]
  all_goals first | rfl | ((repeat' apply And.intro)<;>first | rfl | trivial)
 rintro ⟨⟨L,W⟩,hw,hwl,hlw,hwn,hb⟩ E0
 refine aR E0 fun Q' hQ E'=>?_
 simp only at hw hwl hlw hwn hb ⊢
 simp only [go_sem]
 refine ai E' (fun h1=>?_) (fun h1=>?_)<;>simp only [go_sem]
 ·have hl:L.length<W.length:=by omega
  obtain ⟨f,hf⟩:∃ f,2001-L.length=f+1:=⟨2000-L.length,by omega⟩
  rw [hf,dW,dif_pos hl] at hb
  refine ⟨by omega,?_⟩
  rw [s5 hl]
  simp only [go_sem]
  have hm:=List.getElem_mem hl
  have c31:=Gl (G:=G) ns root W W[L.length] h hN hw (hw.wo _ hm) (hw.an _ hm) (by omega)
  have ws:=pe h.inn h.alls hw.wo (hw.wo _ hm)
  have wn:=(u4 h hw.an (hw.wo _ hm) (hw.an _ hm)).2.2
  rw [show gu W[L.length]=.agg [.bool W[L.length].1,.bool W[L.length].2.1,lsR W[L.length]] from rfl] at c31
  generalize W[L.length]=c at c31 ws wn hb
  generalize bV ns c W=Y at c31 ws wn hb
  unfold wO at c31
  rw [BI] at hb
  rcases Gx Y.1 with e | e
  ·rw [e] at c31
   refine aM E' (tau [([0],[13]),([1],[95])]) _ _ _ c31 rfl (by simp only [go_sem];try rfl) ⟨by simp only [go_sem],by first | (rw [aa];decide) | (simp only [go_sem]<;>(try rw [aa])<;>decide)⟩ rfl (by simp only [go_sem];try rfl) (by simp only [go_sem]) ?_
   rintro _ _ ⟨rfl,rfl⟩
   refine ⟨by simp only [go_sem];try simp,?_⟩
   simp only [go_sem]
   refine cX E' (fun g1=>?_) (fun g1=>?_)<;>simp only [go_sem]
   ·rw [if_pos (by rw [g1];rfl)] at hb
    subst hb
    rw [hQ]
    simp only [go_sem]
    refine ⟨[],?_⟩
    simp only [go_sem]
    rfl
   ·rw [g1,Bool.false_or] at hb
    refine ai E' (fun g2=>?_) (fun g2=>?_)<;>simp only [go_sem]
    ·rw [if_pos (decide_eq_true g2)] at hb
     subst hb
     rw [hQ]
     simp only [go_sem]
     refine ⟨[],?_⟩
     simp only [go_sem]
     rfl
    ·rw [if_neg (by rw [decide_eq_false g2];simp)] at hb
     refine ⟨by omega,?_⟩
     rw [hQ]
     refine ⟨⟨(L++[Y.1],Y.2),⟨wn,ws⟩,by show Y.2.length≤2000;omega,?_,.inl (by show (Y.2.length:Int)≤n;omega),?_⟩,?_,tau [([96],[59]),([95],[40,6])],?_⟩
     ·show (L++[Y.1]).length≤2000
      simp
      omega
     ·show dW ns n (2001-(L++[Y.1]).length) (L++[Y.1]) Y.2=R
      rw [show 2001-(L++[Y.1]).length=f by simp;omega]
      exact hb
     ·show 2001-(L++[Y.1]).length<2001-L.length
      simp
      omega
     ·simp only [go_sem]
      rw [ab ⟨by omega,by omega⟩,List.map_append,List.length_append,List.map_cons,List.map_nil,e]
      (repeat' apply And.intro)<;>first | rfl | trivial
  ·rw [e] at c31
   refine aM E' (tau [([0],[13]),([1],[95])]) _ _ _ c31 rfl (by simp only [go_sem];try rfl) ⟨by simp only [go_sem],by first | (rw [aa];decide) | (simp only [go_sem]<;>(try rw [aa])<;>decide)⟩ rfl (by simp only [go_sem];try rfl) (by simp only [go_sem]) ?_
   rintro _ _ ⟨rfl,rfl⟩
   refine ⟨by simp only [go_sem];try simp,?_⟩
   simp only [go_sem]
   refine cX E' (fun g1=>?_) (fun g1=>?_)<;>simp only [go_sem]
   ·rw [if_pos (by rw [g1];rfl)] at hb
    subst hb
    rw [hQ]
    simp only [go_sem]
    refine ⟨[],?_⟩
    simp only [go_sem]
    rfl
   ·rw [g1,Bool.false_or] at hb
    refine ai E' (fun g2=>?_) (fun g2=>?_)<;>simp only [go_sem]
    ·rw [if_pos (decide_eq_true g2)] at hb
     subst hb
     rw [hQ]
     simp only [go_sem]
     refine ⟨[],?_⟩
     simp only [go_sem]
     rfl
    ·rw [if_neg (by rw [decide_eq_false g2];simp)] at hb
     refine ⟨by omega,?_⟩
     rw [hQ]
     refine ⟨⟨(L++[Y.1],Y.2),⟨wn,ws⟩,by show Y.2.length≤2000;omega,?_,.inl (by show (Y.2.length:Int)≤n;omega),?_⟩,?_,tau [([96],[59]),([95],[40,6])],?_⟩
     ·show (L++[Y.1]).length≤2000
      simp
      omega
     ·show dW ns n (2001-(L++[Y.1]).length) (L++[Y.1]) Y.2=R
      rw [show 2001-(L++[Y.1]).length=f by simp;omega]
      exact hb
     ·show 2001-(L++[Y.1]).length<2001-L.length
      simp
      omega
     ·simp only [go_sem]
      rw [ab ⟨by omega,by omega⟩,List.map_append,List.length_append,List.map_cons,List.map_nil,e]
      (repeat' apply And.intro)<;>first | rfl | trivial
 ·have hle:¬ L.length<W.length:=by omega
  obtain ⟨f,hf⟩:∃ f,2001-L.length=f+1:=⟨2000-L.length,by omega⟩
  rw [hf,dW,dif_neg hle] at hb
  subst hb
  rw [hQ]
  simp only [go_sem]
  have hwn2:(W.length:Int)≤n:=by
   rcases hwn with g | ⟨rfl,g⟩
   ·exact g
   ·exact absurd g hle
  refine ag mixed E fun X=>?_
  simp only [go_sem]
  refine aI X [13] 0 none [.d (.sl (some 4) (ns.map ah)),.d (i64 root),.vw [95] 0 W.length] (by simp only [go_sem]) rfl rfl ?_
  simp only [go_sem]
  refine ⟨by decide +kernel,?_⟩
  rw [decide_eq_true hwn2]
  refine ⟨[([96],some 13,L.map stR)],?_⟩
  simp only [go_sem]
  rfl
end Go.Proofs.YthfodompfpdmgaaGreatDoor

namespace Go.Proofs.YthfodompfpdmgaaGreatDoor
open Go.Ab
theorem getD_eq {α:Type} {l:List α} {i:Nat} {d:α} (h:i<l.length):l.getD i d=l[i]:=by simp [h]
theorem lN {P:Program} {G:List (Nat × Obj)} {f:FuncId} {ds:List D} {Q Q':AV→Prop} (h:HP P G f ds Q) (hq:∀ r,Q r→Q' r):HP P G f ds Q':=HCall.mono h fun r _ hr=>⟨hq r hr.1,hr.2⟩
theorem Dfs.sub {α:Type} {kids:α→List α} {out todo r:List α} (h:Dfs kids out todo r):(∀ a∈out,a∈r)∧∀ a∈todo,a∈r:=by
 induction h with
 | done out=>exact ⟨fun a h=>h,by simp⟩
 | skip h _ ih =>
   refine ⟨ih.1,fun a ha=>?_⟩
   rcases List.mem_append.1 ha with ha | ha
   ·exact ih.2 a ha
   ·rw [List.mem_singleton.1 ha];exact ih.1 _ h
 | take h _ ih =>
   refine ⟨fun a ha=>ih.1 a (List.mem_append_left _ ha),fun a ha=>?_⟩
   rcases List.mem_append.1 ha with ha | ha
   ·exact ih.2 a (List.mem_append_left _ ha)
   ·rw [List.mem_singleton.1 ha];exact ih.1 _ (by simp)
theorem Dfs.closed {α:Type} {kids:α→List α} {out todo r:List α} (h:Dfs kids out todo r):(∀ a∈out,∀ b∈kids a,b∈out∨b∈todo)→∀ a∈r,∀ b∈kids a,b∈r:=by
 induction h with
 | done out=>exact fun h a ha b hb=>(h a ha b hb).resolve_right (by simp)
 | @skip out todo r s h _ ih =>
   refine fun h2=>ih fun a ha b hb=>?_
   rcases h2 a ha b hb with g | g
   ·exact .inl g
   ·rcases List.mem_append.1 g with g | g
    ·exact .inr g
    ·rw [List.mem_singleton.1 g];exact .inl h
 | @take out todo r s h _ ih =>
   refine fun h2=>ih fun a ha b hb=>?_
   rcases List.mem_append.1 ha with ha | ha
   ·rcases h2 a ha b hb with g | g
    ·exact .inl (List.mem_append_left _ g)
    ·rcases List.mem_append.1 g with g | g
     ·exact .inr (List.mem_append_left _ g)
     ·rw [List.mem_singleton.1 g];exact .inl (by simp)
   ·rw [List.mem_singleton.1 ha] at hb
    exact .inr (List.mem_append_right _ (List.mem_reverse.2 hb))
theorem Spots.kids {ns:List TN} {root:Int} {l:List Spot} (h:Spots ns root l):∀ a∈l,∀ b∈bQ ns a,b∈l:=h.1.closed (by simp)
theorem Dfs.pre {α:Type} {kids:α→List α} {out todo r:List α} (h:Dfs kids out todo r):∃ t,r=out++t:=by
 induction h with
 | done out=>exact ⟨[],by simp⟩
 | skip _ _ ih=>exact ih
 | take _ _ ih =>
   obtain ⟨t,e⟩:=ih
   exact ⟨[_]++t,by rw [e,List.append_assoc]⟩
theorem Dfs.first {α:Type} {kids:α→List α} {s:α} {r:List α} (h:Dfs kids [] [s] r):∃ t,r=s::t:=by
 generalize ht:[s]=td at h
 cases h with
 | done=>simp at ht
 | skip h=>simp at h
 | @take _ todo _ s' h1 t1 =>
   obtain ⟨rfl,rfl⟩:=gE (a:=[]) (b:=todo) ht
   obtain ⟨t,e⟩:=t1.pre
   exact ⟨t,by simpa using e⟩
end Go.Proofs.YthfodompfpdmgaaGreatDoor

namespace Go.Proofs.YthfodompfpdmgaaGreatDoor
open Go.Ab
def fE (ns:List TN) (L:List Spot) (i j:Nat):List Spot:=(if ((i:Int),(1:Int))∈L then [eY (nd ns i) 1 j] else [])++(if ((i:Int),(2:Int))∈L then [eY (nd ns i) 2 j] else [])
theorem km {ns:List TN} {L:List Spot} {i j:Nat} {t:Spot}:t∈fE ns L i j↔(((i:Int),(1:Int))∈L∧t=eY (nd ns i) 1 j)∨(((i:Int),(2:Int))∈L∧t=eY (nd ns i) 2 j):=by
 unfold fE
 by_cases h1:((i:Int),(1:Int))∈L<;>by_cases h2:((i:Int),(2:Int))∈L<;>simp [h1,h2]
def clo (ns:List TN) (L:List Spot) (i j:Nat):Prop:=∀ t∈fE ns L i j,t∈L
theorem mr {L L':List Spot} {i:Nat} (h:∀ s:Int,((i:Int),s)∈L↔((i:Int),s)∈L'):sd L i=sd L' i:=by
 simp only [sd,h]
theorem Ht {L L':List Spot} {i:Nat} (h:sd L i=sd L' i) {s:Int} (hs:s=1∨s=2):((i:Int),s)∈L↔((i:Int),s)∈L':=by
 unfold sd at h
 by_cases h1:((i:Int),(1:Int))∈L<;>by_cases h2:((i:Int),(2:Int))∈L<;>by_cases h3:((i:Int),(1:Int))∈L'<;>by_cases h4:((i:Int),(2:Int))∈L' <;>
  rcases hs with rfl | rfl<;>simp_all
theorem jK (L:List Spot) (i:Nat):0≤sd L i∧sd L i≤3:=by
 unfold sd
 split<;>split<;>omega
section
variable {ns:List TN} {root:Int} {l L:List Spot}
structure Fx (ns:List TN) (root:Int) (l L:List Spot):Prop where
 root:(root,1)∈L
 sub:∀ s∈L,s∈l
theorem Fx.init (hl:Spots ns root l):Fx ns root l [(root,1)]:=⟨by simp,fun s hs=>by
 obtain ⟨t,e⟩:=hl.1.first
 rw [List.mem_singleton.1 hs,e]
 exact List.mem_cons_self⟩
theorem yU {i j:Nat} {side:Int} (hj:j<(ay (nd ns i)).length):eY (nd ns i) side j∈bQ ns ((i:Int),side):=by
 show _∈(List.range _).map _
 exact List.mem_map.2 ⟨j,List.mem_range.2 hj,rfl⟩
theorem Fx.step (hl:Spots ns root l) (h:Fx ns root l L) {i j:Nat} (hj:j<(ay (nd ns i)).length):Fx ns root l (L++fE ns L i j) :=
 ⟨List.mem_append_left _ h.root,fun s hs=>by
  rcases List.mem_append.1 hs with hs | hs
  ·exact h.sub s hs
  ·rcases km.1 hs with ⟨h1,rfl⟩ | ⟨h1,rfl⟩
   ·exact hl.kids _ (h.sub _ h1) _ (yU hj)
   ·exact hl.kids _ (h.sub _ h1) _ (yU hj)⟩
theorem rA {i j:Nat} {t:Spot} (h:t∈fE ns L i j):t.1=(ay (nd ns i)).getD j 0∧(t.2=1∨t.2=2):=by
 have key:∀ side:Int,side=1∨side=2→(eY (nd ns i) side j).2=1∨(eY (nd ns i) side j).2=2:=fun side hs=>by
  show (if _ then jb side else side)=1∨(if _ then jb side else side)=2
  split
  ·exact vL hs
  ·exact hs
 rcases km.1 h with ⟨_,rfl⟩ | ⟨_,rfl⟩
 ·exact ⟨rfl,key 1 (.inl rfl)⟩
 ·exact ⟨rfl,key 2 (.inr rfl)⟩
theorem vF:∀ a b c d:Bool,max (((if a then 1 else 0)+(if b then 2 else 0):Int).tmod 2) (((if c then 1 else 0)+(if d then 2 else 0):Int).tmod 2)+2*max (((if a then 1 else 0)+(if b then 2 else 0):Int).tdiv 2) (((if c then 1 else 0)+(if d then 2 else 0):Int).tdiv 2)=(if a || c then 1 else 0)+(if b || d then 2 else 0):=by decide
theorem Be:∀ c d:Bool,(((if c then 1 else 0)+(if d then 2 else 0):Int).tmod 2)*2+((if c then 1 else 0)+(if d then 2 else 0):Int).tdiv 2=(if d then 1 else 0)+(if c then 2 else 0):=by decide
def Ep (cur was:Int):Int:=max (cur.tmod 2) (was.tmod 2)+2*max (cur.tdiv 2) (was.tdiv 2)
def p3 (ns:List TN) (L:List Spot) (i j:Nat):Int:=if (decide ((nd ns i).k=6) && decide (j=0))=true then (sd L i).tmod 2*2+(sd L i).tdiv 2 else sd L i
theorem pc (L:List Spot) (i:Nat):sd L i=(if decide (((i:Int),(1:Int))∈L)=true then 1 else 0)+(if decide (((i:Int),(2:Int))∈L)=true then 2 else 0):=by simp [sd]
theorem vA {i j K:Nat} (hK:(ay (nd ns i)).getD j 0=(K:Int)):Ep (sd L K) (p3 ns L i j)=sd (L++fE ns L i j) K:=by
 have hm:∀ s:Int,((K:Int),s)∈L++fE ns L i j↔((K:Int),s)∈L∨(((i:Int),(1:Int))∈L∧s=(eY (nd ns i) 1 j).2)∨(((i:Int),(2:Int))∈L∧s=(eY (nd ns i) 2 j).2):=fun s=>by
  rw [List.mem_append,km]
  have e:∀ side:Int,(((K:Int),s)=eY (nd ns i) side j)↔s=(eY (nd ns i) side j).2:=fun side=>by
   rw [Prod.ext_iff]
   simp only [eY,hK,true_and]
  rw [e,e]
 rw [pc (L++fE ns L i j) K]
 simp only [hm]
 unfold Ep p3
 rw [pc L K,pc L i]
 by_cases hf:(decide ((nd ns i).k=6) && decide (j=0))=true
 ·have k1:(eY (nd ns i) 1 j).2=2:=by show (if _ then _ else _)=_;rw [if_pos hf];rfl
  have k2:(eY (nd ns i) 2 j).2=1:=by show (if _ then _ else _)=_;rw [if_pos hf];rfl
  rw [if_pos hf,Be,vF,k1,k2]
  simp
 ·have k1:(eY (nd ns i) 1 j).2=1:=by show (if _ then _ else _)=_;rw [if_neg hf]
  have k2:(eY (nd ns i) 2 j).2=2:=by show (if _ then _ else _)=_;rw [if_neg hf]
  rw [if_neg hf,vF,k1,k2]
  simp
theorem vh {i j K:Nat} (hK:(ay (nd ns i)).getD j 0=(K:Int)) (N:Nat):(sdL N L).set K (sd (L++fE ns L i j) K)=sdL N (L++fE ns L i j):=by
 refine List.ext_getElem (by simp [sdL]) fun q h1 h2=>?_
 have hq:q<N:=by simpa [sdL] using h2
 simp only [List.getElem_set,sdL,List.getElem_map,List.getElem_range]
 by_cases e:K=q
 ·subst e
  rw [if_pos rfl]
 ·rw [if_neg e]
  refine mr fun s=>?_
  rw [List.mem_append]
  refine ⟨.inl,fun h=>h.resolve_right fun h=>?_⟩
  have:=(rA h).1
  rw [hK] at this
  have:(q:Int)=K:=this
  omega
theorem vd {i j K:Nat} (hK:(ay (nd ns i)).getD j 0=(K:Int)) (h:sd (L++fE ns L i j) K=sd L K):clo ns L i j:=by
 intro t ht
 obtain ⟨h1,h2⟩:=rA ht
 have e:t=((K:Int),t.2):=by rw [← hK,← h1]
 rw [e]
 refine (Ht h h2).1 ?_
 rw [← e]
 exact List.mem_append_right _ ht
theorem ui {U:List Spot} {L':List Spot} (h:∀ s∈L,s∈L'):unseen U L'≤unseen U L:=by
 unfold unseen
 refine List.countP_mono_left fun s _ hs=>?_
 simp only [Bool.not_eq_true',decide_eq_false_iff_not] at hs ⊢
 exact fun g=>hs (h s g)
theorem yH (hl:Spots ns root l) (h:Fx ns root l L) {i j K:Nat} (hj:j<(ay (nd ns i)).length) (hne:sd (L++fE ns L i j) K≠sd L K):unseen (univ ns.length) (L++fE ns L i j)<unseen (univ ns.length) L:=by
 have:∃ t∈fE ns L i j,t ∉ L:=Classical.byContradiction fun g=>hne <| by
  refine mr fun s=>?_
  rw [List.mem_append]
  exact ⟨fun x=>x.elim id fun x=>Classical.byContradiction fun y=>g ⟨_,x,y⟩,.inl⟩
 obtain ⟨t,ht,hn⟩:=this
 have hin:=jG (hl.2.1 t ((h.step hl hj).sub t (List.mem_append_right _ ht)))
 refine Nat.lt_of_le_of_lt (ui (L:=L++[t]) fun s hs=>?_) (ft hn hin)
 rcases List.mem_append.1 hs with hs | hs
 ·exact List.mem_append_left _ hs
 ·rw [List.mem_singleton.1 hs]
  exact List.mem_append_right _ ht
theorem Fx.done (hl:Spots ns root l) (h:Fx ns root l L) (hc:∀ i,i<ns.length→∀ j,j<(ay (nd ns i)).length→clo ns L i j) (N:Nat):sdL N L=sdL N l:=by
 have hcl:∀ a,a∈L→∀ b∈bQ ns a,b∈L:=fun a ha b hb=>by
  obtain ⟨⟨g1,g2⟩,g3⟩:=hl.2.1 a (h.sub a ha)
  obtain ⟨x,s⟩:=a
  obtain ⟨i,rfl⟩:∃ i:Nat,x=(i:Int):=⟨x.toNat,by simp only at g1;omega⟩
  obtain ⟨j,hj,rfl⟩:=List.mem_map.1 hb
  have hj:j<(ay (nd ns i)).length:=List.mem_range.1 hj
  refine hc i (by simp only at g2;omega) j hj _ (km.2 ?_)
  simp only at g3
  rcases g3 with rfl | rfl
  ·exact .inl ⟨ha,rfl⟩
  ·exact .inr ⟨ha,rfl⟩
 have hall:=(hl.1.map (kb:=bQ ns) (f:=id) (ok:=fun a=>a∈L) (fun _ _ _ _ e=>e) (fun a ha=>⟨by simp,hcl a ha⟩) (by simp) (fun a ha=>by rw [List.mem_singleton.1 ha];exact h.root)).2
 refine List.map_congr_left fun i _=>mr fun s=>⟨fun x=>h.sub _ x,fun x=>hall _ x⟩
theorem ye (h:0≤root∧root<ns.length):(List.replicate ns.length (i64 0)).set root.toNat (i64 1)=(sdL ns.length [(root,1)]).map i64:=by
 refine List.ext_getElem (by simp [sdL]) fun q h1 h2=>?_
 simp only [List.getElem_set,List.getElem_replicate,sdL,List.getElem_map,List.getElem_range,sd,List.mem_singleton,Prod.mk.injEq]
 by_cases e:root.toNat=q
 ·have:(q:Int)=root:=by omega
  simp [e,this]
 ·have:¬ (q:Int)=root:=by omega
  simp [e,this]
end
end Go.Proofs.YthfodompfpdmgaaGreatDoor

namespace Go.Proofs.YthfodompfpdmgaaGreatDoor
open Go.Ab
theorem Ej {c w:Int} (hc:0≤c∧c≤3) (hw:0≤w∧w≤3):w64 ((if w.tmod 2 > c.tmod 2 then w.tmod 2 else c.tmod 2)+w64 (2*(if w64 (w.tdiv 2) > w64 (c.tdiv 2) then w64 (w.tdiv 2) else w64 (c.tdiv 2))))=Ep c w:=by
 have h1:c=0∨c=1∨c=2∨c=3:=by omega
 have h2:w=0∨w=1∨w=2∨w=3:=by omega
 rcases h1 with rfl | rfl | rfl | rfl<;>rcases h2 with rfl | rfl | rfl | rfl<;>decide
theorem mW (ns:List TN) (L:List Spot) (i j:Nat):0≤p3 ns L i j∧p3 ns L i j≤3:=by
 have h:=jK L i
 unfold p3
 split
 ·have:sd L i=0∨sd L i=1∨sd L i=2∨sd L i=3:=by omega
  rcases this with e | e | e | e<;>rw [e]<;>decide
 ·exact h
theorem Gy {w:Int} (h:0≤w∧w≤3):w64 (w64 (w.tmod 2*2)+w64 (w.tdiv 2))=w.tmod 2*2+w.tdiv 2:=by
 have:w=0∨w=1∨w=2∨w=3:=by omega
 rcases this with rfl | rfl | rfl | rfl<;>decide
abbrev z1 (ns:List TN) (L:List Spot) (N:Nat):Prop:=∀ i,i<N→∀ j,j<(ay (nd ns i)).length→clo ns L i j
set_option maxHeartbeats 1000000 in
theorem Eu {G} (ns:List TN) (root:Int) (hN:ns.length≤2000) (hfl:∀ n∈ns,n.l.length≤1000000) (hk:kY ns) (hr:0≤root∧root<ns.length) {l:List Spot} (hl:Spots ns root l) :
  HP Tryz.prog G 28 [aF ns root] (fun r=>r=.d (aj (sdL ns.length l))):=by
 refine aP Tryz.func28 rfl (by decide +kernel) (by simp [Tryz.ntmps28]) (veil fun E=>?_)
 unfold aF
 obtain ⟨hr1,hr2⟩:=hr
 simp only [go_sem]
 refine ⟨⟨by omega,by omega,by omega,by omega⟩,⟨by omega,by omega⟩,?_⟩
 refine bL E [1] (.agg [.sl (some 4) (ns.map ah),i64 root]) rfl rfl ?_
 simp only [go_sem]
 rw [ye ⟨hr1,hr2⟩]
 refine dx E (X:={ x:List Spot × Bool // Fx ns root l x.1∧(x.2=false→z1 ns x.1 ns.length) }) (fun x=>[(1,.d (.ptr (.agg [.sl (some 4) (ns.map ah),i64 root]))),(3,.vw [14] 0 ns.length),(4,.d (.bool x.1.2))])
  (fun x=>[([14],.arr none ((sdL ns.length x.1.1).map i64))]) [14] (fun x=>2*unseen (univ ns.length) x.1.1+if x.1.2 then 1 else 0) ⟨([(root,1)],true),Fx.init hl,by simp⟩ ?_ ?_
 ·simp only [go_sem]
  all_goals rfl
 rintro ⟨⟨L,b⟩,hF,hc⟩ E0
 refine aR E0 fun Q' hQ E'=>?_
 simp only at hF hc ⊢
 simp only [go_sem]
 refine aX E' (fun h1=>?_) (fun h1=>?_)<;>simp only [go_sem]
 ·subst h1
  refine dx E' (X:={ y:List Spot × Bool × Nat // y.2.2≤ns.length∧Fx ns root l y.1∧unseen (univ ns.length) y.1≤unseen (univ ns.length) L∧(y.2.1=true→unseen (univ ns.length) y.1<unseen (univ ns.length) L)∧(y.2.1=false→z1 ns y.1 y.2.2) })
   (fun y=>[(1,.d (.ptr (.agg [.sl (some 4) (ns.map ah),i64 root]))),(3,.vw [14] 0 ns.length),(4,.d (.bool y.1.2.1)),(5,.d (i64 y.1.2.2))])
   (fun y=>[([14],.arr none ((sdL ns.length y.1.1).map i64))]) [14] (fun y=>ns.length-y.1.2.2) ⟨(L,false,0),Nat.zero_le _,hF,Nat.le_refl _,by simp,fun _ i hi=>absurd hi (Nat.not_lt_zero _)⟩ ?_ ?_
  ·simp only [go_sem]
   all_goals rfl
  rintro ⟨⟨L1,b1,i⟩,hi,hF1,hu1,hb1,hc1⟩ E1
  refine aR E1 fun Q1 hQ1 E2=>?_
  simp only at hi hF1 hu1 hb1 hc1 ⊢
  simp only [go_sem]
  refine ai E2 (fun h2=>?_) (fun h2=>?_)<;>simp only [go_sem]
  ·have hi':i<ns.length:=by omega
   refine ⟨by omega,?_⟩
   rw [bJ hi']
   simp only [go_sem]
   have hin:nd ns i∈ns:=by rw [jc hi'];exact List.getElem_mem hi'
   refine ae E2 (yM (nd ns i) (hfl _ hin)) rfl rfl (by simp) ?_
   rintro _ rfl
   unfold aj
   simp only [go_sem]
   have hki:=hk i hi'
   refine dx E2 (X:={ z:List Spot × Bool × Nat // z.2.2≤(ay (nd ns i)).length∧Fx ns root l z.1∧unseen (univ ns.length) z.1≤unseen (univ ns.length) L∧(z.2.1=true→unseen (univ ns.length) z.1<unseen (univ ns.length) L)∧(z.2.1=false→z1 ns z.1 i∧∀ j,j<z.2.2→clo ns z.1 i j) })
    (fun z=>[(1,.d (.ptr (.agg [.sl (some 4) (ns.map ah),i64 root]))),(3,.vw [14] 0 ns.length),(4,.d (.bool z.1.2.1)),(5,.d (i64 i)),(6,.d (.sl none ((ay (nd ns i)).map i64))),(7,.d (i64 z.1.2.2))])
    (fun z=>[([14],.arr none ((sdL ns.length z.1.1).map i64))]) [14] (fun z=>(ay (nd ns i)).length-z.1.2.2) ⟨(L1,b1,0),Nat.zero_le _,hF1,hu1,hb1,fun e=>⟨hc1 e,fun j hj=>absurd hj (Nat.not_lt_zero _)⟩⟩ ?_ ?_
   ·simp only [go_sem]
    all_goals rfl
   rintro ⟨⟨L2,b2,j⟩,hj,hF2,hu2,hb2,hc2⟩ E3
   refine aR E3 fun Q3 hQ3 E4=>?_
   simp only at hj hF2 hu2 hb2 hc2 ⊢
   simp only [go_sem]
   refine ai E4 (fun h3=>?_) (fun h3=>?_)<;>simp only [go_sem]
   ·refine ⟨by omega,?_⟩
    rw [eu hi']
    simp only [go_sem]
    have hj':j<(ay (nd ns i)).length:=by omega
    obtain ⟨K,hK⟩:∃ K:Nat,(ay (nd ns i)).getD j 0=(K:Int):=by
     have:=hki.1 _ (List.getElem_mem hj')
     exact ⟨((ay (nd ns i)).getD j 0).toNat,by rw [getD_eq hj'];omega⟩
    have hKN:K<ns.length:=by
     have:=hki.1 _ (List.getElem_mem hj')
     rw [getD_eq hj'] at hK
     omega
    refine ⟨by omega,?_⟩
    rw [bJ hi']
    simp only [go_sem]
    have hj0:decide ((j:Int)=0)=decide (j=0):=by
     rw [Bool.eq_iff_iff,decide_eq_true_iff,decide_eq_true_iff]
     omega
    repeat (first
     | (apply a8 E4;(· simp only [go_sem]);(· intro h;(try simp only [bq] at h);simp only [↓h,go_sem];rfl);simp only [go_sem])
     | (apply aJ E4;(· simp only [go_sem]);(· intro h;(try simp only [bq] at h);simp only [↓h,go_sem];rfl);(· intro h;(try simp only [bq] at h);simp only [↓h,go_sem];rfl);simp only [go_sem])
     | (apply aH E4;(· simp only [go_sem]);(· rfl);(· intro h h';(try simp only [bq] at h h');simp only [↓h,↓h',go_sem];rfl);simp only [go_sem])
     | (apply aA E4;(· simp only [go_sem]);(· rfl);(· intro h h';(try simp only [bq] at h h');simp only [↓h,↓h',go_sem];rfl);(· intro h h';(try simp only [bq] at h h');simp only [↓h,↓h',go_sem];rfl);simp only [go_sem])
     | (apply bj E4;(· decide);simp only [go_sem]))
    refine aX E4 (fun h6=>?_) (fun h6=>?_)<;>simp only [go_sem]
    ·have hw8:w64 (w64 ((sd L2 i).tmod 2*2)+w64 ((sd L2 i).tdiv 2))=p3 ns L2 i j:=by
      rw [p3,← hj0,if_pos h6]
      exact Gy (jK L2 i)
     rw [hw8]
     refine ⟨by omega,?_⟩
     rw [ef hj',hK]
     simp only [go_sem]
     refine ⟨by omega,?_⟩
     rw [eu hKN]
     simp only [go_sem]
     rw [Ej (jK L2 K) (mW ns L2 i j),vA hK]
     refine ai E4 (fun h7=>?_) (fun h7=>?_)<;>simp only [go_sem]
     ·refine ⟨by omega,?_⟩
      rw [ef hj',hK]
      simp only [go_sem]
      refine ⟨by omega,?_⟩
      rw [hQ3]
      simp only [go_sem]
      have hlt:=yH hl hF2 hj' h7
      refine ⟨⟨(L2++fE ns L2 i j,true,j+1),by show j+1≤_;omega,hF2.step hl hj',by show unseen _ (L2++fE ns L2 i j)≤_;omega,fun _=>by show unseen _ (L2++fE ns L2 i j)<_;omega,fun e=>by cases e⟩,by show (ay (nd ns i)).length-(j+1)<_;omega,⟨rfl,by rw [ab ⟨by omega,by omega⟩];rfl⟩,?_⟩
      rw [← vh hK,List.map_set]
     ·rw [hQ3]
      simp only [go_sem]
      refine ⟨⟨(L2,b2,j+1),by show j+1≤_;omega,hF2,hu2,hb2,fun e=>⟨(hc2 e).1,fun j' hj2=>?_⟩⟩,by show (ay (nd ns i)).length-(j+1)<_;omega,⟨rfl,by rw [ab ⟨by omega,by omega⟩];rfl⟩,rfl⟩
      rcases Nat.lt_or_ge j' j with h | h
      ·exact (hc2 e).2 j' h
      ·obtain rfl:j'=j:=by have:j' < j+1:=hj2;omega
       exact vd hK (Classical.not_not.1 h7)
    ·have hw8:sd L2 i=p3 ns L2 i j:=by rw [p3,← hj0,h6];rfl
     rw [hw8]
     refine ⟨by omega,?_⟩
     rw [ef hj',hK]
     simp only [go_sem]
     refine ⟨by omega,?_⟩
     rw [eu hKN]
     simp only [go_sem]
     rw [Ej (jK L2 K) (mW ns L2 i j),vA hK]
     refine ai E4 (fun h7=>?_) (fun h7=>?_)<;>simp only [go_sem]
     ·refine ⟨by omega,?_⟩
      rw [ef hj',hK]
      simp only [go_sem]
      refine ⟨by omega,?_⟩
      rw [hQ3]
      simp only [go_sem]
      have hlt:=yH hl hF2 hj' h7
      refine ⟨⟨(L2++fE ns L2 i j,true,j+1),by show j+1≤_;omega,hF2.step hl hj',by show unseen _ (L2++fE ns L2 i j)≤_;omega,fun _=>by show unseen _ (L2++fE ns L2 i j)<_;omega,fun e=>by cases e⟩,by show (ay (nd ns i)).length-(j+1)<_;omega,⟨rfl,by rw [ab ⟨by omega,by omega⟩];rfl⟩,?_⟩
      rw [← vh hK,List.map_set]
     ·rw [hQ3]
      simp only [go_sem]
      refine ⟨⟨(L2,b2,j+1),by show j+1≤_;omega,hF2,hu2,hb2,fun e=>⟨(hc2 e).1,fun j' hj2=>?_⟩⟩,by show (ay (nd ns i)).length-(j+1)<_;omega,⟨rfl,by rw [ab ⟨by omega,by omega⟩];rfl⟩,rfl⟩
      rcases Nat.lt_or_ge j' j with h | h
      ·exact (hc2 e).2 j' h
      ·obtain rfl:j'=j:=by have:j' < j+1:=hj2;omega
       exact vd hK (Classical.not_not.1 h7)
   ·rw [hQ3]
    simp only [go_sem]
    rw [hQ1]
    simp only [go_sem]
    refine ⟨⟨(L2,b2,i+1),by show i+1≤_;omega,hF2,hu2,hb2,fun e i' hi2 j' hj2=>?_⟩,by show ns.length-(i+1)<_;omega,⟨rfl,by rw [ab ⟨by omega,by omega⟩];rfl⟩,rfl⟩
    obtain ⟨g1,g2⟩:=hc2 e
    rcases Nat.lt_or_ge i' i with h | h
    ·exact g1 i' h j' hj2
    ·obtain rfl:i'=i:=by have:i' < i+1:=hi2;omega
     exact g2 j' (by omega)
  ·rw [hQ1]
   simp only [go_sem]
   rw [hQ]
   simp only [go_sem]
   obtain rfl:i=ns.length:=by omega
   refine ⟨⟨(L1,b1),hF1,hc1⟩,?_,rfl,rfl⟩
   cases b1
   ·simp only [Bool.false_eq_true,if_false]
    omega
   ·have:=hb1 rfl
    simp only [if_true]
    omega
 ·rw [hQ]
  simp only [go_sem]
  refine ⟨[([14],none,(sdL ns.length L).map i64)],?_⟩
  simp only [go_sem]
  rw [aj,List.take_of_length_le (by simp [j7]),hF.done hl (hc h1)]
end Go.Proofs.YthfodompfpdmgaaGreatDoor

namespace Go.Proofs.YthfodompfpdmgaaGreatDoor
open Go.Ab
theorem zY (l:List Spot) (i:Nat):2≤sd l i↔((i:Int),(2:Int))∈l:=by
 unfold sd
 by_cases h1:((i:Int),(1:Int))∈l<;>by_cases h2:((i:Int),(2:Int))∈l<;>simp [h1,h2]
theorem Aw (l:List Spot) (i:Nat):(sd l i).tmod 2=1↔((i:Int),(1:Int))∈l:=by
 unfold sd
 by_cases h1:((i:Int),(1:Int))∈l<;>by_cases h2:((i:Int),(2:Int))∈l<;>simp [h1,h2]
theorem Gh {G} (ns:List TN) (root:Int) (hs:Sane ns) (hm:ct ns root≠0):HP Tryz.prog G 9 [aF ns root] (fun r=>r=.d (i64 (ct ns root))):=by
 refine ao Tryz.func9 rfl (by decide +kernel) (by simp [Tryz.ntmps9]) (veil fun E=>?_)
 unfold aF
 simp only [go_sem]
 refine ae E (Bs ns root hs) rfl rfl (by simp) ?_
 rintro _ rfl
 simp only [go_sem]
 rw [decide_eq_true hm]
 simp only [go_sem]
set_option maxHeartbeats 1000000 in
theorem G5 {G} (ns:List TN) (root:Int) (hs:Sane ns) (hm:ct ns root=0) {l:List Spot} (hl:Spots ns root l):HP Tryz.prog G 9 [aF ns root] (fun r=>r=.d (i64 (if cj ns l then 0 else 12))):=by
 obtain ⟨⟨h2,h3⟩,h4,h5,h6⟩:=qt hm
 have c19:=Eu (G:=G) ns root h3 (fun n hn=>(hs.2 n hn).1) (ic h5) h4 hl
 refine ao Tryz.func9 rfl (by decide +kernel) (by simp [Tryz.ntmps9]) (veil fun E=>?_)
 unfold aF at c19 ⊢
 simp only [go_sem]
 refine ae E (Bs ns root hs) rfl rfl (by simp) ?_
 rintro _ rfl
 simp only [go_sem]
 rw [decide_eq_false (by simp [hm])]
 simp only [go_sem]
 refine ae E (c19) rfl rfl (by simp) ?_
 rintro _ rfl
 simp only [go_sem]
 refine bL E [1] (.agg [.sl (some 4) (ns.map ah),i64 root]) rfl rfl ?_
 unfold aj
 simp only [go_sem]
 refine bc E (X:={ k:Nat // k≤ns.length∧(List.range k).any (kx ns l)=false }) (fun x=>[(1,.d (.ptr (.agg [.sl (some 4) (ns.map ah),i64 root]))),(4,.d (.sl none ((sdL ns.length l).map i64))),(5,.d (i64 x.1))]) (fun x=>ns.length-x.1) rfl ⟨0,Nat.zero_le _,rfl⟩ ?_ ?_
 ·simp only [go_sem]
  all_goals rfl
 rintro ⟨k,hkl,hb⟩ E'
 simp only [go_sem]
 refine ai E' (fun h7=>?_) (fun h7=>?_)<;>simp only [go_sem]
 ·have hi':k<ns.length:=by omega
  have hsl:(sdL ns.length l).length=ns.length:=j7 _ _
  have bad:kx ns l k=true→cj ns l=false:=fun h=>by rw [cj,lx hi' h];rfl
  refine ⟨by omega,?_⟩
  rw [bJ hi']
  simp only [go_sem]
  refine aC E' (fun h9=>?_) (fun h9=>?_)<;>simp only [go_sem]
  ·refine ⟨by omega,?_⟩
   rw [eu hi']
   simp only [go_sem]
   refine aC E' (fun h8=>?_) (fun h8=>?_)<;>simp only [go_sem]
   ·rw [bad (by simp [kx,h9,(zY l k).1 h8])]
    rfl
   ·refine ⟨by omega,?_⟩
    rw [bJ hi']
    simp only [go_sem]
    refine aC E' (fun h10=>?_) (fun h10=>?_)
    ·omega
    simp only [go_sem]
    refine ⟨⟨k+1,by omega,iV hb (by simp [kx,h9,Not.imp h8 (zY l k).2])⟩,by show ns.length-(k+1)<_;omega,?_⟩
    rw [ab ⟨by omega,by omega⟩];rfl
  ·refine ⟨by omega,?_⟩
   rw [bJ hi']
   simp only [go_sem]
   refine aC E' (fun h10=>?_) (fun h10=>?_)<;>simp only [go_sem]
   ·refine ⟨by omega,?_⟩
    rw [eu hi']
    simp only [go_sem]
    refine ai E' (fun h8=>?_) (fun h8=>?_)<;>simp only [go_sem]
    ·rw [bad (by simp [kx,h10,(Aw l k).1 h8])]
     rfl
    ·refine ⟨⟨k+1,by omega,iV hb (by simp [kx,h10,Not.imp h8 (Aw l k).2])⟩,by show ns.length-(k+1)<_;omega,?_⟩
     rw [ab ⟨by omega,by omega⟩];rfl
   ·refine ⟨⟨k+1,by omega,iV hb (by simp [kx,h9,h10])⟩,by show ns.length-(k+1)<_;omega,?_⟩
    rw [ab ⟨by omega,by omega⟩];rfl
 ·have:k=ns.length:=by omega
  subst this
  rw [cj,hb]
  rfl
end Go.Proofs.YthfodompfpdmgaaGreatDoor

namespace Go.Proofs.YthfodompfpdmgaaGreatDoor
open Go.Ab
variable {t:TypeId} {fz:Nat × Nat}
theorem Fa {ns:List TN} (hk:kY ns):∀ (n m:Nat) (out todo:List Spot),todo.length=m→unseen (univ ns.length) out≤n→(∀ s∈todo,okS ns s)→(∀ s∈out,okS ns s)→unseen (univ ns.length) out+out.length≤2*ns.length →
  ∃ r,Dfs (bQ ns) out todo r∧(∀ s∈r,okS ns s)∧r.length≤2*ns.length:=by
 intro n
 induction n with
 | zero =>
   intro m
   induction m with
   | zero =>
     intro out todo hm _ _ ho hl
     have:todo=[]:=List.eq_nil_of_length_eq_zero hm
     subst this
     exact ⟨out,.done out,ho,by omega⟩
   | succ m ihm =>
     intro out todo hm hn ht ho hl
     obtain ⟨td,s,rfl⟩:∃ td s,todo=td++[s]:=⟨todo.dropLast,todo.getLast (by intro e;rw [e] at hm;simp at hm),(List.dropLast_concat_getLast _).symm⟩
     by_cases hs:s∈out
     ·obtain ⟨r,h1,h2⟩:=ihm out td (by simpa using hm) hn (fun x hx=>ht x (List.mem_append_left _ hx)) ho hl
      exact ⟨r,.skip hs h1,h2⟩
     ·have:=ft hs (jG (ht s (by simp)))
      omega
 | succ n ih =>
   intro m
   induction m with
   | zero =>
     intro out todo hm _ _ ho hl
     have:todo=[]:=List.eq_nil_of_length_eq_zero hm
     subst this
     exact ⟨out,.done out,ho,by omega⟩
   | succ m ihm =>
     intro out todo hm hn ht ho hl
     obtain ⟨td,s,rfl⟩:∃ td s,todo=td++[s]:=⟨todo.dropLast,todo.getLast (by intro e;rw [e] at hm;simp at hm),(List.dropLast_concat_getLast _).symm⟩
     by_cases hs:s∈out
     ·obtain ⟨r,h1,h2⟩:=ihm out td (by simpa using hm) hn (fun x hx=>ht x (List.mem_append_left _ hx)) ho hl
      exact ⟨r,.skip hs h1,h2⟩
     ·have hso:=ht s (by simp)
      have hlt:=ft hs (jG hso)
      obtain ⟨r,h1,h2⟩:=ih _ (out++[s]) (td++(bQ ns s).reverse) rfl (by omega) (fun x hx=>by
       rcases List.mem_append.1 hx with hx | hx
       ·exact ht x (List.mem_append_left _ hx)
       ·exact vu hk hso x (List.mem_reverse.1 hx)) (fun x hx=>by
       rcases List.mem_append.1 hx with hx | hx
       ·exact ho x hx
       ·rw [List.mem_singleton.1 hx];exact hso) (by rw [List.length_append,List.length_singleton];omega)
      exact ⟨r,.take hs h1,h2⟩
theorem zL {ns:List TN} {root:Int} (h:ct ns root=0):∃ l,Spots ns root l:=by
 obtain ⟨_,h4,h5,_⟩:=qt h
 have hu:unseen (univ ns.length) ([]:List Spot)≤2*ns.length:=by
  have:=List.countP_le_length (p:=fun x:Spot=>!decide (x∈([]:List Spot))) (l:=univ ns.length)
  rw [nT] at this
  exact this
 exact Fa (ic h5) _ _ [] [(root,1)] rfl (Nat.le_refl _) (fun s hs=>by rw [List.mem_singleton.1 hs];exact ⟨h4,.inl rfl⟩) (fun s hs=>by cases hs) (by simpa using hu)
theorem Am {s:EA} (h:gh s=true) (ha:s.al=true):s=⟨s.plus,true,false,false,false,false,false,false,[],0,0,[],[]⟩:=by
 obtain ⟨p,al,i,b,st,ar,rc,tg,vs,dm,cd,fl,tl⟩:=s
 simp only at ha
 subst ha
 cases i<;>cases b<;>cases st<;>cases ar<;>cases rc<;>cases tg<;>simp [gh] at h
 simp [h]
theorem Gf {R:List EA} (h:∀ s∈R,gh s=true):Wk (auR R) (auD R 0):=by
 refine Wk.agg rfl (by simp [D.scal]) fun i a b ha hb=>?_
 match i,ha,hb with
 | 1,ha,hb=>cases ha;cases hb;exact .refl _
 | 0,ha,hb =>
   cases ha;cases hb
   refine Wk.sl (by simp) (fun b hb=>by obtain ⟨n,_,rfl⟩:=List.mem_map.1 hb;exact ⟨rfl,by simp [stD,D.scal,aj,bP]⟩) fun i a b ha hb=>?_
   rw [List.getElem?_map,Option.map_eq_some_iff] at ha hb
   obtain ⟨s,hs,rfl⟩:=ha
   obtain ⟨s',hs',rfl⟩:=hb
   rw [hs] at hs'
   obtain rfl:=Option.some.inj hs'
   unfold stR
   split
   ·rename_i hal
    rw [Am (h s (List.mem_of_getElem? hs)) hal]
    refine ⟨rfl,fun j c d hc hd=>?_⟩
    match j,hc,hd with
    | 0,hc,hd=>cases hc;cases hd;exact .refl _
    | 1,hc,hd=>cases hc;cases hd;exact .refl _
    | 2,hc,hd=>cases hc;cases hd;exact .refl _
    | 3,hc,hd=>cases hc;cases hd;exact .refl _
    | 4,hc,hd=>cases hc;cases hd;exact .refl _
    | 5,hc,hd=>cases hc;cases hd;exact .refl _
    | 6,hc,hd=>cases hc;cases hd;exact .refl _
    | 7,hc,hd=>cases hc;cases hd;exact .refl _
    | 8,hc,hd=>cases hc;cases hd;exact .nils _
    | 9,hc,hd=>cases hc;cases hd;exact .refl _
    | 10,hc,hd=>cases hc;cases hd;exact .refl _
    | 11,hc,hd=>cases hc;cases hd;exact .nils _
    | 12,hc,hd=>cases hc;cases hd;exact .nils _
   ·refine ⟨rfl,fun j c d hc hd=>?_⟩
    rw [hc] at hd
    cases hd
    exact .refl _
theorem wG {ns:List TN} (h:(dp ns 14).length≤2000):(dp ns 14).length≤14:=by
 simp only [dp,List.length_map,List.length_take,dh] at h ⊢
 split at h<;>rename_i hc
 ·omega
 ·rw [if_neg hc];omega
theorem vj {ns:List TN} {root e:Int} (hm:ct ns root≠0) (h:Al ns root e):e=ct ns root:=by
 rcases h.2 with h | ⟨h,_⟩
 ·exact h
 ·exact absurd h hm
theorem Ah {ns:List TN} {root e:Int} (hm:ct ns root=0) (h:Al ns root e):e=12:=by
 rcases h.2 with h2 | ⟨_,h2,_⟩
 ·exact absurd (h2.trans hm) h.1
 ·exact h2
set_option maxHeartbeats 4000000 in
theorem rG {ds:List D} (h:oks tsT ds) (n:Int):HP Tryz.prog (GT t fz) 3 [.agg ds,i64 n] (fun r=>r=.d (.bool true)):=by
 obtain ⟨L,root,ns,rfl,hin⟩:=D4 h
 have hs:=BA hin 14 (by decide)
 have h14:=wG (ns:=ns)
 refine ao Tryz.func3 rfl (by decide +kernel) (by simp [Tryz.ntmps3]) (veil fun E=>?_)
 simp only [go_sem]
 refine ae E (GJ root 14 hin (by decide)) rfl rfl (by simp) ?_
 rintro _ rfl
 simp only [go_sem]
 have hff:=Cd ns
 obtain ⟨T,hT⟩:∃ T,T=dp ns 14:=⟨_,rfl⟩
 rw [← hT] at hs hff h14 ⊢
 clear hT hin h
 have hag:=zP (G:=GT t fz) T root 14 hs (by decide)
 rw [hff] at hag
 have hw1:=se T root
 have hwt:WkL [cC T root] [aF T root]:=⟨hw1,trivial⟩
 have hwn:∀ k:Int,WkL [cC T root,i64 k] [aF T root,i64 k]:=fun k=>⟨hw1,.refl _,trivial⟩
 unfold cC at hag ⊢
 simp only [go_sem]
 refine ae E (hag) rfl rfl (by simp) ?_
 rintro _ rfl
 simp only [go_sem]
 by_cases hm:ct T root=0
 ·obtain ⟨l,hl⟩:=zL hm
  have c9:=(G5 (G:=GT t fz) T root hs hm hl).wk hwt
  cases hp:cj T l with
  | false =>
    have hall:∀ m,Spots T root m→cj T m=false:=fun m hm'=>by rw [← hl.1.fn hm'.1];exact hp
    have c7:HP Tryz.prog (GT t fz) 7 [cC T root,i64 n] (fun r=>r=.tup [.d (.agg [.nils,i64 0]),.d (i64 12)]):=(lN (uB (G:=GT t fz) T root n hs (.inr hall)) fun r ⟨e,he,hr⟩=>by rw [hr,Ah hm he]).wk (hwn n)
    have c8:HP Tryz.prog (GT t fz) 8 [cC T root] (fun r=>r=.tup [.d (i64 0),.d (i64 12)]):=(lN (zr (G:=GT t fz) T root hs (.inr hall)) fun r ⟨e,he,hr⟩=>by rw [hr,Ah hm he]).wk hwt
    rw [hp] at c9
    unfold cC at c7 c8 c9
    refine ae E (c7) rfl rfl (by simp) ?_
    rintro _ rfl
    simp only [go_sem]
    refine ae E (hag) rfl rfl (by simp) ?_
    rintro _ rfl
    simp only [go_sem]
    refine ae E (c8) rfl rfl (by simp) ?_
    rintro _ rfl
    simp only [go_sem]
    refine ae E (c9) rfl rfl (by simp) ?_
    rintro _ rfl
    simp only [go_sem]
    refine ae E (nS) rfl rfl (by simp) ?_
    rintro _ rfl
    simp only [go_sem]
  | true =>
    have hall:∀ m,Spots T root m→cj T m=true:=fun m hm'=>by rw [← hl.1.fn hm'.1];exact hp
    have ty:=Bk hm
    have hN:T.length≤14:=h14 ty.inn.len
    rw [hp] at c9
    have c7:=(yg (t:=t) (fz:=fz) T root n hs ty.inn ty.alls ty.rt hm hall).wk (hwn n)
    have c8:=(Ei (t:=t) (fz:=fz) T root hs ty.inn ty.alls ty.rt hm hall).wk hwt
    obtain ⟨M,hM⟩:∃ M,M=(if 60<n then (60:Int) else n):=⟨_,rfl⟩
    have hM1:M≤60:=by rw [hM];split<;>omega
    have hM2:M≤pI n:=by rw [hM,pI];split<;>split<;>omega
    have hM3:¬ 60<n→pI n=M:=fun g=>by rw [hM,pI,if_neg g,if_neg (by omega)]
    have c11:=(Gu (G:=GT t fz) T root M ty hN (by omega)).wk (hwn M)
    cases hr:dW T M 2001 [] (ak [] (ofC T true [root])).2 with
    | some R =>
      have r1:jw T root n=some R:=iK hM2 2001 hr
      have r2:jw T root 2000=some R:=iK (show M≤pI 2000 by rw [pI,if_neg (by omega)];omega) 2001 hr
      obtain ⟨e1,e2,e3⟩:=C7 ty (n:=M) (by omega) hr
      have c12:=ED (G:=GT t fz) R 0 (by omega) e2
      have c14:=FE (G:=GT t fz) R 0 (by omega) e2
      have c13:=(F1 (G:=GT t fz) R 0 (by omega) e2).wk (show WkL [auD R 0,auR R] [auD R 0,auD R 0] from ⟨.refl _,Gf fun s hs'=>by
       have:=(DH e1).rt s hs'
       simp only [cT,Bool.and_eq_true] at this
       exact this.1.1.1.1.1,trivial⟩)
      rw [r1] at c7
      rw [r2] at c8
      rw [hr] at c11
      rw [e1] at c12
      unfold tn auD at c7
      simp only at c8
      unfold Fo auR at c11
      unfold auD at c12 c14
      unfold auD auR at c13
      unfold cC at c7 c8 c9 c11
      refine ae E (c7) rfl rfl (by simp) ?_
      rintro _ rfl
      simp only [go_sem]
      refine ae E (hag) rfl rfl (by simp) ?_
      rintro _ rfl
      simp only [go_sem]
      refine ae E (c8) rfl rfl (by simp) ?_
      rintro _ rfl
      simp only [go_sem]
      refine ae E (c9) rfl rfl (by simp) ?_
      rintro _ rfl
      simp only [go_sem]
      rw [← hM]
      refine ae E (c11) rfl rfl (by simp) ?_
      rintro _ rfl
      simp only [go_sem]
      refine ag mixed E fun X=>?_
      simp only [go_sem]
      refine bo X c12 rfl rfl (by simp) ?_
      simp only [go_sem]
      refine bo X c14 rfl rfl (by simp) ?_
      simp only [go_sem]
      refine bo X c13 rfl rfl (by simp) ?_
      simp only [go_sem]
      refine bo X nS rfl rfl (by simp) ?_
      simp only [go_sem]
      decide +kernel
    | none =>
      rw [hr] at c11
      unfold Fo at c11
      by_cases h60:60<n
      ·generalize hO:jw T root n=O at c7
       generalize hP:jw T root 2000=P at c8
       have k7:∃ x y,tn O=.tup [.d x,.d (i64 y)]∧∃ u v,x=.agg [u,i64 v]:=by
        cases O with
        | none=>exact ⟨_,_,rfl,_,_,rfl⟩
        | some L=>exact ⟨_,_,rfl,_,_,rfl⟩
       obtain ⟨x,y,hxy,u,v,rfl⟩:=k7
       rw [hxy] at c7
       obtain ⟨a,b,c8⟩:∃ a b:Int,HP Tryz.prog (GT t fz) 8 [cC T root] (fun r=>r=.tup [.d (i64 a),.d (i64 b)]):=by
        cases P with
        | none=>exact ⟨_,_,c8⟩
        | some L=>exact ⟨_,_,c8⟩
       unfold cC at c7 c8 c9 c11
       refine ae E (c7) rfl rfl (by simp) ?_
       rintro _ rfl
       simp only [go_sem]
       refine ae E (hag) rfl rfl (by simp) ?_
       rintro _ rfl
       simp only [go_sem]
       refine ae E (c8) rfl rfl (by simp) ?_
       rintro _ rfl
       simp only [go_sem]
       refine ae E (c9) rfl rfl (by simp) ?_
       rintro _ rfl
       simp only [go_sem]
       rw [← hM]
       refine ae E (c11) rfl rfl (by simp) ?_
       rintro _ rfl
       simp only [go_sem]
       refine ai E (fun _=>?_) (fun g=>absurd h60 g)
       simp only [go_sem]
       refine ae E (nS) rfl rfl (by simp) ?_
       rintro _ rfl
       simp only [go_sem]
      ·have r1:jw T root n=none:=by rw [jw,hM3 h60];exact hr
       rw [r1] at c7
       unfold tn at c7
       generalize hP:jw T root 2000=P at c8
       obtain ⟨a,b,c8⟩:∃ a b:Int,HP Tryz.prog (GT t fz) 8 [cC T root] (fun r=>r=.tup [.d (i64 a),.d (i64 b)]):=by
        cases P with
        | none=>exact ⟨_,_,c8⟩
        | some L=>exact ⟨_,_,c8⟩
       unfold cC at c7 c8 c9 c11
       refine ae E (c7) rfl rfl (by simp) ?_
       rintro _ rfl
       simp only [go_sem]
       refine ae E (hag) rfl rfl (by simp) ?_
       rintro _ rfl
       simp only [go_sem]
       refine ae E (c8) rfl rfl (by simp) ?_
       rintro _ rfl
       simp only [go_sem]
       refine ae E (c9) rfl rfl (by simp) ?_
       rintro _ rfl
       simp only [go_sem]
       rw [← hM]
       refine ae E (c11) rfl rfl (by simp) ?_
       rintro _ rfl
       simp only [go_sem]
       refine ai E (fun g=>absurd g h60) (fun _=>?_)
       simp only [go_sem]
       refine ae E (nS) rfl rfl (by simp) ?_
       rintro _ rfl
       simp only [go_sem]
 ·have c9:=(Gh (G:=GT t fz) T root hs hm).wk hwt
  have c7:HP Tryz.prog (GT t fz) 7 [cC T root,i64 n] (fun r=>r=.tup [.d (.agg [.nils,i64 0]),.d (i64 (ct T root))]):=(lN (uB (G:=GT t fz) T root n hs (.inl hm)) fun r ⟨e,he,hr⟩=>by rw [hr,vj hm he]).wk (hwn n)
  have c8:HP Tryz.prog (GT t fz) 8 [cC T root] (fun r=>r=.tup [.d (i64 0),.d (i64 (ct T root))]):=(lN (zr (G:=GT t fz) T root hs (.inl hm)) fun r ⟨e,he,hr⟩=>by rw [hr,vj hm he]).wk hwt
  unfold cC at c7 c8 c9
  refine ae E (c7) rfl rfl (by simp) ?_
  rintro _ rfl
  simp only [go_sem]
  refine ae E (hag) rfl rfl (by simp) ?_
  rintro _ rfl
  simp only [go_sem]
  refine ae E (c8) rfl rfl (by simp) ?_
  rintro _ rfl
  simp only [go_sem]
  refine ae E (c9) rfl rfl (by simp) ?_
  rintro _ rfl
  simp only [go_sem]
  refine ai E (fun _=>?_) (fun g=>absurd hm g)
  simp only [go_sem]
  refine ae E (nS) rfl rfl (by simp) ?_
  rintro _ rfl
  simp only [go_sem]
end Go.Proofs.YthfodompfpdmgaaGreatDoor

