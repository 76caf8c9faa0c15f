/-
  The document's tree: whether a tree may be. (with the parts that follow it)
-/
import Derived.Test.YtejpnabbmgpmaaaGreatDoorVAF
import Derived.Test.YtejpnabbmgpmaaaGreatDoorVAH
import Derived.Test.YtejpnabbmgpmaaaGreatDoorVAG
import Derived.Test.YtejpnabbmgpmaaaGreatDoorVAC
import Derived.Test.YtejpnabbmgpmaaaGreatDoorVAE
set_option linter.all false
namespace Go.Proofs.YtejpnabbmgpmaaaGreatDoor
open Go.Ab
theorem D8 {ns:List EN} {i:Nat} {k:Int} (hk:k∈an (ndE ns i)) (h:inB i k=false):cA ns i=false:=by
 have:(an (ndE ns i)).all (inB i)=false:=List.all_eq_false.2 ⟨k,hk,by rw [h];decide⟩
 unfold cA
 rw [show ((an (ndE ns i)).all fun k=>decide (0≤k) && decide (k<(i:Int)))=false from this,Bool.false_and]
theorem Ak {ns:List EN} {i:Nat} (h:(an (ndE ns i)).all (inB i)=true):cA ns i=(decide ((ndE ns i).k≠8) || decide ((ndE ns (ndE ns i).a.toNat).k=5)):=by
 unfold cA
 rw [show ((an (ndE ns i)).all fun k=>decide (0≤k) && decide (k<(i:Int)))=true from h,Bool.true_and]
set_option maxHeartbeats 4000000 in
theorem GD {G} (ns:List EN) (hs:∀ n∈ns,eu BIG n) (hN:ns.length≤1000000):HP Tryz.prog G 10 [exD ns] (fun r=>r=.d (i64 (eX ns))):=by
 generalize hb:eX ns=b
 unfold eX at hb
 unfold exD
 refine aj Tryz.func10 rfl (by decide +kernel) (by simp [Tryz.ntmps10]) (veil fun E=>?_)
 simp only [go_sem]
 repeat (first
  | (apply br E;(· simp only [go_sem]);(· intro h;(try simp only [bq] at h);simp only [↓h,go_sem];rfl);simp only [go_sem])
  | (apply aK E;(· simp only [go_sem]);(· intro h;(try simp only [bq] at h);simp only [↓h,go_sem];rfl);(· intro h;(try simp only [bq] at h);simp only [↓h,go_sem];rfl);simp only [go_sem])
  | (apply aI E;(· simp only [go_sem]);(· rfl);(· intro h h';(try simp only [bq] at h h');simp only [↓h,↓h',go_sem];rfl);simp only [go_sem])
  | (apply aw E;(· simp only [go_sem]);(· rfl);(· intro h h';(try simp only [bq] at h h');simp only [↓h,↓h',go_sem];rfl);(· intro h h';(try simp only [bq] at h h');simp only [↓h,↓h',go_sem];rfl);simp only [go_sem])
  | (apply bo E;(· decide);simp only [go_sem]))
 refine aG E (fun g=>?_) (fun g=>?_)
 ·simp only [go_sem]
  simp only [Bool.or_eq_true,decide_eq_true_eq] at g
  rw [if_pos (by omega)] at hb
  rw [← hb]
 have g':0<ns.length∧ns.length≤600:=by
  simp only [Bool.or_eq_false_iff,decide_eq_false_iff_not] at g
  omega
 rw [if_neg (by omega)] at hb
 simp only [go_sem]
 refine ak mixed E fun X=>?_
 simp only [go_sem]
 refine Fo X (d:=22) (t:=58) (e:=3) (n:=ns.length) (z:=i64 0) (by rw [EP]) (by rw [ti3];rfl) (by rw [ti3];rfl) rfl rfl (by rw [ti3];exact ⟨by simp only;omega,by omega⟩) ⟨by simp only [go_sem],by rw [aa];decide⟩ ?_
 simp only [go_sem]
 refine Fo X (d:=26) (t:=58) (e:=3) (n:=ns.length) (z:=i64 0) (by rw [EP]) (by rw [ti3];rfl) (by rw [ti3];rfl) rfl rfl (by rw [ti3];exact ⟨by simp only;omega,by omega⟩) ⟨by simp only [go_sem],by rw [aa];decide⟩ ?_
 simp only [go_sem]
 refine ⟨by decide +kernel,?_⟩
 have hs':∀ n∈ns,n.l.length≤1000000:=fun n hn=>(hs n hn).l
 refine cI E (X:={ i:Nat // i≤ns.length∧∀ j,j<i→okI ns j=true }) (fun x=>[(1,.bx [1] 0),(2,.d (i64 0)),(3,.vw [22] 0 ns.length),(4,.vw [26] 0 ns.length),(5,.d (i64 x.1))])
  (fun x=>[([1],.box [.d (.sl (some 9) (ns.map enD))]),([22],.arr none ((cnts ns x.1).map i64)),([26],.arr none ((gC ns x.1).map i64))]) [1,22,26] (fun x=>ns.length-x.1) ⟨0,Nat.zero_le _,fun j h=>absurd h (Nat.not_lt_zero _)⟩ ?_ ?_
 ·rw [show cnts ns 0=List.replicate ns.length 0 by simp [cnts,bumps],oE,List.map_replicate]
  simp only [go_sem]
  all_goals first | rfl | exact ⟨rfl,rfl⟩ | exact ⟨rfl,rfl,rfl⟩
 rintro ⟨i,hi,hok⟩ E0
 refine aO E0 fun Q' hQ E'=>?_
 simp only at hi hok ⊢
 simp only [go_sem]
 refine ah E' (fun g1=>?_) (fun g1=>?_)<;>simp only [go_sem]
 ·have hi':i<ns.length:=by omega
  have hg:=bA hi'
  have hsn:=hs _ (by rw [bX hi'];exact List.getElem_mem hi':ndE ns i∈ns)
  have hc1:=Gt (G:=G) _ hsn
  have hc2:=FC (G:=G) _ hsn.l
  have hok1:okI ns i=(aH (ndE ns i) && cA ns i):=rfl
  have hcs:=kG hi'
  have hdt:=oX hi'
  rw [qM] at hdt
  have hlno:∀ k∈an (ndE ns i),inB i k=false→cA ns i=false:=fun k h1 h2=>D8 h1 h2
  have hlrec:=Ak (ns:=ns) (i:=i)
  have bad:okI ns i=false→okE ns=false:=fun h=>List.all_eq_false.2 ⟨i,List.mem_range.2 hi',by
   show ¬ okI ns i=true
   rw [h];decide⟩
  have good:okI ns i=true→∀ j,j<i+1→okI ns j=true:=fun h j hj=>by
   by_cases e:j=i
   ·rw [e];exact h
   ·exact hok j (by omega)
  obtain ⟨n,hne⟩:∃ n,n=ndE ns i:=⟨_,rfl⟩
  rw [← hne] at hg hsn hc1 hc2 hok1 hcs hdt hlno hlrec
  generalize aH n=x at hc1 hok1
  generalize cA ns i=y at hlno hlrec hok1
  obtain ⟨K,hK⟩:∃ K,K=an n:=⟨_,rfl⟩
  have hKl:K.length≤1000003:=by rw [hK,dn];unfold cj;have:=cG n.k;have:=hsn.l;split<;>omega
  rw [← hK] at hc2 hcs hdt hlno hlrec
  obtain ⟨hd1,hd2⟩:=dq (ns:=ns) (i:=i) hi
  have hcb:=pW hs' hi
  have hcl:=fu ns i
  rw [show gC ns i=dk ns i 0 by unfold gC;rw [if_pos hi']]
  refine ⟨⟨by omega,by omega⟩,?_⟩
  rw [hg]
  simp only [go_sem]
  refine ab E' hc1 rfl rfl (by simp) ?_
  rintro _ rfl
  simp only [go_sem]
  refine aG E' (fun h1=>?_) (fun h1=>?_)<;>simp only [go_sem]
  ·have hx:x=false:=by simpa using h1
   rw [hQ]
   simp only [go_sem]
   rw [bad (by rw [hok1,hx];rfl),Bool.false_and] at hb
   rw [← hb]
   rfl
  have hx:x=true:=by simpa using h1
  refine ⟨⟨by omega,by omega⟩,?_⟩
  rw [hg]
  simp only [go_sem]
  refine ab E' hc2 rfl rfl (by simp) ?_
  rintro _ rfl
  simp only [go_sem]
  refine cI E' (X:={ q:Nat // q≤K.length∧(K.take q).all (inB i)=true }) (fun x=>[(1,.bx [1] 0),(2,.d (i64 0)),(3,.vw [22] 0 ns.length),(4,.vw [26] 0 ns.length),(5,.d (i64 i)),(6,.d (.sl none (K.map i64))),(7,.d (i64 x.1))])
   (fun x=>[([1],.box [.d (.sl (some 9) (ns.map enD))]),([22],.arr none ((bumps (cnts ns i) (K.take x.1)).map i64)),([26],.arr none ((dk ns i (mx (bH ns i) (K.take x.1))).map i64))]) [1,22,26] (fun x=>K.length-x.1) ⟨0,Nat.zero_le _,by simp⟩ ?_ ?_
  ·simp only [go_sem]
   all_goals first | rfl | exact ⟨rfl,rfl⟩ | exact ⟨rfl,rfl,rfl⟩
  rintro ⟨q,hq,hall⟩ E2
  refine aO E2 fun Q2 hQ2 E3=>?_
  simp only at hq hall ⊢
  have hal:=rz hi' (mx (bH ns i) (K.take q))
  have hmb:=Cw hd2 (K.take q)
  have hbl:=ec (K.take q) (cnts ns i)
  have htl:(K.take q).length≤1000003:=by rw [List.length_take];omega
  simp only [go_sem]
  refine ah E3 (fun g2=>?_) (fun g2=>?_)<;>simp only [go_sem]
  ·have hq':q<K.length:=by omega
   have hkm:K[q]∈K:=List.getElem_mem hq'
   have hbd:=(hcb.bumps (ks:=K.take q)).get K[q].toNat
   refine ⟨⟨by omega,by omega⟩,?_⟩
   rw [aR hq',show K.getD q 0=K[q] by simp [hq']]
   simp only [go_sem]
   refine ar E3 (fun g3=>?_) (fun g3=>?_)
   ·simp only [go_sem]
    have g5:inB i K[q]=false:=by
     rw [Bool.eq_false_iff]
     intro hc
     simp only [inB,Bool.and_eq_true,decide_eq_true_eq] at hc
     omega
    rw [hQ2]
    simp only [go_sem]
    rw [hQ]
    simp only [go_sem]
    rw [bad (by rw [hok1,hlno _ hkm g5,Bool.and_false]),Bool.false_and] at hb
    rw [← hb]
    try rfl
   ·simp only [go_sem]
    refine ⟨⟨by omega,by omega⟩,?_⟩
    rw [aR hq',show K.getD q 0=K[q] by simp [hq']]
    simp only [go_sem]
    refine ah E3 (fun g4=>?_) (fun g4=>?_)<;>simp only [go_sem]
    ·have g5:inB i K[q]=false:=by
      rw [Bool.eq_false_iff]
      intro hc
      simp only [inB,Bool.and_eq_true,decide_eq_true_eq] at hc
      omega
     rw [hQ2]
     simp only [go_sem]
     rw [hQ]
     simp only [go_sem]
     rw [bad (by rw [hok1,hlno _ hkm g5,Bool.and_false]),Bool.false_and] at hb
     rw [← hb]
     try rfl
    have g5:inB i K[q]=true:=by
     unfold inB
     rw [decide_eq_true (show 0≤K[q] by omega),decide_eq_true (show K[q]<(i:Int) by omega)]
     rfl
    refine ⟨⟨by omega,by omega⟩,?_⟩
    rw [aR hq',show K.getD q 0=K[q] by simp [hq']]
    simp only [go_sem]
    refine ⟨⟨by omega,by omega⟩,?_⟩
    rw [aR (by omega)]
    simp only [go_sem]
    refine ⟨⟨by omega,by omega⟩,?_⟩
    rw [ai (n:=(bumps (cnts ns i) (K.take q)).getD K[q].toNat 0+1) ⟨by omega,by omega⟩]
    rw [show (List.map i64 (bumps (cnts ns i) (K.take q))).set K[q].toNat (.int .i64 ((bumps (cnts ns i) (K.take q)).getD K[q].toNat 0+1))=(bumps (cnts ns i) (K.take (q+1))).map i64 by
     rw [List.take_succ_eq_append_getElem hq',l5];unfold bump;rw [List.map_set]]
    refine ak mixed E3 fun X=>?_
    simp only [go_sem]
    refine ⟨⟨by omega,by omega⟩,?_⟩
    rw [aR (by omega),jQ hi']
    simp only [go_sem]
    refine ⟨⟨by omega,by omega⟩,?_⟩
    rw [aR hq',show K.getD q 0=K[q] by simp [hq']]
    simp only [go_sem]
    refine ⟨⟨by omega,by omega⟩,?_⟩
    rw [aR (by omega),tj hi _ (show K[q].toNat<i by omega)]
    simp only [go_sem]
    refine ⟨⟨by omega,by omega⟩,?_⟩
    refine ⟨by decide +kernel,?_⟩
    rw [ai (n:=(q:Int)+1) ⟨by omega,by omega⟩]
    rw [show (List.map i64 (dk ns i (mx (bH ns i) (K.take q)))).set i (.int .i64 (if (bH ns i).getD K[q].toNat 0 > mx (bH ns i) (K.take q) then (bH ns i).getD K[q].toNat 0 else mx (bH ns i) (K.take q)))=(dk ns i (mx (bH ns i) (K.take (q+1)))).map i64 by
     rw [List.take_succ_eq_append_getElem hq',wE,zo,← List.map_set,jj hi']]
    rw [hQ2]
    simp only [go_sem]
    refine ⟨⟨q+1,by omega,by rw [List.take_succ_eq_append_getElem hq',List.all_append,hall];simpa using g5⟩,by show K.length-(q+1)<_;omega,?_⟩
    first | rfl | exact ⟨rfl,rfl⟩ | exact ⟨rfl,rfl,rfl⟩
  ·rw [hQ2]
   have h3:q=K.length:=by omega
   subst h3
   rw [List.take_length] at *
   simp only [go_sem]
   refine ⟨⟨by omega,by omega⟩,?_⟩
   rw [aR (by omega),jQ hi']
   simp only [go_sem]
   refine ⟨⟨by omega,by omega⟩,?_⟩
   rw [ai (n:=mx (bH ns i) K+1) ⟨by omega,by omega⟩]
   rw [show (List.map i64 (dk ns i (mx (bH ns i) K))).set i (.int .i64 (mx (bH ns i) K+1))=(gC ns (i+1)).map i64 by
    rw [← hdt,← List.map_set,jj hi'],← hcs]
   have hy:=hlrec hall
   refine ak mixed E' fun X=>?_
   simp only [go_sem]
   refine ⟨⟨by omega,by omega⟩,?_⟩
   rw [hg]
   simp only [go_sem]
   refine CH X (fun k8=>?_) (fun k8=>?_)<;>simp only [go_sem]
   ·have hka:K=[n.a,n.b]:=by rw [hK];unfold an;rw [k8];rfl
    have ha:0≤n.a∧n.a<(i:Int):=by
     rw [hka] at hall
     simp only [List.all_cons,inB,Bool.and_eq_true,decide_eq_true_eq] at hall
     exact hall.1
    rw [fV]
    simp only [go_sem]
    refine ⟨⟨by omega,by omega⟩,?_⟩
    rw [hg]
    simp only [go_sem]
    refine ⟨⟨by omega,by omega⟩,?_⟩
    rw [bA (show n.a.toNat<ns.length by omega)]
    simp only [go_sem]
    refine ⟨by decide +kernel,?_⟩
    rw [decide_eq_false (show ¬ n.k≠8 from fun h=>h k8),Bool.false_or] at hy
    refine ah E' (fun g6=>?_) (fun g6=>?_)<;>simp only [go_sem]
    ·rw [hQ]
     simp only [go_sem]
     rw [bad (by rw [hok1,hy,decide_eq_false g6,Bool.and_false]),Bool.false_and] at hb
     rw [← hb]
     try rfl
    ·rw [hQ]
     simp only [go_sem]
     rw [ai (n:=(i:Int)+1) ⟨by omega,by omega⟩]
     refine ⟨⟨i+1,by omega,good (by rw [hok1,hx,hy,decide_eq_true (by simpa using g6)];rfl)⟩,by show ns.length-(i+1)<_;omega,?_⟩
     first | rfl | exact ⟨rfl,rfl⟩ | exact ⟨rfl,rfl,rfl⟩
   ·rw [decide_eq_true (show n.k≠8 from k8),Bool.true_or] at hy
    refine ⟨by decide +kernel,?_⟩
    rw [hQ]
    simp only [go_sem]
    rw [ai (n:=(i:Int)+1) ⟨by omega,by omega⟩]
    refine ⟨⟨i+1,by omega,good (by rw [hok1,hx,hy];rfl)⟩,by show ns.length-(i+1)<_;omega,?_⟩
    first | rfl | exact ⟨rfl,rfl⟩ | exact ⟨rfl,rfl,rfl⟩
 ·rw [hQ]
  have h3:i=ns.length:=by omega
  subst h3
  simp only [go_sem]
  have hokE:okE ns=true:=List.all_eq_true.2 fun j hj=>hok j (List.mem_range.1 hj)
  have hkk:∀ i,i<ns.length→(an (ndE ns i)).all (inB i)=true:=fun i hi=>by
   have:=hok i hi
   unfold okI at this
   rw [Bool.and_eq_true] at this
   exact qq this.2
  have hoa:=tN hkk
  have hcl:=fu ns ns.length
  have hdl:=(dq (ns:=ns) (Nat.le_refl _)).1
  unfold bH at hdl
  rw [List.take_length] at hdl
  rw [hokE,Bool.true_and] at hb
  rw [show gC ns ns.length=eA ns [] by unfold gC;rw [if_neg (Nat.lt_irrefl _)]]
  generalize cnts ns ns.length=C at hoa hcl ⊢
  refine cI E (X:={ j:Nat // j≤ns.length-1∧(C.take j).any (fun c=>!decide (c=1))=false }) (fun x=>[(1,.bx [1] 0),(2,.d (i64 0)),(3,.vw [22] 0 ns.length),(4,.vw [26] 0 ns.length),(8,.d (i64 x.1))])
   (fun _=>[([1],.box [.d (.sl (some 9) (ns.map enD))]),([22],.arr none (C.map i64)),([26],.arr none ((eA ns []).map i64))]) [1,22,26] (fun x=>ns.length-x.1) ⟨0,Nat.zero_le _,by simp⟩ ?_ ?_
  ·simp only [go_sem]
   all_goals first | rfl | exact ⟨rfl,rfl⟩
  rintro ⟨j,hj,hone⟩ E2
  refine aO E2 fun Q2 hQ2 E3=>?_
  simp only at hj hone ⊢
  simp only [go_sem]
  rw [ai (n:=(ns.length:Int)-1) ⟨by omega,by omega⟩]
  refine ah E3 (fun g2=>?_) (fun g2=>?_)<;>simp only [go_sem]
  ·have hjc:j<C.length:=by omega
   refine ⟨⟨by omega,by omega⟩,?_⟩
   rw [aR hjc,show C.getD j 0=C[j] by simp [hjc]]
   simp only [go_sem]
   refine ah E3 (fun g3=>?_) (fun g3=>?_)<;>simp only [go_sem]
   ·rw [hQ2]
    simp only [go_sem]
    have hm:C[j]∈C.take (ns.length-1):=List.mem_iff_getElem.2 ⟨j,by rw [List.length_take];omega,by rw [List.getElem_take]⟩
    have:(C.take (ns.length-1)).any (fun c=>!decide (c=1))=true:=List.any_eq_true.2 ⟨_,hm,by simpa using g3⟩
    rw [this] at hoa
    rw [show kW ns=false by simpa using hoa.symm] at hb
    rw [← hb]
    rfl
   ·rw [hQ2]
    simp only [go_sem]
    rw [ai (n:=(j:Int)+1) ⟨by omega,by omega⟩]
    refine ⟨⟨j+1,by omega,iB hjc hone (by simpa using g3)⟩,by show ns.length-(j+1)<_;omega,?_⟩
    first | rfl | exact ⟨rfl,rfl⟩ | exact ⟨rfl,rfl,rfl⟩
  ·rw [hQ2]
   have h4:j=ns.length-1:=by omega
   subst h4
   rw [hone] at hoa
   rw [show kW ns=true by simpa using hoa.symm,if_pos rfl] at hb
   unfold qP at hb
   simp only [go_sem]
   rw [ai (n:=(ns.length:Int)-1) ⟨by omega,by omega⟩]
   refine ⟨⟨by omega,by omega⟩,?_⟩
   rw [show ((ns.length:Int)-1).toNat=ns.length-1 by omega,aR (by omega)]
   simp only [go_sem]
   refine ah E (fun k2=>?_) (fun k2=>?_)<;>simp only [go_sem]
   ·rw [if_pos k2] at hb
    rw [← hb]
    try rfl
   ·rw [if_neg k2] at hb
    rw [← hb]
    try rfl
end Go.Proofs.YtejpnabbmgpmaaaGreatDoor

namespace Go.Proofs.YtejpnabbmgpmaaaGreatDoor
open Go.Ab
def rl (n:EN):EN:={ n with l:=n.l.take 60 }
def lj (ns:List EN):List EN:=(ns.take 700).map rl
theorem Fq {G} (ns:List EN) (hl:ns.length≤9223372036854775807) (hll:∀ n∈ns,n.l.length≤9223372036854775807):HP Tryz.prog G 8 [exD ns] (fun r=>r=.d (exD (lj ns))):=by
 unfold exD
 refine aL Tryz.func8 rfl (by decide +kernel) (by simp [Tryz.ntmps8]) (veil fun E=>?_)
 simp only [go_sem]
 refine jg E [3] 0 99 (some 9) [.d .nils] rfl rfl (by rw [aa];decide) ?_
 simp only [go_sem]
 refine aC E (X:={ i:Nat // i≤ns.length∧i≤700 }) (fun x=>[(1,.bx [1] 0),(2,.bx [2] 0),(3,.bx [3] 0),(4,.d (i64 x.1))])
  (fun x=>[([1],.box [.d (.sl (some 9) (ns.map enD))]),([2],.box [.d .nils]),([3],.box [.vw [99] 0 x.1]),([99],.arr (some 9) (((ns.take x.1).map rl).map enD))]) [1,2,3,99] (fun x=>ns.length-x.1) ⟨0,by simp⟩ id ?_ ?_
 ·simp only [go_sem]
  all_goals first | rfl | exact ⟨rfl,rfl⟩
 rintro ⟨i,hi,hi7⟩ E0
 refine aO E0 fun Q' hQ E'=>?_
 simp only at hi hi7 ⊢
 simp only [go_sem]
 repeat (first
  | (apply br E';(· simp only [go_sem]);(· intro h;(try simp only [bq] at h);simp only [↓h,go_sem];rfl);simp only [go_sem])
  | (apply aK E';(· simp only [go_sem]);(· intro h;(try simp only [bq] at h);simp only [↓h,go_sem];rfl);(· intro h;(try simp only [bq] at h);simp only [↓h,go_sem];rfl);simp only [go_sem])
  | (apply aI E';(· simp only [go_sem]);(· rfl);(· intro h h';(try simp only [bq] at h h');simp only [↓h,↓h',go_sem];rfl);simp only [go_sem])
  | (apply aw E';(· simp only [go_sem]);(· rfl);(· intro h h';(try simp only [bq] at h h');simp only [↓h,↓h',go_sem];rfl);(· intro h h';(try simp only [bq] at h h');simp only [↓h,↓h',go_sem];rfl);simp only [go_sem])
  | (apply bo E';(· decide);simp only [go_sem]))
 refine aG E' (fun g1=>?_) (fun g1=>?_)<;>simp only [go_sem]
 ·have g2:i<ns.length∧i<700:=by
   simp only [Bool.and_eq_true,decide_eq_true_eq] at g1
   omega
  refine ⟨⟨by omega,by omega⟩,?_⟩
  have hg:=bA g2.1
  have hmn:=hll _ (by rw [bX g2.1];exact List.getElem_mem g2.1:ndE ns i∈ns)
  obtain ⟨n,hne⟩:∃ n,n=ndE ns i:=⟨_,rfl⟩
  rw [← hne] at hg hmn
  rw [hg]
  simp only [go_sem]
  have h60:((0≤if (60:Int)<(n.l.length:Int) then 60 else (n.l.length:Int))∧(if (60:Int)<(n.l.length:Int) then 60 else (n.l.length:Int))≤(n.l.length:Int)):=by split<;>omega
  have ht:List.take ((if (60:Int)<(n.l.length:Int) then 60 else (n.l.length:Int)).toNat-0) (List.map fD n.l)=(n.l.take 60).map fD:=by
   rw [← List.map_take]
   split
   ·rfl
   ·rw [List.take_of_length_le (by omega),List.take_of_length_le (by omega)]
  refine ⟨h60,?_⟩
  rw [ht]
  refine ⟨by rw [List.length_map,List.length_take];omega,?_⟩
  refine jX E' [31] (some 3) ((n.l.take 60).map fD) rfl (by simp only [go_sem];rfl) ?_
  simp only [go_sem]
  refine ⟨by omega,?_⟩
  rw [ai ⟨by omega,by omega⟩]
  rw [show List.take i (List.map enD (List.map rl (List.take i ns)))++[.agg [i64 n.k,i64 n.a,i64 n.b,i64 n.c,i64 n.n,.str n.name,.str n.s,.sl (some 3) ((n.l.take 60).map fD),i64 n.pos]]=((ns.take (i+1)).map rl).map enD by
   rw [List.take_of_length_le (by simp;omega),List.take_succ_eq_append_getElem g2.1,List.map_append,List.map_append,← bX g2.1,← hne];rfl]
  rw [hQ]
  simp only [go_sem]
  refine ⟨⟨i+1,by omega,by omega⟩,by show ns.length-(i+1)<_;omega,tau [([99],[37])],?_⟩
  simp only [go_sem]
  all_goals first | rfl | exact ⟨rfl,rfl⟩
 ·rw [hQ]
  simp only [go_sem]
  refine ⟨[([99],some 9,((ns.take i).map rl).map enD)],?_⟩
  simp only [go_sem]
  have g2:¬ (i<ns.length∧i<700):=by
   rw [Bool.eq_false_iff] at g1
   intro h
   apply g1
   simp only [Bool.and_eq_true,decide_eq_true_eq]
   omega
  rw [List.take_of_length_le (l:=List.map enD _) (by simp;omega)]
  have:ns.take i=ns.take 700:=by
   by_cases h:i=700
   ·rw [h]
   ·rw [List.take_of_length_le (by omega),List.take_of_length_le (by omega)]
  rw [this]
  rfl
end Go.Proofs.YtejpnabbmgpmaaaGreatDoor

namespace Go.Proofs.YtejpnabbmgpmaaaGreatDoor
open Go.Ab
theorem eE {ns:List EN} (h:eO ns):∀ i,i<ns.length→(an (ndE ns i)).all (inB i)=true:=fun i hi=>by
 have:=h.link i hi
 unfold cA at this
 exact (Bool.and_eq_true_iff.1 this).1
end Go.Proofs.YtejpnabbmgpmaaaGreatDoor

namespace Go.Proofs.YtejpnabbmgpmaaaGreatDoor
open Go.Ab
end Go.Proofs.YtejpnabbmgpmaaaGreatDoor

namespace Go.Proofs.YtejpnabbmgpmaaaGreatDoor
open Go.Ab
theorem ji {ns:List EN} (hk:∀ i,i<ns.length→(an (ndE ns i)).all (inB i)=true) {i:Nat} (hi:i<ns.length):∀ x∈an (ndE ns i),0≤x∧x<(i:Int):=fun x hx=>by
 have:=List.all_eq_true.1 (hk i hi) x hx
 simpa [inB] using this
end Go.Proofs.YtejpnabbmgpmaaaGreatDoor

namespace Go.Proofs.YtejpnabbmgpmaaaGreatDoor
open Go.Ab
end Go.Proofs.YtejpnabbmgpmaaaGreatDoor

namespace Go.Proofs.YtejpnabbmgpmaaaGreatDoor
open Go.Ab
end Go.Proofs.YtejpnabbmgpmaaaGreatDoor

namespace Go.Proofs.YtejpnabbmgpmaaaGreatDoor
open Go.Ab
end Go.Proofs.YtejpnabbmgpmaaaGreatDoor

namespace Go.Proofs.YtejpnabbmgpmaaaGreatDoor
open Go.Ab
end Go.Proofs.YtejpnabbmgpmaaaGreatDoor

namespace Go.Proofs.YtejpnabbmgpmaaaGreatDoor
open Go.Ab
inductive RT where
 | mk (n:EN) (ts:List RT)
mutual
def RT.enc:RT→List EN
 | .mk n ts=>aF n (RT.encs ts)
def RT.encs:List RT→List (List EN)
 | []=>[]
 | t::r=>t.enc::RT.encs r
end
def can (n:EN):EN:=bg n (List.replicate (cj n) 0)
def rtE (ns:List EN):Nat→Int→RT
 | 0,_=>.mk (can (ndE [] 0)) []
 | m+1,i=>.mk (can (ndE ns i.toNat)) ((an (ndE ns i.toNat)).map (rtE ns m))
theorem vM {ns:List EN} (hk:∀ i,i<ns.length→(an (ndE ns i)).all (inB i)=true):∀ (m m' i:Nat),i<m→i<m'→i<ns.length→rtE ns m i=rtE ns m' i
 | 0,_,_,h,_,_=>absurd h (Nat.not_lt_zero _)
 | _+1,0,_,_,h,_=>absurd h (Nat.not_lt_zero _)
 | m+1,m'+1,i,h1,h2,hi=>by
   rw [rtE,rtE,Int.toNat_natCast]
   congr 1
   refine List.map_congr_left fun k hkk=>?_
   obtain ⟨h3,h4⟩:=ji hk hi k hkk
   obtain ⟨k,rfl⟩:∃ q:Nat,k=(q:Int):=⟨k.toNat,by omega⟩
   exact vM hk m m' k (by omega) (by omega) (by omega)
def trE (ns:List EN) (i:Nat):RT:=rtE ns ns.length i
theorem E7 {ns:List EN} (hk:∀ i,i<ns.length→(an (ndE ns i)).all (inB i)=true) {i:Nat} (hi:i<ns.length):trE ns i=.mk (can (ndE ns i)) ((an (ndE ns i)).map fun k=>trE ns k.toNat):=by
 unfold trE
 obtain ⟨m,hm⟩:∃ m,ns.length=m+1:=⟨ns.length-1,by omega⟩
 conv=>lhs;rw [hm]
 rw [rtE,Int.toNat_natCast]
 congr 1
 refine List.map_congr_left fun k hkk=>?_
 obtain ⟨h3,h4⟩:=ji hk hi k hkk
 obtain ⟨k,rfl⟩:∃ q:Nat,k=(q:Int):=⟨k.toNat,by omega⟩
 rw [Int.toNat_natCast]
 exact vM hk m ns.length k (by omega) (by omega) (by omega)
end Go.Proofs.YtejpnabbmgpmaaaGreatDoor

namespace Go.Proofs.YtejpnabbmgpmaaaGreatDoor
open Go.Ab
mutual
def RT.ok:RT→Prop
 | .mk n ts=>(cj n=ts.length∧can n=n)∧RT.oks ts
def RT.oks:List RT→Prop
 | []=>True
 | t::r=>t.ok∧RT.oks r
end
end Go.Proofs.YtejpnabbmgpmaaaGreatDoor

namespace Go.Proofs.YtejpnabbmgpmaaaGreatDoor
open Go.Ab
theorem iq {β:Type} (g:EF→β) (hg:∀ (f:EF) (v:Int),g { f with to:=v }=g f) (ks:List Int) (o:Nat):∀ (l:List EF) (i:Nat),(aU ks o l i).map g=l.map g
 | [],_=>rfl
 | f::r,i=>by
   rw [aU,List.map_cons,List.map_cons,iq g hg ks o r (i+1)]
   split
   ·rw [hg]
   ·rfl
theorem all_map' {α:Type} (p:α→Bool):∀ l:List α,l.all p=(l.map p).all id
 | []=>rfl
 | x::r=>by rw [List.all_cons,List.map_cons,List.all_cons,all_map' p r];rfl
theorem vq {n:EN} {ks:List Int} (h:aH n=true):aH (bg n ks)=true:=by
 unfold aH at h ⊢
 simp only [Bool.and_eq_true] at h
 obtain ⟨h1,⟨⟨h2,h3⟩,h4⟩,_⟩:=h
 have e1:ej (bg n ks)=ej n:=rfl
 have e2:bS (bg n ks)=bS n:=rfl
 have e3:bd (bg n ks)=true:=by
  unfold bd at h4 ⊢
  rw [lG]
  by_cases hp:aJ n.k=true
  ·rw [if_pos hp] at h4 ⊢
   have hl:(bg n ks).l=aU ks (aY n.k) n.l 0:=by show (if aJ n.k then _ else [])=_;rw [if_pos hp]
   rw [hl,all_map',iq (cW n.k) (fun f v=>by unfold cW;rfl),← all_map',dh,iq (·.nm) (fun _ _=>rfl)]
   exact h4
  ·rw [if_neg hp]
   have hl:(bg n ks).l=[]:=by show (if aJ n.k then _ else [])=_;rw [if_neg hp]
   rw [hl]
   rfl
 have e4:dX (bg n ks)=true:=by
  unfold dX
  rw [lG]
  show ([if 0<aY n.k then ks.getD 0 0 else 0,if 1<aY n.k then ks.getD 1 0 else 0,if 2<aY n.k then ks.getD 2 0 else 0].drop (aY n.k)).all _=true
  have:=cG n.k
  generalize aY n.k=q at this
  match q,this with
  | 0,_=>simp
  | 1,_=>simp
  | 2,_=>simp
  | 3,_=>simp
 have e5:(bg n ks).pos=n.pos:=rfl
 rw [e1,e2,e3,e4,e5,lG,h2,h3]
 simp only [Bool.and_eq_true] at h1 ⊢
 exact ⟨h1,by simp⟩
end Go.Proofs.YtejpnabbmgpmaaaGreatDoor

namespace Go.Proofs.YtejpnabbmgpmaaaGreatDoor
open Go.Ab
def GL (n:EN):Prop:=aH n=true∧inR n.n
theorem GL.with {n:EN} (ks:List Int) (h:GL n):GL (bg n ks):=⟨vq h.1,h.2⟩
mutual
def RT.rt:RT→Prop
 | .mk n ts=>GL n∧RT.rts ts
def RT.rts:List RT→Prop
 | []=>True
 | t::r=>t.rt∧RT.rts r
end
theorem iw {s:List UInt8} (h:aM s=true):s.length≤20:=by
 unfold aM aS at h
 simp only [Bool.and_eq_true,decide_eq_true_eq] at h
 exact h.1.1.1.2
theorem qZ {s:List UInt8} (h:dY s=true):s.length≤20:=by
 unfold dY aS at h
 simp only [Bool.and_eq_true,decide_eq_true_eq] at h
 exact h.1.1.2
theorem xf {n:EN} (h:aH n=true):n.s.length≤200:=by
 unfold aH bS at h
 simp only [Bool.and_eq_true] at h
 have h1:=h.2.1.1.2
 (repeat' split at h1)<;>simp only [Bool.and_eq_true,decide_eq_true_eq,List.isEmpty_iff] at h1
 ·rw [h1];decide
 ·rw [h1.2];decide
 ·rw [h1.2];decide
 ·exact h1.2
 ·rw [h1.2];decide
theorem uX {n:EN} (h:aH n=true):eu BIG n:=by
 have hl:=qj h
 have hs:=xf h
 have hx:(20:Nat)≤BIG:=by unfold BIG;omega
 refine ⟨?_,by unfold BIG;omega,by omega,fun f hf=>?_⟩
 ·unfold aH ej at h
  simp only [Bool.and_eq_true] at h
  have h1:=h.2.1.1.1
  (repeat' split at h1)
  ·have:=iw h1;omega
  ·have:=qZ h1;omega
  ·rw [List.isEmpty_iff] at h1
   rw [h1]
   exact Nat.zero_le _
 ·unfold aH bd at h
  simp only [Bool.and_eq_true] at h
  have h1:=h.2.1.2
  split at h1
  ·simp only [Bool.and_eq_true] at h1
   have h2:=List.all_eq_true.1 h1.1 f hf
   unfold cW at h2
   split at h2<;>simp only [Bool.and_eq_true,List.isEmpty_iff] at h2
   ·have:=iw h2.1
    rw [h2.2]
    exact ⟨by omega,Nat.zero_le _⟩
   ·have:=qZ h2.1
    have:=iw h2.2
    exact ⟨by omega,by omega⟩
  ·rw [List.isEmpty_iff] at h1
   rw [h1] at hf
   cases hf
structure RT.good (t:RT):Prop where
 ok:t.ok
 rt:t.rt
def lh:RT:=.mk (can (ndE [] 0)) []
def RT.lab:RT→EN
 | .mk n _=>n
def RT.kids:RT→List RT
 | .mk _ ts=>ts
def RT.kid (t:RT) (j:Nat):RT:=t.kids.getD j lh
mutual
def cq:RT→Bool
 | .mk n ts=>if n.k=11∨n.k=13 then tW ts else decide (n.k=1) || decide (n.k=2) || decide (n.k=3) || decide (n.k=5)
def tW:List RT→Bool
 | []=>true
 | t::r=>cq t && tW r
end
theorem oO:∀ ts:List RT,tW ts=ts.all cq
 | []=>by rw [tW];rfl
 | t::r=>by rw [tW,oO r];rfl
def Ga (n:EN) (k:Nat) (x:List UInt8):Bool :=
 if n.k=5∨n.k=8 then n.name == x else if n.k=7 then (n.name == x) && decide (k=1) else if n.k=14 then decide (0<k) && ((fdE n.l (k-1)).var == x) else false
mutual
def zA (x:List UInt8) (v:RT):RT→RT
 | .mk n ts=>if n.k=4∧n.name=x then v else .mk n (Ft x v n 0 ts)
def Ft (x:List UInt8) (v:RT) (n:EN):Nat→List RT→List RT
 | _,[]=>[]
 | k,t::r=>(if Ga n k x then t else zA x v t)::Ft x v n (k+1) r
end
def RT.sz (t:RT):Nat:=t.enc.length
def szs (ts:List RT):Nat:=(ts.map RT.sz).sum
def Fj (n:EN):RT:=.mk (can n) []
def Hi (n a b:EN):Int × RT :=
 if n.n=7 then (if a.k=3∧b.k=3 then (5,Fj ⟨3,0,0,0,0,[],(a.s++b.s).take 200,[],n.pos⟩) else (4,lh))
 else if a.k=1∧b.k=1 then (if HE n.n b.n≠0 then (2,lh) else (5,Fj ⟨if 5≤n.n then 2 else 1,0,0,0,HX n.n a.n b.n,[],[],[],n.pos⟩)) else (4,lh)
def CV (n:EN) (f:RT):RT :=
 if f.lab.name=n.name then f else .mk (can ⟨5,0,0,0,0,f.lab.name,[],[],f.lab.pos⟩) [.mk (can ⟨8,0,0,0,0,n.name,[],[],n.pos⟩) [f,f.kid 0]]
def Aw (l:List EF) (x:List UInt8):Nat:=l.findIdx fun f=>f.nm == x
def FA (n:EN) (ts:List RT):Int × RT :=
 let c:=fun j=>ts.getD j lh
 if n.k=6 then (if (c 0).lab.k=5 then (5,zA (c 0).lab.name (c 1) ((c 0).kid 0)) else (4,lh))
 else if n.k=7 then (5,zA n.name (c 0) (c 1))
 else if n.k=8 then (5,zA n.name (CV n (c 0)) (c 1))
 else if n.k=9 then (if (c 0).lab.k=2 then (5,if (c 0).lab.n=1 then c 1 else c 2) else (4,lh))
 else if n.k=10 then Hi n (c 0).lab (c 1).lab
 else if n.k=12 then (if (c 0).lab.k=11∧Aw (c 0).lab.l n.name<(c 0).lab.l.length then (5,(c 0).kid (Aw (c 0).lab.l n.name)) else (4,lh))
 else if n.k=14 then (if (c 0).lab.k=13∧Aw n.l (c 0).lab.name<n.l.length then (5,zA (fdE n.l (Aw n.l (c 0).lab.name)).var ((c 0).kid 0) (c (Aw n.l (c 0).lab.name+1))) else (4,lh))
 else (4,lh)
def FD (n:EN) (k:Nat):Bool:=if n.k=6∨n.k=10∨n.k=11 then true else if n.k=7∨n.k=9∨n.k=12∨n.k=13∨n.k=14 then decide (k=0) else false
mutual
def stT:RT→Int × RT
 | .mk n ts=>match HG n 0 ts with
   | none=>FA n ts
   | some (h,us)=>if h=5 then (5,.mk n us) else (h,lh)
def HG (n:EN):Nat→List RT→Option (Int × List RT)
 | _,[]=>none
 | k,t::r=>if FD n k && !cq t then some ((stT t).1,(stT t).2::r) else (HG n (k+1) r).map fun q=>(q.1,t::q.2)
end
end Go.Proofs.YtejpnabbmgpmaaaGreatDoor

namespace Go.Proofs.YtejpnabbmgpmaaaGreatDoor
open Go.Ab
mutual
def RT.lk:RT→Prop
 | .mk n ts=>(n.k=8→(ts.getD 0 lh).lab.k=5)∧RT.lks ts
def RT.lks:List RT→Prop
 | []=>True
 | t::r=>t.lk∧RT.lks r
end
theorem nH (n:EN):(can n).k=n.k:=rfl
theorem AX (n:EN):(can n).name=n.name:=rfl
theorem HV (n:EN):(can n).s=n.s:=rfl
theorem Fi (n:EN):(can n).n=n.n:=rfl
end Go.Proofs.YtejpnabbmgpmaaaGreatDoor

namespace Go.Proofs.YtejpnabbmgpmaaaGreatDoor
open Go.Ab
structure Tk where
 k:Int
 s:List UInt8
 n:Int
inductive Pc where
 | tok (t:Tk)
 | sp
def kwP (s:List UInt8):Pc:=.tok ⟨1,s,0⟩
def nmP (s:List UInt8):Pc:=.tok ⟨2,s,0⟩
def tgP (s:List UInt8):Pc:=.tok ⟨3,s,0⟩
def sgP (s:List UInt8):Pc:=.tok ⟨7,s,0⟩
def HW (op:Int):List UInt8:=if op=1 then [43] else if op=2 then [45] else if op=3 then [42] else if op=4 then [47] else if op=5 then [60] else if op=6 then [61,61] else if op=7 then [94] else []
def ur (n:EN):Nat :=
 if n.k=5∨n.k=7∨n.k=8∨n.k=9 then 0
 else if n.k=10 then (if n.n=5∨n.n=6 then 1 else if n.n=3∨n.n=4 then 3 else 2)
 else if n.k=13 then 4 else if n.k=6 then 5 else if n.k=12 then 6 else 7
def atP (least:Nat) (q:Nat × List Pc):List Pc:=if least≤q.1 then q.2 else sgP [40]::(q.2++[sgP [41]])
def Ff (sep:List Pc):List (List Pc)→List Pc
 | []=>[]
 | a::r=>a++r.flatMap (sep++·)
def IN (f:EF) (q:Nat × List Pc):List Pc:=[nmP f.nm,.sp,sgP [61],.sp]++q.2
def I0 (f:EF) (q:Nat × List Pc):List Pc:=[tgP f.nm,.sp,nmP f.var,.sp,sgP bTo,.sp]++q.2
def iR (ks:List (Nat × List Pc)) (j least:Nat):List Pc:=atP least (ks.getD j (0,[]))
def pcN (n:EN) (ks:List (Nat × List Pc)):List Pc :=
 if n.k=1 then [.tok ⟨4,[],n.n⟩]
 else if n.k=2 then [kwP (if n.n=1 then eV else cE)]
 else if n.k=3 then [.tok ⟨5,n.s,0⟩]
 else if n.k=4 then [nmP n.name]
 else if n.k=5 then [kwP De,.sp,nmP n.name,.sp,sgP bTo,.sp]++iR ks 0 0
 else if n.k=6 then iR ks 0 5++([.sp]++iR ks 1 6)
 else if n.k=7 then [kwP BS,.sp,nmP n.name,.sp,sgP [61],.sp]++(iR ks 0 0++([.sp,kwP bIn,.sp]++iR ks 1 0))
 else if n.k=8 then [kwP BS,.sp,kwP iS,.sp,nmP n.name,.sp,sgP [61],.sp]++(iR ks 0 0++([.sp,kwP bIn,.sp]++iR ks 1 0))
 else if n.k=9 then [kwP bIf,.sp]++(iR ks 0 0++([.sp,kwP nA,.sp]++(iR ks 1 0++([.sp,kwP mf,.sp]++iR ks 2 0))))
 else if n.k=10 then iR ks 0 (max (ur n) 2)++([.sp,sgP (HW n.n),.sp]++iR ks 1 (ur n+1))
 else if n.k=11 then [sgP [123]]++(Ff [sgP [44],.sp] (List.zipWith IN n.l ks)++[sgP [125]])
 else if n.k=12 then iR ks 0 6++[sgP [46],nmP n.name]
 else if n.k=13 then [tgP n.name,.sp]++iR ks 0 6
 else [kwP jS,.sp]++(iR ks 0 0++([.sp,kwP bOf,.sp]++(Ff [.sp,sgP [124],.sp] (List.zipWith I0 n.l (ks.drop 1))++[.sp,kwP zC])))
mutual
def RT.pcs:RT→List Pc
 | .mk n ts=>pcN n (RT.pcss ts)
def RT.pcss:List RT→List (Nat × List Pc)
 | []=>[]
 | t::r=>(ur t.lab,t.pcs)::RT.pcss r
end
mutual
def RT.dep:RT→Nat
 | .mk _ ts=>RT.deps ts+1
def RT.deps:List RT→Nat
 | []=>0
 | t::r=>max t.dep (RT.deps r)
end
mutual
def RT.np:RT→RT
 | .mk n ts=>.mk { n with pos:=0 } (RT.nps ts)
def RT.nps:List RT→List RT
 | []=>[]
 | t::r=>t.np::RT.nps r
end
end Go.Proofs.YtejpnabbmgpmaaaGreatDoor

namespace Go.Proofs.YtejpnabbmgpmaaaGreatDoor
open Go.Ab
theorem iQ:∀ (m m':Nat) (l:List UInt8),l.length<m→l.length<m'→dD m l=dD m' l
 | 0,_,_,h,_=>absurd h (Nat.not_lt_zero _)
 | _,0,_,_,h=>absurd h (Nat.not_lt_zero _)
 | m+1,m'+1,[],_,_=>rfl
 | m+1,m'+1,c::r,h,h'=>by
   simp only [List.length_cons] at h h'
   unfold dD
   by_cases hb:c=32∨c=9∨c=10
   ·rw [if_pos hb,if_pos hb,iQ m m' r (by omega) (by omega)]
   rw [if_neg hb,if_neg hb]
   by_cases hr:c=35
   ·rw [if_pos hr,if_pos hr]
    cases hf:cN (c::r) with
    | none=>rfl
    | some k =>
      have hk:=n8 (by rw [hr];decide) hf
      simp only
      rw [iQ m m' ((c::r).drop k) (by rw [List.length_drop,List.length_cons];omega) (by rw [List.length_drop,List.length_cons];omega)]
   ·rw [if_neg hr,if_neg hr]
theorem uU {c:UInt8} {r:List UInt8} (hb:c=32∨c=9∨c=10):aQ (c::r)=aQ r+1:=by
 unfold aQ
 rw [Nat.succ_eq_add_one,dD,if_pos hb]
 rfl
theorem xM {c:UInt8} {r:List UInt8} (hb:¬ (c=32∨c=9∨c=10)) (hr:¬ c=35):aQ (c::r)=0:=by
 unfold aQ
 rw [Nat.succ_eq_add_one,dD,if_neg hb,if_neg hr]
def rf (l:List UInt8):Nat:=match cN l with
 | none=>l.length
 | some k=>k+aQ (l.drop k)
theorem zL {r:List UInt8}:aQ (35::r)=rf (35::r):=by
 unfold rf
 have h:=dD.eq_3 (35::r).length 35 r
 unfold aQ
 rw [Nat.succ_eq_add_one,dD,if_neg (by decide),if_pos rfl]
 cases hf:cN (35::r) with
 | none=>rfl
 | some k =>
   simp only
   have hk:=n8 (by decide) hf
   rw [iQ (35::r).length ((35::r).drop k).length.succ ((35::r).drop k) (by rw [List.length_drop,List.length_cons];omega) (Nat.lt_succ_self _)]
theorem Gp {c:UInt8} {r:List UInt8} (hc:¬ c=10):rf (c::r)=rf r+1:=by
 unfold rf
 rw [show cN (c::r)=(cN r).map (·+1) by conv=>lhs;unfold cN;rw [if_neg hc]]
 cases cN r with
 | none=>rfl
 | some k =>
   simp only [Option.map_some,List.drop_succ_cons]
   omega
theorem drop_cons {s:List UInt8} {i:Nat} (h:i<s.length):s.drop i=s.getD i 0::s.drop (i+1):=by
 rw [List.drop_eq_getElem_cons h]
 simp [h]
structure AI (s:List UInt8) (j i:Nat):Prop where
 hi:i≤s.length
 ti:TI s j (i+aQ (s.drop i))
 ok:∀ q∈(aD s).take j,q.2.e=0
theorem AI.init (s:List UInt8):AI s 0 0:=⟨Nat.zero_le _,by rw [List.drop_zero,Nat.zero_add];exact TI.init s,fun q h=>by rw [List.take_zero] at h;cases h⟩
theorem AI.blank {s:List UInt8} {j i:Nat} (h:AI s j i) (hi:i<s.length) (hb:s.getD i 0=32∨s.getD i 0=9∨s.getD i 0=10):AI s j (i+1):=by
 refine ⟨by omega,?_,h.ok⟩
 have:=h.ti
 rw [drop_cons hi,uU hb] at this
 rwa [show i+1+aQ (s.drop (i+1))=i+(aQ (s.drop (i+1))+1) by omega]
structure RI (s:List UInt8) (j i:Nat):Prop where
 hi:i≤s.length
 ti:TI s j (i+rf (s.drop i))
 ok:∀ q∈(aD s).take j,q.2.e=0
theorem AI.rem {s:List UInt8} {j i:Nat} (h:AI s j i) (hi:i<s.length) (hr:s.getD i 0=35):RI s j i:=by
 refine ⟨h.hi,?_,h.ok⟩
 have:=h.ti
 rw [drop_cons hi,hr,zL] at this
 rwa [drop_cons hi,hr]
theorem RI.on {s:List UInt8} {j i:Nat} (h:RI s j i) (hi:i<s.length) (hc:¬ s.getD i 0=10):RI s j (i+1):=by
 refine ⟨by omega,?_,h.ok⟩
 have:=h.ti
 rw [drop_cons hi,Gp hc] at this
 rwa [show i+1+rf (s.drop (i+1))=i+(rf (s.drop (i+1))+1) by omega]
theorem AL {l:List (Nat × Fnd)}:(∀ q∈l,q.2.e=0)→fh l=none:=by
 induction l with
 | nil=>intro _;rfl
 | cons a r ih =>
   intro h
   unfold fh
   rw [if_neg (by simp [h a List.mem_cons_self]),ih fun q hq=>h q (List.mem_cons_of_mem _ hq)]
theorem rI {a:Nat × Fnd} (ha:a.2.e≠0):∀ {l:List (Nat × Fnd)},(∀ q∈l,q.2.e=0)→fh (l++[a])=some (a.1,a.2.e)
 | [],_=>by
   show fh [a]=_
   unfold fh
   rw [if_pos ha]
 | x::r,h=>by
   rw [List.cons_append,fh,if_neg (by simp [h x List.mem_cons_self])]
   exact rI ha fun q hq=>h q (List.mem_cons_of_mem _ hq)
theorem AI.fin {s:List UInt8} {j i:Nat} (h:AI s j i) (hi:s.length≤i):cO s=(((aD s).take j).map mJ,s.length,0):=by
 have hp:=h.ti
 rw [List.drop_eq_nil_of_le hi] at hp
 rcases hp.next with ⟨_,h2⟩ | ⟨h2,_⟩
 ·have hl:(aD s).length≤j:=List.drop_eq_nil_iff.1 h2
  have ho:=h.ok
  rw [List.take_of_length_le hl] at ho ⊢
  unfold cO
  rw [AL ho]
 ·have:=aQ (([]:List UInt8))
  omega
theorem AI.tok {s:List UInt8} {j i:Nat} (h:AI s j i) (hi:i<s.length) (hb:¬ (s.getD i 0=32∨s.getD i 0=9∨s.getD i 0=10)) (hr:¬ s.getD i 0=35) :
  ((bP (s.drop i)).e≠0∧cO s=([],i,(bP (s.drop i)).e)) ∨
  ((bP (s.drop i)).e=0∧1≤(bP (s.drop i)).n∧(aD s).take (j+1)=(aD s).take j++[(i,bP (s.drop i))]∧j<(aD s).length∧AI s (j+1) (i+(bP (s.drop i)).n)):=by
 have ht:=h.ti
 rw [drop_cons hi,xM hb hr,Nat.add_zero] at ht
 obtain ⟨_,hget,hcase⟩:=ht.next.resolve_left (fun g=>by omega)
 obtain ⟨hj,hge⟩:=List.getElem?_eq_some_iff.1 hget
 have htk:(aD s).take (j+1)=(aD s).take j++[(i,bP (s.drop i))]:=by
  rw [List.take_succ_eq_append_getElem hj,hge]
 rcases hcase with ⟨he,hl⟩ | ⟨he,hn,hn1,hT⟩
 ·refine .inl ⟨he,?_⟩
  have ho:=h.ok
  have hall:aD s=(aD s).take j++[(i,bP (s.drop i))]:=by rw [← htk,List.take_of_length_le (by omega)]
  unfold cO
  rw [hall,rI (a:=(i,bP (s.drop i))) he ho]
 ·refine .inr ⟨he,hn1,htk,hj,by omega,hT,fun q hq=>?_⟩
  rw [htk] at hq
  rcases List.mem_append.1 hq with hq | hq
  ·exact h.ok q hq
  ·rw [List.mem_singleton.1 hq];exact he
end Go.Proofs.YtejpnabbmgpmaaaGreatDoor

namespace Go.Proofs.YtejpnabbmgpmaaaGreatDoor
open Go.Ab
def eN (n:Nat):UInt8:=fJ.getD n 0
def quC (c:UInt8):List UInt8:=if dJ c then [c] else if c=34∨c=92 then [92,c] else if c=10 then [92,110] else if c=9 then [92,116] else [92,120,eN (c.toNat / 16),eN (c.toNat % 16)]
def quS (s:List UInt8):List UInt8:=34::(s.flatMap quC++[34])
theorem AR (p:UInt8→Bool) (h:(List.range 256).all (fun n=>p (UInt8.ofNat n))=true) (c:UInt8):p c=true:=by
 have:=List.all_eq_true.1 h c.toNat (List.mem_range.2 c.toNat_lt)
 simpa using this
theorem GN (c:UInt8):Lib.indexByte fJ (eN (c.toNat / 16))=((c.toNat / 16:Nat):Int)∧Lib.indexByte fJ (eN (c.toNat % 16))=((c.toNat % 16:Nat):Int):=by
 have:=AR (fun c=>decide (Lib.indexByte fJ (eN (c.toNat / 16))=((c.toNat / 16:Nat):Int)) && decide (Lib.indexByte fJ (eN (c.toNat % 16))=((c.toNat % 16:Nat):Int))) (by decide +kernel) c
 simpa using this
theorem lz {c:UInt8} (h:dJ c=false) (x:List UInt8):∃ y,quC c=92::y∧eP (y++x)=(c,y.length)∧0<y.length:=by
 unfold quC
 rw [h,if_neg (by decide)]
 split
 ·rename_i h1
  exact ⟨[c],rfl,by show (if c=34∨c=92 then ((c,1):UInt8 × Nat) else _)=_;exact if_pos h1,by simp⟩
 rename_i h1
 split
 ·rename_i h2
  subst h2
  exact ⟨[110],rfl,rfl,by simp⟩
 split
 ·rename_i h2
  subst h2
  exact ⟨[116],rfl,rfl,by simp⟩
 ·refine ⟨[120,eN (c.toNat / 16),eN (c.toNat % 16)],rfl,?_,by simp⟩
  obtain ⟨e1,e2⟩:=GN c
  simp only [List.cons_append,List.nil_append]
  rw [eP,if_neg (by decide),if_neg (by decide),if_neg (by decide),if_pos rfl]
  rw [e1,e2,if_neg (by omega)]
  have:(16*((c.toNat / 16:Nat):Int)+((c.toNat % 16:Nat):Int)).toNat=c.toNat:=by omega
  rw [this,UInt8.ofNat_toNat]
  rfl
def gX (r:List UInt8):Prop:=∀ c y,r=c::y→mo c=false
theorem sA:∀ {s r:List UInt8},wlen s=s.length→gX r→wlen (s++r)=s.length
 | [],[],_,_=>rfl
 | [],c::y,_,h=>by rw [List.nil_append,wlen,h c y rfl];rfl
 | c::s,r,hs,h=>by
   rw [wlen] at hs
   split at hs
   ·rename_i hc
    rw [List.cons_append,wlen,if_pos hc,sA (by simpa using hs) h,List.length_cons]
   ·cases hs
theorem rF {s r:List UInt8} (hs:aS s=true) (h:gX r):bm (s++r)=s.length:=by
 unfold aS at hs
 simp only [Bool.and_eq_true,decide_eq_true_eq,Bool.not_eq_true',List.isEmpty_eq_false_iff] at hs
 obtain ⟨⟨h1,h2⟩,h3⟩:=hs
 cases s with
 | nil=>exact absurd rfl h1
 | cons c s =>
   unfold bm at h3 ⊢
   simp only [List.cons_append] at h3 ⊢
   split at h3
   ·rename_i hc
    rw [if_pos hc,sA (by simpa using h3) h,List.length_cons]
   ·cases h3
theorem pw {s:List UInt8} (hs:aS s=true):s.length≤20∧1≤s.length:=by
 unfold aS at hs
 simp only [Bool.and_eq_true,decide_eq_true_eq,Bool.not_eq_true',List.isEmpty_eq_false_iff] at hs
 exact ⟨hs.1.2,List.length_pos_iff.2 hs.1.1⟩
theorem mq:∀ {s r:List UInt8},s.all aX=true→gX r→gH (s++r)=s.length
 | [],[],_,_=>rfl
 | [],c::y,_,h=>by
   have h1:=h c y rfl
   have:aX c=false:=by
    unfold mo at h1
    simp only [Bool.or_eq_false_iff] at h1
    unfold aX
    have:=h1.2
    unfold diZ at this
    rw [Bool.and_eq_false_iff,decide_eq_false_iff_not,decide_eq_false_iff_not] at this ⊢
    omega
   rw [List.nil_append,gH,this];rfl
 | c::s,r,hs,h=>by
   rw [List.all_cons,Bool.and_eq_true] at hs
   rw [List.cons_append,gH,if_pos hs.1,mq hs.2 h,List.length_cons]
theorem lU (u:Nat):(Lib.decDigits u).all aX=true∧1≤(Lib.decDigits u).length:=by
 refine ⟨(ly u).2.1,?_⟩
 by_cases h:u<10
 ·rw [qu u h];exact Nat.le_refl _
 ·rw [uh u h,List.length_append];simp
end Go.Proofs.YtejpnabbmgpmaaaGreatDoor

namespace Go.Proofs.YtejpnabbmgpmaaaGreatDoor
open Go.Ab
inductive VT where
 | mk (k n:Int) (s:List UInt8) (nms:List (List UInt8)) (vs:List VT)
def VT.k:VT→Int
 | .mk k _ _ _ _=>k
def VT.n:VT→Int
 | .mk _ n _ _ _=>n
def VT.s:VT→List UInt8
 | .mk _ _ s _ _=>s
def VT.nms:VT→List (List UInt8)
 | .mk _ _ _ nms _=>nms
def VT.vs:VT→List VT
 | .mk _ _ _ _ vs=>vs
def noV:VT:=.mk 0 0 [] [] []
def VT.kid (v:VT) (i:Nat):VT:=v.vs.getD i noV
def VT.nm (v:VT) (i:Nat):List UInt8:=v.nms.getD i []
def vfD (nm:List UInt8) (d:D):D:=.agg (.str nm::d.cells)
mutual
def VT.dat:VT→D
 | .mk k n s nms vs=>.agg [i64 k,i64 n,.str s,.sl (some 5) (List.zipWith vfD nms (VT.dats vs))]
def VT.dats:List VT→List D
 | []=>[]
 | v::r=>v.dat::VT.dats r
end
theorem ch:∀ l:List VT,VT.dats l=l.map VT.dat
 | []=>rfl
 | v::r=>by rw [VT.dats,ch r];rfl
mutual
def VT.wf:VT→Prop
 | .mk _ _ s nms vs=>(nms.length=vs.length∧vs.length≤1000∧s.length≤9223372036854775807∧∀ x∈nms,x.length≤9223372036854775807)∧VT.wfs vs
def VT.wfs:List VT→Prop
 | []=>True
 | v::r=>v.wf∧VT.wfs r
end
theorem jI:∀ l:List VT,VT.wfs l↔∀ v∈l,v.wf
 | []=>by simp [VT.wfs]
 | v::r=>by rw [VT.wfs,jI r];simp
structure VT.Ok (v:VT):Prop where
 len:v.nms.length=v.vs.length
 few:v.vs.length≤1000
 sl:v.s.length≤9223372036854775807
 nl:∀ x∈v.nms,x.length≤9223372036854775807
 kids:∀ u∈v.vs,u.wf
theorem VT.wf.ok {v:VT} (h:v.wf):v.Ok:=by
 cases v with
 | mk k n s nms vs =>
   rw [VT.wf,jI] at h
   exact ⟨h.1.1,h.1.2.1,h.1.2.2.1,h.1.2.2.2,h.2⟩
def VT.ps (v:VT):List D:=List.zipWith vfD v.nms (VT.dats v.vs)
theorem av (v:VT):v.dat=.agg [i64 v.k,i64 v.n,.str v.s,.sl (some 5) v.ps]:=by
 cases v;rfl
theorem VT.Ok.fQ {v:VT} (h:v.Ok):v.ps.length=v.vs.length:=by
 unfold VT.ps
 rw [List.length_zipWith,ch,List.length_map,h.len,Nat.min_self]
theorem bJ {v:VT} {i:Nat} (hi:i<v.vs.length):v.kid i∈v.vs:=by
 unfold VT.kid
 rw [List.getD_eq_getElem?_getD,List.getElem?_eq_getElem hi]
 exact List.getElem_mem hi
theorem u7 {v:VT} {i:Nat} (hi:i<v.nms.length):v.nm i∈v.nms:=by
 unfold VT.nm
 rw [List.getD_eq_getElem?_getD,List.getElem?_eq_getElem hi]
 exact List.getElem_mem hi
theorem VT.Ok.eY {v:VT} (h:v.Ok) {i:Nat} (hi:i<v.vs.length):v.ps.getD i .nilp=.agg [.str (v.nm i),i64 (v.kid i).k,i64 (v.kid i).n,.str (v.kid i).s,.sl (some 5) (v.kid i).ps]:=by
 have hn:i<v.nms.length:=by rw [h.len];exact hi
 have hd:(VT.dats v.vs)[i]?=some (v.kid i).dat:=by
  rw [ch,List.getElem?_map,List.getElem?_eq_getElem hi]
  unfold VT.kid
  rw [List.getD_eq_getElem?_getD,List.getElem?_eq_getElem hi];rfl
 unfold VT.ps
 rw [List.getD_eq_getElem?_getD,List.getElem?_zipWith,List.getElem?_eq_getElem hn,hd]
 simp only [Option.getD_some]
 unfold vfD
 rw [av]
 unfold VT.nm
 rw [List.getD_eq_getElem?_getD,List.getElem?_eq_getElem hn]
 rfl
mutual
def VT.hg:VT→Nat
 | .mk _ _ _ _ vs=>VT.hgs vs+1
def VT.hgs:List VT→Nat
 | []=>0
 | v::r=>max v.hg (VT.hgs r)
end
theorem zG:∀ {l:List VT} {v:VT},v∈l→v.hg≤VT.hgs l
 | [],_,h=>by cases h
 | u::r,v,h=>by
   rw [VT.hgs]
   rcases List.mem_cons.1 h with rfl | h
   ·omega
   ·have:=zG h;omega
theorem iU {v u:VT} (h:u∈v.vs):u.hg<v.hg:=by
 cases v with
 | mk k n s nms vs =>
   have:=zG h
   rw [VT.hg]
   exact Nat.lt_succ_of_le this
mutual
def VT.sz:VT→Nat
 | .mk _ _ _ _ vs=>VT.szs vs+1
def VT.szs:List VT→Nat
 | []=>0
 | v::r=>v.sz+VT.szs r
end
theorem vP:∀ l:List VT,VT.szs l=(l.map VT.sz).sum
 | []=>rfl
 | v::r=>by rw [VT.szs,vP r];simp
theorem Fg (v:VT):v.sz=(v.vs.map VT.sz).sum+1:=by
 cases v with
 | mk k n s nms vs=>rw [VT.sz,vP];rfl
def eC (k n:Int) (s:List UInt8) (nms:List (List UInt8)):Bool :=
 if k=1 then (s == []) && decide (nms.length=0)
 else if k=2 then (decide (n=0) || decide (n=1)) && (s == []) && decide (nms.length=0)
 else if k=3 then decide (n=0) && decide (nms.length=0)
 else if k=4 then decide (n=0) && (s == []) && decide (nms.length=0)
 else if k=5 then decide (n=0) && (s == [])
 else if k=6 then decide (n=0) && dY s && decide (nms.length=1) && (nms.getD 0 [] == [])
 else false
mutual
def VT.may:VT→Bool
 | .mk k n s nms vs=>eC k n s nms && (VT.mays vs && (decide (k≠5) || nms.all aM) && decide nms.Nodup)
def VT.mays:List VT→Bool
 | []=>true
 | v::r=>v.may && VT.mays r
end
theorem nI:∀ l:List VT,VT.mays l=l.all VT.may
 | []=>rfl
 | v::r=>by rw [VT.mays,nI r];rfl
theorem mK (v:VT):v.may=(eC v.k v.n v.s v.nms && (v.vs.all VT.may && (decide (v.k≠5) || v.nms.all aM) && decide v.nms.Nodup)):=by
 cases v with
 | mk k n s nms vs=>rw [VT.may,nI];rfl
def cM:List UInt8:=[44,32]
def eqB:List UInt8:=[32,61,32]
def cU (sep:List UInt8):List (List UInt8)→List UInt8
 | []=>[]
 | a::r=>a++r.flatMap (sep++·)
def H5:List UInt8:=[60,102,117,110,62]
def tu (k n:Int) (s:List UInt8) (nms:List (List UInt8)) (ks:List Int) (ts:List (List UInt8)):List UInt8 :=
 if k=1 then eH n
 else if k=2 then (if n=1 then eV else cE)
 else if k=3 then quS s
 else if k=4 then H5
 else if k=6 then s++32::(if ks.getD 0 0=6 then 40::(ts.getD 0 []++[41]) else ts.getD 0 [])
 else 123::(cU cM (List.zipWith (fun nm t=>nm++eqB++t) nms ts)++[125])
mutual
def VT.txt:VT→List UInt8
 | .mk k n s nms vs=>tu k n s nms (vs.map VT.k) (VT.txts vs)
def VT.txts:List VT→List (List UInt8)
 | []=>[]
 | v::r=>v.txt::VT.txts r
end
theorem sD:∀ l:List VT,VT.txts l=l.map VT.txt
 | []=>rfl
 | v::r=>by rw [VT.txts,sD r];rfl
theorem jZ (v:VT):v.txt=tu v.k v.n v.s v.nms (v.vs.map VT.k) (v.vs.map VT.txt):=by
 cases v with
 | mk k n s nms vs=>rw [VT.txt,sD];rfl
mutual
def VT.eq:VT→VT→Bool
 | .mk k n s nms vs,.mk k' n' s' nms' vs'=>decide (k=k') && decide (n=n') && decide (s=s') && (decide (nms=nms') && VT.eqs vs vs')
def VT.eqs:List VT→List VT→Bool
 | [],[]=>true
 | v::r,w::q=>v.eq w && VT.eqs r q
 | _,_=>false
end
mutual
theorem eq_iff:∀ a b:VT,a.eq b=true↔a=b
 | .mk k n s nms vs,.mk k' n' s' nms' vs'=>by
   rw [VT.eq]
   simp only [Bool.and_eq_true,decide_eq_true_eq,v7 vs vs',VT.mk.injEq]
   constructor
   ·rintro ⟨⟨⟨h1,h2⟩,h3⟩,h4,h5⟩;exact ⟨h1,h2,h3,h4,h5⟩
   ·rintro ⟨h1,h2,h3,h4,h5⟩;exact ⟨⟨⟨h1,h2⟩,h3⟩,h4,h5⟩
theorem v7:∀ a b:List VT,VT.eqs a b=true↔a=b
 | [],[]=>by simp [VT.eqs]
 | [],w::q=>by simp [VT.eqs]
 | v::r,[]=>by simp [VT.eqs]
 | v::r,w::q=>by
   rw [VT.eqs]
   simp only [Bool.and_eq_true,eq_iff v w,v7 r q,List.cons.injEq]
end
end Go.Proofs.YtejpnabbmgpmaaaGreatDoor

namespace Go.Proofs.YtejpnabbmgpmaaaGreatDoor
open Go.Ab
theorem jb (v:VT):1≤v.hg:=by
 cases v with
 | mk k n s nms vs=>rw [VT.hg];omega
def VT.cs (v:VT):List D:=[i64 v.k,i64 v.n,.str v.s,.sl (some 5) v.ps]
def iZ (l:List VT):Nat:=(l.map VT.sz).sum
theorem tv {l:List VT} {i:Nat} (h:i<l.length):iZ (l.take (i+1))=iZ (l.take i)+(l.getD i noV).sz:=by
 unfold iZ
 rw [List.take_succ_eq_append_getElem h,List.map_append,List.sum_append,List.getD_eq_getElem?_getD,List.getElem?_eq_getElem h]
 simp
theorem zH (l:List VT) (i:Nat):iZ (l.take i)≤iZ l:=by
 have h:iZ l=iZ (l.take i)+iZ (l.drop i):=by
  unfold iZ
  rw [← List.sum_append,← List.map_append,List.take_append_drop]
 omega
theorem GV {v:VT} {i:Nat} (h:i<v.vs.length):(v.kid i).sz<v.sz:=by
 have h1:=tv h
 have h2:=zH v.vs (i+1)
 have h3:=Fg v
 unfold iZ at h1 h2
 unfold VT.kid
 omega
theorem zO {G}:∀ (m:Nat) (v:VT),v.hg≤m→v.wf→v.sz≤1000000000→HP Tryz.prog G 52 [v.dat] (fun r=>r=.d (i64 (v.sz:Nat)))
 | 0,v,h,_,_=>absurd (jb v) (by omega)
 | m+1,v,h,hw,hs=>by
   have ok:=hw.ok
   have hpl:=ok.fQ
   have hf:=ok.few
   have hsz:v.sz=iZ v.vs+1:=Fg v
   have hkid:∀ i,i<v.vs.length→HP Tryz.prog G 52 [.agg [i64 (v.kid i).k,i64 (v.kid i).n,.str (v.kid i).s,.sl (some 5) (v.kid i).ps]] (fun r=>r=.d (i64 ((v.kid i).sz:Nat))):=fun i hi=>by
    have h1:=iU (bJ hi)
    have h2:=GV hi
    have:=zO (G:=G) m (v.kid i) (by omega) (ok.kids _ (bJ hi)) (by omega)
    rw [av] at this
    exact this
   rw [av]
   refine aj Tryz.func52 rfl (by decide +kernel) (by simp [Tryz.ntmps52]) (veil fun E=>?_)
   simp only [go_sem]
   refine aC E (X:={ i:Nat // i≤v.vs.length }) (fun x=>[(1,.bx [1] 0),(3,.d (i64 ((1+iZ (v.vs.take x.1):Nat):Int))),(7,.d (.sl (some 5) v.ps)),(8,.d (i64 (v.ps.length:Nat))),(9,.d (i64 x.1))])
    (fun _=>[([1],.box [.d (i64 v.k),.d (i64 v.n),.d (.str v.s),.d (.sl (some 5) v.ps)])]) [1] (fun x=>v.vs.length-x.1) ⟨0,Nat.zero_le _⟩ id ?_ ?_
   ·simp only [go_sem]
    all_goals ((repeat' apply And.intro)<;>first | rfl | trivial)
   rintro ⟨i,hi⟩ E0
   refine aO E0 fun Q' hQ E'=>?_
   simp only at hi ⊢
   simp only [go_sem]
   refine ah E' (fun g=>?_) (fun g=>?_)<;>simp only [go_sem]
   ·have hi':i<v.vs.length:=by omega
    refine ⟨⟨by omega,by omega⟩,?_⟩
    rw [ok.eY hi']
    simp only [go_sem]
    refine ab E' (hkid i hi') rfl rfl (by simp) ?_
    rintro _ rfl
    have hst:=tv hi'
    have hle:=zH v.vs (i+1)
    unfold VT.kid at *
    generalize (v.vs.getD i noV).sz=z at *
    simp only [go_sem]
    rw [hQ]
    simp only [go_sem]
    rw [ai (n:=((1+iZ (v.vs.take i):Nat):Int)+(z:Int)) ⟨by omega,by omega⟩,ai (n:=(i:Int)+1) ⟨by omega,by omega⟩]
    refine ⟨⟨i+1,by omega⟩,by show v.vs.length-(i+1)<v.vs.length-i;omega,id,?_⟩
    simp only [go_sem]
    rw [show ((1+iZ (v.vs.take (i+1)):Nat):Int)=((1+iZ (v.vs.take i):Nat):Int)+(z:Int) by omega]
    all_goals ((repeat' apply And.intro)<;>first | rfl | trivial)
   ·have hi':i=v.vs.length:=by omega
    subst hi'
    rw [hQ]
    simp only [go_sem]
    rw [hsz,Nat.add_comm]
theorem F6 {G} (v:VT) (hw:v.wf):HP Tryz.prog G 44 [v.dat] (fun r=>r=.d (.bool (eC v.k v.n v.s v.nms))):=by
 have ok:=hw.ok
 have hpl:=ok.fQ
 have hnl:=ok.len
 have hf:=ok.few
 have hsl:=ok.sl
 have htag:=vr (G:=G) v.s hsl
 have hg0:v.nms.length=1→v.ps.getD 0 .nilp=.agg [.str (v.nms.getD 0 []),i64 (v.kid 0).k,i64 (v.kid 0).n,.str (v.kid 0).s,.sl (some 5) (v.kid 0).ps]:=fun h=>ok.eY (by omega)
 generalize hR:eC v.k v.n v.s v.nms=R
 unfold eC at hR
 rw [av]
 have hps:v.ps.length=v.nms.length:=by omega
 generalize v.ps=ps at hps hg0 ⊢
 generalize dY v.s=tb at htag hR
 refine aj Tryz.func44 rfl (by decide +kernel) (by simp [Tryz.ntmps44]) (veil fun E=>?_)
 simp only [go_sem]
 refine ah E (fun h=>?_) (fun h=>?_)<;>simp only [go_sem]
 ·rw [if_pos h] at hR
  repeat (first
   | (apply br E;(· simp only [go_sem]);(· intro h;(try simp only [bq] at h);simp only [↓h,go_sem];rfl);simp only [go_sem])
   | (apply aK E;(· simp only [go_sem]);(· intro h;(try simp only [bq] at h);simp only [↓h,go_sem];rfl);(· intro h;(try simp only [bq] at h);simp only [↓h,go_sem];rfl);simp only [go_sem])
   | (apply aI E;(· simp only [go_sem]);(· rfl);(· intro h h';(try simp only [bq] at h h');simp only [↓h,↓h',go_sem];rfl);simp only [go_sem])
   | (apply aw E;(· simp only [go_sem]);(· rfl);(· intro h h';(try simp only [bq] at h h');simp only [↓h,↓h',go_sem];rfl);(· intro h h';(try simp only [bq] at h h');simp only [↓h,↓h',go_sem];rfl);simp only [go_sem])
   | (apply bo E;(· decide);simp only [go_sem]))
  rw [← hR]
  simp [hps]
 rw [if_neg h] at hR
 refine ah E (fun h=>?_) (fun h=>?_)<;>simp only [go_sem]
 ·rw [if_pos h] at hR
  repeat (first
   | (apply br E;(· simp only [go_sem]);(· intro h;(try simp only [bq] at h);simp only [↓h,go_sem];rfl);simp only [go_sem])
   | (apply aK E;(· simp only [go_sem]);(· intro h;(try simp only [bq] at h);simp only [↓h,go_sem];rfl);(· intro h;(try simp only [bq] at h);simp only [↓h,go_sem];rfl);simp only [go_sem])
   | (apply aI E;(· simp only [go_sem]);(· rfl);(· intro h h';(try simp only [bq] at h h');simp only [↓h,↓h',go_sem];rfl);simp only [go_sem])
   | (apply aw E;(· simp only [go_sem]);(· rfl);(· intro h h';(try simp only [bq] at h h');simp only [↓h,↓h',go_sem];rfl);(· intro h h';(try simp only [bq] at h h');simp only [↓h,↓h',go_sem];rfl);simp only [go_sem])
   | (apply bo E;(· decide);simp only [go_sem]))
  rw [← hR]
  simp [hps]
 rw [if_neg h] at hR
 refine ah E (fun h=>?_) (fun h=>?_)<;>simp only [go_sem]
 ·rw [if_pos h] at hR
  repeat (first
   | (apply br E;(· simp only [go_sem]);(· intro h;(try simp only [bq] at h);simp only [↓h,go_sem];rfl);simp only [go_sem])
   | (apply aK E;(· simp only [go_sem]);(· intro h;(try simp only [bq] at h);simp only [↓h,go_sem];rfl);(· intro h;(try simp only [bq] at h);simp only [↓h,go_sem];rfl);simp only [go_sem])
   | (apply aI E;(· simp only [go_sem]);(· rfl);(· intro h h';(try simp only [bq] at h h');simp only [↓h,↓h',go_sem];rfl);simp only [go_sem])
   | (apply aw E;(· simp only [go_sem]);(· rfl);(· intro h h';(try simp only [bq] at h h');simp only [↓h,↓h',go_sem];rfl);(· intro h h';(try simp only [bq] at h h');simp only [↓h,↓h',go_sem];rfl);simp only [go_sem])
   | (apply bo E;(· decide);simp only [go_sem]))
  rw [← hR]
  simp [hps]
 rw [if_neg h] at hR
 refine ah E (fun h=>?_) (fun h=>?_)<;>simp only [go_sem]
 ·rw [if_pos h] at hR
  repeat (first
   | (apply br E;(· simp only [go_sem]);(· intro h;(try simp only [bq] at h);simp only [↓h,go_sem];rfl);simp only [go_sem])
   | (apply aK E;(· simp only [go_sem]);(· intro h;(try simp only [bq] at h);simp only [↓h,go_sem];rfl);(· intro h;(try simp only [bq] at h);simp only [↓h,go_sem];rfl);simp only [go_sem])
   | (apply aI E;(· simp only [go_sem]);(· rfl);(· intro h h';(try simp only [bq] at h h');simp only [↓h,↓h',go_sem];rfl);simp only [go_sem])
   | (apply aw E;(· simp only [go_sem]);(· rfl);(· intro h h';(try simp only [bq] at h h');simp only [↓h,↓h',go_sem];rfl);(· intro h h';(try simp only [bq] at h h');simp only [↓h,↓h',go_sem];rfl);simp only [go_sem])
   | (apply bo E;(· decide);simp only [go_sem]))
  rw [← hR]
  simp [hps]
 rw [if_neg h] at hR
 refine ah E (fun h=>?_) (fun h=>?_)<;>simp only [go_sem]
 ·rw [if_pos h] at hR
  repeat (first
   | (apply br E;(· simp only [go_sem]);(· intro h;(try simp only [bq] at h);simp only [↓h,go_sem];rfl);simp only [go_sem])
   | (apply aK E;(· simp only [go_sem]);(· intro h;(try simp only [bq] at h);simp only [↓h,go_sem];rfl);(· intro h;(try simp only [bq] at h);simp only [↓h,go_sem];rfl);simp only [go_sem])
   | (apply aI E;(· simp only [go_sem]);(· rfl);(· intro h h';(try simp only [bq] at h h');simp only [↓h,↓h',go_sem];rfl);simp only [go_sem])
   | (apply aw E;(· simp only [go_sem]);(· rfl);(· intro h h';(try simp only [bq] at h h');simp only [↓h,↓h',go_sem];rfl);(· intro h h';(try simp only [bq] at h h');simp only [↓h,↓h',go_sem];rfl);simp only [go_sem])
   | (apply bo E;(· decide);simp only [go_sem]))
  rw [← hR]
 rw [if_neg h] at hR
 refine ah E (fun h=>?_) (fun h=>?_)<;>simp only [go_sem]
 ·rw [if_pos h] at hR
  refine ar E (fun g1=>?_) (fun g1=>?_)<;>simp only [go_sem]
  ·refine ab E htag rfl rfl (by simp) ?_
   rintro _ rfl
   simp only [go_sem]
   refine bz E (fun g2=>?_) (fun g2=>?_)<;>simp only [go_sem]
   ·refine ar E (fun g3=>?_) (fun g3=>?_)<;>simp only [go_sem]
    ·have h1:v.nms.length=1:=by omega
     refine ⟨by omega,?_⟩
     rw [hg0 h1]
     simp only [go_sem]
     rw [← hR]
     simp [g1,g2,h1]
    ·have h1:¬ v.nms.length=1:=by omega
     rw [← hR]
     simp [h1]
   ·rw [← hR]
    simp [g2]
  ·rw [← hR]
   simp [g1]
 rw [if_neg h] at hR
 rw [← hR]
end Go.Proofs.YtejpnabbmgpmaaaGreatDoor

namespace Go.Proofs.YtejpnabbmgpmaaaGreatDoor
open Go.Ab
mutual
def VT.inn:VT→Prop
 | .mk _ n s nms vs=>(inR n∧s.length≤maxLen∧nms.length=vs.length∧vs.length≤maxLen∧∀ x∈nms,x.length≤maxLen)∧VT.inns vs
def VT.inns:List VT→Prop
 | []=>True
 | v::r=>v.inn∧VT.inns r
end
theorem nh:∀ l:List VT,VT.inns l↔∀ v∈l,v.inn
 | []=>by simp [VT.inns]
 | v::r=>by rw [VT.inns,nh r];simp
theorem IG:shp Tryz.prog 1 2=some [.int .i64]:=by kernel_rfl
theorem IQ:shp Tryz.prog 1 3=some [.int .i64]:=by kernel_rfl
theorem Hq:shp Tryz.prog 1 9=some [.str]:=by kernel_rfl
theorem At:Tryz.prog.cellsOf 2=1:=by kernel_rfl
theorem Cr:Tryz.prog.cellsOf 3=1:=by kernel_rfl
theorem q8:Tryz.prog.cellsOf 9=1:=by kernel_rfl
theorem xW:Tryz.prog.cellsOf 35=1:=by kernel_rfl
theorem py:Tryz.prog.cellsOf 37=4:=by kernel_rfl
theorem oQ:Tryz.prog.cellsOf 74=5:=by kernel_rfl
theorem HQ:(Tryz.prog.ti 37).k=.struct [(0,3),(1,2),(2,9),(3,35)]:=by kernel_rfl
theorem I1:(Tryz.prog.ti 74).k=.struct [(0,9),(1,37)]:=by kernel_rfl
theorem I6:(Tryz.prog.ti 35).k=.slice 74:=by kernel_rfl
section
variable {H:Type} {enc:TypeId × Value→H} {w:World} {spare:Nat→Bool} {held:Bool}
theorem mc {t:TypeId} {fs:List (Nat × Nat)} (hk:(Tryz.prog.ti t).k=.struct fs) {n':Nat} {cs:List Value} {x:DataW H × List MemPlace} (h:DataW.trod enc Tryz.prog w 0 spare held n' t cs=some x) :
  cs.length=Tryz.prog.cellsOf t∧∃ n,n'=n+1∧∀ i o e:Nat,fs[i]?=some (o,e)→∃ y,DataW.trod enc Tryz.prog w 0 spare held n e ((cs.drop o).take (Tryz.prog.cellsOf e))=some y:=by
 obtain ⟨fl,hu,rfl⟩:=e8 hk
 obtain ⟨xs,n,rfl,_,hcl,hxl,hf⟩:=DataW.trod_struct hu h
 refine ⟨hcl,n,rfl,fun i o e hi=>?_⟩
 rw [List.getElem?_map] at hi
 cases hq:fl.toList[i]? with
 | none=>rw [hq] at hi;cases hi
 | some f =>
   rw [hq] at hi
   obtain ⟨rfl,rfl⟩:=Prod.mk.inj (Option.some.inj hi)
   have hq':fl[i]?=some f:=by simpa using hq
   have h1:=hf i f hq'
   have hlt:i<xs.length:=by
    have:=(Array.getElem?_eq_some_iff.1 hq').1
    omega
   exact ⟨xs[i],by rw [h1];simp [hlt]⟩
theorem Hs {cs:List Value} {o:Nat} {d:D} (h:CD w ((cs.drop o).take 1) [d]):Rep w.heap (fun _=>False) (cs.getD o undef) d:=by
 have:=h.2 0 d rfl
 rw [List.getD_eq_getElem?_getD,List.getElem?_take,if_pos (by omega),List.getElem?_drop] at this
 simpa [List.getD_eq_getElem?_getD] using this
theorem jA {t:TypeId} {ty:TS} (hs:shp Tryz.prog 1 t=some [ty]) (hc:Tryz.prog.cellsOf t=1) {n:Nat} {cs:List Value} {o:Nat} {y:DataW H × List MemPlace} (h:DataW.trod enc Tryz.prog w 0 spare held n t ((cs.drop o).take (Tryz.prog.cellsOf t))=some y) :
  ∃ d,ty.ok d∧Rep w.heap (fun _=>False) (cs.getD o undef) d:=by
 obtain ⟨ds,h1,h2,h3⟩:=(n6 1).1 n t _ _ _ hs h
 rw [hc] at h2 h3
 match ds,h1 with
 | [d],h1=>exact ⟨d,h1.1,Hs h3⟩
theorem vQ:∀ (N n':Nat),n'≤N→∀ (cs:List Value) (x:DataW H × List MemPlace),DataW.trod enc Tryz.prog w 0 spare held n' 37 cs=some x →
  ∃ v:VT,v.inn∧cs.length=4∧∀ (j:Nat) d,([i64 v.k,i64 v.n,.str v.s,.sl (some 5) v.ps]:List D)[j]?=some d→Rep w.heap (fun _=>False) (cs.getD j undef) d
 | 0,n',hn,cs,x,h=>by
   obtain ⟨_,n,rfl,_⟩:=mc HQ h
   omega
 | N+1,n',hn,cs,x,h=>by
   obtain ⟨hcl,n,rfl,hf⟩:=mc HQ h
   rw [py] at hcl
   obtain ⟨y0,g0⟩:=hf 0 0 3 rfl
   obtain ⟨y1,g1⟩:=hf 1 1 2 rfl
   obtain ⟨y2,g2⟩:=hf 2 2 9 rfl
   obtain ⟨y3,g3⟩:=hf 3 3 35 rfl
   obtain ⟨d0,k0,r0⟩:=jA IQ Cr g0
   obtain ⟨d1,k1,r1⟩:=jA IG At g1
   obtain ⟨d2,k2,r2⟩:=jA Hq q8 g2
   obtain ⟨z0,rfl⟩:∃ z,d0=i64 z:=by
    cases d0<;>first | (exact k0.elim) | skip
    obtain ⟨rfl,_⟩:=k0
    exact ⟨_,rfl⟩
   obtain ⟨z1,rfl,hz1⟩:∃ z,d1=i64 z∧inR z:=by
    cases d1<;>first | (exact k1.elim) | skip
    obtain ⟨rfl,hz⟩:=k1
    refine ⟨_,rfl,?_⟩
    have e1:IntKind.i64.min = -9223372036854775808:=by decide
    have e2:IntKind.i64.max=9223372036854775807:=by decide
    rw [e1,e2] at hz
    exact hz
   obtain ⟨s,rfl,hs⟩:∃ s,d2=.str s∧s.length≤maxLen:=by
    cases d2<;>first | (exact k2.elim) | skip
    exact ⟨_,rfl,k2⟩
   rw [xW] at g3
   have e3:(cs.drop 3).take 1=[cs.getD 3 undef]:=by
    rw [List.drop_eq_getElem_cons (show 3<cs.length by omega),List.take_succ_cons,List.take_zero,List.getD_eq_getElem?_getD,List.getElem?_eq_getElem (show 3<cs.length by omega)]
    rfl
   rw [e3] at g3
   obtain ⟨nms,vs,hln,hlm,hnl,hvs,r3⟩:∃ (nms:List (List UInt8)) (vs:List VT),nms.length=vs.length∧vs.length≤maxLen∧(∀ x∈nms,x.length≤maxLen)∧(∀ u∈vs,u.inn)∧Rep w.heap (fun _=>False) (cs.getD 3 undef) (.sl (some 5) (List.zipWith vfD nms (VT.dats vs))):=by
    rcases DataW.trod_slice (a8 I6) g3 with ⟨hv,_⟩ | ⟨a,len,cap,elems,rest,n2,hn2,hv,_,_,hlen,hcap,hel,hget,_,_⟩
    ·have hv:cs.getD 3 undef=.slice none 0 0:=by simpa using hv
     rw [hv]
     exact ⟨[],[],rfl,Nat.zero_le _,(fun _ h=>by cases h),(fun _ h=>by cases h),.sl0 _ _ _⟩
    have hv:cs.getD 3 undef=.slice (some a) len cap:=by simpa using hv
    have each:∀ i,i<len→∃ q:List UInt8 × VT,(q.1.length≤maxLen∧q.2.inn)∧∃ ci,w.cells? 0 (a.add (i*Tryz.prog.cellsOf 74)) (Tryz.prog.cellsOf 74)=some ci∧∀ (j:Nat) d,(vfD q.1 q.2.dat).cells[j]?=some d→Rep w.heap (fun _=>False) (ci.getD j undef) d:=by
     intro i hi
     have h1:=hget i hi
     have hi':i<elems.length:=by omega
     rw [List.getElem?_eq_getElem hi',Option.bind_eq_some_iff] at h1
     obtain ⟨ci,hci,htr⟩:=h1
     obtain ⟨hcl2,n3,hn3,hf2⟩:=mc I1 htr
     obtain ⟨y4,g4⟩:=hf2 0 0 9 rfl
     obtain ⟨y5,g5⟩:=hf2 1 1 37 rfl
     obtain ⟨d4,k4,r4⟩:=jA Hq q8 g4
     obtain ⟨nm,rfl,hnm⟩:∃ s,d4=.str s∧s.length≤maxLen:=by
      cases d4<;>first | (exact k4.elim) | skip
      exact ⟨_,rfl,k4⟩
     obtain ⟨u,hu,_,r5⟩:=vQ N n3 (by omega) _ _ g5
     refine ⟨(nm,u),⟨hnm,hu⟩,ci,hci,fun j d hj=>?_⟩
     unfold vfD at hj
     rw [av] at hj
     cases j with
     | zero =>
       obtain rfl:=Option.some.inj hj
       exact r4
     | succ j =>
       have hj:([i64 u.k,i64 u.n,.str u.s,.sl (some 5) u.ps]:List D)[j]?=some d:=hj
       have:=r5 j d hj
       have hlt:j<4:=(List.getElem?_eq_some_iff.1 hj).1
       rw [py,List.getD_eq_getElem?_getD,List.getElem?_take,if_pos hlt,List.getElem?_drop] at this
       rw [List.getD_eq_getElem?_getD,Nat.add_comm]
       exact this
    obtain ⟨qs,hql,hqs⟩:=kP each
    have hxs:List.zipWith vfD (qs.map (·.1)) (VT.dats (qs.map (·.2)))=qs.map fun q=>vfD q.1 q.2.dat:=by
     rw [ch,List.map_map,List.zipWith_map,List.zipWith_self]
     rfl
    refine ⟨qs.map (·.1),qs.map (·.2),by simp,by rw [List.length_map];omega,fun x hx=>?_,fun u hu=>?_,?_⟩
    ·obtain ⟨q,hq,rfl⟩:=List.mem_map.1 hx
     obtain ⟨i,hi⟩:=List.mem_iff_getElem?.1 hq
     exact (hqs i q hi).1.1
    ·obtain ⟨q,hq,rfl⟩:=List.mem_map.1 hu
     obtain ⟨i,hi⟩:=List.mem_iff_getElem?.1 hq
     exact (hqs i q hi).1.2
    ·rw [hxs,hv]
     have hr:=pB (w:=w) (a:=a) (cap:=cap) (wf:=some 5) (c:=Tryz.prog.cellsOf 74) (xs:=qs.map fun q=>vfD q.1 q.2.dat) (by rw [oQ];rfl) (by rw [oQ];decide) (by rw [List.length_map];omega)
      (fun y hy=>by
       obtain ⟨q,_,rfl⟩:=List.mem_map.1 hy
       unfold vfD
       rw [av]
       refine ⟨rfl,?_⟩
       show ∀ d∈([.str q.1,i64 q.2.k,i64 q.2.n,.str q.2.s,.sl (some 5) q.2.ps]:List D),d.scal=true
       simp [D.scal])
      (fun i hi=>by
       rw [List.length_map] at hi
       have hi2:qs[i]?=some qs[i]:=List.getElem?_eq_getElem hi
       obtain ⟨_,ci,h2,h3⟩:=hqs i qs[i] hi2
       exact ⟨ci,h2,fun y hy j d hj=>by
        rw [List.getElem?_map,hi2] at hy
        obtain rfl:=Option.some.inj hy
        exact h3 j d hj⟩)
     rw [List.length_map,hql] at hr
     exact hr
   refine ⟨.mk z0 z1 s nms vs,?_,hcl,fun j d hj=>?_⟩
   ·rw [VT.inn,nh]
    exact ⟨⟨hz1,hs,hln,hlm,hnl⟩,hvs⟩
   ·rcases j with _ | _ | _ | _ | j
    ·obtain rfl:=Option.some.inj hj;exact r0
    ·obtain rfl:=Option.some.inj hj;exact r1
    ·obtain rfl:=Option.some.inj hj;exact r2
    ·obtain rfl:=Option.some.inj hj;exact r3
    ·simp at hj
theorem B3 {vs:Array Value} {dw:DataW H} {ps:List MemPlace} (h:DataW.Trod enc Tryz.prog w 0 spare held 37 (.agg vs) dw ps):∃ v:VT,v.inn∧Rep w.heap (fun _=>False) (.agg vs) v.dat:=by
 obtain ⟨n,hn⟩:=h
 obtain ⟨v,h1,h2,h3⟩:=vQ n n (Nat.le_refl _) _ _ hn
 refine ⟨v,h1,?_⟩
 rw [av]
 have h2:vs.size=4:=by simpa [Value.cells] using h2
 refine .agg vs _ (by rw [h2];rfl) (by simp [D.scal]) fun i d hi=>?_
 have:=h3 i d hi
 simpa [Value.cells,Array.getD_eq_getD_getElem?,List.getD_eq_getElem?_getD] using this
end
def bL:Nat→VT→VT
 | 0,_=>.mk 1 0 [] [] []
 | d+1,.mk k n s nms vs=>.mk k n (s.take 300) (nms.take 6) ((vs.take 6).map (bL d))
theorem jk (v:VT):bL 0 v=.mk 1 0 [] [] []:=by rw [bL]
theorem zl (d:Nat) (v:VT):(bL (d+1) v).k=v.k∧(bL (d+1) v).n=v.n∧(bL (d+1) v).s=v.s.take 300∧(bL (d+1) v).nms=v.nms.take 6∧(bL (d+1) v).vs=(v.vs.take 6).map (bL d):=by
 cases v
 rw [bL]
 exact ⟨rfl,rfl,rfl,rfl,rfl⟩
structure VT.In (v:VT):Prop where
 n:inR v.n
 s:v.s.length≤maxLen
 len:v.nms.length=v.vs.length
 few:v.vs.length≤maxLen
 nl:∀ x∈v.nms,x.length≤maxLen
 kids:∀ u∈v.vs,u.inn
theorem VT.inn.of {v:VT} (h:v.inn):v.In:=by
 cases v with
 | mk k n s nms vs =>
   rw [VT.inn,nh] at h
   exact ⟨h.1.1,h.1.2.1,h.1.2.2.1,h.1.2.2.2.1,h.1.2.2.2.2,h.2⟩
theorem sn:maxLen≤9223372036854775807:=by unfold maxLen;omega
theorem pI:∀ (d:Nat) (v:VT),v.inn→(bL d v).wf
 | 0,v,_=>by
   rw [jk,VT.wf,VT.wfs]
   exact ⟨⟨rfl,Nat.zero_le _,Nat.zero_le _,fun _ h=>by cases h⟩,trivial⟩
 | d+1,v,h=>by
   have hi:=h.of
   have:=sn
   cases v with
   | mk k n s nms vs =>
     rw [bL,VT.wf,jI]
     have h1:nms.length=vs.length:=hi.len
     have h2:s.length≤maxLen:=hi.s
     refine ⟨⟨by simp only [List.length_take,List.length_map];omega,by simp only [List.length_take,List.length_map];omega,by rw [List.length_take];omega,fun x hx=>?_⟩,fun u hu=>?_⟩
     ·have:=hi.nl x (List.mem_of_mem_take hx)
      omega
     ·obtain ⟨q,hq,rfl⟩:=List.mem_map.1 hu
      exact pI d q (hi.kids q (List.mem_of_mem_take hq))
end Go.Proofs.YtejpnabbmgpmaaaGreatDoor

namespace Go.Proofs.YtejpnabbmgpmaaaGreatDoor
open Go.Ab
theorem HP.leR {P:Program} {G:List (Nat × Obj)} {f:FuncId} {args:List D} {x y:D} (h:HP P G f args (fun r=>r=.d x)) (hl:DLe x y):HP P G f args (fun r=>r=.d y):=by
 refine ⟨h.1,fun B β vs w h1 h2 h3 h4 h5=>(h.2 B β vs w h1 h2 h3 h4 h5).mono fun e w'=>?_⟩
 rintro ⟨v,r,hp',u',β',he,⟨rfl,_,rfl⟩,hs⟩
 refine ⟨v,.d y,[],u',β',he,⟨rfl,rfl,rfl⟩,{ tms:=hs.tms,io:=hs.io,size:=hs.size,frame:=hs.frame,slots:=fun t=>?_,objs:=hs.objs,blocks:=hs.blocks,inj:=hs.inj,us:=hs.us,stay:=hs.stay }⟩
 have hv:=hs.slots t
 rw [cS] at hv ⊢
 by_cases ht:t=0
 ·subst ht
  have hv:VR _ _ _ _ _ _ (.d x):=hv
  exact .d _ _ (hl.rep hv.toD)
 ·have e1:lkA AV.un [(0,AV.d y)] t=.un:=by simp [lkA,ht]
  rw [e1]
  exact .un _
theorem FX {v:VT} (h:v.In):v.ps.length=v.vs.length:=by
 unfold VT.ps
 rw [List.length_zipWith,ch,List.length_map,h.len,Nat.min_self]
theorem GI {v:VT} (h:v.In) {i:Nat} (hi:i<v.vs.length):v.ps.getD i .nilp=.agg [.str (v.nm i),i64 (v.kid i).k,i64 (v.kid i).n,.str (v.kid i).s,.sl (some 5) (v.kid i).ps]:=by
 have hn:i<v.nms.length:=by rw [h.len];exact hi
 have hd:(VT.dats v.vs)[i]?=some (v.kid i).dat:=by
  rw [ch,List.getElem?_map,List.getElem?_eq_getElem hi]
  unfold VT.kid
  rw [List.getD_eq_getElem?_getD,List.getElem?_eq_getElem hi];rfl
 unfold VT.ps
 rw [List.getD_eq_getElem?_getD,List.getElem?_zipWith,List.getElem?_eq_getElem hn,hd]
 simp only [Option.getD_some]
 unfold vfD
 rw [av]
 unfold VT.nm
 rw [List.getD_eq_getElem?_getD,List.getElem?_eq_getElem hn]
 rfl
def psF (d:Nat) (v:VT) (i:Nat):List D:=List.zipWith vfD (v.nms.take i) (VT.dats ((v.vs.take i).map (bL d)))
theorem D2 {d:Nat} {v:VT} (h:v.In) {i:Nat} (hi:i≤v.vs.length):(psF d v i).length=i:=by
 have:=h.len
 unfold psF
 rw [List.length_zipWith,ch,List.length_map,List.length_map,List.length_take,List.length_take]
 omega
theorem Ci {d:Nat} {v:VT} (h:v.In) {i:Nat} (hi:i<v.vs.length):psF d v (i+1)=psF d v i++[.agg [.str (v.nm i),i64 (bL d (v.kid i)).k,i64 (bL d (v.kid i)).n,.str (bL d (v.kid i)).s,.sl (some 5) (bL d (v.kid i)).ps]]:=by
 have hn:i<v.nms.length:=by rw [h.len];exact hi
 have hl:=h.len
 unfold psF
 rw [List.take_succ_eq_append_getElem hn,List.take_succ_eq_append_getElem hi,List.map_append,ch,ch,List.map_append,List.zipWith_append (by simp only [List.length_take,List.length_map];omega)]
 congr 1
 show [vfD v.nms[i] (bL d v.vs[i]).dat]=_
 unfold vfD
 rw [av]
 unfold VT.nm VT.kid
 rw [List.getD_eq_getElem?_getD,List.getElem?_eq_getElem hn,List.getD_eq_getElem?_getD,List.getElem?_eq_getElem hi]
 rfl
theorem EY {d:Nat} {v:VT} (h:v.In) {i:Nat} (hi:i≤v.vs.length∧i≤6) (he:¬ (i<v.vs.length∧i<6)):psF d v i=(bL (d+1) v).ps:=by
 have hl:=h.len
 obtain ⟨_,_,_,g1,g2⟩:=zl d v
 unfold VT.ps psF
 rw [g1,g2]
 have t1:v.nms.take i=v.nms.take 6:=by
  by_cases h6:i=6
  ·rw [h6]
  ·rw [List.take_of_length_le (by omega),List.take_of_length_le (by omega)]
 have t2:v.vs.take i=v.vs.take 6:=by
  by_cases h6:i=6
  ·rw [h6]
  ·rw [List.take_of_length_le (by omega),List.take_of_length_le (by omega)]
 rw [t1,t2]
theorem Cz {G} (v:VT):HP Tryz.prog G 18 [v.dat,i64 0] (fun r=>r=.d (.agg [i64 1,i64 0,.str [],.nils])):=by
 rw [av]
 refine aL Tryz.func18 rfl (by decide +kernel) (by simp [Tryz.ntmps18]) (veil fun E=>?_)
 simp only [go_sem]
 refine ⟨[],?_⟩
 simp only [go_sem]
theorem vg {G}:∀ (d:Nat) (v:VT),v.inn→d≤1000→HP Tryz.prog G 18 [v.dat,i64 (d:Int)] (fun r=>r=.d (bL d v).dat)
 | 0,v,h,_=>by
   refine HP.leR (Cz v) ?_
   rw [jk,av]
   refine .agg _ _ rfl (by simp [D.scal]) fun i x y hx hy=>?_
   rcases i with _ | _ | _ | _ | i
   ·cases hx;cases hy;exact .inl rfl
   ·cases hx;cases hy;exact .inl rfl
   ·cases hx;cases hy;exact .inl rfl
   ·cases hx;cases hy;exact .inr ⟨some 5,rfl,rfl⟩
   ·simp at hx
 | d+1,v,h,hd=>by
   have hi:=h.of
   have hm:=sn
   have hpl:=FX hi
   have hf:=hi.few
   have hs:=hi.s
   obtain ⟨g1,g2,g3,g4,g5⟩:=zl d v
   have hkid:∀ i,i<v.vs.length→HP Tryz.prog G 18 [.agg [i64 (v.kid i).k,i64 (v.kid i).n,.str (v.kid i).s,.sl (some 5) (v.kid i).ps],i64 (d:Int)] (fun r=>r=.d (.agg [i64 (bL d (v.kid i)).k,i64 (bL d (v.kid i)).n,.str (bL d (v.kid i)).s,.sl (some 5) (bL d (v.kid i)).ps])):=fun i hi2=>by
    have:=vg (G:=G) d (v.kid i) (hi.kids _ (bJ hi2)) (by omega)
    rw [av,av] at this
    exact this
   have hst:=fun i (h:i<v.vs.length)=>Ci (d:=d) hi h
   have hpsl:=fun i (h:i≤v.vs.length)=>D2 (d:=d) hi h
   have hend:=fun i h1 h2=>EY (d:=d) (i:=i) hi h1 h2
   rw [av,av (bL (d+1) v),g1,g2,g3]
   generalize (bL (d+1) v).ps=PS at hend ⊢
   refine aL Tryz.func18 rfl (by decide +kernel) (by simp [Tryz.ntmps18]) (veil fun E=>?_)
   simp only [go_sem]
   refine ah E (fun h1=>?_) (fun h1=>?_)<;>simp only [go_sem]
   ·omega
   refine ak mixed E fun X=>?_
   simp only [go_sem]
   refine ⟨GF 300 v.s.length (by decide) (by omega),?_⟩
   rw [F1 300 (by decide) v.s,show (300:Int).toNat=300 from rfl]
   refine ⟨by decide +kernel,?_⟩
   refine jg E [5] 3 99 (some 5) [.d (i64 v.k),.d (i64 v.n),.d (.str (v.s.take 300)),.d .nils] rfl rfl (by rw [aa];decide) ?_
   simp only [go_sem]
   refine aC E (X:={ i:Nat // i≤v.vs.length∧i≤6 }) (fun x=>[(1,.d (i64 ((d+1:Nat):Int))),(2,.bx [2] 0),(4,.bx [4] 0),(5,.bx [5] 0),(6,.d (i64 x.1))])
    (fun x=>[([2],.box [.d (i64 v.k),.d (i64 v.n),.d (.str v.s),.d (.sl (some 5) v.ps)]),([4],.box [.d (i64 0),.d (i64 0),.d (.str []),.d .nils]),([5],.box [.d (i64 v.k),.d (i64 v.n),.d (.str (v.s.take 300)),.vw [99] 0 x.1]),([99],.arr (some 5) (psF d v x.1))]) [2,4,5,99] (fun x=>v.vs.length-x.1) ⟨0,Nat.zero_le _,Nat.zero_le _⟩ id ?_ ?_
   ·simp only [go_sem]
    all_goals ((repeat' apply And.intro)<;>first | rfl | trivial)
   rintro ⟨i,hi1,hi6⟩ E0
   refine aO E0 fun Q' hQ E'=>?_
   simp only at hi1 hi6 ⊢
   have hpi:=hpsl i hi1
   simp only [go_sem]
   repeat (first
    | (apply br E';(· simp only [go_sem]);(· intro h;(try simp only [bq] at h);simp only [↓h,go_sem];rfl);simp only [go_sem])
    | (apply aK E';(· simp only [go_sem]);(· intro h;(try simp only [bq] at h);simp only [↓h,go_sem];rfl);(· intro h;(try simp only [bq] at h);simp only [↓h,go_sem];rfl);simp only [go_sem])
    | (apply aI E';(· simp only [go_sem]);(· rfl);(· intro h h';(try simp only [bq] at h h');simp only [↓h,↓h',go_sem];rfl);simp only [go_sem])
    | (apply aw E';(· simp only [go_sem]);(· rfl);(· intro h h';(try simp only [bq] at h h');simp only [↓h,↓h',go_sem];rfl);(· intro h h';(try simp only [bq] at h h');simp only [↓h,↓h',go_sem];rfl);simp only [go_sem])
    | (apply bo E';(· decide);simp only [go_sem]))
   refine aG E' (fun g0=>?_) (fun g0=>?_)<;>simp only [go_sem]
   ·have g2:i<v.vs.length∧i<6:=by
     simp only [Bool.and_eq_true,decide_eq_true_eq] at g0
     omega
    have hc:=hkid i g2.1
    have hst':=hst i g2.1
    have hg0:=GI hi g2.1
    refine ak mixed E' fun X=>?_
    simp only [go_sem]
    refine ⟨⟨by omega,by omega⟩,?_⟩
    rw [hg0]
    simp only [go_sem]
    refine ⟨⟨by omega,by omega⟩,?_⟩
    rw [hg0]
    simp only [go_sem]
    rw [ai (n:=((d+1:Nat):Int)-1) ⟨by omega,by omega⟩,show ((d+1:Nat):Int)-1=(d:Int) by omega]
    generalize bL d (v.kid i)=u at hc hst'
    refine bp X hc rfl rfl (by simp) ?_
    simp only [go_sem]
    refine ⟨by omega,by decide +kernel,?_⟩
    rw [List.take_of_length_le (show (psF d v i).length≤i by omega),← hst',hQ]
    simp only [go_sem]
    rw [ai (n:=(i:Int)+1) ⟨by omega,by omega⟩]
    refine ⟨⟨i+1,by omega,by omega⟩,by show v.vs.length-(i+1)<v.vs.length-i;omega,tau [([99],[52])],?_⟩
    simp only [go_sem]
    all_goals ((repeat' apply And.intro)<;>first | rfl | trivial)
   ·have g2:¬ (i<v.vs.length∧i<6):=by
     rw [Bool.eq_false_iff] at g0
     intro h
     apply g0
     simp only [Bool.and_eq_true,decide_eq_true_eq]
     omega
    rw [hQ]
    simp only [go_sem]
    refine ⟨[([99],some 5,psF d v i)],?_⟩
    simp only [go_sem]
    rw [List.take_of_length_le (show (psF d v i).length≤i by omega),hend i ⟨hi1,hi6⟩ g2]
end Go.Proofs.YtejpnabbmgpmaaaGreatDoor

namespace Go.Proofs.YtejpnabbmgpmaaaGreatDoor
open Go.Ab
mutual
def VT.pl:VT→Bool
 | .mk k _ _ _ vs=>VT.pls vs && decide (k≠4)
def VT.pls:List VT→Bool
 | []=>true
 | v::r=>v.pl && VT.pls r
end
theorem vE:∀ l:List VT,VT.pls l=l.all VT.pl
 | []=>rfl
 | v::r=>by rw [VT.pls,vE r];rfl
theorem wK (v:VT):v.pl=(v.vs.all VT.pl && decide (v.k≠4)):=by
 cases v with
 | mk k n s nms vs=>rw [VT.pl,vE];rfl
theorem fW {c:UInt8} {r:List UInt8} (h:mo c=false):gX (c::r):=by
 intro d y e
 cases e
 exact h
theorem Ej {c d:UInt8} {x y:List UInt8} (h:quC c++x=quC d++y):c=d∧x=y:=by
 cases hc:dJ c with
 | true =>
   have e:quC c=[c]:=by unfold quC;rw [if_pos hc]
   cases hd:dJ d with
   | true =>
     have e2:quC d=[d]:=by unfold quC;rw [if_pos hd]
     rw [e,e2] at h
     simp only [List.cons_append,List.nil_append,List.cons.injEq] at h
     exact h
   | false =>
     obtain ⟨u,e2,_,_⟩:=lz hd y
     rw [e,e2] at h
     simp only [List.cons_append,List.nil_append,List.cons.injEq] at h
     rw [h.1] at hc
     exact absurd hc (by decide)
 | false =>
   obtain ⟨u,e,he,_⟩:=lz hc x
   cases hd:dJ d with
   | true =>
     have e2:quC d=[d]:=by unfold quC;rw [if_pos hd]
     rw [e,e2] at h
     simp only [List.cons_append,List.nil_append,List.cons.injEq] at h
     rw [← h.1] at hd
     exact absurd hd (by decide)
   | false =>
     obtain ⟨v,e2,he2,_⟩:=lz hd y
     rw [e,e2] at h
     simp only [List.cons_append,List.cons.injEq,true_and] at h
     rw [h,he2] at he
     obtain ⟨h1,h2⟩:=Prod.mk.inj he
     obtain ⟨_,h4⟩:=List.append_inj h h2.symm
     exact ⟨h1.symm,h4⟩
theorem Bs (c:UInt8):∃ b y,quC c=b::y∧b≠34:=by
 cases hc:dJ c with
 | true=>exact ⟨c,[],by unfold quC;rw [if_pos hc],fun h=>by rw [h] at hc;exact absurd hc (by decide)⟩
 | false =>
   obtain ⟨u,e,_,_⟩:=lz hc []
   exact ⟨92,u,e,by decide⟩
theorem sy:∀ (s t r q:List UInt8),s.flatMap quC++34::r=t.flatMap quC++34::q→s=t∧r=q
 | [],[],r,q,h=>⟨rfl,by simpa using h⟩
 | [],d::t,r,q,h=>by
   obtain ⟨b,y,e,hb⟩:=Bs d
   rw [List.flatMap_cons,e] at h
   simp only [List.flatMap_nil,List.nil_append,List.cons_append,List.cons.injEq] at h
   exact absurd h.1.symm hb
 | c::s,[],r,q,h=>by
   obtain ⟨b,y,e,hb⟩:=Bs c
   rw [List.flatMap_cons,e] at h
   simp only [List.flatMap_nil,List.nil_append,List.cons_append,List.cons.injEq] at h
   exact absurd h.1 hb
 | c::s,d::t,r,q,h=>by
   rw [List.flatMap_cons,List.flatMap_cons,List.append_assoc,List.append_assoc] at h
   obtain ⟨h1,h2⟩:=Ej h
   obtain ⟨h3,h4⟩:=sy s t r q h2
   exact ⟨by rw [h1,h3],h4⟩
theorem FT {s t r q:List UInt8} (h:quS s++r=quS t++q):s=t∧r=q:=by
 unfold quS at h
 simp only [List.cons_append,List.append_assoc,List.nil_append,List.cons.injEq,true_and] at h
 exact sy s t r q h
theorem xd {a b:Nat} {r q:List UInt8} (hr:gX r) (hq:gX q) (h:Lib.decDigits a++r=Lib.decDigits b++q):a=b∧r=q:=by
 have h1:=mq (lU a).1 hr
 have h2:=mq (lU b).1 hq
 rw [h,h2] at h1
 obtain ⟨h3,h4⟩:=List.append_inj h h1.symm
 have g1:=(ly a).1
 have g2:=(ly b).1
 rw [h3,g2] at g1
 exact ⟨g1.symm,h4⟩
theorem xL {n m:Int} {r q:List UInt8} (hr:gX r) (hq:gX q) (h:eH n++r=eH m++q):n=m∧r=q:=by
 have no:∀ (u:Nat) (x y:List UInt8),126::x≠Lib.decDigits u++y:=fun u x y e=>by
  obtain ⟨c,z,hc,_,h2⟩:=jT u
  rw [hc] at e
  simp only [List.cons_append,List.cons.injEq] at e
  rw [← e.1] at h2
  exact absurd h2 (by decide)
 unfold eH at h
 by_cases h1:n<0<;>by_cases h2:m<0<;>simp only [h1,h2,if_true,if_false,List.cons_append,List.cons.injEq,true_and] at h
 ·obtain ⟨h3,h4⟩:=xd hr hq h
  exact ⟨by omega,h4⟩
 ·exact absurd h (no _ _ _)
 ·exact absurd h.symm (no _ _ _)
 ·obtain ⟨h3,h4⟩:=xd hr hq h
  exact ⟨by omega,h4⟩
theorem sB {s t r q:List UInt8} (hs:aS s=true) (ht:aS t=true) (hr:gX r) (hq:gX q) (h:s++r=t++q):s=t∧r=q:=by
 have h1:=rF hs hr
 have h2:=rF ht hq
 rw [h,h2] at h1
 exact List.append_inj h h1.symm
def Bh (c:UInt8):Int:=if aX c || decide (c=126) then 1 else if c=116∨c=102 then 2 else if c=34 then 3 else if c=60 then 4 else if c=123 then 5 else if gr c then 6 else 0
theorem Df {c:UInt8} (h:aX c=true):Bh c=1:=by
 unfold Bh
 rw [h];rfl
theorem Gs {c:UInt8} (h:gr c=true):Bh c=6:=by
 have:=AR (fun c=>!gr c || decide (Bh c=6)) (by decide +kernel) c
 rw [h] at this
 simpa using this
structure Bare (v:VT):Prop where
 k:1≤v.k∧v.k≤6
 leaf:v.k≤4→v.nms=[]∧v.vs=[]
 s:v.k≠3→v.k≠6→v.s=[]
 n:v.k≠1→v.k≠2→v.n=0
 b:v.k=2→v.n=0∨v.n=1
 r:v.k=5→v.nms.all aM=true
 t:v.k=6→dY v.s=true∧v.nms=[[]]∧∃ u,v.vs=[u]
theorem fm {v:VT} (ok:v.Ok) (h:v.may=true):Bare v:=by
 have hl:=ok.len
 rw [mK] at h
 simp only [Bool.and_eq_true,Bool.or_eq_true,decide_eq_true_eq] at h
 obtain ⟨hb,⟨_,hr⟩,_⟩:=h
 have nil:v.nms.length=0→v.nms=[]∧v.vs=[]:=fun g=>⟨List.length_eq_zero_iff.1 g,List.length_eq_zero_iff.1 (by omega)⟩
 have hr':v.k=5→v.nms.all aM=true:=fun g=>hr.resolve_left (fun q=>q g)
 unfold eC at hb
 split at hb
 ·rename_i h1
  simp only [Bool.and_eq_true,decide_eq_true_eq,beq_iff_eq] at hb
  exact ⟨by omega,fun _=>nil hb.2,fun _ _=>hb.1,fun g=>absurd h1 g,fun g=>by omega,hr',fun g=>by omega⟩
 split at hb
 ·rename_i h0 h1
  simp only [Bool.and_eq_true,Bool.or_eq_true,decide_eq_true_eq,beq_iff_eq] at hb
  exact ⟨by omega,fun _=>nil hb.2,fun _ _=>hb.1.2,fun _ g=>absurd h1 g,fun _=>hb.1.1,hr',fun g=>by omega⟩
 split at hb
 ·rename_i h1
  simp only [Bool.and_eq_true,decide_eq_true_eq] at hb
  exact ⟨by omega,fun _=>nil hb.2,fun g=>absurd h1 g,fun _ _=>hb.1,fun g=>by omega,hr',fun g=>by omega⟩
 split at hb
 ·rename_i h1
  simp only [Bool.and_eq_true,decide_eq_true_eq,beq_iff_eq] at hb
  exact ⟨by omega,fun _=>nil hb.2,fun _ _=>hb.1.2,fun _ _=>hb.1.1,fun g=>by omega,hr',fun g=>by omega⟩
 split at hb
 ·rename_i h1
  simp only [Bool.and_eq_true,decide_eq_true_eq,beq_iff_eq] at hb
  exact ⟨by omega,fun g=>by omega,fun _ _=>hb.2,fun _ _=>hb.1,fun g=>by omega,hr',fun g=>by omega⟩
 split at hb
 ·rename_i h1
  simp only [Bool.and_eq_true,decide_eq_true_eq,beq_iff_eq] at hb
  obtain ⟨⟨⟨g1,g2⟩,g3⟩,g4⟩:=hb
  have e1:v.nms=[[]]:=by
   obtain ⟨x,hx⟩:=List.length_eq_one_iff.1 g3
   rw [hx] at g4 ⊢
   simp at g4
   rw [g4]
  exact ⟨by omega,fun g=>by omega,fun _ g=>absurd h1 g,fun _ _=>g1,fun g=>by omega,hr',fun _=>⟨g2,e1,List.length_eq_one_iff.1 (by omega)⟩⟩
 ·cases hb
theorem j7 {a b:VT} (h1:a.k=b.k) (h2:a.n=b.n) (h3:a.s=b.s) (h4:a.nms=b.nms) (h5:a.vs=b.vs):a=b:=by
 cases a;cases b
 simp only [VT.k,VT.n,VT.s,VT.nms,VT.vs] at *
 subst h1 h2 h3 h4 h5
 rfl
def dG (nms:List (List UInt8)) (vs:List VT):List (List UInt8):=List.zipWith (fun nm t=>nm++eqB++t) nms (vs.map VT.txt)
theorem BK {v:VT} (h:v.k=1):v.txt=eH v.n:=by rw [jZ];unfold tu;rw [if_pos h]
theorem Ao {v:VT} (h:v.k=2):v.txt=if v.n=1 then eV else cE:=by rw [jZ];unfold tu;rw [if_neg (by omega),if_pos h]
theorem z7 {v:VT} (h:v.k=3):v.txt=quS v.s:=by rw [jZ];unfold tu;rw [if_neg (by omega),if_neg (by omega),if_pos h]
theorem Gn {v:VT} (h:v.k=4):v.txt=H5:=by rw [jZ];unfold tu;rw [if_neg (by omega),if_neg (by omega),if_neg (by omega),if_pos h]
theorem xF {v u:VT} (h:v.k=6) (hv:v.vs=[u]):v.txt=v.s++32::(if u.k=6 then 40::(u.txt++[41]) else u.txt):=by
 rw [jZ];unfold tu
 rw [if_neg (by omega),if_neg (by omega),if_neg (by omega),if_neg (by omega),if_pos h,hv];rfl
theorem xA {v:VT} (h:v.k=5):v.txt=123::(cU cM (dG v.nms v.vs)++[125]):=by
 rw [jZ];unfold tu
 rw [if_neg (by omega),if_neg (by omega),if_neg (by omega),if_neg (by omega),if_neg (by omega)];rfl
theorem my {v:VT} (B:Bare v):∃ c y,v.txt=c::y∧Bh c=v.k:=by
 have hk:=B.k
 rcases (by omega:v.k=1∨v.k=2∨v.k=3∨v.k=4∨v.k=5∨v.k=6) with h | h | h | h | h | h
 ·rw [BK h,h]
  unfold eH
  split
  ·exact ⟨126,_,rfl,rfl⟩
  ·obtain ⟨g1,g2⟩:=lU v.n.toNat
   cases hx:Lib.decDigits v.n.toNat with
   | nil=>rw [hx] at g2;simp at g2
   | cons c y =>
     rw [hx,List.all_cons,Bool.and_eq_true] at g1
     exact ⟨c,y,rfl,Df g1.1⟩
 ·rw [Ao h,h]
  split
  ·exact ⟨_,_,rfl,by decide⟩
  ·exact ⟨_,_,rfl,by decide⟩
 ·rw [z7 h,h]
  exact ⟨34,_,rfl,by decide⟩
 ·rw [Gn h,h]
  exact ⟨_,_,rfl,by decide⟩
 ·rw [xA h,h]
  exact ⟨123,_,rfl,by decide⟩
 ·obtain ⟨ht,_,u,hu⟩:=B.t h
  rw [xF h hu,h]
  unfold dY at ht
  rw [Bool.and_eq_true] at ht
  cases hs:v.s with
  | nil=>have:=(pw ht.1).2;rw [hs] at this;simp at this
  | cons c y =>
    rw [hs] at ht
    exact ⟨c,_,rfl,Gs ht.2⟩
def Bb (v w:VT):Prop:=∀ r q:List UInt8,gX r→gX q→v.txt++r=w.txt++q→v=w∧r=q
theorem iv (l:List (List UInt8)) (r:List UInt8):gX (l.flatMap (cM++·)++125::r):=by
 cases l with
 | nil=>exact fW (by decide)
 | cons a l =>
   rw [List.flatMap_cons]
   exact fW (c:=44) (by decide)
theorem iT {s:List UInt8} (h:aM s=true):aS s=true:=by
 unfold aM at h
 simp only [Bool.and_eq_true] at h
 exact h.1.1
theorem tO {n m:List UInt8} {v w:VT} {r q:List UInt8} (hn:aM n=true) (hm:aM m=true) (hP:Bb v w) (hr:gX r) (hq:gX q) (h:n++eqB++v.txt++r=m++eqB++w.txt++q):n=m∧v=w∧r=q:=by
 simp only [List.append_assoc] at h
 have e:∀ x:List UInt8,gX (eqB++x):=fun x=>fW (c:=32) (by decide)
 obtain ⟨h1,h2⟩:=sB (iT hn) (iT hm) (e _) (e _) h
 obtain ⟨h3,h4⟩:=hP r q hr hq (List.append_cancel_left h2)
 exact ⟨h1,h3,h4⟩
theorem dF (n:List UInt8) (ns:List (List UInt8)) (v:VT) (vs:List VT):dG (n::ns) (v::vs)=(n++eqB++v.txt)::dG ns vs:=rfl
theorem sN:∀ (ns ms:List (List UInt8)) (vs ws:List VT) (r q:List UInt8),ns.length=vs.length→ms.length=ws.length→ns.all aM=true→ms.all aM=true→(∀ v∈vs,∀ w∈ws,Bb v w) →
  (dG ns vs).flatMap (cM++·)++125::r=(dG ms ws).flatMap (cM++·)++125::q→ns=ms∧vs=ws∧r=q
 | [],[],[],[],r,q,_,_,_,_,_,h=>⟨rfl,rfl,by simpa [dG] using h⟩
 | [],m::ms,[],w::ws,r,q,_,_,_,_,_,h=>by
   rw [dF,List.flatMap_cons] at h
   exact absurd (List.cons.inj h).1 (by decide)
 | n::ns,[],v::vs,[],r,q,_,_,_,_,_,h=>by
   rw [dF,List.flatMap_cons] at h
   exact absurd (List.cons.inj h).1 (by decide)
 | n::ns,m::ms,v::vs,w::ws,r,q,h1,h2,h3,h4,h5,h=>by
   rw [List.all_cons,Bool.and_eq_true] at h3 h4
   rw [dF,dF,List.flatMap_cons,List.flatMap_cons] at h
   have h:cM++(n++eqB++v.txt++((dG ns vs).flatMap (cM++·)++125::r))=cM++(m++eqB++w.txt++((dG ms ws).flatMap (cM++·)++125::q)):=by simpa only [List.append_assoc] using h
   obtain ⟨g1,g2,g3⟩:=tO h3.1 h4.1 (h5 v List.mem_cons_self w List.mem_cons_self) (iv _ _) (iv _ _) (List.append_cancel_left h)
   obtain ⟨k1,k2,k3⟩:=sN ns ms vs ws r q (by simpa using h1) (by simpa using h2) h3.2 h4.2 (fun v hv w hw=>h5 v (List.mem_cons_of_mem _ hv) w (List.mem_cons_of_mem _ hw)) g3
   exact ⟨by rw [g1,k1],by rw [g2,k2],k3⟩
theorem Bn {ns ms:List (List UInt8)} {vs ws:List VT} {r q:List UInt8} (h1:ns.length=vs.length) (h2:ms.length=ws.length) (h3:ns.all aM=true) (h4:ms.all aM=true) (h5:∀ v∈vs,∀ w∈ws,Bb v w)
  (h:cU cM (dG ns vs)++125::r=cU cM (dG ms ws)++125::q):ns=ms∧vs=ws∧r=q:=by
 have no:∀ (m x y:List UInt8),aM m=true→125::x≠m++y:=fun m x y hm e=>by
  cases m with
  | nil=>exact absurd (pw (iT hm)).2 (by simp)
  | cons c z =>
    have:c=125:=(List.cons.inj e).1.symm
    subst this
    unfold aM at hm
    simp only [Bool.and_eq_true] at hm
    exact absurd hm.1.2 (by show ¬ sm 125=true;decide)
 match ns,ms,vs,ws,h1,h2 with
 | [],[],[],[],_,_=>exact ⟨rfl,rfl,by simpa [dG,cU] using h⟩
 | [],m::ms,[],w::ws,_,_ =>
   rw [List.all_cons,Bool.and_eq_true] at h4
   rw [dF] at h
   simp only [cU,dG,List.zipWith_nil_left,List.nil_append,List.append_assoc] at h
   exact absurd h (no _ _ _ h4.1)
 | n::ns,[],v::vs,[],_,_ =>
   rw [List.all_cons,Bool.and_eq_true] at h3
   rw [dF] at h
   simp only [cU,dG,List.zipWith_nil_left,List.nil_append,List.append_assoc] at h
   exact absurd h.symm (no _ _ _ h3.1)
 | n::ns,m::ms,v::vs,w::ws,h1,h2 =>
   rw [List.all_cons,Bool.and_eq_true] at h3 h4
   rw [dF,dF] at h
   simp only [cU] at h
   have h:n++eqB++v.txt++((dG ns vs).flatMap (cM++·)++125::r)=m++eqB++w.txt++((dG ms ws).flatMap (cM++·)++125::q):=by simpa only [List.append_assoc] using h
   obtain ⟨g1,g2,g3⟩:=tO h3.1 h4.1 (h5 v List.mem_cons_self w List.mem_cons_self) (iv _ _) (iv _ _) h
   obtain ⟨k1,k2,k3⟩:=sN ns ms vs ws r q (by simpa using h1) (by simpa using h2) h3.2 h4.2 (fun v hv w hw=>h5 v (List.mem_cons_of_mem _ hv) w (List.mem_cons_of_mem _ hw)) g3
   exact ⟨by rw [g1,k1],by rw [g2,k2],k3⟩
theorem iy {v u:VT} (h:v.may=true) (hu:u∈v.vs):u.may=true:=by
 rw [mK] at h
 simp only [Bool.and_eq_true] at h
 exact List.all_eq_true.1 h.2.1.1 u hu
theorem zM {v u:VT} (h:v.pl=true) (hu:u∈v.vs):u.pl=true:=by
 rw [wK,Bool.and_eq_true] at h
 exact List.all_eq_true.1 h.1 u hu
theorem wy:∀ (m:Nat) (a b:VT),a.hg≤m→a.wf→b.wf→a.may=true→b.may=true→a.pl=true→b.pl=true→Bb a b
 | 0,a,_,h,_,_,_,_,_,_=>absurd (jb a) (by omega)
 | m+1,a,b,hg,wa,wb,ma,mb,pa,pb=>by
   intro r q hr hq h
   have A:=fm wa.ok ma
   have B:=fm wb.ok mb
   have IH:∀ v∈a.vs,∀ w∈b.vs,Bb v w:=fun v hv w hw=>wy m v w (by have:=iU hv;omega) (wa.ok.kids v hv) (wb.ok.kids w hw) (iy ma hv) (iy mb hw) (zM pa hv) (zM pb hw)
   have hk:a.k=b.k:=by
    obtain ⟨c,y,e1,k1⟩:=my A
    obtain ⟨d,z,e2,k2⟩:=my B
    rw [e1,e2] at h
    simp only [List.cons_append,List.cons.injEq] at h
    rw [← k1,← k2,h.1]
   have hA:=A.k
   have hn4:a.k≠4:=by
    rw [wK,Bool.and_eq_true,decide_eq_true_eq] at pa
    exact pa.2
   rcases (by omega:a.k=1∨a.k=2∨a.k=3∨a.k=5∨a.k=6) with g | g | g | g | g
   ·obtain ⟨l1,l2⟩:=A.leaf (by omega)
    obtain ⟨l3,l4⟩:=B.leaf (by omega)
    rw [BK g,BK (hk ▸ g)] at h
    obtain ⟨h1,h2⟩:=xL hr hq h
    exact ⟨j7 hk h1 (by rw [A.s (by omega) (by omega),B.s (by omega) (by omega)]) (by rw [l1,l3]) (by rw [l2,l4]),h2⟩
   ·obtain ⟨l1,l2⟩:=A.leaf (by omega)
    obtain ⟨l3,l4⟩:=B.leaf (by omega)
    have hs:a.s=b.s:=by rw [A.s (by omega) (by omega),B.s (by omega) (by omega)]
    rw [Ao g,Ao (hk ▸ g)] at h
    rcases A.b g with h1 | h1<;>rcases B.b (hk ▸ g) with h2 | h2<;>rw [h1,h2] at h
    ·rw [if_neg (by decide)] at h
     exact ⟨j7 hk (by rw [h1,h2]) hs (by rw [l1,l3]) (by rw [l2,l4]),List.append_cancel_left h⟩
    ·simp [eV,cE] at h
    ·simp [eV,cE] at h
    ·rw [if_pos rfl] at h
     exact ⟨j7 hk (by rw [h1,h2]) hs (by rw [l1,l3]) (by rw [l2,l4]),List.append_cancel_left h⟩
   ·obtain ⟨l1,l2⟩:=A.leaf (by omega)
    obtain ⟨l3,l4⟩:=B.leaf (by omega)
    rw [z7 g,z7 (hk ▸ g)] at h
    obtain ⟨h1,h2⟩:=FT h
    exact ⟨j7 hk (by rw [A.n (by omega) (by omega),B.n (by omega) (by omega)]) h1 (by rw [l1,l3]) (by rw [l2,l4]),h2⟩
   ·rw [xA g,xA (hk ▸ g)] at h
    have h:cU cM (dG a.nms a.vs)++125::r=cU cM (dG b.nms b.vs)++125::q:=by simpa using h
    obtain ⟨h1,h2,h3⟩:=Bn wa.ok.len wb.ok.len (A.r g) (B.r (hk ▸ g)) IH h
    exact ⟨j7 hk (by rw [A.n (by omega) (by omega),B.n (by omega) (by omega)]) (by rw [A.s (by omega) (by omega),B.s (by omega) (by omega)]) h1 h2,h3⟩
   ·obtain ⟨t1,n1,u,hu⟩:=A.t g
    obtain ⟨t2,n2,w,hw⟩:=B.t (hk ▸ g)
    have hP:=IH u (by rw [hu];exact List.mem_cons_self) w (by rw [hw];exact List.mem_cons_self)
    have mu:=iy ma (u:=u) (by rw [hu];exact List.mem_cons_self)
    have mw:=iy mb (u:=w) (by rw [hw];exact List.mem_cons_self)
    have Bu:=fm (wa.ok.kids u (by rw [hu];exact List.mem_cons_self)).ok mu
    have Bw:=fm (wb.ok.kids w (by rw [hw];exact List.mem_cons_self)).ok mw
    have no:∀ (v:VT) (x y:List UInt8),Bare v→v.txt++x≠40::y:=fun v x y Bv e=>by
     obtain ⟨c,z,e1,k1⟩:=my Bv
     rw [e1] at e
     have:c=40:=(List.cons.inj e).1
     subst this
     have:=Bv.k
     rw [← k1] at this
     exact absurd this.1 (by decide)
    rw [xF g hu,xF (hk ▸ g) hw] at h
    simp only [List.append_assoc,List.cons_append] at h
    have tw:∀ {s:List UInt8},dY s=true→aS s=true:=fun {s} hs=>by
     unfold dY at hs
     rw [Bool.and_eq_true] at hs
     exact hs.1
    obtain ⟨h1,h2⟩:=sB (tw t1) (tw t2) (fW (by decide)) (fW (by decide)) h
    have h2:=(List.cons.inj h2).2
    have fin:u=w→r=q→a=b∧r=q:=fun e1 e2=>⟨j7 hk (by rw [A.n (by omega) (by omega),B.n (by omega) (by omega)]) h1 (by rw [n1,n2]) (by rw [hu,hw,e1]),e2⟩
    by_cases k1:u.k=6<;>by_cases k2:w.k=6
    ·rw [if_pos k1,if_pos k2] at h2
     simp only [List.cons_append,List.append_assoc,List.nil_append,List.cons.injEq,true_and] at h2
     obtain ⟨h3,h4⟩:=hP _ _ (fW (by decide)) (fW (by decide)) h2
     exact fin h3 (List.cons.inj h4).2
    ·rw [if_pos k1,if_neg k2] at h2
     exact absurd h2.symm (no w _ _ Bw)
    ·rw [if_neg k1,if_pos k2] at h2
     exact absurd h2 (no u _ _ Bu)
    ·rw [if_neg k1,if_neg k2] at h2
     obtain ⟨h3,h4⟩:=hP _ _ hr hq h2
     exact fin h3 h4
theorem Da {a b:VT} (wa:a.wf) (wb:b.wf) (ma:a.may=true) (mb:b.may=true) (pa:a.pl=true) (pb:b.pl=true) (h:a.txt=b.txt):a=b:=by
 have e:gX []:=fun c y q=>by cases q
 exact (wy a.hg a b (Nat.le_refl _) wa wb ma mb pa pb [] [] e e (by rw [h])).1
end Go.Proofs.YtejpnabbmgpmaaaGreatDoor

namespace Go.Proofs.YtejpnabbmgpmaaaGreatDoor
open Go.Ab
def Il:List TS:=[.sl (some 9) [.int .i64,.int .i64,.int .i64,.int .i64,.int .i64,.str,.str,.sl (some 3) [.str,.str,.int .i64],.int .i64]]
def RwN (x:D) (n:EN):Prop:=∃ F,x=.agg [i64 n.k,i64 n.a,i64 n.b,i64 n.c,i64 n.n,.str n.name,.str n.s,F,i64 n.pos]∧(F=.nils∧n.l=[]∨F=efD n.l)
def RwL:List D→List EN→Prop
 | [],[]=>True
 | x::xs,n::ns=>RwN x n∧RwL xs ns
 | _,_=>False
theorem RwL.len:∀ {xs:List D} {ns:List EN},RwL xs ns→xs.length=ns.length
 | [],[],_=>rfl
 | _::_,_::_,h=>by simp [RwL.len h.2]
 | [],_::_,h=>h.elim
 | _::_,[],h=>h.elim
theorem RwL.get:∀ {xs:List D} {ns:List EN},RwL xs ns→∀ (i:Nat) x n,xs[i]?=some x→ns[i]?=some n→RwN x n
 | [],_,_,i,x,n,h,_=>by simp at h
 | _::_,[],h,_,_,_,_,_=>h.elim
 | x::xs,n::ns,h,0,_,_,h1,h2=>by simp at h1 h2;subst h1;subst h2;exact h.1
 | x::xs,n::ns,h,i+1,y,m,h1,h2=>h.2.get i y m (by simpa using h1) (by simpa using h2)
theorem GA (n:EN):okW (some 9) (enD n):=⟨rfl,by simp [efD,D.scal]⟩
theorem HN {xs:List D} {ns:List EN} (h:RwL xs ns):Wk (.agg [.sl (some 9) xs]) (exD ns):=by
 refine Wk.agg rfl (by simp [D.scal]) fun i a b ha hb=>?_
 match i,ha,hb with
 | 0,ha,hb =>
   cases ha;cases hb
   refine Wk.sl (by simp [h.len]) (fun b hb=>by obtain ⟨n,_,rfl⟩:=List.mem_map.1 hb;exact GA n) fun i a b ha hb=>?_
   rw [List.getElem?_map,Option.map_eq_some_iff] at hb
   obtain ⟨n,hn,rfl⟩:=hb
   obtain ⟨F,rfl,hF⟩:=h.get i a n ha hn
   refine ⟨rfl,fun j c d hc hd=>?_⟩
   match j,hc,hd with
   | 0,hc,hd | 1,hc,hd | 2,hc,hd | 3,hc,hd | 4,hc,hd | 5,hc,hd | 6,hc,hd | 8,hc,hd=>cases hc;cases hd;exact .refl _
   | 7,hc,hd =>
     cases hc;cases hd
     rcases hF with ⟨rfl,hF⟩ | rfl
     ·rw [hF];exact .nils _
     ·exact .refl _
theorem ku:maxLen≤9223372036854775807:=by unfold maxLen;omega
theorem Cc:∀ {xs:List D},(∀ x∈xs,okW (some 3) x∧oks [.str,.str,.int .i64] x.cells)→∃ l:List EF,xs=l.map fD∧∀ f∈l,f.nm.length≤maxLen∧f.var.length≤maxLen
 | [],_=>⟨[],rfl,by simp⟩
 | x::xs,h=>by
   obtain ⟨l,hl,hf⟩:=Cc fun y hy=>h y (List.mem_cons_of_mem _ hy)
   obtain ⟨h1,h2⟩:=h x List.mem_cons_self
   cases x with
   | agg cs =>
     have h2:oks [.str,.str,.int .i64] cs:=h2
     match cs,h2 with
     | [.str s,.str v,.int k n],h2 =>
       obtain ⟨g1,g2,g3,_⟩:=h2
       obtain rfl:k=.i64:=g3.1
       exact ⟨⟨s,v,n⟩::l,by rw [hl];rfl,fun f hf'=>by
        rcases List.mem_cons.1 hf' with rfl | hf'
        ·exact ⟨g1,g2⟩
        ·exact hf f hf'⟩
   | _=>simp [okW] at h1
def InN (n:EN):Prop:=n.name.length≤maxLen∧n.s.length≤maxLen∧n.l.length≤maxLen∧∀ f∈n.l,f.nm.length≤maxLen∧f.var.length≤maxLen
theorem H9 {x:D} (h1:okW (some 9) x) (h2:oks [.int .i64,.int .i64,.int .i64,.int .i64,.int .i64,.str,.str,.sl (some 3) [.str,.str,.int .i64],.int .i64] x.cells):∃ n,RwN x n∧InN n:=by
 cases x with
 | agg cs =>
   have h2:oks [.int .i64,.int .i64,.int .i64,.int .i64,.int .i64,.str,.str,.sl (some 3) [.str,.str,.int .i64],.int .i64] cs:=h2
   match cs,h2 with
   | [.int k1 a,.int k2 b,.int k3 c,.int k4 d,.int k5 e,.str s,.str t,F,.int k6 p],h2 =>
     obtain ⟨g1,g2,g3,g4,g5,g6,g7,g8,g9,_⟩:=h2
     obtain rfl:k1=.i64:=g1.1
     obtain rfl:k2=.i64:=g2.1
     obtain rfl:k3=.i64:=g3.1
     obtain rfl:k4=.i64:=g4.1
     obtain rfl:k5=.i64:=g5.1
     obtain rfl:k6=.i64:=g9.1
     cases F with
     | nils=>exact ⟨⟨a,b,c,d,e,s,t,[],p⟩,⟨.nils,rfl,.inl ⟨rfl,rfl⟩⟩,g6,g7,by simp,by simp⟩
     | sl w xs =>
       obtain ⟨rfl,g10,g11⟩:=g8
       obtain ⟨l,rfl,hl⟩:=Cc g11
       exact ⟨⟨a,b,c,d,e,s,t,l,p⟩,⟨_,rfl,.inr rfl⟩,g6,g7,by simpa using g10,hl⟩
     | _=>exact g8.elim
 | _=>simp [okW] at h1
theorem AY:∀ {xs:List D},(∀ x∈xs,okW (some 9) x∧oks [.int .i64,.int .i64,.int .i64,.int .i64,.int .i64,.str,.str,.sl (some 3) [.str,.str,.int .i64],.int .i64] x.cells)→∃ ns,RwL xs ns∧∀ n∈ns,InN n
 | [],_=>⟨[],trivial,by simp⟩
 | x::xs,h=>by
   obtain ⟨ns,h1,h2⟩:=AY fun y hy=>h y (List.mem_cons_of_mem _ hy)
   obtain ⟨g1,g2⟩:=h x List.mem_cons_self
   obtain ⟨n,k1,k2⟩:=H9 g1 g2
   exact ⟨n::ns,⟨k1,h1⟩,fun m hm=>by
    rcases List.mem_cons.1 hm with rfl | hm
    ·exact k2
    ·exact h2 m hm⟩
theorem DB (ns:List EN):(lj ns).length≤700:=by
 unfold lj
 rw [List.length_map,List.length_take]
 omega
def InF (ns:List EN):Prop:=ns.length≤700∧∀ n∈ns,eu BIG n∧n.l.length≤60
theorem F5 {ns:List EN} (h:∀ n∈ns,InN n):InF (lj ns):=by
 refine ⟨DB ns,fun n hn=>?_⟩
 unfold lj at hn
 obtain ⟨m,hm,rfl⟩:=List.mem_map.1 hn
 obtain ⟨h1,h2,h3,h4⟩:=h m (List.mem_of_mem_take hm)
 have hx:=ku
 have hl:(rl m).l.length≤60:=by unfold rl;simp only [List.length_take];omega
 exact ⟨⟨by show m.name.length≤9223372036854775807;omega,by show m.s.length≤9223372036854775807;omega,by omega,fun f hf=>by
  have:=h4 f (List.mem_of_mem_take hf)
  exact ⟨by show f.nm.length≤9223372036854775807;omega,by show f.var.length≤9223372036854775807;omega⟩⟩,hl⟩
theorem CX (ns:List EN):lj (lj ns)=lj ns:=by
 unfold lj
 rw [List.take_of_length_le (by rw [List.length_map,List.length_take];omega),List.map_map]
 refine List.map_congr_left fun n _=>?_
 simp [rl,List.take_take]
theorem B9 {G} {ns:List EN} (h:InF ns) (hf:lj ns=ns):HP Tryz.prog G 8 [exD ns] (fun r=>r=.d (exD ns)):=by
 have:=Fq (G:=G) ns (by have:=h.1;omega) (fun n hn=>by have:=(h.2 n hn).2;omega)
 rwa [hf] at this
end Go.Proofs.YtejpnabbmgpmaaaGreatDoor

namespace Go.Ab
section
variable {P:Program} {cf:Cf} {Q:Exit→St→Prop} {s:St} {k:List It}
end
end Go.Ab

namespace Go.Ab
section
variable {P:Program} {cf:Cf} {k:List It} {s:St} {Φ:Exit→Act→World→Prop} {I:Base→List Deferred→Prop}
end
section
variable {P:Program} {cf:Cf} {N:Nat} {xs:Nat→List D} {z:Itz} {k:List It} {s:St}
end
end Go.Ab

namespace Go.Ab
section
variable {P:Program} {cf:Cf} {Q:Exit→St→Prop} {s:St} {k:List It}
end
end Go.Ab

namespace Go.Ab
inductive Fz where
 | A (p:Name) (w:W) (xs:List D)
 | B (p:Name) (d:D)
def Fz.nm:Fz→Name
 | .A p _ _=>p
 | .B p _=>p
def St.fz (s:St):Fz→St
 | .A p w xs=>s.eQ p w xs
 | .B p d=>s.frB p d
def Fz.ok (s:St):Fz→Prop
 | .A p w xs=>s.hp p=some (.arr w xs)
 | .B p d=>s.hp p=some (.box (d.cells.map .d))∧(d.cells.all D.scal)=true
def St.fzL (s:St):List Fz→St
 | []=>s
 | q::L=>(s.fz q).fzL L
def sV (s:St):List Fz→Prop
 | []=>True
 | q::L=>q.ok s∧sV (s.fz q) L
theorem Dr (s:St):s.fzL []=s:=rfl
theorem Hl (s:St) (p:Name) (w:W) (xs:List D) (L:List Fz):s.fzL (.A p w xs::L)=(s.eQ p w xs).fzL L:=rfl
theorem HU (s:St) (p:Name) (d:D) (L:List Fz):s.fzL (.B p d::L)=(s.frB p d).fzL L:=rfl
theorem zB (s:St):sV s []=True:=rfl
theorem zx (s:St) (p:Name) (w:W) (xs:List D) (L:List Fz):sV s (.A p w xs::L)=(s.hp p=some (.arr w xs)∧sV (s.eQ p w xs) L):=rfl
theorem AW (s:St) (p:Name) (d:D) (L:List Fz):sV s (.B p d::L)=((s.hp p=some (.box (d.cells.map .d))∧(d.cells.all D.scal)=true)∧sV (s.frB p d) L):=rfl
def St.noO (s:St):St:={ s with hp:=fun _=>none }
theorem Sim.noO {B:Base} {β:Name→Option Blk} {s:St} {tm:Array Value} {w:World} (h:Sim B β s tm w):Sim B β s.noO tm w:=by
 have hr:∀ v d,Rep w.heap (s.own B.A β) v d→Rep w.heap (s.noO.own B.A β) v d:=fun v d hd=>hd.mono (fun _ _ _=>rfl) (by
  rintro b _ (hA | ⟨q,k,hq,_⟩)
  ·exact .inl hA
  ·exact absurd rfl hq)
 exact { tms:=h.tms,io:=h.io,size:=h.size,frame:=h.frame,slots:=fun i=>VR.mono hr (fun _ h=>h) (fun q _ o' ho'=>(by cases ho')) (h.slots i),objs:=fun q o' ho'=>(by cases ho'),blocks:=fun q k hq _=>absurd rfl hq,inj:=fun q q' k k' hq _=>absurd rfl hq,us:=h.us,stay:=h.stay }
section
variable {P:Program} {cf:Cf} {Q:Exit→St→Prop} {s:St} {k:List It}
section
variable {ops:Array Oper} {K:St→Ns→Prop} {r:List Oper} {ns:Ns}
structure Alike (ns:List Name) (ts:List Nat) (s s':St):Prop where
 hp:∀ p∈ns,s'.hp p=s.hp p
 fr:∀ t∈ts,s'.fr t=s.fr t
theorem Alike.fz {ns:List Name} {ts:List Nat} {s s':St} (h:Alike ns ts s s') (q:Fz):Alike ns ts (s.fz q) (s'.fz q):=by
 cases q with
 | A p w xs =>
   refine ⟨fun x hx=>?_,fun t ht=>?_⟩
   ·show (au s'.hp p none x).map _=(au s.hp p none x).map _
    unfold au
    split
    ·rfl
    ·rw [h.hp x hx]
   ·show (s'.fr t).frz p w xs=(s.fr t).frz p w xs
    rw [h.fr t ht]
 | B p d =>
   refine ⟨fun x hx=>?_,fun t ht=>?_⟩
   ·show (au s'.hp p none x).map _=(au s.hp p none x).map _
    unfold au
    split
    ·rfl
    ·rw [h.hp x hx]
   ·show (s'.fr t).frB p d=(s.fr t).frB p d
    rw [h.fr t ht]
theorem Alike.ok {ns:List Name} {ts:List Nat}:∀ {L:List Fz} {s s':St},Alike ns ts s s'→(∀ q∈L,q.nm∈ns)→sV s L→sV s' L
 | [],_,_,_,_,_=>trivial
 | .A p w xs::L,s,s',h,hn,hl=>by
   rw [zx] at hl ⊢
   exact ⟨(h.hp p (hn (.A p w xs) List.mem_cons_self)).trans hl.1,Alike.ok (h.fz (.A p w xs)) (fun q hq=>hn q (List.mem_cons_of_mem _ hq)) hl.2⟩
 | .B p d::L,s,s',h,hn,hl=>by
   rw [AW] at hl ⊢
   exact ⟨⟨(h.hp p (hn (.B p d) List.mem_cons_self)).trans hl.1.1,hl.1.2⟩,Alike.ok (h.fz (.B p d)) (fun q hq=>hn q (List.mem_cons_of_mem _ hq)) hl.2⟩
theorem Alike.fzL {ns:List Name} {ts:List Nat}:∀ (L:List Fz) {s s':St},Alike ns ts s s'→Alike ns ts (s.fzL L) (s'.fzL L)
 | [],_,_,h=>h
 | q::L,_,_,h=>Alike.fzL L (h.fz q)
end
end
attribute [go_sem] Dr Hl HU zB zx AW Fz.nm
end Go.Ab
namespace Go.Ab
variable {P:Program} {cf:Cf} {Φ:Exit→Act→World→Prop} {I:Base→List Deferred→Prop} {k:List It} {s:St}
def cutq (P:Program) (cf:Cf) (Φ:Exit→Act→World→Prop) (I:Base→List Deferred→Prop) (k:List It) {X:Type} (S:X→St) (e:Exit) (s:St):Prop :=
 match e with
 | .normal=>∃ x τ,Le cf.U τ s (S x)
 | e=>yq P cf Φ I k e s
theorem zq {X:Type} (S:X→St):cutq P cf Φ I k S .ret s=ARX cf Φ I .ret s:=rfl
attribute [go_sem] zq
end Go.Ab

namespace Go.Ab
section
variable {P:Program} {cf:Cf} {ops:Array Oper} {K:St→Ns→Prop} {r:List Oper} {s:St} {ns:Ns}
end
end Go.Ab

namespace Go.Proofs.YtejpnabbmgpmaaaGreatDoor
open Go.Ab
theorem xh {ns:List EN} (ht:eO ns):∀ n∈ns,n.l.length≤900000:=fun n hn=>by have:=ht.l n hn;omega
theorem sG {ns:List EN} (ht:eO ns):∀ n∈ns,eu BIG n:=fun n hn=>by
 obtain ⟨i,hi,rfl⟩:=List.mem_iff_getElem.1 hn
 have:=ht.right i hi
 rw [bX hi] at this
 exact uX this
theorem lW {ns:List EN} (hk:∀ i,i<ns.length→(an (ndE ns i)).all (inB i)=true) {i:Nat} (hi:i<ns.length):cq (trE ns i)=if (ndE ns i).k=11∨(ndE ns i).k=13 then (an (ndE ns i)).all (fun k=>cq (trE ns k.toNat)) else decide ((ndE ns i).k=1) || decide ((ndE ns i).k=2) || decide ((ndE ns i).k=3) || decide ((ndE ns i).k=5):=by
 rw [E7 hk hi,cq,nH,oO,List.all_map]
 rfl
theorem Et {G} {ns:List EN} {f:EF} {b:Bool} (h:HP Tryz.prog G 85 [exD ns,i64 f.to] (fun r=>r=.d (.bool b))):HP Tryz.prog G 121 [fD f,.ptr (exD ns)] (fun r=>r=.d (.bool (!b))):=by
 unfold exD fD at *
 refine aj Tryz.func121 rfl (by decide +kernel) (by simp [Tryz.ntmps121]) (veil fun E=>?_)
 simp only [go_sem]
 refine ab E h rfl rfl (by simp) ?_
 rintro _ rfl
 simp only [go_sem]
theorem wi {α:Type} {p:α→Bool}:∀ l:List α,l.any (fun x=>!p x)=!l.all p
 | []=>rfl
 | x::r=>by rw [List.any_cons,List.all_cons,wi r];simp
theorem Be {G} (ns:List EN) (hN:ns.length≤1000000) (hs:∀ n∈ns,n.l.length≤900000) (hk:∀ i,i<ns.length→(an (ndE ns i)).all (inB i)=true):∀ (m i:Nat),i<m→i<ns.length→HP Tryz.prog G 85 [exD ns,i64 (i:Int)] (fun r=>r=.d (.bool (cq (trE ns i))))
 | 0,_,h,_=>absurd h (Nat.not_lt_zero _)
 | m+1,i,him,hi=>by
   have ih:=Be (G:=G) ns hN hs hk m
   have hg:=bA hi
   have hsi:=hs _ (by rw [bX hi];exact List.getElem_mem hi:ndE ns i∈ns)
   have hkn:=ji hk hi
   rw [lW hk hi]
   obtain ⟨n,hne⟩:∃ n,n=ndE ns i:=⟨_,rfl⟩
   rw [← hne] at hg hsi hkn ⊢
   generalize hR:(if n.k=11∨n.k=13 then (an n).all (fun k=>cq (trE ns k.toNat)) else decide (n.k=1) || decide (n.k=2) || decide (n.k=3) || decide (n.k=5))=R
   unfold exD
   refine aL Tryz.func85 rfl (by decide +kernel) (by simp [Tryz.ntmps85]) (veil fun E=>?_)
   simp only [go_sem]
   refine ⟨⟨by omega,by omega⟩,?_⟩
   rw [hg]
   simp only [go_sem]
   refine ah E (fun k1=>?_) (fun k1=>?_)<;>simp only [go_sem]
   ·rw [decide_eq_true k1]
    simp only [go_sem]
    rw [← hR]
    simp only [k1]
    exact ⟨[],trivial,rfl,rfl⟩
   refine ah E (fun k2=>?_) (fun k2=>?_)<;>simp only [go_sem]
   ·rw [decide_eq_true k2]
    simp only [go_sem]
    rw [← hR]
    simp only [k2]
    exact ⟨[],trivial,rfl,rfl⟩
   refine ah E (fun k3=>?_) (fun k3=>?_)<;>simp only [go_sem]
   ·rw [decide_eq_true k3]
    simp only [go_sem]
    rw [← hR]
    simp only [k3]
    exact ⟨[],trivial,rfl,rfl⟩
   by_cases k5:n.k=5
   ·rw [decide_eq_true k5]
    simp only [go_sem]
    rw [← hR]
    simp only [k5]
    exact ⟨[],trivial,rfl,rfl⟩
   rw [decide_eq_false k5]
   simp only [go_sem]
   refine ah E (fun k11=>?_) (fun k11=>?_)<;>simp only [go_sem]
   ·have hke:an n=n.l.map (·.to):=by simp [an,k11,aY,aJ]
    have hc:=wM (G:=G) n.l (fun f=>!cq (trE ns f.to.toNat)) 121 [.ptr (exD ns)] (by omega) (fun f hf=>by
     have hm:f.to∈an n:=by rw [hke];exact List.mem_map_of_mem hf
     obtain ⟨h1,h2⟩:=hkn _ hm
     have:=ih f.to.toNat (by omega) (by omega)
     rw [Int.toNat_of_nonneg h1] at this
     exact Et this)
    rw [if_pos (.inl k11)] at hR
    rw [wi,show n.l.all (fun f=>cq (trE ns f.to.toNat))=(an n).all (fun k=>cq (trE ns k.toNat)) by rw [hke,List.all_map];rfl,hR] at hc
    unfold exD at hc
    refine E6 E [2] (.agg [.sl (some 9) (ns.map enD)]) rfl rfl ?_
    simp only [go_sem]
    refine ab E (hc) rfl rfl (by simp) ?_
    rintro _ rfl
    simp only [go_sem]
    refine ⟨[],?_⟩
    simp only [go_sem]
   refine ah E (fun k13=>?_) (fun k13=>?_)<;>simp only [go_sem]
   ·have hke:an n=[n.a]:=by simp [an,k13,aY,aJ]
    obtain ⟨h1,h2⟩:=hkn n.a (by rw [hke];exact List.mem_cons_self)
    have hc:=ih n.a.toNat (by omega) (by omega)
    rw [Int.toNat_of_nonneg h1] at hc
    rw [if_pos (.inr k13),hke] at hR
    simp only [List.all_cons,List.all_nil,Bool.and_true] at hR
    rw [hR] at hc
    unfold exD at hc
    refine ab E (hc) rfl rfl (by simp) ?_
    rintro _ rfl
    simp only [go_sem]
    refine ⟨[],?_⟩
    simp only [go_sem]
   ·rw [if_neg (by omega),decide_eq_false k1,decide_eq_false k2,decide_eq_false k3,decide_eq_false k5] at hR
    rw [← hR]
    refine ⟨[],?_⟩
    simp only [go_sem]
end Go.Proofs.YtejpnabbmgpmaaaGreatDoor

namespace Go.Proofs.YtejpnabbmgpmaaaGreatDoor
open Go.Ab
theorem Hb {G} {ns:List EN} (ht:eO ns) (hm:eX ns=0):HP Tryz.prog G 40 [exD ns] (fun r=>r=.d (.bool (cq (trE ns (ns.length-1))))):=by
 have hf:=ht.few
 have hp:=ht.pos
 have c1:=uO (G:=G) ns (sG ht) (by omega)
 rw [hm] at c1
 have c2:=Be (G:=G) ns (by omega) (xh ht) (eE ht) ns.length (ns.length-1) (by omega) (by omega)
 rw [show ((ns.length-1:Nat):Int)=(ns.length:Int)-1 by omega] at c2
 generalize cq (trE ns (ns.length-1))=b at c2 ⊢
 unfold exD at *
 refine aj Tryz.func40 rfl (by decide +kernel) (by simp [Tryz.ntmps40]) (veil fun E=>?_)
 simp only [go_sem]
 refine ab E (c1) rfl rfl (by simp) ?_
 rintro _ rfl
 simp only [go_sem]
 rw [ai (n:=(ns.length:Int)-1) ⟨by omega,by omega⟩]
 refine ab E (c2) rfl rfl (by simp) ?_
 rintro _ rfl
 simp only [go_sem]
end Go.Proofs.YtejpnabbmgpmaaaGreatDoor

namespace Go.Proofs.YtejpnabbmgpmaaaGreatDoor
open Go.Ab
theorem pE {xs:List EN} (ht:eO xs) {i:Nat} (hi:i<xs.length) {k:Int} (hk:k∈an (ndE xs i)):∃ a:Nat,k=(a:Int)∧a<i:=by
 obtain ⟨h1,h2⟩:=ji (eE ht) hi k hk
 exact ⟨k.toNat,by omega,by omega⟩
theorem sJ {n:EN} (h:n.k=5∨n.k=12∨n.k=13):an n=[n.a]:=by rcases h with h | h | h<;>simp [an,h,aY,aJ]
theorem tP {n:EN} (h:n.k=11):an n=n.l.map (·.to):=by simp [an,h,aY,aJ]
end Go.Proofs.YtejpnabbmgpmaaaGreatDoor

namespace Go.Ab
section
variable {P:Program} {cf:Cf} {ops:Array Oper} {K:St→Ns→Prop} {r:List Oper} {s:St} {ns:Ns}
end
end Go.Ab

namespace Go.Proofs.YtejpnabbmgpmaaaGreatDoor
open Go.Ab
structure Low (ns:List EN):Prop where
 len:ns.length≤1000000
 l:∀ n∈ns,n.l.length≤900000
 k:∀ i,i<ns.length→(an (ndE ns i)).all (inB i)=true
end Go.Proofs.YtejpnabbmgpmaaaGreatDoor

namespace Go.Proofs.YtejpnabbmgpmaaaGreatDoor
open Go.Ab
end Go.Proofs.YtejpnabbmgpmaaaGreatDoor

namespace Go.Proofs.YtejpnabbmgpmaaaGreatDoor
open Go.Ab
theorem DP {ns:List EN} (ht:eO ns):Low ns:=⟨by have:=ht.few;omega,xh ht,eE ht⟩
theorem An {G} {ns:List EN} (h:Low ns):∀ (m i:Nat),i<m→i<ns.length→HP Tryz.prog G 42 [exD ns,i64 (i:Int)] (fun r=>r=.d (.bool (cq (trE ns i))))
 | 0,_,h,_=>absurd h (Nat.not_lt_zero _)
 | m+1,i,him,hi=>by
   have ih:=An (G:=G) h m
   have hlen:=h.len
   have hg:=bA hi
   have hsi:=h.l _ (by rw [bX hi];exact List.getElem_mem hi:ndE ns i∈ns)
   have hkn:=ji h.k hi
   rw [lW h.k hi]
   obtain ⟨n,hne⟩:∃ n,n=ndE ns i:=⟨_,rfl⟩
   rw [← hne] at hg hsi hkn ⊢
   generalize hR:(if n.k=11∨n.k=13 then (an n).all (fun k=>cq (trE ns k.toNat)) else decide (n.k=1) || decide (n.k=2) || decide (n.k=3) || decide (n.k=5))=R
   unfold exD
   refine aj Tryz.func42 rfl (by decide +kernel) (by simp [Tryz.ntmps42]) (veil fun E=>?_)
   simp only [go_sem]
   refine ⟨⟨by omega,by omega⟩,?_⟩
   rw [hg]
   simp only [go_sem]
   refine ah E (fun k11=>?_) (fun k11=>?_)<;>simp only [go_sem]
   ·have hke:an n=n.l.map (·.to):=tP k11
    rw [if_pos (.inl k11),hke,List.all_map] at hR
    refine aC E (X:={ q:Nat // q≤n.l.length∧(n.l.take q).all ((fun k:Int=>cq (trE ns k.toNat)) ∘ fun x:EF=>x.to)=true }) (fun y=>[(1,.d (i64 i)),(2,.bx [2] 0),(4,.d (.bool false)),(5,.bx [5] 0),(6,.d (i64 y.1))])
     (fun _=>[([2],.box [.d (.sl (some 9) (ns.map enD))]),([5],.box [.d (i64 n.k),.d (i64 n.a),.d (i64 n.b),.d (i64 n.c),.d (i64 n.n),.d (.str n.name),.d (.str n.s),.d (.sl (some 3) (n.l.map fD)),.d (i64 n.pos)])]) [2,5] (fun y=>n.l.length-y.1) ⟨0,Nat.zero_le _,by simp⟩ id ?_ ?_
    ·simp only [go_sem]
     all_goals ((repeat' apply And.intro)<;>first | rfl | trivial)
    rintro ⟨q,hq,ha⟩ E0
    refine aO E0 fun Q' hQ E'=>?_
    simp only at hq ha ⊢
    simp only [go_sem]
    refine ah E' (fun f1=>?_) (fun f1=>?_)<;>simp only [go_sem]
    ·have hq':q<n.l.length:=by omega
     have hfq:n.l[q]=fdE n.l q:=by simp [fdE,hq']
     have hm:(fdE n.l q).to∈an n:=by rw [hke,← hfq];exact List.mem_map_of_mem (List.getElem_mem hq')
     obtain ⟨h1,h2⟩:=hkn _ hm
     have c:=ih (fdE n.l q).to.toNat (by omega) (by omega)
     rw [Int.toNat_of_nonneg h1] at c
     have hst:(n.l.take (q+1)).all ((fun k:Int=>cq (trE ns k.toNat)) ∘ fun x:EF=>x.to)=cq (trE ns (fdE n.l q).to.toNat):=by
      rw [List.take_succ_eq_append_getElem hq',List.all_append,ha,hfq]
      simp
     have hno:cq (trE ns (fdE n.l q).to.toNat)=false→n.l.all ((fun k:Int=>cq (trE ns k.toNat)) ∘ fun x:EF=>x.to)=false:=fun e=>rN hq' (by rw [hfq];exact e)
     generalize cq (trE ns (fdE n.l q).to.toNat)=b at *
     unfold exD at c
     refine ak mixed E' fun X=>?_
     simp only [go_sem]
     refine ⟨⟨by omega,by omega⟩,?_⟩
     rw [lI hq']
     simp only [go_sem]
     refine bp X c rfl rfl (by simp) ?_
     simp only [go_sem]
     refine ⟨by decide +kernel,?_⟩
     cases b with
     | true =>
       simp only [go_sem]
       rw [ai ⟨by omega,by omega⟩,hQ]
       simp only [go_sem]
       refine ⟨⟨q+1,by omega,hst⟩,by show n.l.length-(q+1)<_;omega,id,?_⟩
       simp only [go_sem]
       all_goals ((repeat' apply And.intro)<;>first | rfl | trivial)
     | false =>
       simp only [go_sem]
       rw [hQ]
       simp only [go_sem]
       rw [← hR,hno rfl]
    ·have h3:q=n.l.length:=by omega
     subst h3
     rw [List.take_length] at ha
     rw [hQ]
     simp only [go_sem]
     rw [← hR,ha]
   ·by_cases k1:n.k=1
    ·rw [decide_eq_true k1]
     simp only [go_sem]
     rw [← hR]
     simp [k1]
    rw [decide_eq_false k1]
    simp only [go_sem]
    by_cases k2:n.k=2
    ·rw [decide_eq_true k2]
     simp only [go_sem]
     rw [← hR]
     simp [k2]
    rw [decide_eq_false k2]
    simp only [go_sem]
    by_cases k3:n.k=3
    ·rw [decide_eq_true k3]
     simp only [go_sem]
     rw [← hR]
     simp [k3]
    rw [decide_eq_false k3]
    simp only [go_sem]
    by_cases k5:n.k=5
    ·rw [decide_eq_true k5]
     simp only [go_sem]
     rw [← hR]
     simp [k5]
    rw [decide_eq_false k5]
    simp only [go_sem]
    by_cases k13:n.k=13
    ·have hke:an n=[n.a]:=sJ (.inr (.inr k13))
     obtain ⟨h1,h2⟩:=hkn n.a (by rw [hke];exact List.mem_cons_self)
     have hc:=ih n.a.toNat (by omega) (by omega)
     rw [Int.toNat_of_nonneg h1] at hc
     rw [if_pos (.inr k13),hke] at hR
     simp only [List.all_cons,List.all_nil,Bool.and_true] at hR
     rw [hR] at hc
     unfold exD at hc
     rw [decide_eq_true k13]
     simp only [go_sem]
     refine ab E (hc) rfl rfl (by simp) ?_
     rintro _ rfl
     simp only [go_sem]
    ·rw [decide_eq_false k13]
     simp only [go_sem]
     rw [← hR,if_neg (by omega)]
     simp [k1,k2,k3,k5]
end Go.Proofs.YtejpnabbmgpmaaaGreatDoor

