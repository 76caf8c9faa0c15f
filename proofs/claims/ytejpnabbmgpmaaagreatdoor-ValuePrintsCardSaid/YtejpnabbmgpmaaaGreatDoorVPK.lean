/-
  Whether a value may be, by the document. (with the parts that follow it)
-/
import Derived.Test.YtejpnabbmgpmaaaGreatDoorVPJ
import Derived.Test.YtejpnabbmgpmaaaGreatDoorVPC
import Derived.Test.YtejpnabbmgpmaaaGreatDoorRows
import Derived.Test.YtejpnabbmgpmaaaGreatDoorTie
import Derived.ProofKit
import Derived.JoinedOf
import Derived.ChangeMaps5
import Derived.LaidLaws
import Derived.LaidHandle
import Derived.Stop.Joined
import Derived.Lib.LaidTab
import Derived.Lay
import Derived.SevenTiedAt
import Derived.Test.YtejpnabbmgpmaaaGreatDoorCards
set_option linter.all false
namespace Go.Proofs.YtejpnabbmgpmaaaGreatDoor
open Go.Ab
set_option maxRecDepth 8000 in
set_option maxHeartbeats 4000000 in
theorem DS {G} (v:VT) (hw:v.wf) (hk:v.k=1) (hkid:∀ i,i<v.vs.length→HP Tryz.prog G 19 [.agg [i64 (v.kid i).k,i64 (v.kid i).n,.str (v.kid i).s,.sl (some 5) (v.kid i).ps]] (fun r=>r=.d (.bool (v.kid i).may))):HP Tryz.prog G 19 [v.dat] (fun r=>r=.d (.bool v.may)):=by
 have ok:=hw.ok
 have hpl:=ok.b6
 have hf:=ok.few
 have hnl:=ok.len
 have htw:=jZ (G:=G) v.nms (by omega)
 have hR1:=fun h:bu v v.vs.length=>fw h ok
 have hR2:∀ i,i<v.vs.length→((v.kid i).may=false∨(v.k=5∧aD (v.nm i)=false))→v.may=false:=fun i hi=>fI ok hi
 have hR3:ba v.k v.n v.s v.nms=false→v.may=false:=fun h=>by rw [dF,h];rfl
 have hst:=fun i=>bu.step (v:=v) (i:=i) ok
 have hb:ba v.k v.n v.s v.nms=((v.s == []) && decide (v.nms.length=0)):=by rw [hk];rfl
 generalize v.may=R at hR1 hR2 hR3 ⊢
 rw [aq,hk]
 refine aj Tryz.func19 rfl (by decide +kernel) (by simp [Tryz.ntmps19]) (veil fun E=>?_)
 simp only [go_sem]
 refine bl E (fun gs=>?_) (fun gs=>?_)<;>simp only [go_sem]
 ·rw [hR3 (by rw [hb];simp only [Bool.not_eq_true'] at gs;simp [gs])]
 have gs:(v.s == [])=true:=by simpa using gs
 refine ao E (fun gl=>?_) (fun gl=>?_)<;>simp only [go_sem]
 ·rw [hR3 (by rw [hb,decide_eq_false (show ¬ v.nms.length=0 by omega)];simp)]
 have gl:decide (v.nms.length=0)=true:=decide_eq_true (by omega)
 have hb':ba v.k v.n v.s v.nms=true:=by rw [hb,gs,gl];rfl
 refine aw E (X:={ i:Nat // bu v i }) (fun x=>[(1,.bx [1] 0),(3,.d (i64 1)),(4,.vw [86] 0 x.1),(5,.d (i64 x.1))])
  (fun x=>[([1],.box [.d (i64 1),.d (i64 v.n),.d (.str v.s),.d (.sl (some 5) v.ps)]),([86],.arr none (aM (v.nms.take x.1)))]) [1,86] (fun x=>v.vs.length-x.1) ⟨0,bu.zero v⟩ id ?_ ?_
 ·simp only [go_sem]
  all_goals ((repeat' apply And.intro)<;>first | rfl | trivial)
 rintro ⟨i,hI⟩ E0
 refine aH E0 fun Q' hQ E'=>?_
 simp only at hI ⊢
 have hi:=hI.1
 have hnl2:=eC ok hi
 simp only [go_sem]
 refine ah E' (fun g=>?_) (fun g=>?_)<;>simp only [go_sem]
 rotate_left
 ·have hi':i=v.vs.length:=by omega
  subst hi'
  have hfull:aM (v.nms.take v.vs.length)=aM v.nms:=by rw [← hnl,List.take_length]
  rw [hQ]
  simp only [go_sem]
  rw [hfull]
  unfold strs at htw
  refine dx E [86] none (aM v.nms) rfl (by simp only [go_sem];rfl) ?_
  simp only [go_sem]
  rw [show List.take v.vs.length (aM v.nms)=v.nms.map .str by unfold aM;exact List.take_of_length_le (by rw [List.length_map];omega)]
  refine ae E htw rfl rfl (by simp) ?_
  rintro _ rfl
  simp only [go_sem]
  rw [hR1 hI hb']
  unfold twice
  simp
 have hi':i<v.vs.length:=by omega
 have hn':i<v.nms.length:=by omega
 have hstp:=dt ok hi'
 have hnm:=iH (G:=G) (v.nm i) (ok.nl _ (ek hn'))
 have hkc:=hkid i hi'
 have go:(v.kid i).may=true→(v.k=5→aD (v.nm i)=true)→bu v (i+1):=hst i hI hi'
 have bad:=hR2 i hi'
 have hgp:=ok.bD hi'
 generalize (v.kid i).may=km at go bad hkc ⊢
 generalize aD (v.nm i)=nb at hnm go bad ⊢
 refine ⟨by omega,?_⟩
 rw [hgp]
 simp only [go_sem]
 refine ae E' hkc rfl rfl (by simp) ?_
 rintro _ rfl
 cases km with
 | false =>
   simp only [go_sem]
   rw [hQ]
   simp only [go_sem]
   rw [bad (.inl rfl)]
 | true =>
   simp only [go_sem]
   refine ⟨by omega,?_⟩
   rw [hgp]
   simp only [go_sem]
   refine ⟨by omega,?_⟩
   rw [List.take_of_length_le (show (aM (v.nms.take i)).length≤i by omega),← hstp]
   rw [hQ]
   simp only [go_sem]
   rw [ai (n:=(i:Int)+1) ⟨by omega,by omega⟩]
   refine ⟨⟨i+1,go rfl fun h=>absurd h (by omega)⟩,by show v.vs.length-(i+1)<v.vs.length-i;omega,tau [([86],[124])],?_⟩
   simp only [go_sem]
   all_goals ((repeat' apply And.intro)<;>first | rfl | trivial)
set_option maxRecDepth 8000 in
set_option maxHeartbeats 4000000 in
theorem Fi {G} (v:VT) (hw:v.wf) (hk:v.k=2) (hkid:∀ i,i<v.vs.length→HP Tryz.prog G 19 [.agg [i64 (v.kid i).k,i64 (v.kid i).n,.str (v.kid i).s,.sl (some 5) (v.kid i).ps]] (fun r=>r=.d (.bool (v.kid i).may))):HP Tryz.prog G 19 [v.dat] (fun r=>r=.d (.bool v.may)):=by
 have ok:=hw.ok
 have hpl:=ok.b6
 have hf:=ok.few
 have hnl:=ok.len
 have htw:=jZ (G:=G) v.nms (by omega)
 have hR1:=fun h:bu v v.vs.length=>fw h ok
 have hR2:∀ i,i<v.vs.length→((v.kid i).may=false∨(v.k=5∧aD (v.nm i)=false))→v.may=false:=fun i hi=>fI ok hi
 have hR3:ba v.k v.n v.s v.nms=false→v.may=false:=fun h=>by rw [dF,h];rfl
 have hst:=fun i=>bu.step (v:=v) (i:=i) ok
 have hb:ba v.k v.n v.s v.nms=((decide (v.n=0) || decide (v.n=1)) && (v.s == []) && decide (v.nms.length=0)):=by rw [hk];rfl
 generalize v.may=R at hR1 hR2 hR3 ⊢
 rw [aq,hk]
 refine aj Tryz.func19 rfl (by decide +kernel) (by simp [Tryz.ntmps19]) (veil fun E=>?_)
 simp only [go_sem]
 refine bl E (fun gs=>?_) (fun gs=>?_)<;>simp only [go_sem]
 ·rw [hR3 (by rw [hb];simp only [Bool.not_eq_true'] at gs;simp [gs])]
 have gs:(v.s == [])=true:=by simpa using gs
 refine ao E (fun gl=>?_) (fun gl=>?_)<;>simp only [go_sem]
 ·rw [hR3 (by rw [hb,decide_eq_false (show ¬ v.nms.length=0 by omega)];simp)]
 have gl:decide (v.nms.length=0)=true:=decide_eq_true (by omega)
 have key:(v.n=0∨v.n=1)→ba v.k v.n v.s v.nms=true:=fun h=>by rw [hb,gs,gl];rcases h with h | h<;>simp [h]
 refine ao E (fun g1=>?_) (fun g1=>?_)<;>simp only [go_sem]
 ·refine ah E (fun g2=>?_) (fun g2=>?_)<;>simp only [go_sem]
  ·rw [hR3 (by rw [hb,decide_eq_false g1,decide_eq_false g2];rfl)]
  have hb':=key (.inr (by omega))
  refine aw E (X:={ i:Nat // bu v i }) (fun x=>[(1,.bx [1] 0),(3,.d (i64 2)),(4,.vw [86] 0 x.1),(5,.d (i64 x.1))])
   (fun x=>[([1],.box [.d (i64 2),.d (i64 v.n),.d (.str v.s),.d (.sl (some 5) v.ps)]),([86],.arr none (aM (v.nms.take x.1)))]) [1,86] (fun x=>v.vs.length-x.1) ⟨0,bu.zero v⟩ id ?_ ?_
  ·simp only [go_sem]
   all_goals ((repeat' apply And.intro)<;>first | rfl | trivial)
  rintro ⟨i,hI⟩ E0
  refine aH E0 fun Q' hQ E'=>?_
  simp only at hI ⊢
  have hi:=hI.1
  have hnl2:=eC ok hi
  simp only [go_sem]
  refine ah E' (fun g=>?_) (fun g=>?_)<;>simp only [go_sem]
  rotate_left
  ·have hi':i=v.vs.length:=by omega
   subst hi'
   have hfull:aM (v.nms.take v.vs.length)=aM v.nms:=by rw [← hnl,List.take_length]
   rw [hQ]
   simp only [go_sem]
   rw [hfull]
   unfold strs at htw
   refine dx E [86] none (aM v.nms) rfl (by simp only [go_sem];rfl) ?_
   simp only [go_sem]
   rw [show List.take v.vs.length (aM v.nms)=v.nms.map .str by unfold aM;exact List.take_of_length_le (by rw [List.length_map];omega)]
   refine ae E htw rfl rfl (by simp) ?_
   rintro _ rfl
   simp only [go_sem]
   rw [hR1 hI hb']
   unfold twice
   simp
  have hi':i<v.vs.length:=by omega
  have hn':i<v.nms.length:=by omega
  have hstp:=dt ok hi'
  have hnm:=iH (G:=G) (v.nm i) (ok.nl _ (ek hn'))
  have hkc:=hkid i hi'
  have go:(v.kid i).may=true→(v.k=5→aD (v.nm i)=true)→bu v (i+1):=hst i hI hi'
  have bad:=hR2 i hi'
  have hgp:=ok.bD hi'
  generalize (v.kid i).may=km at go bad hkc ⊢
  generalize aD (v.nm i)=nb at hnm go bad ⊢
  refine ⟨by omega,?_⟩
  rw [hgp]
  simp only [go_sem]
  refine ae E' hkc rfl rfl (by simp) ?_
  rintro _ rfl
  cases km with
  | false =>
    simp only [go_sem]
    rw [hQ]
    simp only [go_sem]
    rw [bad (.inl rfl)]
  | true =>
    simp only [go_sem]
    refine ⟨by omega,?_⟩
    rw [hgp]
    simp only [go_sem]
    refine ⟨by omega,?_⟩
    rw [List.take_of_length_le (show (aM (v.nms.take i)).length≤i by omega),← hstp]
    rw [hQ]
    simp only [go_sem]
    rw [ai (n:=(i:Int)+1) ⟨by omega,by omega⟩]
    refine ⟨⟨i+1,go rfl fun h=>absurd h (by omega)⟩,by show v.vs.length-(i+1)<v.vs.length-i;omega,tau [([86],[124])],?_⟩
    simp only [go_sem]
    all_goals ((repeat' apply And.intro)<;>first | rfl | trivial)
 ·have hb':=key (.inl (by omega))
  refine aw E (X:={ i:Nat // bu v i }) (fun x=>[(1,.bx [1] 0),(3,.d (i64 2)),(4,.vw [86] 0 x.1),(5,.d (i64 x.1))])
   (fun x=>[([1],.box [.d (i64 2),.d (i64 v.n),.d (.str v.s),.d (.sl (some 5) v.ps)]),([86],.arr none (aM (v.nms.take x.1)))]) [1,86] (fun x=>v.vs.length-x.1) ⟨0,bu.zero v⟩ id ?_ ?_
  ·simp only [go_sem]
   all_goals ((repeat' apply And.intro)<;>first | rfl | trivial)
  rintro ⟨i,hI⟩ E0
  refine aH E0 fun Q' hQ E'=>?_
  simp only at hI ⊢
  have hi:=hI.1
  have hnl2:=eC ok hi
  simp only [go_sem]
  refine ah E' (fun g=>?_) (fun g=>?_)<;>simp only [go_sem]
  rotate_left
  ·have hi':i=v.vs.length:=by omega
   subst hi'
   have hfull:aM (v.nms.take v.vs.length)=aM v.nms:=by rw [← hnl,List.take_length]
   rw [hQ]
   simp only [go_sem]
   rw [hfull]
   unfold strs at htw
   refine dx E [86] none (aM v.nms) rfl (by simp only [go_sem];rfl) ?_
   simp only [go_sem]
   rw [show List.take v.vs.length (aM v.nms)=v.nms.map .str by unfold aM;exact List.take_of_length_le (by rw [List.length_map];omega)]
   refine ae E htw rfl rfl (by simp) ?_
   rintro _ rfl
   simp only [go_sem]
   rw [hR1 hI hb']
   unfold twice
   simp
  have hi':i<v.vs.length:=by omega
  have hn':i<v.nms.length:=by omega
  have hstp:=dt ok hi'
  have hnm:=iH (G:=G) (v.nm i) (ok.nl _ (ek hn'))
  have hkc:=hkid i hi'
  have go:(v.kid i).may=true→(v.k=5→aD (v.nm i)=true)→bu v (i+1):=hst i hI hi'
  have bad:=hR2 i hi'
  have hgp:=ok.bD hi'
  generalize (v.kid i).may=km at go bad hkc ⊢
  generalize aD (v.nm i)=nb at hnm go bad ⊢
  refine ⟨by omega,?_⟩
  rw [hgp]
  simp only [go_sem]
  refine ae E' hkc rfl rfl (by simp) ?_
  rintro _ rfl
  cases km with
  | false =>
    simp only [go_sem]
    rw [hQ]
    simp only [go_sem]
    rw [bad (.inl rfl)]
  | true =>
    simp only [go_sem]
    refine ⟨by omega,?_⟩
    rw [hgp]
    simp only [go_sem]
    refine ⟨by omega,?_⟩
    rw [List.take_of_length_le (show (aM (v.nms.take i)).length≤i by omega),← hstp]
    rw [hQ]
    simp only [go_sem]
    rw [ai (n:=(i:Int)+1) ⟨by omega,by omega⟩]
    refine ⟨⟨i+1,go rfl fun h=>absurd h (by omega)⟩,by show v.vs.length-(i+1)<v.vs.length-i;omega,tau [([86],[124])],?_⟩
    simp only [go_sem]
    all_goals ((repeat' apply And.intro)<;>first | rfl | trivial)
set_option maxRecDepth 8000 in
set_option maxHeartbeats 4000000 in
theorem Eh {G} (v:VT) (hw:v.wf) (hk:v.k=3) (hkid:∀ i,i<v.vs.length→HP Tryz.prog G 19 [.agg [i64 (v.kid i).k,i64 (v.kid i).n,.str (v.kid i).s,.sl (some 5) (v.kid i).ps]] (fun r=>r=.d (.bool (v.kid i).may))):HP Tryz.prog G 19 [v.dat] (fun r=>r=.d (.bool v.may)):=by
 have ok:=hw.ok
 have hpl:=ok.b6
 have hf:=ok.few
 have hnl:=ok.len
 have htw:=jZ (G:=G) v.nms (by omega)
 have hR1:=fun h:bu v v.vs.length=>fw h ok
 have hR2:∀ i,i<v.vs.length→((v.kid i).may=false∨(v.k=5∧aD (v.nm i)=false))→v.may=false:=fun i hi=>fI ok hi
 have hR3:ba v.k v.n v.s v.nms=false→v.may=false:=fun h=>by rw [dF,h];rfl
 have hst:=fun i=>bu.step (v:=v) (i:=i) ok
 have hb:ba v.k v.n v.s v.nms=(decide (v.n=0) && decide (v.nms.length=0)):=by rw [hk];rfl
 generalize v.may=R at hR1 hR2 hR3 ⊢
 rw [aq,hk]
 refine aj Tryz.func19 rfl (by decide +kernel) (by simp [Tryz.ntmps19]) (veil fun E=>?_)
 simp only [go_sem]
 refine ao E (fun gn=>?_) (fun gn=>?_)<;>simp only [go_sem]
 ·rw [hR3 (by rw [hb];simp [gn])]
 refine ao E (fun gl=>?_) (fun gl=>?_)<;>simp only [go_sem]
 ·rw [hR3 (by rw [hb,decide_eq_false (show ¬ v.nms.length=0 by omega)];simp)]
 have gl:decide (v.nms.length=0)=true:=decide_eq_true (by omega)
 have hb':ba v.k v.n v.s v.nms=true:=by rw [hb,gl,decide_eq_true (show v.n=0 by omega)];rfl
 refine aw E (X:={ i:Nat // bu v i }) (fun x=>[(1,.bx [1] 0),(3,.d (i64 3)),(4,.vw [86] 0 x.1),(5,.d (i64 x.1))])
  (fun x=>[([1],.box [.d (i64 3),.d (i64 v.n),.d (.str v.s),.d (.sl (some 5) v.ps)]),([86],.arr none (aM (v.nms.take x.1)))]) [1,86] (fun x=>v.vs.length-x.1) ⟨0,bu.zero v⟩ id ?_ ?_
 ·simp only [go_sem]
  all_goals ((repeat' apply And.intro)<;>first | rfl | trivial)
 rintro ⟨i,hI⟩ E0
 refine aH E0 fun Q' hQ E'=>?_
 simp only at hI ⊢
 have hi:=hI.1
 have hnl2:=eC ok hi
 simp only [go_sem]
 refine ah E' (fun g=>?_) (fun g=>?_)<;>simp only [go_sem]
 rotate_left
 ·have hi':i=v.vs.length:=by omega
  subst hi'
  have hfull:aM (v.nms.take v.vs.length)=aM v.nms:=by rw [← hnl,List.take_length]
  rw [hQ]
  simp only [go_sem]
  rw [hfull]
  unfold strs at htw
  refine dx E [86] none (aM v.nms) rfl (by simp only [go_sem];rfl) ?_
  simp only [go_sem]
  rw [show List.take v.vs.length (aM v.nms)=v.nms.map .str by unfold aM;exact List.take_of_length_le (by rw [List.length_map];omega)]
  refine ae E htw rfl rfl (by simp) ?_
  rintro _ rfl
  simp only [go_sem]
  rw [hR1 hI hb']
  unfold twice
  simp
 have hi':i<v.vs.length:=by omega
 have hn':i<v.nms.length:=by omega
 have hstp:=dt ok hi'
 have hnm:=iH (G:=G) (v.nm i) (ok.nl _ (ek hn'))
 have hkc:=hkid i hi'
 have go:(v.kid i).may=true→(v.k=5→aD (v.nm i)=true)→bu v (i+1):=hst i hI hi'
 have bad:=hR2 i hi'
 have hgp:=ok.bD hi'
 generalize (v.kid i).may=km at go bad hkc ⊢
 generalize aD (v.nm i)=nb at hnm go bad ⊢
 refine ⟨by omega,?_⟩
 rw [hgp]
 simp only [go_sem]
 refine ae E' hkc rfl rfl (by simp) ?_
 rintro _ rfl
 cases km with
 | false =>
   simp only [go_sem]
   rw [hQ]
   simp only [go_sem]
   rw [bad (.inl rfl)]
 | true =>
   simp only [go_sem]
   refine ⟨by omega,?_⟩
   rw [hgp]
   simp only [go_sem]
   refine ⟨by omega,?_⟩
   rw [List.take_of_length_le (show (aM (v.nms.take i)).length≤i by omega),← hstp]
   rw [hQ]
   simp only [go_sem]
   rw [ai (n:=(i:Int)+1) ⟨by omega,by omega⟩]
   refine ⟨⟨i+1,go rfl fun h=>absurd h (by omega)⟩,by show v.vs.length-(i+1)<v.vs.length-i;omega,tau [([86],[124])],?_⟩
   simp only [go_sem]
   all_goals ((repeat' apply And.intro)<;>first | rfl | trivial)
set_option maxRecDepth 8000 in
set_option maxHeartbeats 4000000 in
theorem Eu {G} (v:VT) (hw:v.wf) (hk:v.k=4) (hkid:∀ i,i<v.vs.length→HP Tryz.prog G 19 [.agg [i64 (v.kid i).k,i64 (v.kid i).n,.str (v.kid i).s,.sl (some 5) (v.kid i).ps]] (fun r=>r=.d (.bool (v.kid i).may))):HP Tryz.prog G 19 [v.dat] (fun r=>r=.d (.bool v.may)):=by
 have ok:=hw.ok
 have hpl:=ok.b6
 have hf:=ok.few
 have hnl:=ok.len
 have htw:=jZ (G:=G) v.nms (by omega)
 have hR1:=fun h:bu v v.vs.length=>fw h ok
 have hR2:∀ i,i<v.vs.length→((v.kid i).may=false∨(v.k=5∧aD (v.nm i)=false))→v.may=false:=fun i hi=>fI ok hi
 have hR3:ba v.k v.n v.s v.nms=false→v.may=false:=fun h=>by rw [dF,h];rfl
 have hst:=fun i=>bu.step (v:=v) (i:=i) ok
 have hb:ba v.k v.n v.s v.nms=(decide (v.n=0) && (v.s == []) && decide (v.nms.length=0)):=by rw [hk];rfl
 generalize v.may=R at hR1 hR2 hR3 ⊢
 rw [aq,hk]
 refine aj Tryz.func19 rfl (by decide +kernel) (by simp [Tryz.ntmps19]) (veil fun E=>?_)
 simp only [go_sem]
 refine ao E (fun gn=>?_) (fun gn=>?_)<;>simp only [go_sem]
 ·rw [hR3 (by rw [hb];simp [gn])]
 refine bl E (fun gs=>?_) (fun gs=>?_)<;>simp only [go_sem]
 ·rw [hR3 (by rw [hb];simp only [Bool.not_eq_true'] at gs;simp [gs])]
 have gs:(v.s == [])=true:=by simpa using gs
 refine ao E (fun gl=>?_) (fun gl=>?_)<;>simp only [go_sem]
 ·rw [hR3 (by rw [hb,decide_eq_false (show ¬ v.nms.length=0 by omega)];simp)]
 have gl:decide (v.nms.length=0)=true:=decide_eq_true (by omega)
 have hb':ba v.k v.n v.s v.nms=true:=by rw [hb,gs,gl,decide_eq_true (show v.n=0 by omega)];rfl
 refine aw E (X:={ i:Nat // bu v i }) (fun x=>[(1,.bx [1] 0),(3,.d (i64 4)),(4,.vw [86] 0 x.1),(5,.d (i64 x.1))])
  (fun x=>[([1],.box [.d (i64 4),.d (i64 v.n),.d (.str v.s),.d (.sl (some 5) v.ps)]),([86],.arr none (aM (v.nms.take x.1)))]) [1,86] (fun x=>v.vs.length-x.1) ⟨0,bu.zero v⟩ id ?_ ?_
 ·simp only [go_sem]
  all_goals ((repeat' apply And.intro)<;>first | rfl | trivial)
 rintro ⟨i,hI⟩ E0
 refine aH E0 fun Q' hQ E'=>?_
 simp only at hI ⊢
 have hi:=hI.1
 have hnl2:=eC ok hi
 simp only [go_sem]
 refine ah E' (fun g=>?_) (fun g=>?_)<;>simp only [go_sem]
 rotate_left
 ·have hi':i=v.vs.length:=by omega
  subst hi'
  have hfull:aM (v.nms.take v.vs.length)=aM v.nms:=by rw [← hnl,List.take_length]
  rw [hQ]
  simp only [go_sem]
  rw [hfull]
  unfold strs at htw
  refine dx E [86] none (aM v.nms) rfl (by simp only [go_sem];rfl) ?_
  simp only [go_sem]
  rw [show List.take v.vs.length (aM v.nms)=v.nms.map .str by unfold aM;exact List.take_of_length_le (by rw [List.length_map];omega)]
  refine ae E htw rfl rfl (by simp) ?_
  rintro _ rfl
  simp only [go_sem]
  rw [hR1 hI hb']
  unfold twice
  simp
 have hi':i<v.vs.length:=by omega
 have hn':i<v.nms.length:=by omega
 have hstp:=dt ok hi'
 have hnm:=iH (G:=G) (v.nm i) (ok.nl _ (ek hn'))
 have hkc:=hkid i hi'
 have go:(v.kid i).may=true→(v.k=5→aD (v.nm i)=true)→bu v (i+1):=hst i hI hi'
 have bad:=hR2 i hi'
 have hgp:=ok.bD hi'
 generalize (v.kid i).may=km at go bad hkc ⊢
 generalize aD (v.nm i)=nb at hnm go bad ⊢
 refine ⟨by omega,?_⟩
 rw [hgp]
 simp only [go_sem]
 refine ae E' hkc rfl rfl (by simp) ?_
 rintro _ rfl
 cases km with
 | false =>
   simp only [go_sem]
   rw [hQ]
   simp only [go_sem]
   rw [bad (.inl rfl)]
 | true =>
   simp only [go_sem]
   refine ⟨by omega,?_⟩
   rw [hgp]
   simp only [go_sem]
   refine ⟨by omega,?_⟩
   rw [List.take_of_length_le (show (aM (v.nms.take i)).length≤i by omega),← hstp]
   rw [hQ]
   simp only [go_sem]
   rw [ai (n:=(i:Int)+1) ⟨by omega,by omega⟩]
   refine ⟨⟨i+1,go rfl fun h=>absurd h (by omega)⟩,by show v.vs.length-(i+1)<v.vs.length-i;omega,tau [([86],[124])],?_⟩
   simp only [go_sem]
   all_goals ((repeat' apply And.intro)<;>first | rfl | trivial)
set_option maxRecDepth 8000 in
set_option maxHeartbeats 4000000 in
theorem E1 {G} (v:VT) (hw:v.wf) (hk:v.k=5) (hkid:∀ i,i<v.vs.length→HP Tryz.prog G 19 [.agg [i64 (v.kid i).k,i64 (v.kid i).n,.str (v.kid i).s,.sl (some 5) (v.kid i).ps]] (fun r=>r=.d (.bool (v.kid i).may))):HP Tryz.prog G 19 [v.dat] (fun r=>r=.d (.bool v.may)):=by
 have ok:=hw.ok
 have hpl:=ok.b6
 have hf:=ok.few
 have hnl:=ok.len
 have htw:=jZ (G:=G) v.nms (by omega)
 have hR1:=fun h:bu v v.vs.length=>fw h ok
 have hR2:∀ i,i<v.vs.length→((v.kid i).may=false∨(v.k=5∧aD (v.nm i)=false))→v.may=false:=fun i hi=>fI ok hi
 have hR3:ba v.k v.n v.s v.nms=false→v.may=false:=fun h=>by rw [dF,h];rfl
 have hst:=fun i=>bu.step (v:=v) (i:=i) ok
 have hb:ba v.k v.n v.s v.nms=(decide (v.n=0) && (v.s == [])):=by rw [hk];rfl
 generalize v.may=R at hR1 hR2 hR3 ⊢
 rw [aq,hk]
 refine aj Tryz.func19 rfl (by decide +kernel) (by simp [Tryz.ntmps19]) (veil fun E=>?_)
 simp only [go_sem]
 refine ao E (fun gn=>?_) (fun gn=>?_)<;>simp only [go_sem]
 ·rw [hR3 (by rw [hb];simp [gn])]
 refine bl E (fun gs=>?_) (fun gs=>?_)<;>simp only [go_sem]
 ·rw [hR3 (by rw [hb];simp only [Bool.not_eq_true'] at gs;simp [gs])]
 have gs:(v.s == [])=true:=by simpa using gs
 have hb':ba v.k v.n v.s v.nms=true:=by rw [hb,gs,decide_eq_true (show v.n=0 by omega)];rfl
 refine aw E (X:={ i:Nat // bu v i }) (fun x=>[(1,.bx [1] 0),(3,.d (i64 5)),(4,.vw [86] 0 x.1),(5,.d (i64 x.1))])
  (fun x=>[([1],.box [.d (i64 5),.d (i64 v.n),.d (.str v.s),.d (.sl (some 5) v.ps)]),([86],.arr none (aM (v.nms.take x.1)))]) [1,86] (fun x=>v.vs.length-x.1) ⟨0,bu.zero v⟩ id ?_ ?_
 ·simp only [go_sem]
  all_goals ((repeat' apply And.intro)<;>first | rfl | trivial)
 rintro ⟨i,hI⟩ E0
 refine aH E0 fun Q' hQ E'=>?_
 simp only at hI ⊢
 have hi:=hI.1
 have hnl2:=eC ok hi
 simp only [go_sem]
 refine ah E' (fun g=>?_) (fun g=>?_)<;>simp only [go_sem]
 rotate_left
 ·have hi':i=v.vs.length:=by omega
  subst hi'
  have hfull:aM (v.nms.take v.vs.length)=aM v.nms:=by rw [← hnl,List.take_length]
  rw [hQ]
  simp only [go_sem]
  rw [hfull]
  unfold strs at htw
  refine dx E [86] none (aM v.nms) rfl (by simp only [go_sem];rfl) ?_
  simp only [go_sem]
  rw [show List.take v.vs.length (aM v.nms)=v.nms.map .str by unfold aM;exact List.take_of_length_le (by rw [List.length_map];omega)]
  refine ae E htw rfl rfl (by simp) ?_
  rintro _ rfl
  simp only [go_sem]
  rw [hR1 hI hb']
  unfold twice
  simp
 have hi':i<v.vs.length:=by omega
 have hn':i<v.nms.length:=by omega
 have hstp:=dt ok hi'
 have hnm:=iH (G:=G) (v.nm i) (ok.nl _ (ek hn'))
 have hkc:=hkid i hi'
 have go:(v.kid i).may=true→(v.k=5→aD (v.nm i)=true)→bu v (i+1):=hst i hI hi'
 have bad:=hR2 i hi'
 have hgp:=ok.bD hi'
 generalize (v.kid i).may=km at go bad hkc ⊢
 generalize aD (v.nm i)=nb at hnm go bad ⊢
 refine ⟨by omega,?_⟩
 rw [hgp]
 simp only [go_sem]
 refine ae E' hnm rfl rfl (by simp) ?_
 rintro _ rfl
 cases nb with
 | false =>
   simp only [go_sem]
   rw [hQ]
   simp only [go_sem]
   rw [bad (.inr ⟨hk,rfl⟩)]
 | true =>
   simp only [go_sem]
   refine ⟨by omega,?_⟩
   rw [hgp]
   simp only [go_sem]
   refine ae E' hkc rfl rfl (by simp) ?_
   rintro _ rfl
   cases km with
   | false =>
     simp only [go_sem]
     rw [hQ]
     simp only [go_sem]
     rw [bad (.inl rfl)]
   | true =>
     simp only [go_sem]
     refine ⟨by omega,?_⟩
     rw [hgp]
     simp only [go_sem]
     refine ⟨by omega,?_⟩
     rw [List.take_of_length_le (show (aM (v.nms.take i)).length≤i by omega),← hstp]
     rw [hQ]
     simp only [go_sem]
     rw [ai (n:=(i:Int)+1) ⟨by omega,by omega⟩]
     refine ⟨⟨i+1,go rfl fun _=>rfl⟩,by show v.vs.length-(i+1)<v.vs.length-i;omega,tau [([86],[124])],?_⟩
     simp only [go_sem]
     all_goals ((repeat' apply And.intro)<;>first | rfl | trivial)
set_option maxRecDepth 8000 in
set_option maxHeartbeats 4000000 in
theorem DG {G} (v:VT) (hw:v.wf) (hk:v.k=6) (hkid:∀ i,i<v.vs.length→HP Tryz.prog G 19 [.agg [i64 (v.kid i).k,i64 (v.kid i).n,.str (v.kid i).s,.sl (some 5) (v.kid i).ps]] (fun r=>r=.d (.bool (v.kid i).may))):HP Tryz.prog G 19 [v.dat] (fun r=>r=.d (.bool v.may)):=by
 have ok:=hw.ok
 have hpl:=ok.b6
 have hf:=ok.few
 have hnl:=ok.len
 have htw:=jZ (G:=G) v.nms (by omega)
 have hR1:=fun h:bu v v.vs.length=>fw h ok
 have hR2:∀ i,i<v.vs.length→((v.kid i).may=false∨(v.k=5∧aD (v.nm i)=false))→v.may=false:=fun i hi=>fI ok hi
 have hR3:ba v.k v.n v.s v.nms=false→v.may=false:=fun h=>by rw [dF,h];rfl
 have hst:=fun i=>bu.step (v:=v) (i:=i) ok
 have htag:=En (G:=G) v.s ok.sl
 have hg0:v.nms.length=1→v.ps.getD 0 .nilp=.agg [.str (v.nms.getD 0 []),i64 (v.kid 0).k,i64 (v.kid 0).n,.str (v.kid 0).s,.sl (some 5) (v.kid 0).ps]:=fun h=>ok.bD (by omega)
 have hb:ba v.k v.n v.s v.nms=(decide (v.n=0) && eY v.s && decide (v.nms.length=1) && (v.nms.getD 0 [] == [])):=by rw [hk];rfl
 generalize v.nms.getD 0 []=n0 at hg0 hb
 generalize eY v.s=tb at htag hb
 generalize v.may=R at hR1 hR2 hR3 ⊢
 rw [aq,hk]
 refine aj Tryz.func19 rfl (by decide +kernel) (by simp [Tryz.ntmps19]) (veil fun E=>?_)
 simp only [go_sem]
 refine ao E (fun gn=>?_) (fun gn=>?_)<;>simp only [go_sem]
 ·rw [hR3 (by rw [hb];simp [gn])]
 refine ae E htag rfl rfl (by simp) ?_
 rintro _ rfl
 cases tb with
 | false =>
   simp only [go_sem]
   rw [hR3 (by rw [hb];simp)]
 | true =>
   simp only [go_sem]
   refine ao E (fun g3=>?_) (fun g3=>?_)<;>simp only [go_sem]
   ·rw [hR3 (by rw [hb,decide_eq_false (show ¬ v.nms.length=1 by omega)];simp)]
   have h1:v.nms.length=1:=by omega
   refine ⟨by omega,?_⟩
   rw [hg0 h1]
   simp only [go_sem]
   refine aI E (fun g4=>?_) (fun g4=>?_)<;>simp only [go_sem]
   ·rw [hR3 (by rw [hb];simp only [Bool.not_eq_true'] at g4;simp [g4])]
   have g4:(n0 == [])=true:=by simpa using g4
   have hb':ba v.k v.n v.s v.nms=true:=by rw [hb,g4,decide_eq_true h1,decide_eq_true (show v.n=0 by omega)];rfl
   refine aw E (X:={ i:Nat // bu v i }) (fun x=>[(1,.bx [1] 0),(3,.d (i64 6)),(4,.vw [86] 0 x.1),(5,.d (i64 x.1))])
    (fun x=>[([1],.box [.d (i64 6),.d (i64 v.n),.d (.str v.s),.d (.sl (some 5) v.ps)]),([86],.arr none (aM (v.nms.take x.1)))]) [1,86] (fun x=>v.vs.length-x.1) ⟨0,bu.zero v⟩ id ?_ ?_
   ·simp only [go_sem]
    all_goals ((repeat' apply And.intro)<;>first | rfl | trivial)
   rintro ⟨i,hI⟩ E0
   refine aH E0 fun Q' hQ E'=>?_
   simp only at hI ⊢
   have hi:=hI.1
   have hnl2:=eC ok hi
   simp only [go_sem]
   refine ah E' (fun g=>?_) (fun g=>?_)<;>simp only [go_sem]
   rotate_left
   ·have hi':i=v.vs.length:=by omega
    subst hi'
    have hfull:aM (v.nms.take v.vs.length)=aM v.nms:=by rw [← hnl,List.take_length]
    rw [hQ]
    simp only [go_sem]
    rw [hfull]
    unfold strs at htw
    refine dx E [86] none (aM v.nms) rfl (by simp only [go_sem];rfl) ?_
    simp only [go_sem]
    rw [show List.take v.vs.length (aM v.nms)=v.nms.map .str by unfold aM;exact List.take_of_length_le (by rw [List.length_map];omega)]
    refine ae E htw rfl rfl (by simp) ?_
    rintro _ rfl
    simp only [go_sem]
    rw [hR1 hI hb']
    unfold twice
    simp
   have hi':i<v.vs.length:=by omega
   have hn':i<v.nms.length:=by omega
   have hstp:=dt ok hi'
   have hnm:=iH (G:=G) (v.nm i) (ok.nl _ (ek hn'))
   have hkc:=hkid i hi'
   have go:(v.kid i).may=true→(v.k=5→aD (v.nm i)=true)→bu v (i+1):=hst i hI hi'
   have bad:=hR2 i hi'
   have hgp:=ok.bD hi'
   generalize (v.kid i).may=km at go bad hkc ⊢
   generalize aD (v.nm i)=nb at hnm go bad ⊢
   refine ⟨by omega,?_⟩
   rw [hgp]
   simp only [go_sem]
   refine ae E' hkc rfl rfl (by simp) ?_
   rintro _ rfl
   cases km with
   | false =>
     simp only [go_sem]
     rw [hQ]
     simp only [go_sem]
     rw [bad (.inl rfl)]
   | true =>
     simp only [go_sem]
     refine ⟨by omega,?_⟩
     rw [hgp]
     simp only [go_sem]
     refine ⟨by omega,?_⟩
     rw [List.take_of_length_le (show (aM (v.nms.take i)).length≤i by omega),← hstp]
     rw [hQ]
     simp only [go_sem]
     rw [ai (n:=(i:Int)+1) ⟨by omega,by omega⟩]
     refine ⟨⟨i+1,go rfl fun h=>absurd h (by omega)⟩,by show v.vs.length-(i+1)<v.vs.length-i;omega,tau [([86],[124])],?_⟩
     simp only [go_sem]
     all_goals ((repeat' apply And.intro)<;>first | rfl | trivial)
theorem D5 {G} (v:VT) (hk:v.k<1∨6<v.k):HP Tryz.prog G 19 [v.dat] (fun r=>r=.d (.bool v.may)):=by
 have hR:v.may=false:=by
  rw [dF]
  unfold ba
  rw [if_neg (by omega),if_neg (by omega),if_neg (by omega),if_neg (by omega),if_neg (by omega),if_neg (by omega)]
  rfl
 rw [hR,aq]
 refine aj Tryz.func19 rfl (by decide +kernel) (by simp [Tryz.ntmps19]) (veil fun E=>?_)
 simp only [go_sem]
 refine ao E (fun g1=>?_) (fun g1=>?_)<;>simp only [go_sem]
 refine ao E (fun g2=>?_) (fun g2=>?_)<;>simp only [go_sem]
 omega
theorem AM {G}:∀ (m:Nat) (v:VT),v.hg≤m→v.wf→HP Tryz.prog G 19 [v.dat] (fun r=>r=.d (.bool v.may))
 | 0,v,h,_=>absurd (gy v) (by omega)
 | m+1,v,h,hw=>by
   have hkid:∀ i,i<v.vs.length→HP Tryz.prog G 19 [.agg [i64 (v.kid i).k,i64 (v.kid i).n,.str (v.kid i).s,.sl (some 5) (v.kid i).ps]] (fun r=>r=.d (.bool (v.kid i).may)):=fun i hi=>by
    have h1:=gJ (bh hi)
    have:=AM (G:=G) m (v.kid i) (by omega) (hw.ok.kids _ (bh hi))
    rw [aq] at this
    exact this
   rcases (by omega:v.k=1∨v.k=2∨v.k=3∨v.k=4∨v.k=5∨v.k=6∨(v.k<1∨6<v.k)) with e | e | e | e | e | e | e
   ·exact DS v hw e hkid
   ·exact Fi v hw e hkid
   ·exact Eh v hw e hkid
   ·exact Eu v hw e hkid
   ·exact E1 v hw e hkid
   ·exact DG v hw e hkid
   ·exact D5 v e
end Go.Proofs.YtejpnabbmgpmaaaGreatDoor

namespace Go.Proofs.YtejpnabbmgpmaaaGreatDoor
open Go.Ab
theorem FG {tt:TypeId} {fz:Nat × Nat} (x y:VT) (hx:x.inn) (hy:y.inn):HP Tryz.prog (GT tt fz) 5 [x.dat,y.dat] (fun r=>r=.d (.bool true)) :=
 Gk (fun v hw=>AM v.hg v (Nat.le_refl _) hw) x y hx hy
end Go.Proofs.YtejpnabbmgpmaaaGreatDoor

namespace Go.Proofs.YtejpnabbmgpmaaaGreatDoor
open Go.Ab
open Go.ChangeShapes Go.WideShapes Go.ChangeAt Go.RowKit
theorem Tryz.own:ownKnob Tryz.prog.godebug=none:=by kernel_rfl
def mh:List (String × DataW Unit):=[("math/bits.deBruijn32tab",Rows.laid_math_bits_deBruijn32tab),("math/bits.deBruijn64tab",Rows.laid_math_bits_deBruijn64tab),("internal/strconv.uint64pow10",Rows.laid_internal_strconv_uint64pow10)]
theorem jr {P:Program} {x:String × DataW Unit} {r:List (String × DataW Unit)} {W:World} (h:laidMet P (x::r) W):laidMet P r W:=by
 obtain ⟨ps,⟨g,t,cs,fuel,p,q,h1,h2,h3,h4,h5,rfl⟩,hnd,hall⟩:=h
 exact ⟨q,h5,(List.nodup_append.1 hnd).2.1,fun b off hb=>hall b off (List.mem_append_right _ hb)⟩
theorem DE:(Tryz.prog.globals[0]?).map (·.type)=some 174:=by kernel_rfl
theorem rS {W:World} (h:laidMetH Tryz.prog mh W):∃ t fz,∀ q∈GT t fz,W.heap[q.1]?=some q.2:=by
 have h1:laidMet Tryz.prog mh W:=h
 have h2:=Lib.tabIs_of_head (k:=.u64) (zs:=Lib.pow10Tab) (show Tryz.prog.globalNamed "internal/strconv.uint64pow10" = some 0 by kernel_rfl) DE (show Tryz.prog.underlying 174=some (.array 20 163) by kernel_rfl) (show Tryz.prog.underlying 163=some (.int .u64) by kernel_rfl) (by kernel_rfl) (by kernel_rfl) (jr (jr h1))
 unfold Lib.TabIs World.var? at h2
 rw [show Tryz.prog.globalNamed "internal/strconv.uint64pow10" = some 0 by kernel_rfl] at h2
 simp only [Option.bind_some] at h2
 split at h2
 ·rename_i cs t fz hh
  simp only [Option.some.injEq] at h2
  subst h2
  refine ⟨t,fz,fun q hq=>?_⟩
  obtain rfl:=List.mem_singleton.1 hq
  exact hh
 ·cases h2
noncomputable def nQ (os:Os):World:=World.laidAll Tryz.prog os mh
theorem nF (os:Os) (args:Array Value):laidMetH Tryz.prog mh ((nQ os).forCall (fun _ _=>0) ⟨#[],args,[]⟩).memory :=
 laidMetH_of_parts (laidMet_laidAll args (by kernel_rfl) (by kernel_rfl)) (by kernel_rfl)
theorem Tryz.laidOut:laidOutB Tryz.prog=true:=by kernel_rfl
theorem rz {H:Type} {enc:TypeId × Value→H} {t:TypeId} (hr:Tryz.prog.readableRec t=true) (hrow:t<Tryz.prog.types.size) {W W':World} {v:Value} {d:DataW H} {ps:List MemPlace}
  (h:DataW.Trod enc Tryz.prog W 0 (fun _=>true) true t v d ps) (he:Ext W W') (hlt:∀ x∈ps,x.block<W.heap.size) :
  DataW.Trod enc Tryz.prog W' 0 (fun b=>decide (b<W.heap.size)) true t v d ps :=
 WideElems.Trod_stays Tryz.laidOut hr hrow h (fun x hx=>by
  have h1:=he.old x.block (hlt x hx)
  cases x with
  | cell b off=>show W'.cell? _=W.cell? _;unfold World.cell?;rw [show W'.heap[b]?=W.heap[b]? from h1]
  | map b=>exact h1) (fun x hx=>by simpa using hlt x hx)
end Go.Proofs.YtejpnabbmgpmaaaGreatDoor

namespace Go.Proofs.YtejpnabbmgpmaaaGreatDoor
open Go.Ab
open Go.ChangeShapes Go.WideShapes Go.ChangeAt Go.RowKit
theorem mX:(Rows.valuePrintsRow.wf (OpenSpec.ofChange Rows.valuePrintsSpec))=true:=by kernel_rfl
theorem mQ:(Tryz.f5.params.all (Tryz.prog.readableRec ·))=true:=by kernel_rfl
theorem mb:(namedTie Tryz.prog Rows.valuePrintsRow.named Rows.valuePrintsSpec.vars)=true:=by kernel_rfl
theorem nE:((Rows.valuePrintsRow.stops == []))=true:=by kernel_rfl
theorem mA:((Rows.valuePrintsRow.knobs == []))=true:=by kernel_rfl
theorem kM:((Rows.valuePrintsRow.inPlace == Tryz.prog.inPlace 5))=true:=by kernel_rfl
theorem kX:((Rows.valuePrintsRow.unfollowed == Tryz.prog.unfollowed 5))=true:=by kernel_rfl
theorem k6:((Rows.valuePrintsRow.recurses == Tryz.prog.recurses 5))=true:=by kernel_rfl
theorem lh:((Rows.valuePrintsRow.named == Tryz.prog.varsNamed 5))=true:=by kernel_rfl
theorem lj:((Rows.valuePrintsRow.maps == (Tryz.f5.params.toList++Rows.valuePrintsSpec.plain.varTypes Tryz.prog).any (Tryz.prog.mapsRec ·)))=true:=by kernel_rfl
theorem lp:((Rows.valuePrintsRow.ifaces == (Tryz.f5.params.toList++Rows.valuePrintsSpec.plain.varTypes Tryz.prog).any (Tryz.prog.ifacesRec ·)))=true:=by kernel_rfl
theorem kY:((Rows.valuePrintsRow.mapsOut == Tryz.prog.mapsAmong Tryz.f5.resultTypes.toList))=true:=by kernel_rfl
theorem k8:((Rows.valuePrintsRow.loops == (Tryz.f5.params.toList++Rows.valuePrintsSpec.plain.varTypes Tryz.prog).any (Tryz.prog.loopsFrom ·)))=true:=by kernel_rfl
theorem kN:((Rows.valuePrintsRow.wideKeys == (Tryz.f5.params.toList++Rows.valuePrintsSpec.plain.varTypes Tryz.prog++Tryz.f5.resultTypes.toList).any (Tryz.prog.wideKeysFrom ·)))=true:=by kernel_rfl
theorem ld:(Rows.valuePrintsSpec.vars.all (Tryz.prog.varReadable ·))=true:=by kernel_rfl
theorem kZ:(Tryz.f5.resultTypes.all (fun t=>Tryz.prog.readableRec t && decide (t<Tryz.prog.types.size)))=true:=by kernel_rfl
theorem kT:((Rows.valuePrintsRow.ifacesOut == Tryz.f5.resultTypes.toList.any (Tryz.prog.ifacesRec ·)))=true:=by kernel_rfl
theorem kW:((Rows.valuePrintsRow.loopsOut == Tryz.f5.resultTypes.toList.any (Tryz.prog.loopsFrom ·)))=true:=by kernel_rfl
theorem k7:((Rows.valuePrintsRow.plainKeys == Tryz.prog.plainKeys))=true:=by kernel_rfl
theorem kP:(Rows.valuePrintsRow.shortTexts.isNone)=true:=by kernel_rfl
theorem kQ:((Rows.valuePrintsRow.lifted == Tryz.prog.liftsFinal))=true:=by kernel_rfl
theorem lr:((Tryz.prog.make == some Rows.valuePrintsRow.make))=true:=by kernel_rfl
theorem kS:((Rows.valuePrintsRow.kinds == (if Rows.valuePrintsRow.domain.isEmpty then [] else Tryz.f5.params.toList.map fun t=>match Tryz.prog.underlying t with | some (.int k)=>some k | _=>none)))=true:=by kernel_rfl
theorem kV:((Rows.valuePrintsRow.pinned == Rows.valuePrintsRow.pinnedBy))=true:=by kernel_rfl
theorem kO:((Rows.valuePrintsRow.veiled == (Tryz.f5.params.toList++Rows.valuePrintsSpec.plain.varTypes Tryz.prog++Tryz.f5.resultTypes.toList).any (Tryz.prog.veiledRec ·)))=true:=by kernel_rfl
theorem kU:(Rows.valuePrintsRow.veiledFits Tryz.prog Tryz.f5.params.toList (Tryz.f5.params.toList++Rows.valuePrintsSpec.plain.varTypes Tryz.prog++Tryz.f5.resultTypes.toList))=true:=by kernel_rfl
end Go.Proofs.YtejpnabbmgpmaaaGreatDoor

namespace Go.Proofs.YtejpnabbmgpmaaaGreatDoor
open Go.Ab
open Go.ChangeShapes Go.WideShapes Go.ChangeAt Go.RowKit
theorem bk {a b:Bool} (ha:a=true) (hb:b=true):(a && b)=true:=by rw [ha,hb];rfl
theorem BB:(laidOutB Tryz.prog)=true:=by kernel_rfl
theorem Cx:(mapsRowed Tryz.prog)=true:=by kernel_rfl
theorem AR:((Tryz.prog.stops == []))=true:=by kernel_rfl
theorem zt:((Tryz.prog.stopKnobs == []))=true:=by kernel_rfl
theorem Az:(Tryz.prog.stopsHeard)=true:=by kernel_rfl
theorem zC:(Tryz.prog.mayEnter)=true:=by kernel_rfl
end Go.Proofs.YtejpnabbmgpmaaaGreatDoor

namespace Go.Proofs.YtejpnabbmgpmaaaGreatDoor
open Go.Ab
open Go.ChangeShapes Go.WideShapes Go.ChangeAt Go.RowKit
set_option maxRecDepth 100000 in
theorem iN (os:Os) (started:os.Started) (H:Type) (enc:TypeId × Value→H) :
  ReturnsInHanded {} Tryz.checked os 5 .any (fun w args=>(Rows.valuePrintsSpec.pre enc Tryz.prog Tryz.f5 [] false w args∧laidMetH Tryz.prog mh w)∧sizedMet enc Tryz.prog Tryz.f5 (OpenSpec.ofChange Rows.valuePrintsSpec) false w args)
   (Rows.valuePrintsSpec.post enc Tryz.prog Tryz.f5 false true false false):=by
 refine returnsInHanded_of_change_and (C:=Tryz.checked) (X:=fun w _=>laidMetH Tryz.prog mh w) (fun _ _ _ hh h=>h.of_heap hh) Tryz.own started (by kernel_rfl) Tryz.func5
  (ChangeSpec.witness_at (enc:=enc) (C:=Tryz.checked) (os:=os) (X:=fun w _=>laidMetH Tryz.prog mh w) false (nQ os) #[.agg #[.int .i64 0,.int .i64 0,.string ⟨#[]⟩,.slice none 0 0],.agg #[.int .i64 0,.int .i64 0,.string ⟨#[]⟩,.slice none 0 0]] 8 (World.laidAll_os _ _ _) (by kernel_rfl) (by kernel_rfl) (by kernel_rfl) (by kernel_rfl) (by kernel_rfl) (nF os _)) ?_
 intro W base args ds gs before hval0 hW _ _ hL _
 have hval:∀ (j:Nat) t v,Tryz.f5.params[j]?=some t→args[j]?=some v→Value.okWide Tryz.prog W .any base t v:=hval0
 have hW':=hW
 obtain ⟨p,q,hA0,hV,rfl,hfz,hnd⟩:=hW
 have hA:DataW.TrodAll enc Tryz.prog W 0 (fun _=>true) true Tryz.f5.params.toList args.toList ds p:=hA0
 rw [Tryz.params5] at hA hval
 obtain ⟨v0,v1,d0,d1,p0,p1,rfl,rfl,rfl,h0,h1⟩:=trodAll_two hA
 obtain ⟨rfl,rfl⟩:=trodVars_none hV
 clear hA0 hval0
 obtain ⟨tt,fz,hG⟩:=rS hL
 obtain ⟨x0,rfl,_⟩:=okWide_struct Tryz.underlying37 (hval 0 37 v0 rfl rfl)
 obtain ⟨u0,k0,r0⟩:=AO h0
 obtain ⟨x1,rfl,_⟩:=okWide_struct Tryz.underlying37 (hval 1 37 v1 rfl rfl)
 obtain ⟨u1,k1,r1⟩:=AO h1
 have eF:Rows.valuePrintsSpec.fn H ([d0,d1]++[])={ results:=[.lit (.bool true)],args:=[d0,d1] }:=rfl
 refine (rp (FG (tt:=tt) (fz:=fz) u0 u1 k0 k1) hG (vs:=#[.agg x0,.agg x1]) rfl ?_).mono ?_
 ·intro i d hi
  match i,hi with
  | 0,hi=>obtain rfl:=Option.some.inj hi;exact r0
  | 1,hi=>obtain rfl:=Option.some.inj hi;exact r1
 rintro e W' ⟨v,r,rfl,rfl,hext,_,_,_,_,hv⟩
 obtain rfl:=hv.bool
 have hlt:∀ x∈p0++p1,x.block<W.heap.size:=fun x hx=>by simpa using hW'.lt x (by simpa using hx)
 refine ⟨_,rfl,_,_,_,[],p0++p1,[],hW',?_,?_,?_,hext.frame _,fun h=>by cases h⟩
 ·rw [eF];exact trodAll_mk1 (shut_bool Tryz.underlying4 true)
 ·rw [eF];exact trodAll_mk2 (rz (by kernel_rfl) (of_decide_eq_true (by kernel_rfl)) h0 hext (fun x hx=>hlt x (by simp [hx]))) (rz (by kernel_rfl) (of_decide_eq_true (by kernel_rfl)) h1 hext (fun x hx=>hlt x (by simp [hx])))
 ·rw [eF];rfl
set_option maxRecDepth 100000 in
theorem ji:joinedFacts Tryz.prog 5 Tryz.f5 Rows.valuePrintsSpec Rows.valuePrintsRow=true:=by
 unfold joinedFacts
 exact bk (bk (bk (bk (bk (bk (bk (bk (bk (bk (bk (bk (bk (bk (bk (bk (bk (bk (bk (bk (bk (bk (bk (bk (bk (bk (bk (bk (bk (bk (bk mX BB) Cx) mQ) mb) nE) AR) mA) zt) kM) kX) k6) lh) lj) lp) kY) k8) kN) ld) kZ) kT) kW) k7) kP) Az) zC) kQ) lr) kS) kV) kO) kU
theorem je:Tryz.pinned.checked.prog.funcNamed Rows.valuePrintsRow.func=some 5:=by kernel_rfl
theorem jN:decide (Tryz.f5.isInstance Tryz.pinned.checked.prog Rows.valuePrintsRow.origin Rows.valuePrintsRow.targs)=true:=by kernel_rfl
theorem ju:Rows.ValuePrintsSaid :=
 OpenClaim.holds_of_wide 5 Tryz.f5 rfl rfl rfl rfl rfl rfl rfl ⟨rfl,rfl,rfl,rfl,rfl⟩ rfl rfl rfl rfl rfl je Tryz.func5 ji
  (of_decide_eq_true jN) (by unfold Func.isWrapper;rw [if_neg (of_decide_eq_false (by kernel_rfl))];exact ⟨rfl,rfl⟩)
  (fun os started H enc _=>iN os started H enc)
theorem valuePrints_card:Rows.ValuePrintsCardSaid :=
 Claim7.holds_tied_plain_at .later [] [.data,.data,.data] true (true, "86e9b69d87c22ae8a93ee535abd4a3a0f1d48777251695e23a39c441c3c7c814") false
  ju (fun _ h=>by cases h) (by kernel_rfl) (fun _ h=>by cases h) valuePrints_row_tie rfl ⟨rfl,rfl⟩ (by kernel_rfl) rfl
  (fun f fn hf hfn=>by
   obtain rfl:f=5:=Option.some.inj ((show Tryz.prog.funcNamed "syntagma/syntagmalaw11.ValuePrints" = some 5 by kernel_rfl).symm.trans hf) |>.symm
   obtain rfl:fn=Tryz.f5:=(Option.some.inj (Tryz.func5.symm.trans hfn)).symm
   exact ⟨by kernel_rfl,fun j t ht=>by
    rw [Tryz.params5] at ht
    match j,ht with
    | 0,ht=>obtain rfl:=Option.some.inj ht;exact (show Tryz.prog.wantsStandIn 37=false by kernel_rfl)
    | 1,ht=>obtain rfl:=Option.some.inj ht;exact (show Tryz.prog.wantsStandIn 37=false by kernel_rfl)⟩)
  (by kernel_rfl)
end Go.Proofs.YtejpnabbmgpmaaaGreatDoor

