/-
  The value of a tree, by the program and by the document. (with the parts that follow it)
-/
import Derived.Test.YtejpnabbmgpmaaaGreatDoorVAI
import Derived.Test.YtejpnabbmgpmaaaGreatDoorVAC
import Derived.Test.YtejpnabbmgpmaaaGreatDoorVAF
import Derived.Test.YtejpnabbmgpmaaaGreatDoorVAG
import Derived.Test.YtejpnabbmgpmaaaGreatDoorVAH
import Derived.Lib.ItoaLen
import Derived.Deep.Upon
import Derived.Lib.MakeNoZero
set_option linter.all false
namespace Go.Proofs.YtejpnabbmgpmaaaGreatDoor
open Go.Ab
def vtN (n:EN) (vs:List VT):VT :=
 if n.k=1 then .mk 1 n.n [] [] [] else if n.k=2 then .mk 2 n.n [] [] [] else if n.k=3 then .mk 3 0 n.s [] [] else if n.k=5 then .mk 4 0 [] [] [] else if n.k=13 then .mk 6 0 n.name [[]] vs else .mk 5 0 [] (n.l.map (·.nm)) vs
mutual
def vtT:RT→VT
 | .mk n ts=>vtN n (EI ts)
def EI:List RT→List VT
 | []=>[]
 | t::r=>vtT t::EI r
end
theorem rm:∀ ts:List RT,EI ts=ts.map vtT
 | []=>rfl
 | t::r=>by rw [EI,rm r];rfl
theorem Eg (n:EN):(can n).l.map (·.nm)=if aJ n.k then n.l.map (·.nm) else []:=by
 show (if aJ n.k then aU _ _ n.l 0 else []).map (·.nm)=_
 split
 ·exact iq (fun f:EF=>f.nm) (fun _ _=>rfl) _ _ _ _
 ·rfl
def vtE (ns:List EN) (i:Nat):VT:=vtT (trE ns i)
theorem oS {ns:List EN} (ht:eO ns) {i:Nat} (hi:i<ns.length):vtE ns i=vtN (can (ndE ns i)) ((an (ndE ns i)).map fun k=>vtE ns k.toNat):=by
 unfold vtE
 rw [E7 (eE ht) hi,vtT,rm,List.map_map]
 rfl
theorem vt1 {ns:List EN} (ht:eO ns) {i:Nat} (hi:i<ns.length) (h:(ndE ns i).k=1):vtE ns i=.mk 1 (ndE ns i).n [] [] []:=by
 rw [oS ht hi]
 unfold vtN
 rw [nH,if_pos h,Fi]
theorem vt2 {ns:List EN} (ht:eO ns) {i:Nat} (hi:i<ns.length) (h:(ndE ns i).k=2):vtE ns i=.mk 2 (ndE ns i).n [] [] []:=by
 rw [oS ht hi]
 unfold vtN
 rw [nH,if_neg (by omega),if_pos h,Fi]
theorem vt3 {ns:List EN} (ht:eO ns) {i:Nat} (hi:i<ns.length) (h:(ndE ns i).k=3):vtE ns i=.mk 3 0 (ndE ns i).s [] []:=by
 rw [oS ht hi]
 unfold vtN
 rw [nH,if_neg (by omega),if_neg (by omega),if_pos h,HV]
theorem vt5 {ns:List EN} (ht:eO ns) {i:Nat} (hi:i<ns.length) (h:(ndE ns i).k=5):vtE ns i=.mk 4 0 [] [] []:=by
 rw [oS ht hi]
 unfold vtN
 rw [nH,if_neg (by omega),if_neg (by omega),if_neg (by omega),if_pos h]
theorem Gb {ns:List EN} (ht:eO ns) {i:Nat} (hi:i<ns.length) (h:(ndE ns i).k=13):vtE ns i=.mk 6 0 (ndE ns i).name [[]] [vtE ns (ndE ns i).a.toNat]:=by
 rw [oS ht hi]
 unfold vtN
 rw [nH,if_neg (by omega),if_neg (by omega),if_neg (by omega),if_neg (by omega),if_pos h,AX,sJ (.inr (.inr h))]
 rfl
theorem F4 {ns:List EN} (ht:eO ns) {i:Nat} (hi:i<ns.length) (h:(ndE ns i).k=11):vtE ns i=.mk 5 0 [] ((ndE ns i).l.map (·.nm)) ((ndE ns i).l.map fun f=>vtE ns f.to.toNat):=by
 rw [oS ht hi]
 unfold vtN
 rw [nH,if_neg (by omega),if_neg (by omega),if_neg (by omega),if_neg (by omega),if_neg (by omega),Eg,if_pos (by unfold aJ;rw [h];rfl),tP h,List.map_map]
 rfl
def pN (ns:List EN) (l:List EF):List D:=l.map fun f=>vfD f.nm (vtE ns f.to.toNat).dat
theorem Fa (ns:List EN) (l:List EF):(VT.mk 5 0 [] (l.map (·.nm)) (l.map fun f=>vtE ns f.to.toNat)).ps=pN ns l:=by
 show List.zipWith vfD (l.map (·.nm)) (VT.dats (l.map fun f=>vtE ns f.to.toNat))=_
 rw [ch,List.map_map,List.zipWith_map,List.zipWith_self]
 rfl
theorem w5 {ns:List EN} {l:List EF} {q:Nat} (hq:q<l.length):pN ns (l.take (q+1))=pN ns (l.take q)++[.agg [.str (fdE l q).nm,i64 (vtE ns (fdE l q).to.toNat).k,i64 (vtE ns (fdE l q).to.toNat).n,.str (vtE ns (fdE l q).to.toNat).s,.sl (some 5) (vtE ns (fdE l q).to.toNat).ps]]:=by
 have hfq:l[q]=fdE l q:=by simp [fdE,hq]
 unfold pN
 rw [List.take_succ_eq_append_getElem hq,List.map_append,hfq]
 congr 1
 show [vfD _ _]=_
 unfold vfD
 rw [av]
 rfl
theorem qD (ns:List EN) (l:List EF):(pN ns l).length=l.length:=List.length_map ..
def b9 (n:EN):D:=.agg (if n.k=1 then [i64 1,i64 n.n,.str [],.nils] else if n.k=2 then [i64 2,i64 n.n,.str [],.nils] else if n.k=3 then [i64 3,i64 0,.str n.s,.nils] else [i64 4,i64 0,.str [],.nils])
def fU (n:EN):Prop:=n.k=1∨n.k=2∨n.k=3∨n.k=5
theorem wJ {ns:List EN} (ht:eO ns) {i:Nat} (hi:i<ns.length) (h:fU (ndE ns i)):DLe (b9 (ndE ns i)) (vtE ns i).dat:=by
 have key:∀ (k n:Int) (s:List UInt8),DLe (.agg [i64 k,i64 n,.str s,.nils]) (VT.mk k n s [] []).dat:=fun k n s=>by
  rw [av]
  refine .agg _ _ rfl (by simp [D.scal]) fun i x y hx hy=>?_
  rcases i with _ | _ | _ | _ | i
  ·cases hx;cases hy;exact .inl rfl
  ·cases hx;cases hy;exact .inl rfl
  ·cases hx;cases hy;exact .inl rfl
  ·cases hx;cases hy;exact .inr ⟨some 5,rfl,rfl⟩
  ·simp at hx
 unfold b9
 rcases h with h | h | h | h
 ·rw [vt1 ht hi h,if_pos h];exact key _ _ _
 ·rw [vt2 ht hi h,if_neg (by omega),if_pos h];exact key _ _ _
 ·rw [vt3 ht hi h,if_neg (by omega),if_neg (by omega),if_pos h];exact key _ _ _
 ·rw [vt5 ht hi h,if_neg (by omega),if_neg (by omega),if_neg (by omega)];exact key _ _ _
theorem Ct {G} (ns:List EN) (_:ns.length≤1000000) {i:Nat} (hi:i<ns.length) (h:fU (ndE ns i)):HP Tryz.prog G 41 [exD ns,i64 (i:Int)] (fun r=>r=.d (b9 (ndE ns i))):=by
 have hg:=bA hi
 generalize ndE ns i=n at hg h ⊢
 have q1:n.k=1→b9 n=.agg [i64 1,i64 n.n,.str [],.nils]:=fun h=>by unfold b9;rw [if_pos h]
 have q2:n.k=2→b9 n=.agg [i64 2,i64 n.n,.str [],.nils]:=fun h=>by unfold b9;rw [if_neg (by omega),if_pos h]
 have q3:n.k=3→b9 n=.agg [i64 3,i64 0,.str n.s,.nils]:=fun h=>by unfold b9;rw [if_neg (by omega),if_neg (by omega),if_pos h]
 have q5:n.k=5→b9 n=.agg [i64 4,i64 0,.str [],.nils]:=fun h=>by unfold b9;rw [if_neg (by omega),if_neg (by omega),if_neg (by omega)]
 generalize b9 n=LD at q1 q2 q3 q5 ⊢
 unfold exD
 unfold fU at h
 refine aL Tryz.func41 rfl (by decide +kernel) (by simp [Tryz.ntmps41]) (veil fun E=>?_)
 simp only [go_sem]
 refine ⟨by omega,?_⟩
 rw [hg]
 simp only [go_sem]
 refine ah E (fun k1=>?_) (fun k1=>?_)<;>simp only [go_sem]
 ·refine ⟨[],?_⟩
  rw [q1 k1]
  simp only [go_sem]
 refine ah E (fun k2=>?_) (fun k2=>?_)<;>simp only [go_sem]
 ·refine ⟨[],?_⟩
  rw [q2 k2]
  simp only [go_sem]
 refine ah E (fun k3=>?_) (fun k3=>?_)<;>simp only [go_sem]
 ·refine ⟨[],?_⟩
  rw [q3 k3]
  simp only [go_sem]
 refine ah E (fun k5=>?_) (fun k5=>?_)<;>simp only [go_sem]
 ·refine ⟨[],?_⟩
  rw [q5 k5]
  simp only [go_sem]
 omega
theorem Bl {G} (ns:List EN) (_:ns.length≤1000000) {i:Nat} (hi:i<ns.length) (h:fU (ndE ns i)):HP Tryz.prog G 43 [exD ns,i64 (i:Int)] (fun r=>r=.d (b9 (ndE ns i))):=by
 have hg:=bA hi
 generalize ndE ns i=n at hg h ⊢
 have q1:n.k=1→b9 n=.agg [i64 1,i64 n.n,.str [],.nils]:=fun h=>by unfold b9;rw [if_pos h]
 have q2:n.k=2→b9 n=.agg [i64 2,i64 n.n,.str [],.nils]:=fun h=>by unfold b9;rw [if_neg (by omega),if_pos h]
 have q3:n.k=3→b9 n=.agg [i64 3,i64 0,.str n.s,.nils]:=fun h=>by unfold b9;rw [if_neg (by omega),if_neg (by omega),if_pos h]
 have q5:n.k=5→b9 n=.agg [i64 4,i64 0,.str [],.nils]:=fun h=>by unfold b9;rw [if_neg (by omega),if_neg (by omega),if_neg (by omega)]
 generalize b9 n=LD at q1 q2 q3 q5 ⊢
 unfold exD
 unfold fU at h
 refine aL Tryz.func43 rfl (by decide +kernel) (by simp [Tryz.ntmps43]) (veil fun E=>?_)
 simp only [go_sem]
 refine ⟨by omega,?_⟩
 rw [hg]
 simp only [go_sem]
 refine ah E (fun k1=>?_) (fun k1=>?_)<;>simp only [go_sem]
 ·refine ⟨[],?_⟩
  rw [q1 k1]
  simp only [go_sem]
 refine ah E (fun k2=>?_) (fun k2=>?_)<;>simp only [go_sem]
 ·refine ⟨[],?_⟩
  rw [q2 k2]
  simp only [go_sem]
 refine ah E (fun k3=>?_) (fun k3=>?_)<;>simp only [go_sem]
 ·refine ⟨[],?_⟩
  rw [q3 k3]
  simp only [go_sem]
 refine ah E (fun k5=>?_) (fun k5=>?_)<;>simp only [go_sem]
 ·refine ⟨[],?_⟩
  rw [q5 k5]
  simp only [go_sem]
 omega
theorem Ap {G} {ns:List EN} (ht:eO ns):∀ (m i:Nat),i<m→i<ns.length→cq (trE ns i)=true→HP Tryz.prog G 41 [exD ns,i64 (i:Int)] (fun r=>r=.d (vtE ns i).dat)
 | 0,_,h,_,_=>absurd h (Nat.not_lt_zero _)
 | m+1,i,him,hi,hv=>by
   have ih:=Ap (G:=G) ht m
   by_cases hleaf:fU (ndE ns i)
   ·exact HP.leR (Ct ns (by have:=ht.few;omega) hi hleaf) (wJ ht hi hleaf)
   unfold fU at hleaf
   have hg:=bA hi
   have hlt:=ht.few
   have hsi:=xh ht _ (by rw [bX hi];exact List.getElem_mem hi:ndE ns i∈ns)
   have hkn:=fun k hk=>pE ht hi (k:=k) hk
   have hva:=lW (eE ht) hi
   rw [hv] at hva
   have v13:=Gb ht hi
   have v11:=F4 ht hi
   have hno:¬ ((ndE ns i).k=1∨(ndE ns i).k=2∨(ndE ns i).k=3∨(ndE ns i).k=5):=hleaf
   have hkid:∀ k,k∈an (ndE ns i)→HP Tryz.prog G 41 [exD ns,i64 k] (fun r=>r=.d (.agg [i64 (vtE ns k.toNat).k,i64 (vtE ns k.toNat).n,.str (vtE ns k.toNat).s,.sl (some 5) (vtE ns k.toNat).ps])):=fun k hk=>by
    obtain ⟨a,rfl,ha⟩:=hkn k hk
    have hva2:cq (trE ns a)=true:=by
     by_cases hc:(ndE ns i).k=11∨(ndE ns i).k=13
     ·rw [if_pos hc] at hva
      exact List.all_eq_true.1 hva.symm _ hk
     ·rw [if_neg hc] at hva
      exfalso
      apply hno
      have hva:=hva.symm
      simp only [Bool.or_eq_true,decide_eq_true_eq] at hva
      omega
    have:=ih a (by omega) (by omega) hva2
    rw [av] at this
    exact this
   have h1113:(ndE ns i).k=11∨(ndE ns i).k=13:=by
    by_cases hc:(ndE ns i).k=11∨(ndE ns i).k=13
    ·exact hc
    ·rw [if_neg hc] at hva
     exfalso
     apply hno
     have hva:=hva.symm
     simp only [Bool.or_eq_true,decide_eq_true_eq] at hva
     omega
   rw [av]
   generalize vtE ns i=V at v13 v11 ⊢
   clear hva
   generalize ndE ns i=n at hg hsi v13 v11 hno hkid h1113
   have hst:=fun q (hq:q<n.l.length)=>w5 (ns:=ns) hq
   have hpn:=fun q=>qD ns (n.l.take q)
   unfold exD at *
   refine aL Tryz.func41 rfl (by decide +kernel) (by simp [Tryz.ntmps41]) (veil fun E=>?_)
   simp only [go_sem]
   refine ⟨by omega,?_⟩
   rw [hg]
   simp only [go_sem]
   refine ah E (fun k1=>?_) (fun k1=>?_)<;>simp only [go_sem]
   ·omega
   refine ah E (fun k2=>?_) (fun k2=>?_)<;>simp only [go_sem]
   ·omega
   refine ah E (fun k3=>?_) (fun k3=>?_)<;>simp only [go_sem]
   ·omega
   refine ah E (fun k5=>?_) (fun k5=>?_)<;>simp only [go_sem]
   ·omega
   refine ah E (fun k13=>?_) (fun k13=>?_)<;>simp only [go_sem]
   ·have hV:=v13 k13
    have hc:=hkid n.a (by rw [sJ (.inr (.inr k13))];exact List.mem_singleton_self _)
    refine ak mixed E fun X=>?_
    simp only [go_sem]
    generalize vtE ns n.a.toNat=u at hc hV
    refine bp X hc rfl rfl (by simp) ?_
    simp only [go_sem]
    refine ⟨by decide +kernel,[([43],some 5,[.agg [.str [],i64 u.k,i64 u.n,.str u.s,.sl (some 5) u.ps]])],?_⟩
    simp only [go_sem]
    rw [hV]
    show _=AV.d (D.agg [i64 6,i64 0,.str n.name,.sl (some 5) [vfD [] u.dat]])
    unfold vfD
    rw [av]
    rfl
   have k11:n.k=11:=by omega
   have hV:=v11 k11
   have hkl:=tP k11
   refine jg E [6] 3 99 (some 5) [.d (i64 5),.d (i64 0),.d (.str []),.d .nils] rfl rfl (by rw [aa];decide) ?_
   simp only [go_sem]
   refine aC E (X:={ q:Nat // q≤n.l.length }) (fun x=>[(2,.bx [2] 0),(4,.bx [4] 0),(6,.bx [6] 0),(47,.d (.sl (some 3) (n.l.map fD))),(48,.d (i64 (n.l.length:Nat))),(49,.d (i64 x.1))])
    (fun x=>[([2],.box [.d (.sl (some 9) (ns.map enD))]),([4],.box [.d (i64 0),.d (i64 0),.d (.str []),.d .nils]),([6],.box [.d (i64 5),.d (i64 0),.d (.str []),.vw [99] 0 x.1]),([99],.arr (some 5) (pN ns (n.l.take x.1)))]) [2,4,6,99] (fun x=>n.l.length-x.1) ⟨0,Nat.zero_le _⟩ id ?_ ?_
   ·simp only [go_sem]
    all_goals ((repeat' apply And.intro)<;>first | rfl | trivial)
   rintro ⟨q,hq⟩ E0
   refine aO E0 fun Q' hQ E'=>?_
   simp only at hq ⊢
   have hpq:=hpn q
   rw [List.length_take] at hpq
   simp only [go_sem]
   refine ah E' (fun g0=>?_) (fun g0=>?_)<;>simp only [go_sem]
   ·have hq':q<n.l.length:=by omega
    have hfq:n.l[q]=fdE n.l q:=by simp [fdE,hq']
    have hc:=hkid (fdE n.l q).to (by rw [hkl,← hfq];exact List.mem_map_of_mem (List.getElem_mem hq'))
    have hst':=hst q hq'
    refine ⟨by omega,?_⟩
    rw [lI hq']
    simp only [go_sem]
    generalize vtE ns (fdE n.l q).to.toNat=u at hc hst'
    refine ak mixed E' fun X=>?_
    simp only [go_sem]
    refine bp X hc rfl rfl (by simp) ?_
    simp only [go_sem]
    refine ⟨by omega,by decide +kernel,?_⟩
    rw [List.take_of_length_le (show (pN ns (n.l.take q)).length≤q by omega),← hst',hQ]
    simp only [go_sem]
    rw [ai (n:=(q:Int)+1) ⟨by omega,by omega⟩]
    refine ⟨⟨q+1,by omega⟩,by show n.l.length-(q+1)<n.l.length-q;omega,tau [([99],[63])],?_⟩
    simp only [go_sem]
    all_goals ((repeat' apply And.intro)<;>first | rfl | trivial)
   ·have hq':q=n.l.length:=by omega
    subst hq'
    rw [hQ]
    simp only [go_sem]
    refine ⟨[([99],some 5,pN ns (n.l.take n.l.length))],?_⟩
    simp only [go_sem]
    rw [List.take_of_length_le (show (pN ns n.l).length≤n.l.length by rw [qD];exact Nat.le_refl _),hV,Fa]
    rfl
theorem CJ {G} {ns:List EN} (ht:eO ns):∀ (m i:Nat),i<m→i<ns.length→cq (trE ns i)=true→HP Tryz.prog G 43 [exD ns,i64 (i:Int)] (fun r=>r=.d (vtE ns i).dat)
 | 0,_,h,_,_=>absurd h (Nat.not_lt_zero _)
 | m+1,i,him,hi,hv=>by
   have ih:=CJ (G:=G) ht m
   by_cases hleaf:fU (ndE ns i)
   ·exact HP.leR (Bl ns (by have:=ht.few;omega) hi hleaf) (wJ ht hi hleaf)
   unfold fU at hleaf
   have hg:=bA hi
   have hlt:=ht.few
   have hsi:=xh ht _ (by rw [bX hi];exact List.getElem_mem hi:ndE ns i∈ns)
   have hkn:=fun k hk=>pE ht hi (k:=k) hk
   have hva:=lW (eE ht) hi
   rw [hv] at hva
   have v13:=Gb ht hi
   have v11:=F4 ht hi
   have hno:¬ ((ndE ns i).k=1∨(ndE ns i).k=2∨(ndE ns i).k=3∨(ndE ns i).k=5):=hleaf
   have hkid:∀ k,k∈an (ndE ns i)→HP Tryz.prog G 43 [exD ns,i64 k] (fun r=>r=.d (.agg [i64 (vtE ns k.toNat).k,i64 (vtE ns k.toNat).n,.str (vtE ns k.toNat).s,.sl (some 5) (vtE ns k.toNat).ps])):=fun k hk=>by
    obtain ⟨a,rfl,ha⟩:=hkn k hk
    have hva2:cq (trE ns a)=true:=by
     by_cases hc:(ndE ns i).k=11∨(ndE ns i).k=13
     ·rw [if_pos hc] at hva
      exact List.all_eq_true.1 hva.symm _ hk
     ·rw [if_neg hc] at hva
      exfalso
      apply hno
      have hva:=hva.symm
      simp only [Bool.or_eq_true,decide_eq_true_eq] at hva
      omega
    have:=ih a (by omega) (by omega) hva2
    rw [av] at this
    exact this
   have h1113:(ndE ns i).k=11∨(ndE ns i).k=13:=by
    by_cases hc:(ndE ns i).k=11∨(ndE ns i).k=13
    ·exact hc
    ·rw [if_neg hc] at hva
     exfalso
     apply hno
     have hva:=hva.symm
     simp only [Bool.or_eq_true,decide_eq_true_eq] at hva
     omega
   rw [av]
   generalize vtE ns i=V at v13 v11 ⊢
   clear hva
   generalize ndE ns i=n at hg hsi v13 v11 hno hkid h1113
   have hst:=fun q (hq:q<n.l.length)=>w5 (ns:=ns) hq
   have hpn:=fun q=>qD ns (n.l.take q)
   unfold exD at *
   refine aL Tryz.func43 rfl (by decide +kernel) (by simp [Tryz.ntmps43]) (veil fun E=>?_)
   simp only [go_sem]
   refine ⟨by omega,?_⟩
   rw [hg]
   simp only [go_sem]
   refine ah E (fun k1=>?_) (fun k1=>?_)<;>simp only [go_sem]
   ·omega
   refine ah E (fun k2=>?_) (fun k2=>?_)<;>simp only [go_sem]
   ·omega
   refine ah E (fun k3=>?_) (fun k3=>?_)<;>simp only [go_sem]
   ·omega
   refine ah E (fun k5=>?_) (fun k5=>?_)<;>simp only [go_sem]
   ·omega
   refine ah E (fun k13=>?_) (fun k13=>?_)<;>simp only [go_sem]
   ·have hV:=v13 k13
    have hc:=hkid n.a (by rw [sJ (.inr (.inr k13))];exact List.mem_singleton_self _)
    refine ak mixed E fun X=>?_
    simp only [go_sem]
    generalize vtE ns n.a.toNat=u at hc hV
    refine bp X hc rfl rfl (by simp) ?_
    simp only [go_sem]
    refine ⟨by decide +kernel,[([42],some 5,[.agg [.str [],i64 u.k,i64 u.n,.str u.s,.sl (some 5) u.ps]])],?_⟩
    simp only [go_sem]
    rw [hV]
    show _=AV.d (D.agg [i64 6,i64 0,.str n.name,.sl (some 5) [vfD [] u.dat]])
    unfold vfD
    rw [av]
    rfl
   have k11:n.k=11:=by omega
   have hV:=v11 k11
   have hkl:=tP k11
   refine jg E [6] 3 99 (some 5) [.d (i64 5),.d (i64 0),.d (.str []),.d .nils] rfl rfl (by rw [aa];decide) ?_
   simp only [go_sem]
   refine aC E (X:={ q:Nat // q≤n.l.length }) (fun x=>[(2,.bx [2] 0),(4,.bx [4] 0),(5,.bx [5] 0),(6,.bx [6] 0),(7,.d (i64 x.1))])
    (fun x=>[([2],.box [.d (.sl (some 9) (ns.map enD))]),([4],.box [.d (i64 0),.d (i64 0),.d (.str []),.d .nils]),([5],.box [.d (i64 n.k),.d (i64 n.a),.d (i64 n.b),.d (i64 n.c),.d (i64 n.n),.d (.str n.name),.d (.str n.s),.d (.sl (some 3) (n.l.map fD)),.d (i64 n.pos)]),([6],.box [.d (i64 5),.d (i64 0),.d (.str []),.vw [99] 0 x.1]),([99],.arr (some 5) (pN ns (n.l.take x.1)))]) [2,4,5,6,99] (fun x=>n.l.length-x.1) ⟨0,Nat.zero_le _⟩ id ?_ ?_
   ·simp only [go_sem]
    all_goals ((repeat' apply And.intro)<;>first | rfl | trivial)
   rintro ⟨q,hq⟩ E0
   refine aO E0 fun Q' hQ E'=>?_
   simp only at hq ⊢
   have hpq:=hpn q
   rw [List.length_take] at hpq
   simp only [go_sem]
   refine ah E' (fun g0=>?_) (fun g0=>?_)<;>simp only [go_sem]
   ·have hq':q<n.l.length:=by omega
    have hfq:n.l[q]=fdE n.l q:=by simp [fdE,hq']
    have hc:=hkid (fdE n.l q).to (by rw [hkl,← hfq];exact List.mem_map_of_mem (List.getElem_mem hq'))
    have hst':=hst q hq'
    refine ak mixed E' fun X=>?_
    simp only [go_sem]
    refine ⟨by omega,?_⟩
    rw [lI hq']
    simp only [go_sem]
    refine ⟨by omega,?_⟩
    rw [lI hq']
    simp only [go_sem]
    generalize vtE ns (fdE n.l q).to.toNat=u at hc hst'
    refine bp X hc rfl rfl (by simp) ?_
    simp only [go_sem]
    refine ⟨by omega,by decide +kernel,?_⟩
    rw [List.take_of_length_le (show (pN ns (n.l.take q)).length≤q by omega),← hst',hQ]
    simp only [go_sem]
    rw [ai (n:=(q:Int)+1) ⟨by omega,by omega⟩]
    refine ⟨⟨q+1,by omega⟩,by show n.l.length-(q+1)<n.l.length-q;omega,tau [([99],[70])],?_⟩
    simp only [go_sem]
    all_goals ((repeat' apply And.intro)<;>first | rfl | trivial)
   ·have hq':q=n.l.length:=by omega
    subst hq'
    rw [hQ]
    simp only [go_sem]
    refine ⟨[([99],some 5,pN ns (n.l.take n.l.length))],?_⟩
    simp only [go_sem]
    rw [List.take_of_length_le (show (pN ns n.l).length≤n.l.length by rw [qD];exact Nat.le_refl _),hV,Fa]
    rfl
end Go.Proofs.YtejpnabbmgpmaaaGreatDoor

namespace Go.Proofs.YtejpnabbmgpmaaaGreatDoor
open Go.Ab
variable {t:TypeId} {fz:Nat × Nat}
theorem Gh (n:Int) (hn:inR n):HP Tryz.prog (GT t fz) 95 [i64 n] (fun r=>r=.d (.str (eH n))):=by
 refine aj Tryz.func95 rfl (by decide +kernel) (by simp [Tryz.ntmps95]) (veil fun E=>?_)
 have hl:=Lib.itoa_length_le n hn.1 hn.2
 simp only [go_sem]
 refine ab E (D6 n hn) rfl rfl (by simp) ?_
 rintro _ rfl
 simp only [go_sem]
 refine ab E (pK (Lib.itoa n) [45]) rfl rfl (by simp) ?_
 rintro _ rfl
 simp only [go_sem]
 by_cases h:n<0
 ·have e:Lib.itoa n=45::Lib.decDigits n.natAbs:=by simp [Lib.itoa,h]
  rw [e,show ba (45::Lib.decDigits n.natAbs) [45]=true by simp [ba]]
  rw [e] at hl
  simp only [List.length_cons] at hl
  simp only [go_sem]
  simp only [eH,h,if_true,List.drop_succ_cons,List.drop_zero]
  first | exact ⟨by omega,rfl⟩ | exact ⟨by omega,trivial⟩ | omega
 ·have e:Lib.itoa n=Lib.decDigits n.toNat:=by simp [Lib.itoa,h]
  rw [e,yS]
  simp only [go_sem]
  simp [eH,h]
end Go.Proofs.YtejpnabbmgpmaaaGreatDoor

namespace Go.Ab
section
variable {P:Program} {cf:Cf} {ops:Array Oper} {K:St→Ns→Prop} {r:List Oper} {s:St} {ns:Ns}
end
end Go.Ab

namespace Go.Ab
end Go.Ab

namespace Go.Ab
structure Dy (H:Array Obj) (own:Nat→Prop) (wf:W) (xs:List D) (news:List Value):Prop where
 size:news.length=xs.length*wd wf
 ok:∀ x∈xs,okW wf x
 rep:∀ i x j d,xs[i]?=some x→x.cells[j]?=some d→Rep H own (news.getD (i*wd wf+j) undef) d
theorem lV {H:Array Obj} {own:Nat→Prop} (l:List UInt8):Dy H own none (l.map byD) (byteCells ⟨l.toArray⟩):=by
 have hb:byteCells ⟨l.toArray⟩=l.map fun b=>Value.int .u8 b.toNat:=by unfold byteCells;simp
 refine ⟨by rw [hb];simp [wd],fun x hx=>?_,fun i x j d hi hj=>?_⟩
 ·obtain ⟨c,_,rfl⟩:=List.mem_map.1 hx
  rfl
 ·rw [List.getElem?_map] at hi
  cases hc:l[i]? with
  | none=>rw [hc] at hi;cases hi
  | some c =>
    rw [hc] at hi
    obtain rfl:byD c=x:=by simpa using hi
    have hj0:j=0∧d=byD c:=by
     rcases j with _ | j
     ·refine ⟨rfl,?_⟩
      have:some (byD c)=some d:=hj
      exact (Option.some.inj this).symm
     ·have:([byD c]:List D)[j+1]?=some d:=hj
      simp at this
    obtain ⟨rfl,rfl⟩:=hj0
    rw [hb,show i*wd none+0=i by simp [wd],List.getD_eq_getElem?_getD,List.getElem?_map,hc]
    exact .int _ _
section
variable {P:Program} {B:Base} {β:Name→Option Blk} {s:St} {tm:Array Value} {w:World} {t u:TypeId}
section
variable {e:Nat} {i:TypeInfo} {z:Value}
theorem kl (hk:P.underlying t=some (.slice e)) (hi:P.info? e=some i) (hz:i.zero=some z) (ty:TypeId) {own:Nat→Prop} {wf:W} {xv yv:Value} {xs ys:List D} {olds news:List Value} (hs:i.size=wd wf)
  (hx:Seg P w.heap own wf xv xs olds) (hy:Src P i.size u yv ys.length news w) {a:Option Addr} {cap:Nat} (hxv:xv=.slice a xs.length cap) (hgr:cap<xs.length+ys.length) (hb:(xs.length+ys.length)*i.bytes≤140737488355328) (hb':xs.length+ys.length≤140737488355328) :
  ∃ nc,xs.length+ys.length≤nc∧(Builtin.append_ #[t,u] ty #[xv,yv]).run P w =
   .ok (.slice (some ⟨w.heap.size,0,none⟩) (xs.length+ys.length) nc) (w.drew.alloc (.cells (olds.toArray++news.toArray++Builtin.zeroCells z.cells (nc-(xs.length+ys.length))) e)):=by
 subst hxv
 refine ⟨grownCap w (xs.length+ys.length) cap e,grownCap_ge _ _ _ _,?_⟩
 have h:=run_append_grow_src w t u ty e i z hk hi hz a xs.length cap olds (by rw [hs];exact hx.run w.drew rfl) yv ys.length news hy hgr (by omega) (by have:=growslice_fits hgr hb;omega)
 rw [h]
 simp
theorem kz (hk:P.underlying t=some (.slice e)) (hi:P.info? e=some i) (ty:TypeId) {wf:W} {yv:Value} {ys:List D} {news:List Value} (hs:i.size=wd wf)
  (hy:Src P i.size u yv ys.length news w) {b o n cap:Nat} {c:Array Value} {e':TypeId} (hb:w.heap[b]?=some (.cells c e' (0,0))) (hr:n+ys.length≤cap) (hfit:o+n*wd wf+news.length≤c.size) :
  (Builtin.append_ #[t,u] ty #[.slice (some ⟨b,o,none⟩) n cap,yv]).run P w =
   .ok (.slice (some ⟨b,o,none⟩) (n+ys.length) cap) (w.setRow b (splice c.toList (o+n*wd wf) news).toArray):=by
 have hst:=run_storeCells_at (P:=P) b (o+n*wd wf) e' news 0 c w hb (by simpa using hfit) hy.one
 simp only [Nat.add_zero] at hst
 have hc:=hy.cells
 rw [hs] at hc
 rcases hy.kind with ⟨e2,hu⟩ | hu<;>simp [Builtin.append_,run_underlying hk,run_underlying hu,sizeOf,typeInfo,hi,hy.len,hr,hs,hc,bj,hst,splice,List.append_assoc]
end
theorem qE {H:Array Obj} {own:Nat→Prop} {wf:W} {xs ys:List D} {olds news:List Value} {xv:Value} (hx:Seg P H own wf xv xs olds) (hy:Dy H own wf ys news) (rest:Array Value) :
  (∀ x∈xs++ys,okW wf x)∧∀ i x j d,(xs++ys)[i]?=some x→x.cells[j]?=some d→Rep H own ((olds.toArray++news.toArray++rest).getD (i*wd wf+j) undef) d:=by
 refine ⟨fun x h=>(List.mem_append.1 h).elim (hx.ok x) (hy.ok x),fun i x j d hi hj=>?_⟩
 have hget:∀ m,(olds.toArray++news.toArray++rest).getD m undef=if m<olds.length then olds.getD m undef else if m<olds.length+news.length then news.getD (m-olds.length) undef else rest.getD (m-(olds.length+news.length)) undef:=by
  intro m
  simp only [Array.getD_eq_getD_getElem?,List.getD_eq_getElem?_getD,Array.getElem?_append,List.size_toArray,Array.size_append,List.getElem?_toArray]
  by_cases h1:m<olds.length
  ·simp [h1,show m<olds.length+news.length by omega]
  ·by_cases h2:m<olds.length+news.length
   ·simp [h1,h2]
   ·simp [h1,h2]
 rw [hget]
 rcases Nat.lt_or_ge i xs.length with hlt | hge
 ·rw [List.getElem?_append_left hlt] at hi
  have hxo:=hx.ok x (List.mem_of_getElem? hi)
  have hjl:j<wd wf:=by rw [← aT hxo];exact (List.getElem?_eq_some_iff.1 hj).1
  have:i*wd wf+wd wf≤xs.length*wd wf:=by rw [← Nat.succ_mul];exact Nat.mul_le_mul_right _ hlt
  rw [if_pos (by rw [hx.size];omega)]
  exact hx.rep i x j d hi hj
 ·rw [List.getElem?_append_right hge] at hi
  have hxo:=hy.ok x (List.mem_of_getElem? hi)
  have hil:=(List.getElem?_eq_some_iff.1 hi).1
  have hjl:j<wd wf:=by rw [← aT hxo];exact (List.getElem?_eq_some_iff.1 hj).1
  have h1:xs.length*wd wf≤i*wd wf:=Nat.mul_le_mul_right _ hge
  have h2:(i-xs.length)*wd wf+wd wf≤ys.length*wd wf:=by rw [← Nat.succ_mul];exact Nat.mul_le_mul_right _ hil
  have h3:i*wd wf=(i-xs.length)*wd wf+xs.length*wd wf:=by rw [← Nat.add_mul];congr 1;omega
  rw [if_neg (by rw [hx.size];omega),if_pos (by rw [hx.size,hy.size];omega),hx.size,show i*wd wf+j-xs.length*wd wf=(i-xs.length)*wd wf+j by omega]
  exact hy.rep _ x j d hi hj
theorem iL (h:Sim B β s tm w) {xv yv:Value} {p:Name} {o l:Nat} {tg:Option Nat} {wf:W} {xs ys:List D} {news:List Value} (hx:VR w.heap (s.own B.A β) s.used s.hp β xv (.vw p o l)) (hp:s.hp p=some (.arrT tg wf xs)) {e:Nat} (hk:(P.ti t).k=.slice e)
  (hz:(P.ti e).zOk=true) (hw:(P.ti e).isW (P.ti e).w=true) (hwf:wf=(P.ti e).w) (ty:TypeId) (htg:tg.getD e=e) {dd:Nat} (hdd:dd<B.n) (hud:dd ∉ s.used) (hb:(l+ys.length)*(P.ti e).by1≤140737488355328)
  (hsy:Dy w.heap (s.own B.A β) (P.ti e).w ys news) (hsrc:∀ it,P.info? e=some it→Src P it.size u yv ys.length news w) :
  ∃ v w' β',(Builtin.append_ #[t,u] ty #[xv,yv]).run P w=.ok v w'∧Sim B β' (((s.set p none).add dd (.arrT tg wf ((xs.drop o).take l++ys))).put dd (.vw [dd] 0 (l+ys.length))) (tm.setIfInBounds dd v) w':=by
 obtain ⟨hg,hwd,_⟩:=bn hw
 obtain ⟨z,hz,hzl⟩:∃ z,(P.ti e).z=some z∧z.length=(P.ti e).sz:=by
  unfold TI.zOk at hz
  split at hz
  ·rename_i z h1;exact ⟨z,h1,by simpa using hz⟩
  ·cases hz
 obtain ⟨zv,hr,hm,it,hi,hiz,his,hib⟩:=cK hz
 have hu:=a8 hk
 have hby:∀ m:Nat,m*(P.ti e).by1≤140737488355328→m*it.bytes≤140737488355328∧m≤140737488355328:=by
  intro m hm'
  unfold TI.by1 at hm'
  rw [hib]
  split at hm'
  ·rename_i h0;rw [h0];simp at hm' ⊢;exact hm'
  ·exact ⟨hm',Nat.le_trans (Nat.le_mul_of_pos_right m (by omega)) hm'⟩
 have fresh:∀ (s1:St) (β1:Name→Option Blk) (xs ys:List D) (olds news:List Value) (xv':Value) (dd nc:Nat),Sim B β1 s1 tm w→Seg P w.heap (s1.own B.A β1) (P.ti e).w xv' xs olds→Dy w.heap (s1.own B.A β1) (P.ti e).w ys news→dd<B.n→dd ∉ s1.used →
   xs.length+ys.length≤nc→∃ β',Sim B β' ((s1.add dd (.arrT tg (P.ti e).w (xs++ys))).put dd (.vw [dd] 0 (xs.length+ys.length))) (tm.setIfInBounds dd (.slice (some ⟨w.heap.size,0,none⟩) (xs.length+ys.length) nc))
    (w.drew.alloc (.cells (olds.toArray++news.toArray++Builtin.zeroCells zv.cells (nc-(xs.length+ys.length))) e)):=by
  intro s1 β1 xs ys olds news xv' dd nc h1 hsx hsy hdd hud hnc
  obtain ⟨r1,r2⟩:=qE hsx hsy (Builtin.zeroCells zv.cells (nc-(xs.length+ys.length)))
  have hzs:zv.cells.size=wd (P.ti e).w:=by
   have:=(ga (H:=w.heap) (own:=s.own B.A β) hm).1
   simp at this;omega
  have hsz:(olds.toArray++news.toArray++Builtin.zeroCells zv.cells (nc-(xs.length+ys.length))).size=nc*wd (P.ti e).w:=by
   simp only [Array.size_append,List.size_toArray,hsx.size,hsy.size,size_zeroCells,hzs,← Nat.add_mul];congr 1;omega
  have:=cJ (h1.jR (w':=w.drew) rfl rfl) hdd hud (c:=olds.toArray++news.toArray++Builtin.zeroCells zv.cells (nc-(xs.length+ys.length))) (wf:=(P.ti e).w) (xs:=xs++ys) (cap:=nc) (by simpa using hnc)
   (by rw [hsz];exact Nat.le_refl _) r1 (fun i x j d hi hj=>r2 i x j d hi hj) e tg htg
  simpa using this
 have hsrc:=hsrc it hi
 obtain ⟨hb1,hb2⟩:=hby _ hb
 have hlx:bD (P.ti e).w s.hp (.vw p o l)=some ((xs.drop o).take l):=by simp [bD,hp,hwf]
 obtain ⟨olds,hsx⟩:=dS (P:=P) h hx hlx
 have hpn:=fE (h.objs p _ hp).1 hud
 have hcomm:∀ ob,(s.set p none).add dd ob=(s.add dd ob).set p none:=by
  intro ob
  unfold St.add St.set
  simp only [St.mk.injEq,true_and,and_true]
  funext q
  simp only [au]
  by_cases h1:q=[dd]
  ·subst h1;simp [Ne.symm hpn]
  ·simp [h1]
 cases hx with
 | vw _ _ _ _ hn h1 hx =>
   obtain ⟨hle,a,cap,rfl,hx'⟩:=hx _ _ _ hp
   have hlen:((xs.drop o).take l).length=l:=by simp;omega
   by_cases hgr:cap<l+ys.length
   ·-- it grows
    have hgr':cap<((xs.drop o).take l).length+ys.length:=by rw [hlen];exact hgr
    obtain ⟨nc,hnc,hrun⟩:=kl (P:=P) (t:=t) hu hi hiz ty (by rw [his,hwd]) hsx hsrc (a:=a) (cap:=cap) (by rw [hlen]) hgr' (by rw [hlen];exact hb1) (by rw [hlen];exact hb2)
    obtain ⟨β',hs⟩:=fresh s β _ ys olds news _ dd nc h hsx hsy hdd hud hnc
    rw [hlen] at hs hrun
    refine ⟨_,_,β',hrun,?_⟩
    rw [hcomm,hwf]
    have:=hs.drop p
    have e2:((s.add dd (.arrT tg (P.ti e).w ((xs.drop o).take l++ys))).put dd (.vw [dd] 0 (l+ys.length))).set p none=((s.add dd (.arrT tg (P.ti e).w ((xs.drop o).take l++ys))).set p none).put dd (.vw [dd] 0 (l+ys.length)):=rfl
    rwa [e2] at this
   ·-- there is room
    rcases hx' with ⟨rfl,rfl⟩ | ⟨k,hk',rfl,hcap,hz'⟩
    ·have:ys=[]:=List.length_eq_zero_iff.1 (by omega)
     subst this
     have hn0:news=[]:=List.length_eq_zero_iff.1 (by rw [hsy.size];simp)
     subst hn0
     have hsrc0:=hsrc
     have hrun:=run_append_nothing w t u ty e it hu hi a 0 0 (Nat.le_refl 0) yv hsrc0
     refine ⟨_,_,au β [dd] none,hrun,?_⟩
     rw [hcomm]
     have e3:((xs.drop o).take 0++([]:List D))=[]:=by simp
     rw [e3]
     have:=((h.dU hud tg wf).put hdd (v:=.slice a 0 0) (x:=.vw [dd] 0 0) (.vw _ _ _ _ ⟨dd,[],rfl,List.mem_cons_self⟩ rfl fun ty' w' xs' hp'=>by
      have:w'=wf∧xs'=[]:=And.right (a:=ty'=tg) (by simpa [St.add,au,eq_comm] using hp')
      obtain ⟨rfl,rfl⟩:=this
      exact ⟨by simp,a,0,rfl,.inl ⟨rfl,rfl⟩⟩)).drop p
     exact this
    ·have hob:=(h.objs p _ hp).2
     rcases hob with ⟨h0,h0'⟩ | ⟨k',c',e',hk'',hc,hzz,hl',hwx,hcs⟩
     ·rw [h0] at hk';cases hk'
     ·rw [hk'] at hk'';cases hk''
      have hmul:(o+cap)*wd wf=o*wd wf+cap*wd wf:=Nat.add_mul _ _ _
      have hle2:(l+ys.length)*wd wf≤cap*wd wf:=Nat.mul_le_mul_right _ (by omega)
      have hmul2:(l+ys.length)*wd wf=l*wd wf+ys.length*wd wf:=Nat.add_mul _ _ _
      have hns:=hsy.size
      rw [← hwf] at hns
      have hfit:k.o+o*wd wf+l*wd wf+news.length≤c'.size:=by omega
      have hrun:=kz (P:=P) (t:=t) hu hi ty (wf:=wf) (by rw [his,hwf,hwd]) hsrc hc (o:=k.o+o*wd wf) (n:=l) (cap:=cap) (by omega) hfit
      refine ⟨_,_,au β [dd] (some ⟨k.b,k.o+o*wd wf,k.z⟩),hrun,?_⟩
      have hsim:=h.renew hud hp hk' tg wf ((xs.drop o).take l++ys) (k.o+o*wd wf) (w':=w.setRow k.b (splice c'.toList (k.o+o*wd wf+l*wd wf) news).toArray) rfl (by simp)
       (fun b hb=>setRow_other w k.b b _ hb) (fun hr=>?_)
      ·refine hsim.put hdd (.vw _ _ _ _ ⟨dd,[],rfl,List.mem_cons_self⟩ rfl fun ty' w' xs' hp'=>?_)
       have:w'=wf∧xs'=(xs.drop o).take l++ys:=And.right (a:=ty'=tg) (by simpa [St.add,au,eq_comm] using hp')
       obtain ⟨rfl,rfl⟩:=this
       refine ⟨by simp;omega,_,cap,rfl,.inr ⟨_,by simp [au];rfl,by simp,by omega,?_⟩⟩
       simp only [Nat.zero_add];omega
      ·have hsp:=bC c'.toList (k.o+o*wd wf+l*wd wf) news (by simpa using hfit)
       refine ⟨_,e',setRow_heap w k.b c' _ _ (0,0) hc,by simp;rw [hsp];simpa using hzz,?_,fun x hx=>?_,fun i x j d hi hj=>?_⟩
       ·rw [List.length_append,hlen];omega
       ·rcases List.mem_append.1 hx with hx | hx
        ·exact hwx x (List.mem_of_mem_drop (List.mem_of_mem_take hx))
        ·rw [hwf];exact hsy.ok x hx
       ·have hgetc:((splice c'.toList (k.o+o*wd wf+l*wd wf) news).toArray).getD (k.o+o*wd wf+i*wd wf+j) undef =
          if k.o+o*wd wf+l*wd wf≤k.o+o*wd wf+i*wd wf+j∧k.o+o*wd wf+i*wd wf+j<k.o+o*wd wf+l*wd wf+news.length then news.getD (k.o+o*wd wf+i*wd wf+j-(k.o+o*wd wf+l*wd wf)) undef else c'.getD (k.o+o*wd wf+i*wd wf+j) undef:=by
         have:=bU c'.toList (k.o+o*wd wf+l*wd wf) news (by simpa using hfit) (k.o+o*wd wf+i*wd wf+j)
         simp only [Array.getElem?_toList] at this
         simp only [Array.getD_eq_getD_getElem?,List.getElem?_toArray,this,List.getD_eq_getElem?_getD]
         split<;>rfl
        rw [hgetc]
        rcases Nat.lt_or_ge i l with hlt | hge
        ·rw [List.getElem?_append_left (by rw [hlen];exact hlt),List.getElem?_take,if_pos hlt,List.getElem?_drop] at hi
         have hxo:=hwx x (List.mem_of_getElem? hi)
         have hjl:j<wd wf:=by rw [← aT hxo];exact (List.getElem?_eq_some_iff.1 hj).1
         have:i*wd wf+wd wf≤l*wd wf:=by rw [← Nat.succ_mul];exact Nat.mul_le_mul_right _ hlt
         rw [if_neg (by omega)]
         have:=hr _ _ (hcs _ x j d hi hj)
         rwa [show k.o+o*wd wf+i*wd wf+j=k.o+(o+i)*wd wf+j by rw [Nat.add_mul];omega]
        ·rw [List.getElem?_append_right (by rw [hlen];exact hge),hlen] at hi
         have hxo:=hsy.ok x (List.mem_of_getElem? hi)
         rw [← hwf] at hxo
         have hil:=(List.getElem?_eq_some_iff.1 hi).1
         have hjl:j<wd wf:=by rw [← aT hxo];exact (List.getElem?_eq_some_iff.1 hj).1
         have g1:l*wd wf≤i*wd wf:=Nat.mul_le_mul_right _ hge
         have g2:(i-l)*wd wf+wd wf≤ys.length*wd wf:=by rw [← Nat.succ_mul];exact Nat.mul_le_mul_right _ hil
         have g3:i*wd wf=(i-l)*wd wf+l*wd wf:=by rw [← Nat.add_mul];congr 1;omega
         rw [if_pos (by omega),show k.o+o*wd wf+i*wd wf+j-(k.o+o*wd wf+l*wd wf)=(i-l)*wd wf+j by omega]
         have:=hsy.rep _ x j d hi hj
         rw [← hwf] at this
         exact hr _ _ this
end
section
variable {P:Program} {cf:Cf} {Q:Exit→St→Prop} {s:St} {k:List It}
theorem yw (E:Eng P cf Q) {d t u e:Nat} {x y:Operand} {ty:TypeId} {pos:String} {af:Array Edge} (tg:Option Nat) (p:Name) (xs:List D) (l:List UInt8) (hk:(P.ti t).k=.slice e) (hu:(P.ti u).k=.str) (hz:(P.ti e).zOk=true) (hw:(P.ti e).isW (P.ti e).w=true) (hew:(P.ti e).w=none)
  (htg:tg.getD e=e) (hd:d<cf.n∧d ∉ s.used) (hx:ev s x=.vw p 0 xs.length) (hp:s.hp p=some (.arrT tg none xs)) (hy:ev s y=.d (.str l)) (hl:(xs.length+l.length)*(P.ti e).by1≤140737488355328)
  (h:E.run k (((s.set p none).add d (.arrT tg none (xs++l.map byD))).put d (.vw [d] 0 (xs.length+l.length)))) :
  E.stp { dst:=some d,op:=.call { callee:=.builtin .append,args:=#[x,y],argTypes:=#[t,u] },type:=ty,pos:=pos,after:=af,guard:=none } s k .no:=by
 rw [aE]
 rw [E.run_eq] at h
 intro B hB ds β a w hds hs Q'
 have hvx:=hs.ev x
 have hvy:=hs.ev y
 rw [hx] at hvx
 rw [hy] at hvy
 have hyv:a.eval y=.string ⟨l.toArray⟩:=by
  have g:∀ v,Rep w.heap (s.own B.A β) v (.str l)→v=.string ⟨l.toArray⟩:=fun v hv=>by
   cases hv with
   | str l=>rfl
  exact g _ hvy.toD
 obtain ⟨hg,hwd,_⟩:=bn hw
 have hus:P.underlying u=some .string:=eK hu
 have key:=iL (P:=P) (t:=t) (u:=u) (ys:=l.map byD) (news:=byteCells ⟨l.toArray⟩) hs hvx hp hk hz hw hew.symm ty htg (by rw [hB.1];exact hd.1) hd.2 (by rw [List.length_map];exact hl) (by rw [hew];exact lV l) (yv:=.string ⟨l.toArray⟩) (fun it hi=>by
  have h1:=Src.ofString (P:=P) w hus ⟨l.toArray⟩
  have h2:it.size=1:=by
   have hz':=hz
   unfold TI.zOk at hz'
   split at hz'
   ·rename_i z hz1
    obtain ⟨_,_,_,it',hi',_,his,_⟩:=cK hz1
    rw [hi] at hi'
    cases hi'
    rw [his,← hwd,hew];rfl
   ·cases hz'
  rw [h2,List.length_map]
  exact h1)
 obtain ⟨v,w',β',hrun,hsim⟩:=key
 rw [List.drop_zero,List.take_length,List.length_map] at hsim
 refine aA (v:=v) (by simp) (by simp [execOp,resolve,invoke,builtin,hyv,hrun]) (.inl rfl) ⟨hds,_,β',aP h,hsim⟩
end
end Go.Ab

namespace Go.Proofs.YtejpnabbmgpmaaaGreatDoor
open Go.Ab
theorem gM {G} (l s:List UInt8) (hl:l.length+s.length≤1000000000):HCall Tryz.prog G 108 [.bx [0] 0,.d (.str s)] (aq l) [0,1] (fun r hp'=>r=.tup [.d (i64 (s.length:Nat)),.d .nili]∧hp'=dm (l++s)):=by
 have h0:=sU (G:=G) l
 unfold aq at *
 unfold dm
 refine ao Tryz.func108 rfl (by decide +kernel) (by simp [Tryz.ntmps108]) (veil fun E=>?_)
 simp only [go_sem]
 refine ae E [.bx [0] 0] [([0],.boxT (some 53) [.bx [0] 0,.vw [1] 0 l.length]),([1],.arrT (some 5) none (l.map byD))] [0,1] h0 rfl rfl ⟨by simp only [go_sem],by rw [aa];decide⟩ rfl (by simp only [go_sem]) (by simp only [go_sem]) ?_
 rintro _ _ ⟨rfl,rfl⟩
 simp only [go_sem]
 refine ⟨Nat.le_refl _,?_⟩
 have hlm:(l.map byD).length=l.length:=by simp
 refine yw E (d:=14) (e:=5) (some 5) [1] (l.map byD) s (by rw [qF]) (by rw [ti9]) (by rw [ti5];rfl) (by rw [ti5];rfl) (by rw [ti5];rfl) rfl ⟨by simp only [go_sem],by rw [aa];decide⟩ (by rw [hlm];rfl) rfl rfl (by rw [ti5,hlm];simp [TI.by1];omega) ?_
 rw [hlm,← List.map_append]
 simp only [go_sem]
 refine ⟨_,_,[0,1,2],tau [([2],[14])],⟨rfl,rfl⟩,?_⟩
 rw [show (l++s).length=l.length+s.length by simp]
 simp only [go_sem]
structure QpI (s:List UInt8) (i:Nat) (acc:List UInt8):Prop where
 hi:i≤s.length
 he:acc=34::(s.take i).flatMap quC
 hl:acc.length≤4*i+1
theorem QpI.init (s:List UInt8):QpI s 0 [34]:=⟨Nat.zero_le _,rfl,by simp⟩
theorem wP (c:UInt8):(quC c).length≤4:=by
 unfold quC
 split
 ·simp
 split
 ·simp
 split
 ·simp
 split<;>simp
theorem QpI.step {s:List UInt8} {i:Nat} {acc:List UInt8} (h:QpI s i acc) (hi:i<s.length):QpI s (i+1) (acc++quC (s.getD i 0)):=by
 obtain ⟨_,he,hl⟩:=h
 have hq:=wP (s.getD i 0)
 refine ⟨hi,?_,?_⟩
 ·rw [he,List.take_succ_eq_append_getElem hi,List.flatMap_append,List.getD_eq_getElem?_getD,List.getElem?_eq_getElem hi]
  simp
 ·rw [List.length_append];omega
theorem QpI.fin {s:List UInt8} {acc:List UInt8} (h:QpI s s.length acc):acc++[34]=quS s:=by
 rw [h.he,List.take_length];rfl
theorem QpI.ne {s:List UInt8} {i:Nat} {acc:List UInt8} (h:QpI s i acc):acc≠[]:=by rw [h.he];simp
theorem Ac (c:UInt8):IntKind.u8.wrap ((c.toNat:Int).tdiv 16)=((c.toNat / 16:Nat):Int):=by
 have h:∀ n:Fin 256,IntKind.u8.wrap ((n.val:Int).tdiv 16)=((n.val / 16:Nat):Int):=by decide +kernel
 exact h ⟨c.toNat,c.toNat_lt⟩
theorem B8 (c:UInt8):(c.toNat:Int).tmod 16=((c.toNat % 16:Nat):Int):=by
 have h:∀ n:Fin 256,((n.val:Int).tmod 16)=((n.val % 16:Nat):Int):=by decide +kernel
 exact h ⟨c.toNat,c.toNat_lt⟩
theorem GO {G} (s:List UInt8) (hl:s.length≤200000):HP Tryz.prog G 96 [.str s] (fun r=>r=.d (.str (quS s))):=by
 refine aj Tryz.func96 rfl (by decide +kernel) (by simp [Tryz.ntmps96]) (veil fun E=>?_)
 simp only [go_sem]
 refine bw E (tau [([0],[3])]) [.bx [0] 0,.d (byD 34)] bK [0] (nr 34) rfl rfl ⟨by simp only [go_sem],by rw [aa];decide⟩ rfl (by unfold bK;simp only [go_sem]) (by unfold bK;simp only [go_sem]) ?_
 rintro _ _ ⟨rfl,rfl⟩
 unfold dm bK
 simp only [go_sem]
 refine aC E (X:={ x:Nat × List UInt8 // QpI s x.1 x.2 }) (fun x=>[(0,.d (.str s)),(3,.bx [0] 0),(7,.d (.str s)),(8,.d (i64 (s.length:Nat))),(9,.d (i64 x.1.1))]) (fun x=>aq x.1.2) [0,1] (fun x=>s.length-x.1.1) ⟨(0,[34]),QpI.init s⟩ (tau [([0],[3]),([1],[6,2])]) ?_ ?_
 ·unfold aq
  simp only [go_sem]
  all_goals ((repeat' apply And.intro)<;>first | rfl | trivial)
 rintro ⟨⟨i,acc⟩,hI⟩ E0
 refine aO E0 fun Q' hQ E'=>?_
 simp only at hI ⊢
 have hi:=hI.hi
 have ha:=hI.hl
 unfold aq
 simp only [go_sem]
 refine ah E' (fun h1=>?_) (fun h1=>?_)<;>simp only [go_sem]
 ·have h1':i<s.length:=by omega
  refine ⟨by omega,?_⟩
  have hstp:=hI.step h1'
  generalize s.getD i 0=c at hstp ⊢
  refine ab E' (p8 c) rfl rfl (by simp) ?_
  rintro _ rfl
  simp only [go_sem]
  refine aG E' (fun h2=>?_) (fun h2=>?_)<;>simp only [go_sem]
  ·have hq:quC c=[c]:=by unfold quC;rw [if_pos h2]
   rw [hq] at hstp
   refine ae E' [.bx [0] 0,.d (byD c)] (aq acc) [0,1] (ck acc c (by omega)) rfl rfl ⟨by simp only [go_sem],by rw [aa];decide⟩ rfl (by unfold aq;simp only [go_sem]) (by unfold aq;simp only [go_sem]) ?_
   rintro _ _ ⟨rfl,rfl⟩
   unfold dm aq
   simp only [go_sem]
   rw [ai ⟨by omega,by omega⟩,hQ]
   simp only [go_sem]
   refine ⟨⟨(i+1,acc++[c]),hstp⟩,by show s.length-(i+1)<_;omega,tau [([1],[28,2])],?_⟩
   unfold aq
   simp only [go_sem]
   all_goals ((repeat' apply And.intro)<;>first | rfl | trivial)
  refine ar E' (fun h3=>?_) (fun h3=>?_)<;>simp only [go_sem]
  ·have hq:quC c=[92,c]:=by unfold quC;rw [if_neg (by rw [h2];simp),if_pos (.inl (cV 34 h3))]
   rw [hq,show acc++[92,c]=acc++[92]++[c] by simp] at hstp
   refine ae E' [.bx [0] 0,.d (byD 92)] (aq acc) [0,1] (ck acc 92 (by omega)) rfl rfl ⟨by simp only [go_sem],by rw [aa];decide⟩ rfl (by unfold aq;simp only [go_sem]) (by unfold aq;simp only [go_sem]) ?_
   rintro _ _ ⟨rfl,rfl⟩
   unfold dm aq
   simp only [go_sem]
   refine bw E' (tau [([1],[36,2])]) [.bx [0] 0,.d (byD c)] (aq (acc++[92])) [0,1] (ck (acc++[92]) c (by simp;omega)) rfl rfl ⟨by simp only [go_sem],by rw [aa];decide⟩ rfl (by unfold aq;simp only [go_sem]) (by unfold aq;simp only [go_sem]) ?_
   rintro _ _ ⟨rfl,rfl⟩
   unfold dm aq
   simp only [go_sem]
   rw [ai ⟨by omega,by omega⟩,hQ]
   simp only [go_sem]
   refine ⟨⟨(i+1,acc++[92]++[c]),hstp⟩,by show s.length-(i+1)<_;omega,tau [([1],[38,2])],?_⟩
   unfold aq
   simp only [go_sem]
   all_goals ((repeat' apply And.intro)<;>first | rfl | trivial)
  refine ah E' (fun h4=>?_) (fun h4=>?_)<;>simp only [go_sem]
  ·have hq:quC c=[92,c]:=by unfold quC;rw [if_neg (by rw [h2];simp),if_pos (.inr (cV 92 h4))]
   rw [hq,show acc++[92,c]=acc++[92]++[c] by simp] at hstp
   refine ae E' [.bx [0] 0,.d (byD 92)] (aq acc) [0,1] (ck acc 92 (by omega)) rfl rfl ⟨by simp only [go_sem],by rw [aa];decide⟩ rfl (by unfold aq;simp only [go_sem]) (by unfold aq;simp only [go_sem]) ?_
   rintro _ _ ⟨rfl,rfl⟩
   unfold dm aq
   simp only [go_sem]
   refine bw E' (tau [([1],[36,2])]) [.bx [0] 0,.d (byD c)] (aq (acc++[92])) [0,1] (ck (acc++[92]) c (by simp;omega)) rfl rfl ⟨by simp only [go_sem],by rw [aa];decide⟩ rfl (by unfold aq;simp only [go_sem]) (by unfold aq;simp only [go_sem]) ?_
   rintro _ _ ⟨rfl,rfl⟩
   unfold dm aq
   simp only [go_sem]
   rw [ai ⟨by omega,by omega⟩,hQ]
   simp only [go_sem]
   refine ⟨⟨(i+1,acc++[92]++[c]),hstp⟩,by show s.length-(i+1)<_;omega,tau [([1],[38,2])],?_⟩
   unfold aq
   simp only [go_sem]
   all_goals ((repeat' apply And.intro)<;>first | rfl | trivial)
  have hno:¬ (c=34∨c=92):=fun h=>h.elim (bc 34 h3) (bc 92 h4)
  refine ah E' (fun h5=>?_) (fun h5=>?_)<;>simp only [go_sem]
  ·have hq:quC c=[92,110]:=by unfold quC;rw [if_neg (by rw [h2];simp),if_neg hno,if_pos (cV 10 h5)]
   rw [hq] at hstp
   refine ae E' [.bx [0] 0,.d (.str [92,110])] (aq acc) [0,1] (gM acc [92,110] (by simp;omega)) rfl rfl ⟨by simp only [go_sem],by rw [aa];decide⟩ rfl (by unfold aq;simp only [go_sem]) (by unfold aq;simp only [go_sem]) ?_
   rintro _ _ ⟨rfl,rfl⟩
   unfold dm aq
   simp only [go_sem]
   rw [ai ⟨by omega,by omega⟩,hQ]
   simp only [go_sem]
   refine ⟨⟨(i+1,acc++[92,110]),hstp⟩,by show s.length-(i+1)<_;omega,tau [([1],[42,2])],?_⟩
   unfold aq
   simp only [go_sem]
   all_goals ((repeat' apply And.intro)<;>first | rfl | trivial)
  refine ah E' (fun h6=>?_) (fun h6=>?_)<;>simp only [go_sem]
  ·have hq:quC c=[92,116]:=by unfold quC;rw [if_neg (by rw [h2];simp),if_neg hno,if_neg (bc 10 h5),if_pos (cV 9 h6)]
   rw [hq] at hstp
   refine ae E' [.bx [0] 0,.d (.str [92,116])] (aq acc) [0,1] (gM acc [92,116] (by simp;omega)) rfl rfl ⟨by simp only [go_sem],by rw [aa];decide⟩ rfl (by unfold aq;simp only [go_sem]) (by unfold aq;simp only [go_sem]) ?_
   rintro _ _ ⟨rfl,rfl⟩
   unfold dm aq
   simp only [go_sem]
   rw [ai ⟨by omega,by omega⟩,hQ]
   simp only [go_sem]
   refine ⟨⟨(i+1,acc++[92,116]),hstp⟩,by show s.length-(i+1)<_;omega,tau [([1],[46,2])],?_⟩
   unfold aq
   simp only [go_sem]
   all_goals ((repeat' apply And.intro)<;>first | rfl | trivial)
  have hq:quC c=[92,120,eN (c.toNat / 16),eN (c.toNat % 16)]:=by unfold quC;rw [if_neg (by rw [h2];simp),if_neg hno,if_neg (bc 10 h5),if_neg (bc 9 h6)]
  rw [hq] at hstp
  refine ae E' [.bx [0] 0,.d (.str [92,120])] (aq acc) [0,1] (gM acc [92,120] (by simp;omega)) rfl rfl ⟨by simp only [go_sem],by rw [aa];decide⟩ rfl (by unfold aq;simp only [go_sem]) (by unfold aq;simp only [go_sem]) ?_
  rintro _ _ ⟨rfl,rfl⟩
  unfold dm aq
  simp only [go_sem]
  have e1:=Ac c
  have e2:=B8 c
  have hc:=c.toNat_lt
  rw [e1]
  refine ⟨by omega,?_⟩
  refine bw E' (tau [([1],[15,2])]) [.bx [0] 0,.d (byD (eN (c.toNat / 16)))] (aq (acc++[92,120])) [0,1] (ck (acc++[92,120]) (eN (c.toNat / 16)) (by simp;omega)) rfl rfl ⟨by simp only [go_sem],by rw [aa];decide⟩ rfl (by unfold aq;simp only [go_sem]) (by unfold aq;simp only [go_sem]) ?_
  rintro _ _ ⟨rfl,rfl⟩
  unfold dm aq
  simp only [go_sem]
  rw [e2]
  refine ⟨by omega,?_⟩
  refine bw E' (tau [([1],[19,2])]) [.bx [0] 0,.d (byD (eN (c.toNat % 16)))] (aq (acc++[92,120]++[eN (c.toNat / 16)])) [0,1] (ck (acc++[92,120]++[eN (c.toNat / 16)]) (eN (c.toNat % 16)) (by simp;omega)) rfl rfl ⟨by simp only [go_sem],by rw [aa];decide⟩ rfl (by unfold aq;simp only [go_sem]) (by unfold aq;simp only [go_sem]) ?_
  rintro _ _ ⟨rfl,rfl⟩
  unfold dm aq
  rw [show acc++[92,120,eN (c.toNat / 16),eN (c.toNat % 16)]=acc++[92,120]++[eN (c.toNat / 16)]++[eN (c.toNat % 16)] by simp] at hstp
  simp only [go_sem]
  rw [ai ⟨by omega,by omega⟩,hQ]
  simp only [go_sem]
  refine ⟨⟨(i+1,acc++[92,120]++[eN (c.toNat / 16)]++[eN (c.toNat % 16)]),hstp⟩,by show s.length-(i+1)<_;omega,tau [([1],[23,2])],?_⟩
  unfold aq
  simp only [go_sem]
  all_goals ((repeat' apply And.intro)<;>first | rfl | trivial)
 ·have he:i=s.length:=by omega
  subst he
  have hne:=hI.ne
  have hfin:=hI.fin
  rw [hQ]
  simp only [go_sem]
  refine ae E [.bx [0] 0,.d (byD 34)] (aq acc) [0,1] (ck acc 34 (by omega)) rfl rfl ⟨by simp only [go_sem],by rw [aa];decide⟩ rfl (by unfold aq;simp only [go_sem]) (by unfold aq;simp only [go_sem]) ?_
  rintro _ _ ⟨rfl,rfl⟩
  unfold dm aq
  simp only [go_sem]
  rw [hfin]
  refine bw E (tau [([1],[48,2])]) [.bx [0] 0] (aq (quS s)) [0,1] (qc (quS s) (by rw [← hfin];simp) (by rw [← hfin,List.length_append];simp;omega)) rfl rfl ⟨by simp only [go_sem],by rw [aa];decide⟩ rfl (by unfold aq;simp only [go_sem]) (by unfold aq;simp only [go_sem]) ?_
  rintro _ _ ⟨rfl,rfl⟩
  simp only [go_sem]
end Go.Proofs.YtejpnabbmgpmaaaGreatDoor

namespace Go.Ab
theorem nz:∀ (n t:Nat) (acc:Array Value),(∀ v∈acc,v.oneCell'=true)→∀ v∈Extern.BytealgMakeNoZero.digits n t acc,v.oneCell'=true
 | 0,_,_,h=>h
 | n+1,t,acc,h=>by
   rw [Extern.BytealgMakeNoZero.digits]
   refine nz n _ _ fun v hv=>?_
   rcases Array.mem_push.1 hv with hv | rfl
   ·exact h v hv
   ·rfl
theorem D1 {P:Program} (w:World) (ps:Array TypeId) (t e:TypeId) (ht:P.underlying t=some (.slice e)) (n:Nat) (hn:n≤281474976710656) :
  ∃ cs:Array Value,(Extern.BytealgMakeNoZero.makeNoZero ps #[t] #[.int .i64 n]).run P w=.ok (.slice (some ⟨w.heap.size,0,none⟩) n cs.size) (w.drew.drew.alloc (.cells cs e))∧n≤cs.size∧∀ v∈cs,v.oneCell'=true:=by
 obtain ⟨z1,z2,z3,hz3,hdef⟩:∃ (z1 z2:String) (z3:Question),z3.forced=false∧Extern.BytealgMakeNoZero.makeNoZero ps #[t] #[.int .i64 n] =
  (do
   let .slice elem ← underlying t | stuck z1
   if (n:Int)<0 || (n:Int) > 2 ^ 48 then runtimePanic (.error z2)
   let cap ← choose (.appendCap (n:Int).toNat 0 elem)
   askRoom cap
   let bytes ← choose z3
   let a ← newRow elem (Extern.BytealgMakeNoZero.digits cap bytes #[])
   pure (.slice (some a) (n:Int).toNat cap)):=⟨_,_,_,rfl,rfl⟩
 refine ⟨Extern.BytealgMakeNoZero.digits (grownCap w n 0 e) (z3.cut (w.tape (w.drawn+1) z3)) #[],?_,?_,nz _ _ _ fun v hv=>by simp at hv⟩
 ·rw [hdef]
  have h1:¬ (n:Int)<0:=by omega
  have h2:¬ (281474976710656:Int)<(n:Int):=by omega
  simp [run_underlying ht,h1,h2,show ∀ a b c,(Question.appendCap a b c).forced=false from fun _ _ _=>rfl,hz3,newRow,Lib.size_digits,grownCap]
 ·rw [Lib.size_digits]
  simpa using grownCap_ge w n 0 e
section
variable {P:Program} {cf:Cf} {ops:Array Oper} {K:St→Ns→Prop} {r:List Oper} {s:St} {ns:Ns}
theorem HZ (E:XEng P cf ops K) {d e n:Nat} {fv x:Operand} {at':Array TypeId} {ty:TypeId} {pos:String} {af:Array Edge} (f:FuncId)
  (hrun:∀ w:World,∃ cs:Array Value,(callFunc f #[.int .i64 n]).run P w=.ok (.value (.slice (some ⟨w.heap.size,0,none⟩) n cs.size)) (w.drew.drew.alloc (.cells cs e))∧n≤cs.size∧∀ v∈cs,v.oneCell'=true)
  (hd:d<cf.n∧d ∉ s.used) (hf:ev s fv=.clo f []) (hx:ev s x=.d (.int .i64 n))
  (hk:E.run r ((s.add d (.arrT (some e) none (List.replicate n .unk))).put d (.vw [d] 0 n)) (ns++[([],[[d]],[d])])) :
  E.stp { dst:=some d,op:=.call { callee:=.value fv,args:=#[x],argTypes:=at' },type:=ty,pos:=pos,after:=af,guard:=none } r s ns .no:=by
 have hgo:∀ s':St,(s'.add d (.arrT (some e) none (List.replicate n .unk))).put d (.vw [d] 0 n)=s'.go (some d) (.vw [d] 0 n) ⟨[([d],some (.arrT (some e) none (List.replicate n .unk)))],[d]⟩:=fun s'=>by unfold St.go;rw [lA];rfl
 rw [E.stp_eq]
 refine ⟨.vw [d] 0 n,([],⟨[([d],some (.arrT (some e) none (List.replicate n .unk)))],[d]⟩),fun s' hu hh he B hB ds' β a w hds hs Q'=>?_,fun q hq=>?_,hd.1,?_⟩
 ·have h1:ev s' fv=.clo f []:=(he fv (by simp [Op.operands,Call.operands])).trans hf
  have h2:ev s' x=.d (.int .i64 n):=(he x (by simp [Op.operands,Call.operands])).trans hx
  have hf':=hs.ev fv
  rw [h1] at hf'
  have hx':=hs.ev x
  rw [h2] at hx'
  have hx':=hx'.int
  generalize hfv:a.eval fv=fval at hf'
  cases hf' with
  | clo _ cvs _ hcs hcv =>
  have hc0:cvs=#[]:=Array.eq_empty_of_size_eq_zero (by simpa using hcs)
  subst hc0
  obtain ⟨cs,hrn,hle,hone⟩:=hrun w
  have e1:(execOp a.eval { dst:=some d,op:=.call { callee:=.value fv,args:=#[x],argTypes:=at' },type:=ty,pos:=pos,after:=af,guard:=none }:Sem Next)=callFunc f (#[]++#[x].map a.eval++#[]):=by
   show (do let d ← (Deferred.ofValue (a.eval fv) (#[x].map a.eval));invoke d.target d.args:Sem Next)=_
   rw [hfv];rfl
  have hdn:d<B.n:=by rw [hB.1];exact hd.1
  obtain ⟨β',hsim⟩:=cJ (hs.jR (w':=w.drew.drew) rfl rfl) hdn (hu d (by simp)) (c:=cs) (wf:=none) (xs:=List.replicate n .unk) (cap:=cs.size) (by simpa using hle) (by simp [wd]) (fun y hy=>by rw [List.eq_of_mem_replicate hy];rfl)
   (fun i y j q hi hj=>by
    have hy:y=.unk:=List.eq_of_mem_replicate (List.mem_of_getElem? hi)
    subst hy
    have hil:i<n:=by have:=(List.getElem?_eq_some_iff.1 hi).1;simpa using this
    have hj0:j=0∧q=.unk:=by
     rcases j with _ | j
     ·have:some D.unk=some q:=hj
      exact ⟨rfl,(Option.some.inj this).symm⟩
     ·have:([D.unk]:List D)[j+1]?=some q:=hj
      simp at this
    obtain ⟨rfl,rfl⟩:=hj0
    refine .unk _ ?_
    have:i*wd none+0<cs.size:=by simp [wd];omega
    rw [Array.getD_eq_getD_getElem?,Array.getElem?_eq_getElem this]
    exact hone _ (Array.getElem_mem this)) e (some e) rfl
  rw [List.length_replicate] at hsim
  refine aA (v:=.slice (some ⟨w.heap.size,0,none⟩) n cs.size) (w':=w.drew.drew.alloc (.cells cs e)) (by simp) (by rw [e1];simpa [hx'] using hrn) (.inl rfl) ⟨hds,β',by rw [← hgo];exact hsim⟩
 ·obtain rfl:=List.mem_singleton.1 hq
  exact hd.2
 ·rw [← E.run_eq,← hgo]
  exact hk
theorem BZ (E:XEng P cf ops K) {d t e:Nat} {x:Operand} {ty:TypeId} {pos:String} {af:Array Edge} {g:Option (Nat × Bool)} (hk:(P.ti t).k=.slice e) (hd:d<cf.n) (hx:ev s x=.d .nils) (h:E.run r (s.put d (.d (.int .i64 0))) (ns++[([],[],[])])) :
  E.stp { dst:=some d,op:=.call { callee:=.builtin .cap,args:=#[x],argTypes:=#[t] },type:=ty,pos:=pos,after:=af,guard:=g } r s ns .no:=by
 refine ky E (x:=.d (.int .i64 0)) [] (fun t ht=>by rw [Option.mem_def,Option.some.injEq] at ht;rw [← ht];exact hd) (fun s' _ he=>?_) h
 refine ez rfl hd (by simp) (fun B β a w hs=>⟨.int .i64 0,?_,.d _ _ (.int _ _)⟩) (by rw [cF];rfl)
 have hv:=hs.ev x
 rw [(he x (by simp [Op.operands,Call.operands])).trans hx] at hv
 have hv:=hv.nils
 simp [execOp,resolve,invoke,builtin,hv,Builtin.cap_,run_underlying (a8 hk),goInt]
theorem Hn (E:XEng P cf ops K) {d t e n o b:Nat} {x h:Operand} {ty:TypeId} {pos:String} {af:Array Edge} {g:Option (Nat × Bool)} (p:Name) (tg:Option Nat) (wf:W) (xs:List D) (hk:(P.ti t).k=.slice e) (hw:(P.ti e).isW wf=true) (hd:d<cf.n)
  (hx:ev s x=.vw p o n) (hp:s.hp p=some (.arrT tg wf xs)) (hh:ev s h=.d (.int .i64 b)) (hb:b≤n) (hr:E.run r (s.put d (.vw p o b)) (ns++[([p],[],[])])) :
  E.stp { dst:=some d,op:=.slice t x none (some h) none,type:=ty,pos:=pos,after:=af,guard:=g } r s ns .no:=by
 refine ky E (x:=.vw p o b) [p] (fun q hq=>by rw [Option.mem_def,Option.some.injEq] at hq;rw [← hq];exact hd) (fun s' hhp he=>?_) hr
 refine ez rfl hd (by simp) (fun B β a w hs=>?_) (by rw [cF];rfl)
 have hvx:=hs.ev x
 have hvh:=hs.ev h
 rw [(he x (by simp [Op.operands])).trans hx] at hvx
 rw [(he h (by simp [Op.operands])).trans hh] at hvh
 have hp':s'.hp p=some (.arrT tg wf xs):=(hhp p (by simp)).trans hp
 obtain ⟨hg,hwd,_⟩:=bn hw
 have hu:=a8 hk
 generalize hax:a.eval x=vx at hvx
 cases hvx with
 | vw _ _ _ _ hn h1' hx =>
   obtain ⟨hle,a0,cap,rfl,hx'⟩:=hx _ _ _ hp'
   have hcap:n≤cap:=by
    rcases hx' with ⟨rfl,rfl⟩ | ⟨k,_,_,h,_⟩
    ·exact Nat.le_refl _
    ·exact h
   have hbd:=da (P:=P) true n cap none (some (.int .i64 b)) 0 b (.inl ⟨rfl,rfl⟩) (.inr ⟨_,rfl⟩) (Int.le_refl 0) (by omega) (by omega) w
   refine ⟨.slice (if cap=0 then a0 else a0.map (·.add (0*(P.ti e).sz))) b cap,?_,.vw _ _ _ _ hn rfl fun ty' w' xs' hp2=>?_⟩
   ·have e1:(Instr.sliceAt t (.slice a0 n cap) none (some (.int .i64 b)) none).run P w=.ok (.slice (if cap=0 then a0 else a0.map (·.add (0*(P.ti e).sz))) b cap) w:=by
     simp [Instr.sliceAt,run_underlying hu,Instr.slice,hbd,run_sizeOf hg]
    simp [execOp,hax,hvh.int,e1]
   ·rw [hp'] at hp2;cases hp2
    refine ⟨by omega,_,_,rfl,?_⟩
    by_cases hc0:cap=0
    ·exact .inl ⟨by omega,hc0⟩
    ·rw [if_neg hc0]
     rcases hx' with ⟨rfl,rfl⟩ | ⟨k,hk',rfl,h3,h4⟩
     ·exact absurd rfl hc0
     ·exact .inr ⟨k,hk',by simp [bj],by omega,h4⟩
end
section
variable {P:Program} {cf:Cf} {Q:Exit→St→Prop} {s:St} {k:List It}
theorem El (E:Eng P cf Q) {x y:Operand} {d:Nat} {dT sT e0:Nat} {ty:TypeId} {pos:String} {af:Array Edge} {p:Name} {off len:Nat} {tg:Option Nat} {zs:List D} (hd:d<cf.n) (hk:(P.ti dT).k=.slice e0) (hw:(P.ti e0).isW none=true)
  (hx:ev s x=.vw p off len) (hp:s.hp p=some (.arrT tg none zs)) (hy:ev s y=.d .nils) (h:E.run k (s.put d (.d (.int .i64 0)))) :
  E.stp { dst:=some d,op:=.call { callee:=.builtin .copy,args:=#[x,y],argTypes:=#[dT,sT] },type:=ty,pos:=pos,after:=af,guard:=none } s k .no:=by
 obtain ⟨hg,hwd,_⟩:=bn hw
 have hu:=a8 hk
 have hsz:(P.info? e0).map (·.size)=some 1:=by
  obtain ⟨i,_,hi,_,_,hsz,_⟩:=b7 hg
  rw [hi]
  simp only [Option.map_some,Option.some.injEq]
  rw [← hsz,← hwd];rfl
 refine j8 E (x:=.d (.int .i64 0)) rfl hd (by simp) (fun B β a w hs=>⟨goInt 0,?_,.d _ _ (.int _ _)⟩) h
 have hvx:=hs.ev x
 rw [hx] at hvx
 have hvy:=hs.ev y
 rw [hy] at hvy
 have hvy:=hvy.nils
 generalize hax:a.eval x=vx at hvx
 cases hvx with
 | vw _ _ _ _ hn h1' hx' =>
 obtain ⟨hle,a0,cap,rfl,hx''⟩:=hx' _ _ _ hp
 have hr:=run_copy_none (P:=P) w dT sT ty e0 a0 none len cap 0 0 hu hsz (Nat.min_eq_left (Nat.zero_le _))
 simp [execOp,resolve,invoke,builtin,hax,hvy,hr,Result.andThen]
theorem xz (E:Eng P cf Q) {d t u e:Nat} {x y:Operand} {ty:TypeId} {pos:String} {af:Array Edge} (tg:Option Nat) (p:Name) (xs:List D) (n:Nat) (l:List UInt8) (hk:(P.ti t).k=.slice e) (hu:(P.ti u).k=.str) (hz:(P.ti e).zOk=true) (hw:(P.ti e).isW (P.ti e).w=true) (hew:(P.ti e).w=none)
  (htg:tg.getD e=e) (hd:d<cf.n∧d ∉ s.used) (hx:ev s x=.vw p 0 n) (hp:s.hp p=some (.arrT tg none xs)) (hy:ev s y=.d (.str l)) (hl:(n+l.length)*(P.ti e).by1≤140737488355328)
  (h:E.run k (((s.set p none).add d (.arrT tg none (xs.take n++l.map byD))).put d (.vw [d] 0 (n+l.length)))) :
  E.stp { dst:=some d,op:=.call { callee:=.builtin .append,args:=#[x,y],argTypes:=#[t,u] },type:=ty,pos:=pos,after:=af,guard:=none } s k .no:=by
 rw [aE]
 rw [E.run_eq] at h
 intro B hB ds β a w hds hs Q'
 have hvx:=hs.ev x
 have hvy:=hs.ev y
 rw [hx] at hvx
 rw [hy] at hvy
 have hyv:a.eval y=.string ⟨l.toArray⟩:=by
  have g:∀ v,Rep w.heap (s.own B.A β) v (.str l)→v=.string ⟨l.toArray⟩:=fun v hv=>by
   cases hv with
   | str l=>rfl
  exact g _ hvy.toD
 obtain ⟨hg,hwd,_⟩:=bn hw
 have hus:P.underlying u=some .string:=eK hu
 have key:=iL (P:=P) (t:=t) (u:=u) (ys:=l.map byD) (news:=byteCells ⟨l.toArray⟩) hs hvx hp hk hz hw hew.symm ty htg (by rw [hB.1];exact hd.1) hd.2 (by rw [List.length_map];exact hl) (by rw [hew];exact lV l) (yv:=.string ⟨l.toArray⟩) (fun it hi=>by
  have h1:=Src.ofString (P:=P) w hus ⟨l.toArray⟩
  have h2:it.size=1:=by
   have hz':=hz
   unfold TI.zOk at hz'
   split at hz'
   ·rename_i z hz1
    obtain ⟨_,_,_,it',hi',_,his,_⟩:=cK hz1
    rw [hi] at hi'
    cases hi'
    rw [his,← hwd,hew];rfl
   ·cases hz'
  rw [h2,List.length_map]
  exact h1)
 obtain ⟨v,w',β',hrun,hsim⟩:=key
 rw [List.drop_zero,List.length_map] at hsim
 refine aA (v:=v) (by simp) (by simp [execOp,resolve,invoke,builtin,hyv,hrun]) (.inl rfl) ⟨hds,_,β',aP h,hsim⟩
end
end Go.Ab

namespace Go.Proofs.YtejpnabbmgpmaaaGreatDoor
open Go.Ab
end Go.Proofs.YtejpnabbmgpmaaaGreatDoor

namespace Go.Proofs.YtejpnabbmgpmaaaGreatDoor
open Go.Ab
def BP:List (Name × Ob):=[([0],.boxT (some 53) [.bx [0] 0,.d .nils])]
def BH (n:Nat):List (Name × Ob):=[([0],.boxT (some 53) [.bx [0] 0,.vw [2] 0 0]),([2],.arrT (some 5) none (List.replicate n .unk))]
def qo (n:Nat):List (Name × Ob):=[([0],.boxT (some 53) [.bx [0] 0,.vw [1] 0 0]),([1],.arrT (some 5) none (List.replicate n .unk))]
theorem A4 {G}:HCall Tryz.prog G 135 [.bx [0] 0] bK [0] (fun r hp'=>r=.tup []∧hp'=BP):=by
 unfold bK BP
 refine ao Tryz.func135 rfl (by decide +kernel) (by simp [Tryz.ntmps135]) (veil fun E=>?_)
 simp only [go_sem]
 refine j6 E (e:=53) true (by rw [mL]) (by simp only [go_sem]) rfl ?_
 simp only [go_sem]
 refine Fh E (e:=53) [0] 0 53 [.d .nilp,.d .nils] (by rw [mL]) Ea (by kernel_rfl) (by simp only [go_sem]) rfl rfl (by decide) ?_
 simp only [go_sem]
 refine xb E 154 (.bx [0] 0) noesc (by simp only [go_sem]) rfl rfl ?_
 simp only [go_sem]
 simp only [Fl]
 simp only [go_sem]
 refine Fk E (e:=53) [0] 0 53 [.d .nilp,.d .nils] (by rw [mL]) Ea (by kernel_rfl) (by simp only [go_sem]) rfl rfl 2 rfl (by kernel_rfl) ?_
 simp only [go_sem]
 refine ⟨_,_,[0],id,⟨rfl,rfl⟩,?_⟩
 simp only [go_sem]
theorem FQ {G} (n:Nat):HCall Tryz.prog G 135 [.bx [0] 0] (qo n) [0,1] (fun r hp'=>r=.tup []∧hp'=qo n):=by
 unfold qo
 generalize List.replicate n D.unk=xs
 refine ao Tryz.func135 rfl (by decide +kernel) (by simp [Tryz.ntmps135]) (veil fun E=>?_)
 simp only [go_sem]
 refine j6 E (e:=53) false (by rw [mL]) (by simp only [go_sem]) rfl ?_
 simp only [go_sem]
 refine vN E (e:=53) [0] 0 (by rw [mL]) (by kernel_rfl) (by simp only [go_sem]) rfl rfl rfl ?_
 simp only [go_sem]
 refine ⟨_,_,[0,1],id,⟨rfl,rfl⟩,?_⟩
 simp only [go_sem]
theorem Fx {G} (n:Nat) (s:List UInt8) (hl:s.length≤100000000):HCall Tryz.prog G 108 [.bx [0] 0,.d (.str s)] (qo n) [0,1] (fun r hp'=>r=.tup [.d (i64 (s.length:Nat)),.d .nili]∧hp'=dm s):=by
 have h0:=FQ (G:=G) n
 unfold qo at *
 unfold dm
 generalize List.replicate n D.unk=xs at *
 refine ao Tryz.func108 rfl (by decide +kernel) (by simp [Tryz.ntmps108]) (veil fun E=>?_)
 simp only [go_sem]
 refine ae E [.bx [0] 0] [([0],.boxT (some 53) [.bx [0] 0,.vw [1] 0 0]),([1],.arrT (some 5) none xs)] [0,1] h0 rfl rfl ⟨by simp only [go_sem],by rw [aa];decide⟩ rfl (by simp only [go_sem]) (by simp only [go_sem]) ?_
 rintro _ _ ⟨rfl,rfl⟩
 simp only [go_sem]
 refine ⟨Nat.le_refl _,?_⟩
 refine xz E (d:=14) (e:=5) (some 5) [1] xs 0 s (by rw [qF]) (by rw [ti9]) (by rw [ti5];rfl) (by rw [ti5];rfl) (by rw [ti5];rfl) rfl ⟨by simp only [go_sem],by rw [aa];decide⟩ rfl rfl rfl (by rw [ti5];simp [TI.by1];omega) ?_
 rw [List.take_zero,List.nil_append,Nat.zero_add]
 simp only [go_sem]
 refine ⟨_,_,[0,1,2],tau [([2],[14])],⟨rfl,rfl⟩,?_⟩
 simp only [go_sem]
theorem DG (n:Nat) (hn:n≤281474976710656) (w:World):∃ cs:Array Value,(callFunc 166 #[.int .i64 n]).run Tryz.prog w=.ok (.value (.slice (some ⟨w.heap.size,0,none⟩) n cs.size)) (w.drew.drew.alloc (.cells cs 5))∧n≤cs.size∧∀ v∈cs,v.oneCell'=true:=by
 obtain ⟨cs,h1,h2,h3⟩:=D1 (P:=Tryz.prog) w #[3] 51 5 (by kernel_rfl) n hn
 refine ⟨cs,?_,h2,h3⟩
 rw [run_callFunc_extern Tryz.func166 (by kernel_rfl) (by kernel_rfl) (by kernel_rfl) (e:=Extern.BytealgMakeNoZero.makeNoZero #[3] #[51]) (by kernel_rfl),h1]
 rfl
theorem Er {G} (n:Nat) (hn:n≤200000000):HCall Tryz.prog G 153 [.bx [0] 0,.d (i64 (n:Int))] BP [0] (fun r hp'=>r=.tup []∧hp'=BH n):=by
 unfold BP BH
 refine ao Tryz.func153 rfl (by decide +kernel) (by simp [Tryz.ntmps153]) (veil fun E=>?_)
 simp only [go_sem]
 refine ak mixed E fun X=>?_
 simp only [go_sem]
 refine dH X (d:=6) [0] 0 (some 53) [.bx [0] 0,.d .nils] (by simp only [go_sem]) rfl rfl ?_
 simp only [go_sem]
 refine BZ X (d:=9) (t:=51) (e:=5) (by rw [qF]) (by simp only [go_sem]) rfl ?_
 simp only [go_sem]
 have hw:w64 (w64 (2*0)+(n:Int))=(n:Int):=by rw [show w64 (2*0)=0 by decide +kernel,Int.zero_add,ai ⟨by omega,by omega⟩]
 refine HZ X (d:=13) (e:=5) (n:=n) 166 (DG n (by omega)) ⟨by simp only [go_sem],by rw [aa];decide⟩ rfl (by simp only [go_sem];rw [hw]) ?_
 simp only [go_sem]
 refine dH X (d:=15) [0] 0 (some 53) [.bx [0] 0,.d .nils] (by simp only [go_sem]) rfl rfl ?_
 simp only [go_sem]
 refine Hn X (d:=19) (t:=51) (e:=5) (b:=0) [13] (some 5) none (List.replicate n .unk) (by rw [qF]) (by rw [ti5];rfl) (by simp only [go_sem]) rfl rfl rfl (Nat.zero_le _) ?_
 simp only [go_sem]
 refine ⟨by decide +kernel,?_⟩
 refine El E (d:=25) (e0:=5) (by simp only [go_sem]) (by rw [qF]) (by rw [ti5];rfl) rfl rfl rfl ?_
 simp only [go_sem]
 refine ⟨_,_,[0,2],tau [([2],[13])],⟨rfl,rfl⟩,?_⟩
 simp only [go_sem]
theorem Dk {G} (n:Nat) (h0:0<n) (hn:n≤200000000):HCall Tryz.prog G 131 [.bx [0] 0,.d (i64 (n:Int))] bK [0] (fun r hp'=>r=.tup []∧hp'=BH n):=by
 have hc:=A4 (G:=G)
 have hg:=Er (G:=G) n hn
 unfold BH bK BP at *
 generalize List.replicate n D.unk=xs at *
 refine ao Tryz.func131 rfl (by decide +kernel) (by simp [Tryz.ntmps131]) (veil fun E=>?_)
 simp only [go_sem]
 refine ae E [.bx [0] 0] [([0],.boxT (some 53) [.d .nilp,.d .nils])] [0] hc rfl rfl ⟨by simp only [go_sem],by rw [aa];decide⟩ rfl (by simp only [go_sem]) (by simp only [go_sem]) ?_
 rintro _ _ ⟨rfl,rfl⟩
 simp only [go_sem]
 refine ah E (fun h1=>?_) (fun h1=>?_)<;>simp only [go_sem]
 ·omega
 refine ak mixed E fun X=>?_
 simp only [go_sem]
 refine dH X (d:=10) [0] 0 (some 53) [.bx [0] 0,.d .nils] (by simp only [go_sem]) rfl rfl ?_
 simp only [go_sem]
 refine BZ X (d:=13) (t:=51) (e:=5) (by rw [qF]) (by simp only [go_sem]) rfl ?_
 simp only [go_sem]
 refine dH X (d:=15) [0] 0 (some 53) [.bx [0] 0,.d .nils] (by simp only [go_sem]) rfl rfl ?_
 simp only [go_sem]
 refine ⟨by decide +kernel,?_⟩
 refine ah E (fun h2=>?_) (fun h2=>?_)<;>simp only [go_sem]
 ·refine ae E [.bx [0] 0,.d (i64 (n:Int))] [([0],.boxT (some 53) [.bx [0] 0,.d .nils])] [0] hg rfl rfl ⟨by simp only [go_sem],by rw [aa];decide⟩ rfl (by simp only [go_sem]) (by simp only [go_sem]) ?_
  rintro _ _ ⟨rfl,rfl⟩
  simp only [go_sem]
  refine ⟨_,_,[0,2],tau [([2],[24,2])],⟨rfl,rfl⟩,?_⟩
  simp only [go_sem]
 ·rw [show w64 0=0 by decide +kernel] at h2
  omega
theorem EM (k:Nat) (h1:1≤k) (h2:k≤1000):2<(9223372036854775807:Int).tdiv (k:Int):=by
 rw [Int.tdiv_eq_ediv_of_nonneg (by decide)]
 have:(3:Int)≤9223372036854775807 / (k:Int):=(Int.le_ediv_iff_mul_le (by omega)).2 (by omega)
 omega
def cR (l:List (List UInt8)):Nat:=(l.map List.length).sum
theorem oI {l:List (List UInt8)} {i:Nat} (h:i<l.length):cR (l.take (i+1))=cR (l.take i)+(l.getD i []).length:=by
 unfold cR
 rw [List.take_succ_eq_append_getElem h,List.map_append,List.sum_append,List.getD_eq_getElem?_getD,List.getElem?_eq_getElem h]
 simp
theorem pH (l:List (List UInt8)) (i:Nat):cR (l.take i)≤cR l:=by
 have h:cR l=cR (l.take i)+cR (l.drop i):=by
  unfold cR
  rw [← List.sum_append,← List.map_append,List.take_append_drop]
 omega
theorem l9 (r:List (List UInt8)):(r.flatMap (cM++·)).length=cR r+2*r.length:=by
 induction r with
 | nil=>rfl
 | cons a r ih =>
   rw [List.flatMap_cons,List.length_append,List.length_append,ih]
   unfold cR
   rw [List.map_cons,List.sum_cons,List.length_cons,show cM.length=2 from rfl]
   omega
theorem F9 {G} (l:List (List UInt8)) (hn:l.length≤1000) (hs:cR l≤90000000):HP Tryz.prog G 97 [strs l,.str [44,32]] (fun r=>r=.d (.str (cU cM l))):=by
 unfold strs
 have hml:(l.map D.str).length=l.length:=List.length_map ..
 have hget:=fun i (h:i<l.length)=>fe (l:=l) h
 have hle:=pH l
 have hstp:=fun i (h:i<l.length)=>oI (l:=l) h
 refine aj Tryz.func97 rfl (by decide +kernel) (by simp [Tryz.ntmps97]) (veil fun E=>?_)
 simp only [go_sem]
 refine ah E (fun h0=>?_) (fun h0=>?_)<;>simp only [go_sem]
 ·have:l=[]:=List.length_eq_zero_iff.1 (by omega)
  rw [this];rfl
 refine ah E (fun h1=>?_) (fun h1=>?_)<;>simp only [go_sem]
 ·obtain ⟨a,rfl⟩:=List.length_eq_one_iff.1 (show l.length=1 by omega)
  refine ⟨by simp,?_⟩
  simp only [List.map_cons,List.map_nil,List.getD_cons_zero]
  simp only [go_sem]
  simp [cU]
 have hk:=EM (l.length-1) (by omega) (by omega)
 have ew:w64 ((l.length:Int)-1)=((l.length-1:Nat):Int):=by rw [ai ⟨by omega,by omega⟩];omega
 have hk2:(9223372036854775807:Int).tdiv ((l.length-1:Nat):Int)≤9223372036854775807:=by
  rw [Int.tdiv_eq_ediv_of_nonneg (by decide)]
  exact Int.ediv_le_self _ (by decide)
 refine ⟨by rw [ew];omega,?_⟩
 refine ah E (fun h2=>?_) (fun h2=>?_)<;>simp only [go_sem]
 ·exfalso
  rw [ew,ai ⟨by omega,by omega⟩] at h2
  omega
 have e5:w64 (0+w64 (2*w64 ((l.length:Int)-1)))=((2*(l.length-1):Nat):Int):=by
  rw [ew,ai (n:=2*((l.length-1:Nat):Int)) ⟨by omega,by omega⟩,Int.zero_add,ai ⟨by omega,by omega⟩]
  omega
 have hall:=pH l
 refine aC E (X:={ i:Nat // i≤l.length }) (fun x=>[(0,.d (.sl none (l.map .str))),(1,.d (.str [44,32])),(5,.d (i64 ((2*(l.length-1)+cR (l.take x.1):Nat):Int))),(39,.d (.sl none (l.map .str))),(40,.d (i64 (l.length:Nat))),(41,.d (i64 x.1))])
  (fun _=>[]) [] (fun x=>l.length-x.1) ⟨0,Nat.zero_le _⟩ id ?_ ?_
 ·simp only [go_sem]
  rw [e5]
  all_goals ((repeat' apply And.intro)<;>first | rfl | trivial)
 rintro ⟨i,hi⟩ E0
 refine aO E0 fun Q' hQ E'=>?_
 simp only at hi ⊢
 simp only [go_sem]
 refine ah E' (fun g=>?_) (fun g=>?_)<;>simp only [go_sem]
 ·have hi':i<l.length:=by omega
  have h3:=hstp i hi'
  have h4:=hle (i+1)
  refine ⟨by omega,?_⟩
  rw [hget i hi']
  simp only [go_sem]
  generalize l.getD i []=s at h3 ⊢
  refine ah E' (fun g2=>?_) (fun g2=>?_)<;>simp only [go_sem]
  ·exfalso
   rw [ai ⟨by omega,by omega⟩] at g2
   omega
  rw [hQ]
  simp only [go_sem]
  rw [ai (n:=((2*(l.length-1)+cR (l.take i):Nat):Int)+(s.length:Int)) ⟨by omega,by omega⟩,ai (n:=(i:Int)+1) ⟨by omega,by omega⟩]
  refine ⟨⟨i+1,by omega⟩,by show l.length-(i+1)<l.length-i;omega,id,?_⟩
  simp only [go_sem]
  rw [show ((2*(l.length-1)+cR (l.take (i+1)):Nat):Int)=((2*(l.length-1)+cR (l.take i):Nat):Int)+(s.length:Int) by omega]
  all_goals ((repeat' apply And.intro)<;>first | rfl | trivial)
 have hi':i=l.length:=by omega
 subst hi'
 rw [List.take_length] at *
 rw [hQ]
 simp only [go_sem]
 obtain ⟨a,r,hl⟩:∃ a r,l=a::r:=by
  cases l with
  | nil=>simp at h0
  | cons a r=>exact ⟨a,r,rfl⟩
 subst hl
 rw [List.length_cons] at *
 have hsa:cR (a::r)=a.length+cR r:=by unfold cR;rw [List.map_cons,List.sum_cons]
 have hfl:=fun i=>l9 (r.take i)
 have hrl:=pH r
 have hbd:∀ i,((r.take i).flatMap (cM++·)).length≤90000000+2000:=fun i=>by
  have h1:=hfl i
  have h2:=hrl i
  rw [List.length_take] at h1
  omega
 have hst2:∀ i,i<r.length→(r.take (i+1)).flatMap (cM++·)=(r.take i).flatMap (cM++·)++[44,32]++r.getD i []:=fun i hi=>by
  rw [List.take_succ_eq_append_getElem hi,List.flatMap_append,List.getD_eq_getElem?_getD,List.getElem?_eq_getElem hi]
  simp [cM]
 have hgr:=fun i (h:i<r.length)=>fe (l:=r) h
 have hel:∀ i,(r.getD i []).length≤90000000:=fun i=>by
  by_cases hi:i<r.length
  ·have h1:=oI hi
   have h2:=hrl (i+1)
   omega
  ·rw [List.getD_eq_getElem?_getD,List.getElem?_eq_none (by omega)]
   exact Nat.zero_le _
 refine bw E (tau [([0],[8])]) [.bx [0] 0,.d (i64 ((2*(r.length+1-1)+cR (a::r):Nat):Int))] bK [0] (Dk (2*(r.length+1-1)+cR (a::r)) (by omega) (by omega)) rfl rfl ⟨by simp only [go_sem],by rw [aa];decide⟩ rfl (by unfold bK;simp only [go_sem]) (by unfold bK;simp only [go_sem]) ?_
 rintro _ _ ⟨rfl,rfl⟩
 unfold BH bK
 simp only [go_sem]
 refine ⟨by omega,?_⟩
 refine bw E (tau [([0],[8]),([1],[57,2])]) [.bx [0] 0,.d (.str a)] (qo (2*r.length+cR (a::r))) [0,1] (Fx _ a (by omega)) rfl rfl ⟨by simp only [go_sem],by rw [aa];decide⟩ rfl (by unfold qo;simp only [go_sem]) (by unfold qo;simp only [go_sem]) ?_
 rintro _ _ ⟨rfl,rfl⟩
 unfold dm qo
 simp only [go_sem]
 refine ⟨by omega,?_⟩
 refine aC E (X:={ i:Nat // i≤r.length }) (fun x=>[(1,.d (.str [44,32])),(8,.bx [0] 0),(63,.d (.sl none (r.map .str))),(64,.d (i64 (r.length:Nat))),(65,.d (i64 x.1))])
  (fun x=>aq (a++(r.take x.1).flatMap (cM++·))) [0,1] (fun x=>r.length-x.1) ⟨0,Nat.zero_le _⟩ (tau [([0],[8]),([1],[61,2])]) ?_ ?_
 ·unfold aq
  simp only [go_sem]
  rw [List.append_nil]
  all_goals ((repeat' apply And.intro)<;>first | rfl | trivial)
 rintro ⟨i,hi⟩ E0
 refine aO E0 fun Q' hQ E'=>?_
 simp only at hi ⊢
 have hb0:=hbd i
 have hs0:=hst2 i
 generalize hacc:a++(r.take i).flatMap (cM++·)=acc
 have hal:acc.length≤190000000:=by rw [← hacc,List.length_append];omega
 unfold aq
 simp only [go_sem]
 refine ah E' (fun g=>?_) (fun g=>?_)<;>simp only [go_sem]
 ·have hi':i<r.length:=by omega
  refine ⟨by omega,?_⟩
  rw [hgr i hi']
  simp only [go_sem]
  have hs1:=hs0 hi'
  have hls:=hel i
  generalize r.getD i []=s at hs1 hls ⊢
  have hnx:a++(r.take (i+1)).flatMap (cM++·)=acc++[44,32]++s:=by rw [hs1,← hacc];simp only [List.append_assoc]
  refine ae E' [.bx [0] 0,.d (.str [44,32])] (aq acc) [0,1] (gM acc [44,32] (by simp only [List.length_cons,List.length_nil];omega)) rfl rfl ⟨by simp only [go_sem],by rw [aa];decide⟩ rfl (by unfold aq;simp only [go_sem]) (by unfold aq;simp only [go_sem]) ?_
  rintro _ _ ⟨rfl,rfl⟩
  unfold dm aq
  simp only [go_sem]
  refine bw E' (tau [([1],[70,2])]) [.bx [0] 0,.d (.str s)] (aq (acc++[44,32])) [0,1] (gM (acc++[44,32]) s (by simp only [List.length_append,List.length_cons,List.length_nil];omega)) rfl rfl ⟨by simp only [go_sem],by rw [aa];decide⟩ rfl (by unfold aq;simp only [go_sem]) (by unfold aq;simp only [go_sem]) ?_
  rintro _ _ ⟨rfl,rfl⟩
  unfold dm aq
  simp only [go_sem]
  rw [ai ⟨by omega,by omega⟩,hQ]
  simp only [go_sem]
  refine ⟨⟨i+1,by omega⟩,by show r.length-(i+1)<r.length-i;omega,tau [([1],[72,2])],?_⟩
  simp only [hnx]
  unfold aq
  simp only [go_sem]
  all_goals ((repeat' apply And.intro)<;>first | rfl | trivial)
 ·have hi':i=r.length:=by omega
  subst hi'
  have hfr:=hfl r.length
  rw [List.take_length] at hacc hfr
  have hne:acc≠[]:=fun e=>by
   have:=congrArg List.length hacc
   rw [e,List.length_append] at this
   simp only [List.length_nil] at this
   omega
  rw [hQ]
  simp only [go_sem]
  refine ae E [.bx [0] 0] (aq acc) [0,1] (qc acc hne (by omega)) rfl rfl ⟨by simp only [go_sem],by rw [aa];decide⟩ rfl (by unfold aq;simp only [go_sem]) (by unfold aq;simp only [go_sem]) ?_
  rintro _ _ ⟨rfl,rfl⟩
  simp only [go_sem]
  rw [← hacc];rfl
end Go.Proofs.YtejpnabbmgpmaaaGreatDoor

namespace Go.Proofs.YtejpnabbmgpmaaaGreatDoor
open Go.Ab
mutual
def VT.fine:VT→Prop
 | .mk _ n s _ vs=>(inR n∧s.length≤200000)∧VT.fines vs
def VT.fines:List VT→Prop
 | []=>True
 | v::r=>v.fine∧VT.fines r
end
theorem ff:∀ l:List VT,VT.fines l↔∀ v∈l,v.fine
 | []=>by simp [VT.fines]
 | v::r=>by rw [VT.fines,ff r];simp
theorem FZ {v:VT} (h:v.fine):inR v.n∧v.s.length≤200000:=by
 cases v with
 | mk k n s nms vs=>rw [VT.fine] at h;exact h.1
theorem Cp {v u:VT} (h:v.fine) (hu:u∈v.vs):u.fine:=by
 cases v with
 | mk k n s nms vs =>
   rw [VT.fine,ff] at h
   exact h.2 u hu
def itE (v:VT) (i:Nat):List UInt8:=v.nm i++eqB++(v.kid i).txt
theorem q6 {v:VT} (ok:v.Ok) {i:Nat} (hi:i<v.vs.length):(dG v.nms v.vs)[i]?=some (itE v i):=by
 have hn:i<v.nms.length:=by rw [ok.len];exact hi
 unfold dG itE VT.nm VT.kid
 rw [List.getElem?_zipWith,List.getElem?_map,List.getElem?_eq_getElem hn,List.getElem?_eq_getElem hi,List.getD_eq_getElem?_getD,List.getD_eq_getElem?_getD,List.getElem?_eq_getElem hn,List.getElem?_eq_getElem hi]
 rfl
theorem vX {v:VT} (ok:v.Ok):(dG v.nms v.vs).length=v.vs.length:=by
 unfold dG
 rw [List.length_zipWith,List.length_map,ok.len,Nat.min_self]
theorem ld (sep:List UInt8):∀ (l:List (List UInt8)) (x:List UInt8),x∈l→x.length≤(l.flatMap (sep++·)).length
 | a::l,x,h=>by
   rw [List.flatMap_cons,List.length_append,List.length_append]
   rcases List.mem_cons.1 h with rfl | h
   ·omega
   ·have:=ld sep l x h
    omega
theorem kN (sep:List UInt8) {l:List (List UInt8)} {x:List UInt8} (h:x∈l):x.length≤(cU sep l).length:=by
 cases l with
 | nil=>cases h
 | cons a l =>
   rw [cU,List.length_append]
   rcases List.mem_cons.1 h with rfl | h
   ·omega
   ·have:=ld sep l x h
    omega
theorem Dw {v:VT} (ok:v.Ok) (B:Bare v) {i:Nat} (hi:i<v.vs.length):(v.kid i).txt.length≤v.txt.length:=by
 have hk:=B.k
 by_cases h4:v.k≤4
 ·have:=(B.leaf h4).2
  rw [this] at hi
  simp at hi
 by_cases h5:v.k=5
 ·have:=kN cM (List.mem_of_getElem? (q6 ok hi))
  rw [xA h5]
  unfold itE at this
  simp only [List.length_append,List.length_cons] at this ⊢
  omega
 ·have h6:v.k=6:=by omega
  obtain ⟨_,_,u,hu⟩:=B.t h6
  have hi0:i=0:=by rw [hu] at hi;simpa using hi
  subst hi0
  have e:v.kid 0=u:=by unfold VT.kid;rw [hu];rfl
  rw [xF h6 hu,e]
  split<;>simp only [List.length_append,List.length_cons]<;>omega
end Go.Proofs.YtejpnabbmgpmaaaGreatDoor

namespace Go.Proofs.YtejpnabbmgpmaaaGreatDoor
open Go.Ab
def mX (v:VT) (i:Nat):Prop:=i≤v.vs.length∧(v.vs.take i).all VT.may=true∧(v.k=5→(v.nms.take i).all aM=true)
theorem mX.zero (v:VT):mX v 0:=⟨Nat.zero_le _,rfl,fun _=>rfl⟩
theorem mX.step {v:VT} (ok:v.Ok) {i:Nat} (h:mX v i) (hi:i<v.vs.length) (h1:(v.kid i).may=true) (h2:v.k=5→aM (v.nm i)=true):mX v (i+1):=by
 obtain ⟨_,g1,g2⟩:=h
 refine ⟨hi,?_,fun h5=>?_⟩
 ·rw [List.take_succ_eq_append_getElem hi,List.all_append,g1]
  unfold VT.kid at h1
  rw [List.getD_eq_getElem?_getD,List.getElem?_eq_getElem hi] at h1
  simpa using h1
 ·have hn:i<v.nms.length:=by rw [ok.len];exact hi
  have h2:=h2 h5
  rw [List.take_succ_eq_append_getElem hn,List.all_append,g2 h5]
  unfold VT.nm at h2
  rw [List.getD_eq_getElem?_getD,List.getElem?_eq_getElem hn] at h2
  simpa using h2
theorem EH {v:VT} (ok:v.Ok) {i:Nat} (hi:i<v.vs.length) (h:(v.kid i).may=false∨(v.k=5∧aM (v.nm i)=false)):v.may=false:=by
 rw [mK]
 rcases h with h | ⟨h5,h⟩
 ·have:v.vs.all VT.may=false:=by
   rw [Bool.eq_false_iff]
   intro g
   have:=List.all_eq_true.1 g _ (bJ hi)
   rw [h] at this
   cases this
  rw [this];simp
 ·have hn:i<v.nms.length:=by rw [ok.len];exact hi
  have:v.nms.all aM=false:=by
   rw [Bool.eq_false_iff]
   intro g
   have:=List.all_eq_true.1 g _ (u7 hn)
   rw [h] at this
   cases this
  rw [this,h5];simp
theorem CW {v:VT} (h:mX v v.vs.length) (ok:v.Ok) (hb:eC v.k v.n v.s v.nms=true):v.may=decide v.nms.Nodup:=by
 obtain ⟨_,g1,g2⟩:=h
 rw [List.take_length] at g1
 rw [mK,hb,g1]
 by_cases h5:v.k=5
 ·have:=g2 h5
  rw [← ok.len,List.take_length] at this
  rw [this];simp
 ·simp [h5]
def kh (l:List (List UInt8)):List D:=l.map .str
theorem A9 {v:VT} (ok:v.Ok) {i:Nat} (hi:i<v.vs.length):kh (v.nms.take (i+1))=kh (v.nms.take i)++[.str (v.nm i)]:=by
 have hn:i<v.nms.length:=by rw [ok.len];exact hi
 unfold kh VT.nm
 rw [List.take_succ_eq_append_getElem hn,List.map_append,List.getD_eq_getElem?_getD,List.getElem?_eq_getElem hn];rfl
theorem CL {v:VT} (ok:v.Ok) {i:Nat} (hi:i≤v.vs.length):(kh (v.nms.take i)).length=i:=by
 unfold kh
 rw [List.length_map,List.length_take,ok.len];omega
theorem fZ {G}:∀ (m:Nat) (v:VT),v.hg≤m→v.wf→HP Tryz.prog G 16 [v.dat] (fun r=>r=.d (.bool v.may))
 | 0,v,h,_=>absurd (jb v) (by omega)
 | m+1,v,h,hw=>by
   have ok:=hw.ok
   have hpl:=ok.fQ
   have hf:=ok.few
   have hnl:=ok.len
   have hbr:=F6 (G:=G) v hw
   have hkid:∀ i,i<v.vs.length→HP Tryz.prog G 16 [.agg [i64 (v.kid i).k,i64 (v.kid i).n,.str (v.kid i).s,.sl (some 5) (v.kid i).ps]] (fun r=>r=.d (.bool (v.kid i).may)):=fun i hi=>by
    have h1:=iU (bJ hi)
    have:=fZ (G:=G) m (v.kid i) (by omega) (ok.kids _ (bJ hi))
    rw [av] at this
    exact this
   have htw:=uZ (G:=G) v.nms (by omega)
   have hR1:=fun h:mX v v.vs.length=>CW h ok
   have hR2:∀ i,i<v.vs.length→((v.kid i).may=false∨(v.k=5∧aM (v.nm i)=false))→v.may=false:=fun i hi=>EH ok hi
   have hR3:eC v.k v.n v.s v.nms=false→v.may=false:=fun h=>by rw [mK,h];rfl
   have hst:=fun i=>mX.step (v:=v) (i:=i) ok
   generalize v.may=R at hR1 hR2 hR3 ⊢
   generalize eC v.k v.n v.s v.nms=bb at hbr hR1 hR3
   rw [av] at hbr ⊢
   refine aj Tryz.func16 rfl (by decide +kernel) (by simp [Tryz.ntmps16]) (veil fun E=>?_)
   simp only [go_sem]
   refine ab E hbr rfl rfl (by simp) ?_
   rintro _ rfl
   simp only [go_sem]
   refine aG E (fun hb=>?_) (fun hb=>?_)<;>simp only [go_sem]
   ·rw [hR3 (by simpa using hb)]
   have hb:bb=true:=by simpa using hb
   refine qy E 3 97 none (by simp only [go_sem]) (by rw [aa];decide) ?_
   simp only [go_sem]
   refine aC E (X:={ i:Nat // mX v i }) (fun x=>[(1,.bx [1] 0),(3,.vw [97] 0 x.1),(10,.d (.sl (some 5) v.ps)),(11,.d (i64 (v.ps.length:Nat))),(12,.d (i64 x.1))])
    (fun x=>[([1],.box [.d (i64 v.k),.d (i64 v.n),.d (.str v.s),.d (.sl (some 5) v.ps)]),([97],.arr none (kh (v.nms.take x.1)))]) [1,97] (fun x=>v.vs.length-x.1) ⟨0,mX.zero v⟩ id ?_ ?_
   ·simp only [go_sem]
    all_goals ((repeat' apply And.intro)<;>first | rfl | trivial)
   rintro ⟨i,hI⟩ E0
   refine aO E0 fun Q' hQ E'=>?_
   simp only at hI ⊢
   have hi:=hI.1
   have hnl2:=CL ok hi
   simp only [go_sem]
   refine ah E' (fun g=>?_) (fun g=>?_)<;>simp only [go_sem]
   ·have hi':i<v.vs.length:=by omega
    have hn':i<v.nms.length:=by omega
    refine ⟨by omega,?_⟩
    rw [ok.eY hi']
    simp only [go_sem]
    refine ab E' (hkid i hi') rfl rfl (by simp) ?_
    rintro _ rfl
    simp only [go_sem]
    have hstp:=A9 ok hi'
    have hnm:=qN (G:=G) (v.nm i) (ok.nl _ (u7 hn'))
    have go:(v.kid i).may=true→(v.k=5→aM (v.nm i)=true)→mX v (i+1):=hst i hI hi'
    have bad:=hR2 i hi'
    generalize (v.kid i).may=km at go bad ⊢
    generalize aM (v.nm i)=nb at hnm go bad ⊢
    cases km with
    | false =>
      simp only [go_sem]
      rw [hQ]
      simp only [go_sem]
      rw [bad (.inl rfl)]
    | true =>
      simp only [go_sem]
      refine ar E' (fun g5=>?_) (fun g5=>?_)<;>simp only [go_sem]
      ·refine ab E' hnm rfl rfl (by simp) ?_
       rintro _ rfl
       cases nb with
       | false =>
         simp only [go_sem]
         rw [hQ]
         simp only [go_sem]
         rw [bad (.inr ⟨g5,rfl⟩)]
       | true =>
         simp only [go_sem]
         refine ⟨by omega,?_⟩
         rw [List.take_of_length_le (show (kh (v.nms.take i)).length≤i by omega),← hstp]
         rw [hQ]
         simp only [go_sem]
         rw [ai (n:=(i:Int)+1) ⟨by omega,by omega⟩]
         refine ⟨⟨i+1,go rfl fun _=>rfl⟩,by show v.vs.length-(i+1)<v.vs.length-i;omega,tau [([97],[35])],?_⟩
         simp only [go_sem]
         all_goals ((repeat' apply And.intro)<;>first | rfl | trivial)
      ·refine ⟨by omega,?_⟩
       rw [List.take_of_length_le (show (kh (v.nms.take i)).length≤i by omega),← hstp]
       rw [hQ]
       simp only [go_sem]
       rw [ai (n:=(i:Int)+1) ⟨by omega,by omega⟩]
       refine ⟨⟨i+1,go rfl fun h=>absurd h g5⟩,by show v.vs.length-(i+1)<v.vs.length-i;omega,tau [([97],[35])],?_⟩
       simp only [go_sem]
       all_goals ((repeat' apply And.intro)<;>first | rfl | trivial)
   ·have hi':i=v.vs.length:=by omega
    subst hi'
    have hfull:kh (v.nms.take v.vs.length)=kh v.nms:=by rw [← hnl,List.take_length]
    rw [hQ]
    simp only [go_sem]
    rw [hfull]
    unfold strs at htw
    refine jX E [97] none (kh v.nms) rfl (by simp only [go_sem];rfl) ?_
    simp only [go_sem]
    rw [show List.take v.vs.length (kh v.nms)=v.nms.map .str by unfold kh;exact List.take_of_length_le (by rw [List.length_map];omega)]
    refine ab E htw rfl rfl (by simp) ?_
    rintro _ rfl
    simp only [go_sem]
    rw [hR1 hI hb]
    unfold twice
    simp
end Go.Proofs.YtejpnabbmgpmaaaGreatDoor

namespace Go.Proofs.YtejpnabbmgpmaaaGreatDoor
open Go.Ab
def vfE (v:VT) (i:Nat):D:=.agg [.str (v.nm i),i64 (v.kid i).k,i64 (v.kid i).n,.str (v.kid i).s,.sl (some 5) (v.kid i).ps]
def cT (a b:VT) (i:Nat):Bool:=(a.nm i == b.nm i) && (a.kid i).eq (b.kid i)
theorem rT {a b:VT} (oa:a.Ok) (ob:b.Ok) (hk:a.k=b.k) (hn:a.n=b.n) (hs:a.s=b.s) (hl:a.vs.length=b.vs.length) (h:∀ i,i<a.vs.length→cT a b i=true):a.eq b=true:=by
 rw [eq_iff]
 have hna:=oa.len
 have hnb:=ob.len
 have h1:a.nms=b.nms:=by
  refine List.ext_getElem (by omega) fun i g1 g2=>?_
  have:=h i (by omega)
  unfold cT at this
  rw [Bool.and_eq_true] at this
  have:=eq_of_beq this.1
  unfold VT.nm at this
  simpa [List.getD_eq_getElem?_getD,g1,g2] using this
 have h2:a.vs=b.vs:=by
  refine List.ext_getElem hl fun i g1 g2=>?_
  have:=h i g1
  unfold cT at this
  rw [Bool.and_eq_true,eq_iff] at this
  have:=this.2
  unfold VT.kid at this
  simpa [List.getD_eq_getElem?_getD,g1,g2] using this
 cases a;cases b
 simp only [VT.k,VT.n,VT.s,VT.nms,VT.vs] at *
 subst hk hn hs h1 h2
 rfl
theorem A0 {a b:VT} (h:a≠b):a.eq b=false:=by
 rw [Bool.eq_false_iff]
 intro g
 exact h ((eq_iff a b).1 g)
theorem wG {a b:VT} {i:Nat} (h:cT a b i=false):a.eq b=false:=by
 refine A0 fun e=>?_
 subst e
 unfold cT at h
 rw [(eq_iff (a.kid i) (a.kid i)).2 rfl] at h
 simp at h
theorem CP {G} {x y:List UInt8} {v w:VT} (h:HP Tryz.prog G 53 [v.dat,w.dat] (fun r=>r=.d (.bool (v.eq w)))):HP Tryz.prog G 101 [.agg [.str x,i64 v.k,i64 v.n,.str v.s,.sl (some 5) v.ps],.agg [.str y,i64 w.k,i64 w.n,.str w.s,.sl (some 5) w.ps]] (fun r=>r=.d (.bool ((x == y) && v.eq w))):=by
 rw [av,av] at h
 generalize v.eq w=e at h ⊢
 refine aj Tryz.func101 rfl (by decide +kernel) (by simp [Tryz.ntmps101]) (veil fun E=>?_)
 simp only [go_sem]
 refine bz E (fun g=>?_) (fun g=>?_)<;>simp only [go_sem]
 ·refine ab E h rfl rfl (by simp) ?_
  rintro _ rfl
  simp only [go_sem]
  rw [g,Bool.true_and]
 ·rw [g];rfl
theorem Dm {G} {a b:VT} (oa:a.Ok) (ob:b.Ok) (h:∀ i,i<a.vs.length→i<b.vs.length→HP Tryz.prog G 101 [vfE a i,vfE b i] (fun r=>r=.d (.bool (cT a b i)))) :
  HP Tryz.prog G 100 [.sl (some 5) a.ps,.sl (some 5) b.ps,.clo 101 []] (fun r=>r=.d (.bool (decide (a.vs.length=b.vs.length) && (List.range a.vs.length).all (cT a b)))):=by
 have ha:=oa.fQ
 have hb:=ob.fQ
 have hfa:=oa.few
 have hfb:=ob.few
 have hga:=fun i (hi:i<a.vs.length)=>oa.eY hi
 have hgb:=fun i (hi:i<b.vs.length)=>ob.eY hi
 unfold vfE at h
 refine aj Tryz.func100 rfl (by decide +kernel) (by simp [Tryz.ntmps100]) (veil fun E=>?_)
 simp only [go_sem]
 refine ah E (fun g=>?_) (fun g=>?_)<;>simp only [go_sem]
 ·rw [decide_eq_false (by omega),Bool.false_and]
 have hl:a.vs.length=b.vs.length:=by omega
 refine aC E (X:={ i:Nat // i≤a.vs.length∧∀ j,j<i→cT a b j=true }) (fun x=>[(1,.d (.sl (some 5) b.ps)),(2,.d (.clo 101 [])),(15,.d (.sl (some 5) a.ps)),(16,.d (i64 (a.ps.length:Nat))),(17,.d (i64 x.1))])
  (fun _=>[]) [] (fun x=>a.vs.length-x.1) ⟨0,Nat.zero_le _,fun _ h=>absurd h (Nat.not_lt_zero _)⟩ id ?_ ?_
 ·simp only [go_sem]
  all_goals ((repeat' apply And.intro)<;>first | rfl | trivial)
 rintro ⟨i,hi,hj⟩ E0
 refine aO E0 fun Q' hQ E'=>?_
 simp only at hi hj ⊢
 simp only [go_sem]
 refine ah E' (fun g2=>?_) (fun g2=>?_)<;>simp only [go_sem]
 ·have hi':i<a.vs.length:=by omega
  refine ⟨by omega,?_⟩
  rw [hga i hi']
  simp only [go_sem]
  refine ⟨by omega,?_⟩
  rw [hgb i (by omega)]
  simp only [go_sem]
  refine lE E' (h i hi' (by omega)) rfl rfl (by simp) ?_
  rintro _ rfl
  simp only [go_sem]
  refine aG E' (fun g3=>?_) (fun g3=>?_)<;>simp only [go_sem]
  ·have g3:cT a b i=false:=by simpa using g3
   have:(List.range a.vs.length).all (cT a b)=false:=by
    rw [Bool.eq_false_iff]
    intro q
    have:=List.all_eq_true.1 q i (List.mem_range.2 hi')
    rw [g3] at this
    cases this
   rw [hQ]
   simp only [go_sem]
   rw [this,Bool.and_false]
  ·have g3:cT a b i=true:=by simpa using g3
   rw [hQ]
   simp only [go_sem]
   rw [ai (n:=(i:Int)+1) ⟨by omega,by omega⟩]
   refine ⟨⟨i+1,by omega,fun j h=>?_⟩,by show a.vs.length-(i+1)<a.vs.length-i;omega,id,?_⟩
   ·rcases Nat.lt_succ_iff_lt_or_eq.1 h with h | rfl
    ·exact hj j h
    ·exact g3
   simp only [go_sem]
   all_goals ((repeat' apply And.intro)<;>first | rfl | trivial)
 ·have:(List.range a.vs.length).all (cT a b)=true:=List.all_eq_true.2 fun j h=>hj j (by have:=List.mem_range.1 h;omega)
  rw [hQ]
  simp only [go_sem]
  rw [this,decide_eq_true hl];rfl
theorem BE {G}:∀ (m:Nat) (a b:VT),a.hg≤m→a.wf→b.wf→HP Tryz.prog G 53 [a.dat,b.dat] (fun r=>r=.d (.bool (a.eq b)))
 | 0,a,_,h,_,_=>absurd (jb a) (by omega)
 | m+1,a,b,h,hwa,hwb=>by
   have oa:=hwa.ok
   have ob:=hwb.ok
   have c:=Dm (G:=G) oa ob fun i h1 h2=>CP (BE m (a.kid i) (b.kid i) (by have:=iU (bJ h1);omega) (oa.kids _ (bJ h1)) (ob.kids _ (bJ h2)))
   have hp:=fun h1 h2 h3 h4=>rT (a:=a) (b:=b) oa ob h1 h2 h3 h4
   have hno:=@A0 a b
   have hpa:=fun i=>@wG a b i
   generalize a.eq b=R at hp hno hpa ⊢
   rw [av,av]
   refine aj Tryz.func53 rfl (by decide +kernel) (by simp [Tryz.ntmps53]) (veil fun E=>?_)
   simp only [go_sem]
   refine ar E (fun h1=>?_) (fun h1=>?_)<;>simp only [go_sem]
   ·rw [hno fun e=>h1 (by rw [e])]
   refine ar E (fun h2=>?_) (fun h2=>?_)<;>simp only [go_sem]
   ·rw [hno fun e=>h2 (by rw [e])]
   refine aG E (fun h3=>?_) (fun h3=>?_)<;>simp only [go_sem]
   ·have h3:¬ a.s=b.s:=by simpa using h3
    rw [hno fun e=>h3 (by rw [e])]
   have h1:a.k=b.k:=by simpa using h1
   have h2:a.n=b.n:=by simpa using h2
   have h3:a.s=b.s:=by simpa using h3
   have c3:=HP.clo (args:=[.d (.sl (some 5) a.ps),.d (.sl (some 5) b.ps),.clo 101 []]) rfl (fun i x y hx hy=>by
    rcases i with _ | _ | _ | i
    ·cases hx;cases hy;exact .inl rfl
    ·cases hx;cases hy;exact .inl rfl
    ·cases hx;cases hy;exact .inr ⟨101,rfl,rfl⟩
    ·cases hx) c
   refine ae E [.d (.sl (some 5) a.ps),.d (.sl (some 5) b.ps),.clo 101 []] [] [] c3 rfl rfl ⟨by simp only [go_sem],by rw [aa];decide⟩ rfl (by simp only [go_sem]) (by simp only [go_sem]) ?_
   rintro _ _ ⟨rfl,_,rfl⟩
   simp only [go_sem]
   by_cases hl:a.vs.length=b.vs.length
   ·rw [decide_eq_true hl,Bool.true_and]
    cases hall:(List.range a.vs.length).all (cT a b) with
    | true=>rw [hp h1 h2 h3 hl fun i hi=>List.all_eq_true.1 hall i (List.mem_range.2 hi)]
    | false =>
      obtain ⟨i,hi,hs⟩:∃ i,i∈List.range a.vs.length∧cT a b i=false:=by
       refine Classical.byContradiction fun hn=>?_
       have:(List.range a.vs.length).all (cT a b)=true:=List.all_eq_true.2 fun i hi=>by
        cases hq:cT a b i with
        | true=>rfl
        | false=>exact absurd ⟨i,hi,hq⟩ hn
       rw [hall] at this
       cases this
      rw [hpa i hs]
   ·rw [decide_eq_false hl,Bool.false_and,hno fun e=>hl (by rw [e])]
theorem uo {G}:∀ (m:Nat) (a b:VT),a.hg≤m→a.wf→b.wf→HP Tryz.prog G 15 [a.dat,b.dat] (fun r=>r=.d (.bool (a.eq b)))
 | 0,a,_,h,_,_=>absurd (jb a) (by omega)
 | m+1,a,b,h,hwa,hwb=>by
   have oa:=hwa.ok
   have ob:=hwb.ok
   have ha:=oa.fQ
   have hb:=ob.fQ
   have hfa:=oa.few
   have hfb:=ob.few
   have hga:=fun i (hi:i<a.vs.length)=>oa.eY hi
   have hgb:=fun i (hi:i<b.vs.length)=>ob.eY hi
   have c:∀ i,i<a.vs.length→i<b.vs.length→HP Tryz.prog G 15 [.agg [i64 (a.kid i).k,i64 (a.kid i).n,.str (a.kid i).s,.sl (some 5) (a.kid i).ps],.agg [i64 (b.kid i).k,i64 (b.kid i).n,.str (b.kid i).s,.sl (some 5) (b.kid i).ps]] (fun r=>r=.d (.bool ((a.kid i).eq (b.kid i)))):=fun i h1 h2=>by
    have:=uo (G:=G) m (a.kid i) (b.kid i) (by have:=iU (bJ h1);omega) (oa.kids _ (bJ h1)) (ob.kids _ (bJ h2))
    rw [av,av] at this
    exact this
   have hp:=fun h1 h2 h3 h4=>rT (a:=a) (b:=b) oa ob h1 h2 h3 h4
   have hno:=@A0 a b
   have hpa:=fun i=>@wG a b i
   generalize a.eq b=R at hp hno hpa ⊢
   rw [av,av]
   refine aj Tryz.func15 rfl (by decide +kernel) (by simp [Tryz.ntmps15]) (veil fun E=>?_)
   simp only [go_sem]
   refine ar E (fun h1=>?_) (fun h1=>?_)<;>simp only [go_sem]
   ·rw [hno fun e=>h1 (by rw [e])]
   refine ar E (fun h2=>?_) (fun h2=>?_)<;>simp only [go_sem]
   ·rw [hno fun e=>h2 (by rw [e])]
   refine bz E (fun h3=>?_) (fun h3=>?_)<;>simp only [go_sem]
   ·have h3:¬ a.s=b.s:=by simpa using h3
    rw [hno fun e=>h3 (by rw [e])]
   refine ah E (fun h4=>?_) (fun h4=>?_)<;>simp only [go_sem]
   ·rw [hno fun e=>h4 (by rw [e])]
   have h1:a.k=b.k:=by simpa using h1
   have h2:a.n=b.n:=by simpa using h2
   have h3:a.s=b.s:=by simpa using h3
   have hl:a.vs.length=b.vs.length:=by omega
   refine aC E (X:={ i:Nat // i≤a.vs.length∧∀ j,j<i→cT a b j=true }) (fun x=>[(2,.bx [2] 0),(3,.bx [3] 0),(5,.d (i64 x.1))])
    (fun _=>[([2],.box [.d (i64 a.k),.d (i64 a.n),.d (.str a.s),.d (.sl (some 5) a.ps)]),([3],.box [.d (i64 b.k),.d (i64 b.n),.d (.str b.s),.d (.sl (some 5) b.ps)])]) [2,3] (fun x=>a.vs.length-x.1) ⟨0,Nat.zero_le _,fun _ h=>absurd h (Nat.not_lt_zero _)⟩ id ?_ ?_
   ·simp only [go_sem]
    all_goals ((repeat' apply And.intro)<;>first | rfl | trivial)
   rintro ⟨i,hi,hj⟩ E0
   refine aO E0 fun Q' hQ E'=>?_
   simp only at hi hj ⊢
   simp only [go_sem]
   refine ah E' (fun g2=>?_) (fun g2=>?_)<;>simp only [go_sem]
   ·have hi':i<a.vs.length:=by omega
    refine ak mixed E' fun X=>?_
    simp only [go_sem]
    refine ⟨by omega,?_⟩
    rw [hga i hi']
    simp only [go_sem]
    refine ⟨by omega,?_⟩
    rw [hgb i (by omega)]
    simp only [go_sem]
    have hsm:cT a b i=((a.nm i == b.nm i) && (a.kid i).eq (b.kid i)):=rfl
    refine E8 X (fun g=>?_) (fun g=>?_)<;>simp only [go_sem]
    ·have g:(a.nm i == b.nm i)=false:=by simpa using g
     refine ⟨by decide +kernel,?_⟩
     rw [hQ]
     simp only [go_sem]
     rw [hpa i (by rw [hsm,g];rfl)]
    ·have g:(a.nm i == b.nm i)=true:=by simpa using g
     refine ⟨by omega,?_⟩
     rw [hga i hi']
     simp only [go_sem]
     refine ⟨by omega,?_⟩
     rw [hgb i (by omega)]
     simp only [go_sem]
     refine bp X (c i hi' (by omega)) rfl rfl (by simp) ?_
     simp only [go_sem]
     refine ⟨by decide +kernel,?_⟩
     refine aG E' (fun g3=>?_) (fun g3=>?_)<;>simp only [go_sem]
     ·have g3:(a.kid i).eq (b.kid i)=false:=by simpa using g3
      rw [hQ]
      simp only [go_sem]
      rw [hpa i (by rw [hsm,g,g3];rfl)]
     ·have g3:(a.kid i).eq (b.kid i)=true:=by simpa using g3
      rw [hQ]
      simp only [go_sem]
      rw [ai (n:=(i:Int)+1) ⟨by omega,by omega⟩]
      refine ⟨⟨i+1,by omega,fun j h=>?_⟩,by show a.vs.length-(i+1)<a.vs.length-i;omega,id,?_⟩
      ·rcases Nat.lt_succ_iff_lt_or_eq.1 h with h | rfl
       ·exact hj j h
       ·rw [hsm,g,g3];rfl
      simp only [go_sem]
      all_goals ((repeat' apply And.intro)<;>first | rfl | trivial)
   ·rw [hQ]
    simp only [go_sem]
    rw [hp h1 h2 h3 hl fun j h=>hj j (by omega)]
end Go.Proofs.YtejpnabbmgpmaaaGreatDoor

namespace Go.Proofs.YtejpnabbmgpmaaaGreatDoor
open Go.Ab
def jG (L:List (List UInt8)) (n i:Nat):List D:=(L.take i).map .str++List.replicate (n-i) (.str [])
theorem xw (L:List (List UInt8)) (n:Nat):jG L n 0=List.replicate n (.str []):=by
 unfold jG
 rw [List.take_zero];rfl
theorem zJ {L:List (List UInt8)} {n i:Nat} (hL:L.length=n) (h:i≤n):(jG L n i).length=n:=by
 unfold jG
 simp only [List.length_append,List.length_map,List.length_take,List.length_replicate]
 omega
theorem zt {L:List (List UInt8)} {n:Nat} (hL:L.length=n):jG L n n=L.map .str:=by
 unfold jG
 rw [← hL,List.take_length,Nat.sub_self]
 simp
theorem BA {L:List (List UInt8)} {n i:Nat} {x:List UInt8} (hL:L.length=n) (hi:i<n) (hx:L[i]?=some x):(jG L n i).set i (.str x)=jG L n (i+1):=by
 unfold jG
 have hl:((L.take i).map D.str).length=i:=by rw [List.length_map,List.length_take];omega
 obtain ⟨m,hm⟩:∃ m,n-i=m+1:=⟨n-i-1,by omega⟩
 have hx':L[i]'(by omega)=x:=(List.getElem?_eq_some_iff.1 hx).2
 rw [List.set_append_right _ _ (by omega),hl,Nat.sub_self,hm,List.replicate_succ,List.set_cons_zero,List.take_succ_eq_append_getElem (by omega),List.map_append,show n-(i+1)=m by omega,hx']
 simp
theorem x8 (L:List (List UInt8)):cR L≤(cU cM L).length:=by
 cases L with
 | nil=>exact Nat.zero_le _
 | cons a r =>
   have:=l9 r
   unfold cR at *
   rw [cU,List.length_append,List.map_cons,List.sum_cons]
   omega
theorem zI {tt:TypeId} {fz:Nat × Nat}:∀ (m:Nat) (v:VT),v.hg≤m→v.wf→v.may=true→v.fine→v.txt.length≤80000000→HP Tryz.prog (GT tt fz) 50 [v.dat] (fun r=>r=.d (.str v.txt))
 | 0,v,h,_,_,_,_=>absurd (jb v) (by omega)
 | m+1,v,h,hw,hm,hfi,hlen=>by
   have ok:=hw.ok
   have B:=fm ok hm
   have hpl:=ok.fQ
   have hf:=ok.few
   have hk:=B.k
   obtain ⟨hn,hs⟩:=FZ hfi
   have hkid:∀ i,i<v.vs.length→HP Tryz.prog (GT tt fz) 50 [.agg [i64 (v.kid i).k,i64 (v.kid i).n,.str (v.kid i).s,.sl (some 5) (v.kid i).ps]] (fun r=>r=.d (.str (v.kid i).txt)):=fun i hi=>by
    have h1:=iU (bJ hi)
    have h2:=Dw ok B hi
    have:=zI (tt:=tt) (fz:=fz) m (v.kid i) (by omega) (ok.kids _ (bJ hi)) (iy hm (bJ hi)) (Cp hfi (bJ hi)) (by omega)
    rw [av] at this
    exact this
   have t1:=@BK v
   have t2:=@Ao v
   have t3:=@z7 v
   have t4:=@Gn v
   have t5:=@xA v
   have t6:=@xF v
   generalize v.txt=T0 at hlen t1 t2 t3 t4 t5 t6 ⊢
   rw [av]
   refine aj Tryz.func50 rfl (by decide +kernel) (by simp [Tryz.ntmps50]) (veil fun E=>?_)
   simp only [go_sem]
   refine ah E (fun h1=>?_) (fun h1=>?_)<;>simp only [go_sem]
   ·refine ab E (Gh v.n hn) rfl rfl (by simp) ?_
    rintro _ rfl
    simp only [go_sem]
    rw [t1 h1]
   refine ah E (fun h2=>?_) (fun h2=>?_)<;>simp only [go_sem]
   ·refine ah E (fun g=>?_) (fun g=>?_)<;>simp only [go_sem]
    ·rw [t2 h2,if_pos g];rfl
    ·rw [t2 h2,if_neg g];rfl
   refine ah E (fun h3=>?_) (fun h3=>?_)<;>simp only [go_sem]
   ·refine ab E (GO v.s hs) rfl rfl (by simp) ?_
    rintro _ rfl
    simp only [go_sem]
    rw [t3 h3]
   refine ah E (fun h4=>?_) (fun h4=>?_)<;>simp only [go_sem]
   ·rw [t4 h4];rfl
   refine ah E (fun h6=>?_) (fun h6=>?_)<;>simp only [go_sem]
   ·obtain ⟨_,_,u,hu⟩:=B.t h6
    have hi0:0<v.vs.length:=by rw [hu];simp
    have hku:v.kid 0=u:=by unfold VT.kid;rw [hu];rfl
    have ht:=t6 h6 hu
    have hc:=hkid 0 hi0
    have hg0:=ok.eY hi0
    rw [hku] at hc hg0
    clear t1 t2 t3 t4 t5 t6
    generalize u.txt=T at ht hc
    refine ⟨by omega,?_⟩
    rw [hg0]
    simp only [go_sem]
    refine ab E hc rfl rfl (by simp) ?_
    rintro _ rfl
    simp only [go_sem]
    refine ⟨by omega,?_⟩
    rw [hg0]
    simp only [go_sem]
    refine ah E (fun h7=>?_) (fun h7=>?_)<;>simp only [go_sem]
    ·rw [if_pos h7] at ht
     rw [ht] at hlen
     simp only [List.length_append,List.length_cons,List.length_nil] at hlen
     refine ⟨by omega,by omega,by omega,by simp only [List.length_append,List.length_cons,List.length_nil];omega,?_⟩
     rw [ht,List.append_assoc];rfl
    ·rw [if_neg h7] at ht
     rw [ht] at hlen
     simp only [List.length_append,List.length_cons,List.length_nil] at hlen
     refine ⟨by omega,by simp only [List.length_append,List.length_cons,List.length_nil];omega,?_⟩
     rw [ht,List.append_assoc];rfl
   have h5:v.k=5:=by omega
   have ht:=t5 h5
   clear t1 t2 t3 t4 t5 t6
   have hl2:=hlen
   rw [ht] at hl2
   have hrl:=vX ok
   have hrg:=fun i (hi:i<v.vs.length)=>q6 ok hi
   have hie:∀ i,itE v i=v.nm i++eqB++(v.kid i).txt:=fun _=>rfl
   have hmem:=fun i (hi:i<v.vs.length)=>kN cM (List.mem_of_getElem? (q6 ok hi))
   simp only [List.length_append,List.length_cons] at hl2
   generalize dG v.nms v.vs=L at hl2 ht hrl hrg hmem
   have hjl:=x8 L
   have hJ:=F9 (G:=GT tt fz) L (by omega) (by omega)
   have hset:=fun i (hi:i<v.vs.length)=>BA hrl hi (hrg i hi)
   have hal:=fun i (hi:i≤v.vs.length)=>zJ hrl hi
   refine ⟨by omega,?_⟩
   refine aC E (X:={ i:Nat // i≤v.vs.length }) (fun x=>[(1,.bx [1] 0),(4,.vw [52] 0 v.ps.length),(54,.d (.sl (some 5) v.ps)),(55,.d (i64 (v.ps.length:Nat))),(56,.d (i64 x.1))])
    (fun x=>[([1],.box [.d (i64 v.k),.d (i64 v.n),.d (.str v.s),.d (.sl (some 5) v.ps)]),([52],.arr none (jG L v.vs.length x.1))]) [1,52] (fun x=>v.vs.length-x.1) ⟨0,Nat.zero_le _⟩ id ?_ ?_
   ·simp only [go_sem]
    rw [xw,hpl]
    all_goals ((repeat' apply And.intro)<;>first | rfl | trivial)
   rintro ⟨i,hi⟩ E0
   refine aO E0 fun Q' hQ E'=>?_
   simp only at hi ⊢
   have hal0:=hal i hi
   simp only [go_sem]
   refine ah E' (fun g=>?_) (fun g=>?_)<;>simp only [go_sem]
   ·have hi':i<v.vs.length:=by omega
    have hnm:=iw (List.all_eq_true.1 (B.r h5) _ (u7 (v:=v) (i:=i) (by rw [ok.len];exact hi')))
    have hc:=hkid i hi'
    have hg0:=ok.eY hi'
    have hst:=hset i hi'
    have hme:=hmem i hi'
    rw [hie] at hst hme
    refine ⟨by omega,?_⟩
    rw [hg0]
    simp only [go_sem]
    generalize (v.kid i).txt=T at hc hst hme
    generalize v.nm i=nm at hnm hst hme ⊢
    simp only [List.length_append,show eqB.length=3 from rfl] at hme
    refine ak mixed E' fun X=>?_
    simp only [go_sem]
    refine ⟨by omega,?_⟩
    refine bp X hc rfl rfl (by simp) ?_
    simp only [go_sem]
    have hst':(jG L v.vs.length i).set i (.str (nm++[32,61,32]++T))=jG L v.vs.length (i+1):=hst
    refine ⟨by simp only [List.length_append,List.length_cons,List.length_nil];omega,⟨by omega,by omega⟩,by decide +kernel,?_⟩
    rw [hst',hQ]
    simp only [go_sem]
    rw [ai (n:=(i:Int)+1) ⟨by omega,by omega⟩]
    refine ⟨⟨i+1,by omega⟩,by show v.vs.length-(i+1)<v.vs.length-i;omega,id,?_⟩
    simp only [go_sem]
    all_goals ((repeat' apply And.intro)<;>first | rfl | trivial)
   ·have hi':i=v.vs.length:=by omega
    subst hi'
    rw [hQ]
    simp only [go_sem]
    refine jX E [52] none (jG L v.vs.length v.vs.length) rfl (by simp only [go_sem];rfl) ?_
    simp only [go_sem]
    rw [show List.take v.ps.length (jG L v.vs.length v.vs.length)=L.map .str by rw [List.take_of_length_le (by omega),zt hrl]]
    unfold strs at hJ
    refine ab E hJ rfl rfl (by simp) ?_
    rintro _ rfl
    simp only [go_sem]
    refine ⟨by omega,by omega,?_⟩
    rw [ht]
theorem ux {tt:TypeId} {fz:Nat × Nat} (v:VT) (hw:v.wf) (hfi:v.fine) (hlen:v.may=true→v.txt.length≤80000000):HP Tryz.prog (GT tt fz) 21 [v.dat] (fun r=>r=.d (.str (if v.may then v.txt else []))):=by
 have h1:=fZ (G:=GT tt fz) v.hg v (Nat.le_refl _) hw
 have h2:=fun h=>zI (tt:=tt) (fz:=fz) v.hg v (Nat.le_refl _) hw h hfi (hlen h)
 generalize v.may=b at h1 h2 hlen ⊢
 generalize v.txt=T at h2 ⊢
 rw [av] at *
 refine aj Tryz.func21 rfl (by decide +kernel) (by simp [Tryz.ntmps21]) (veil fun E=>?_)
 simp only [go_sem]
 refine ab E h1 rfl rfl (by simp) ?_
 rintro _ rfl
 cases b with
 | false=>simp only [go_sem]
 | true =>
   simp only [go_sem]
   refine ab E (h2 rfl) rfl rfl (by simp) ?_
   rintro _ rfl
   simp only [go_sem]
theorem Hg {G} (v:VT) (hw:v.wf) (hs:v.sz≤1000000000):HP Tryz.prog G 23 [v.dat] (fun r=>r=.d (i64 (if v.may then ((v.sz:Nat):Int) else 0))):=by
 have h1:=fZ (G:=G) v.hg v (Nat.le_refl _) hw
 have h2:=zO (G:=G) v.hg v (Nat.le_refl _) hw hs
 generalize v.may=b at h1 ⊢
 generalize v.sz=z at h2 ⊢
 rw [av] at *
 refine aj Tryz.func23 rfl (by decide +kernel) (by simp [Tryz.ntmps23]) (veil fun E=>?_)
 simp only [go_sem]
 refine ab E h1 rfl rfl (by simp) ?_
 rintro _ rfl
 cases b with
 | false=>simp only [go_sem]
 | true =>
   simp only [go_sem]
   refine ab E h2 rfl rfl (by simp) ?_
   rintro _ rfl
   simp only [go_sem]
theorem AP {G} (a b:VT) (wa:a.wf) (wb:b.wf):HP Tryz.prog G 24 [a.dat,b.dat] (fun r=>r=.d (.bool (a.may && b.may && a.eq b))):=by
 have h1:=fZ (G:=G) a.hg a (Nat.le_refl _) wa
 have h2:=fZ (G:=G) b.hg b (Nat.le_refl _) wb
 have h3:=BE (G:=G) a.hg a b (Nat.le_refl _) wa wb
 generalize a.may=k1 at h1 ⊢
 generalize b.may=k2 at h2 ⊢
 generalize a.eq b=k3 at h3 ⊢
 rw [av] at *
 rw [av] at *
 refine aj Tryz.func24 rfl (by decide +kernel) (by simp [Tryz.ntmps24]) (veil fun E=>?_)
 simp only [go_sem]
 refine ab E h1 rfl rfl (by simp) ?_
 rintro _ rfl
 cases k1 with
 | false=>simp only [go_sem]
 | true =>
   simp only [go_sem]
   refine ab E h2 rfl rfl (by simp) ?_
   rintro _ rfl
   cases k2 with
   | false=>simp only [go_sem]
   | true =>
     simp only [go_sem]
     refine ab E h3 rfl rfl (by simp) ?_
     rintro _ rfl
     simp only [go_sem]
theorem uJ {G}:∀ (m:Nat) (v:VT),v.hg≤m→v.wf→HP Tryz.prog G 25 [v.dat] (fun r=>r=.d (.bool v.pl))
 | 0,v,h,_=>absurd (jb v) (by omega)
 | m+1,v,h,hw=>by
   have ok:=hw.ok
   have hpl:=ok.fQ
   have hf:=ok.few
   have hkid:∀ i,i<v.vs.length→HP Tryz.prog G 25 [.agg [i64 (v.kid i).k,i64 (v.kid i).n,.str (v.kid i).s,.sl (some 5) (v.kid i).ps]] (fun r=>r=.d (.bool (v.kid i).pl)):=fun i hi=>by
    have h1:=iU (bJ hi)
    have:=uJ (G:=G) m (v.kid i) (by omega) (ok.kids _ (bJ hi))
    rw [av] at this
    exact this
   have hbad:∀ i,i<v.vs.length→(v.kid i).pl=false→v.pl=false:=fun i hi h=>by
    rw [wK]
    have:v.vs.all VT.pl=false:=by
     rw [Bool.eq_false_iff]
     intro g
     have:=List.all_eq_true.1 g _ (bJ hi)
     rw [h] at this
     cases this
    rw [this,Bool.false_and]
   have hend:(∀ j,j<v.vs.length→(v.kid j).pl=true)→v.pl=decide (v.k≠4):=fun h=>by
    rw [wK]
    have:v.vs.all VT.pl=true:=List.all_eq_true.2 fun u hu=>by
     obtain ⟨i,hi,rfl⟩:=List.mem_iff_getElem.1 hu
     have:=h i hi
     unfold VT.kid at this
     rwa [List.getD_eq_getElem?_getD,List.getElem?_eq_getElem hi] at this
    rw [this,Bool.true_and]
   generalize v.pl=R at hbad hend ⊢
   rw [av]
   refine aj Tryz.func25 rfl (by decide +kernel) (by simp [Tryz.ntmps25]) (veil fun E=>?_)
   simp only [go_sem]
   refine aC E (X:={ i:Nat // i≤v.vs.length∧∀ j,j<i→(v.kid j).pl=true }) (fun x=>[(1,.bx [1] 0),(3,.d (i64 x.1))])
    (fun _=>[([1],.box [.d (i64 v.k),.d (i64 v.n),.d (.str v.s),.d (.sl (some 5) v.ps)])]) [1] (fun x=>v.vs.length-x.1) ⟨0,Nat.zero_le _,fun _ h=>absurd h (Nat.not_lt_zero _)⟩ id ?_ ?_
   ·simp only [go_sem]
    all_goals ((repeat' apply And.intro)<;>first | rfl | trivial)
   rintro ⟨i,hi,hj⟩ E0
   refine aO E0 fun Q' hQ E'=>?_
   simp only at hi hj ⊢
   simp only [go_sem]
   refine ah E' (fun g=>?_) (fun g=>?_)<;>simp only [go_sem]
   ·have hi':i<v.vs.length:=by omega
    refine ⟨by omega,?_⟩
    rw [ok.eY hi']
    simp only [go_sem]
    have hc:=hkid i hi'
    have hb:=hbad i hi'
    have hjn:(v.kid i).pl=true→∀ j,j<i+1→(v.kid j).pl=true:=fun h j hlt=>by
     rcases Nat.lt_succ_iff_lt_or_eq.1 hlt with h1 | rfl
     ·exact hj j h1
     ·exact h
    generalize (v.kid i).pl=kp at hc hb hjn
    refine ab E' hc rfl rfl (by simp) ?_
    rintro _ rfl
    cases kp with
    | false =>
      simp only [go_sem]
      rw [hQ]
      simp only [go_sem]
      rw [hb rfl]
    | true =>
      simp only [go_sem]
      rw [hQ]
      simp only [go_sem]
      rw [ai (n:=(i:Int)+1) ⟨by omega,by omega⟩]
      refine ⟨⟨i+1,by omega,hjn rfl⟩,by show v.vs.length-(i+1)<v.vs.length-i;omega,id,?_⟩
      simp only [go_sem]
      all_goals ((repeat' apply And.intro)<;>first | rfl | trivial)
   ·rw [hQ]
    simp only [go_sem]
    rw [hend fun j h=>hj j (by omega)]
end Go.Proofs.YtejpnabbmgpmaaaGreatDoor

namespace Go.Proofs.YtejpnabbmgpmaaaGreatDoor
open Go.Ab
def p3 (s:PS) (ns:List EN):List EN × Int × Int :=
 if s.err≠0 then ([],s.pos,s.err) else if ns.any (fun n=>decide (1048576<n.pos)) then ([],0,7) else if eX ns≠0 then ([],0,eX ns) else (ns,0,0)
def qa (l:List Tok) (n:Int):PS:=⟨l,n,0,0,0⟩
def rS (s:PS):PS:=if s.l.isEmpty then s else s.wrong
def cP (s:List UInt8):List EN × Int × Int :=
 if (cO s).2.2≠0 then ([],(cO s).2.1,(cO s).2.2)
 else p3 (rS (gm 100 (qa (cO s).1 (cO s).2.1)).2) (gm 100 (qa (cO s).1 (cO s).2.1)).1
theorem SS.done (s:PS):SS s (rS s):=by
 unfold rS
 split
 ·exact SS.refl s
 ·exact SS.wrong s
end Go.Proofs.YtejpnabbmgpmaaaGreatDoor

namespace Go.Proofs.YtejpnabbmgpmaaaGreatDoor
open Go.Ab
def Pq (N:Int) (n:EN):Prop:=0≤n.pos∧n.pos≤N
def Pl (N:Int) (ns:List EN):Prop:=∀ n∈ns,Pq N n
section
variable {N:Int}
variable {ex:PS→PR} (hex:∀ s,GP 1 s (ex s)) (hx:∀ s,PSo N s→Pl N (ex s).1)
include hex hx
end
end Go.Proofs.YtejpnabbmgpmaaaGreatDoor

namespace Go.Proofs.YtejpnabbmgpmaaaGreatDoor
open Go.Ab
theorem wx {α β γ:Type} {g:α→β→γ} {P:γ→Prop}:∀ (l:List α) (ks:List β),(∀ f∈l,∀ q∈ks,P (g f q))→∀ x∈List.zipWith g l ks,P x
 | [],_,_,x,hx=>by rw [List.zipWith_nil_left] at hx;cases hx
 | _::_,[],_,x,hx=>by rw [List.zipWith_nil_right] at hx;cases hx
 | f::l,q::ks,h,x,hx=>by
   rw [List.zipWith_cons_cons] at hx
   rcases List.mem_cons.1 hx with rfl | hx
   ·exact h f List.mem_cons_self q List.mem_cons_self
   ·exact wx l ks (fun f hf q hq=>h f (List.mem_cons_of_mem _ hf) q (List.mem_cons_of_mem _ hq)) x hx
theorem sr {n:EN} (h:aH n=true) (hp:aJ n.k=true):∀ f∈n.l,cW n.k f=true:=by
 unfold aH bd at h
 simp only [Bool.and_eq_true] at h
 have h1:=h.2.1.2
 rw [if_pos hp] at h1
 simp only [Bool.and_eq_true] at h1
 exact List.all_eq_true.1 h1.1
theorem xI {n:EN} (h:aH n=true) (hk:n.k=13):dY n.name=true:=by
 unfold aH ej at h
 simp only [Bool.and_eq_true] at h
 have h1:=h.2.1.1.1
 rw [if_neg (by omega),if_pos hk] at h1
 exact h1
end Go.Proofs.YtejpnabbmgpmaaaGreatDoor

namespace Go.Proofs.YtejpnabbmgpmaaaGreatDoor
open Go.Ab
def FO (s:PS) (l:List EF):List (Name × Ob):=([103],.arr (some 3) (l.map fD))::RO s
theorem wS {G} (s:PS) (t:Tok) (n:EN) (l:List EF) (hl:l.length≤100000):HCall Tryz.prog G 185 [.bx [100] 0,.d (.agg [i64 t.k,.str t.s,i64 t.n,i64 t.pos]),.agg [.d (i64 n.k),.d (i64 n.a),.d (i64 n.b),.d (i64 n.c),.d (i64 n.n),.d (.str n.name),.d (.str n.s),.vw [103] 0 l.length,.d (i64 n.pos)]] (FO s l) [100,101,103] (fun r hp'=>r=.tup []∧hp'=FO (s.parted t l) l):=by
 generalize hR:s.parted t l=R
 unfold PS.parted at hR
 have c8:=nB (G:=G) s 8 t.pos
 have c5:=nB (G:=G) s 5 t.pos
 unfold FO RO TO ag
 refine ao Tryz.func185 rfl (by decide +kernel) (by simp [Tryz.ntmps185]) (veil fun E=>?_)
 simp only [go_sem]
 refine ae E [.bx [100] 0] (RO s) [100,101] (ei s) rfl rfl ⟨by simp only [go_sem],by first | (rw [aa];decide) | (simp only [go_sem]<;>(try rw [aa])<;>decide)⟩ rfl (by unfold RO TO ag;simp only [go_sem]) (by unfold RO TO;simp only [go_sem]) ?_
 rintro _ _ ⟨rfl,rfl⟩
 unfold RO TO ag
 simp only [go_sem]
 refine aG E (fun h1=>?_) (fun h1=>?_)<;>simp only [go_sem]
 ·rw [if_pos (by simpa using h1)] at hR
  rw [← hR]
  refine ⟨_,_,[100,101,103],id,⟨rfl,rfl⟩,?_⟩
  simp only [go_sem]
 rw [if_neg (by simpa using h1)] at hR
 refine ah E (fun h2=>?_) (fun h2=>?_)<;>simp only [go_sem]
 ·rw [if_pos (by omega)] at hR
  refine ae E [.bx [100] 0,.d (i64 8),.d (i64 t.pos)] (RO s) [100,101] (c8) rfl rfl ⟨by simp only [go_sem],by first | (rw [aa];decide) | (simp only [go_sem]<;>(try rw [aa])<;>decide)⟩ rfl (by unfold RO TO ag;simp only [go_sem]) (by unfold RO TO;simp only [go_sem]) ?_
  rintro _ _ ⟨rfl,rfl⟩
  unfold RO TO ag
  simp only [go_sem]
  rw [← hR]
  refine ⟨_,_,[100,101,103],id,⟨rfl,rfl⟩,?_⟩
  simp only [go_sem]
 ·rw [if_neg (by omega)] at hR
  refine E6 E [4] (.agg [i64 t.k,.str t.s,i64 t.n,i64 t.pos]) rfl rfl ?_
  simp only [go_sem]
  refine lM E [([103],some 3,l.map fD)] (wM l (fun x=>decide (x.nm=t.s)) 187 [.ptr (.agg [i64 t.k,.str t.s,i64 t.n,i64 t.pos])] (by omega) (fun x _=>EU x t)) (by rintro _ rfl;rfl) (by simp only [go_sem]) rfl (by simp only [go_sem]) (by simp) ?_
  rintro _ rfl
  simp only [go_sem]
  refine aG E (fun h3=>?_) (fun h3=>?_)<;>simp only [go_sem]
  ·rw [if_pos h3] at hR
   refine ae E [.bx [100] 0,.d (i64 5),.d (i64 t.pos)] (RO s) [100,101] (c5) rfl rfl ⟨by simp only [go_sem],by first | (rw [aa];decide) | (simp only [go_sem]<;>(try rw [aa])<;>decide)⟩ rfl (by unfold RO TO ag;simp only [go_sem]) (by unfold RO TO;simp only [go_sem]) ?_
   rintro _ _ ⟨rfl,rfl⟩
   unfold RO TO ag
   simp only [go_sem]
   rw [← hR]
   refine ⟨_,_,[100,101,103],id,⟨rfl,rfl⟩,?_⟩
   simp only [go_sem]
  ·rw [if_neg (by rw [h3];decide)] at hR
   rw [← hR]
   refine ⟨_,_,[100,101,103],id,⟨rfl,rfl⟩,?_⟩
   simp only [go_sem]
end Go.Proofs.YtejpnabbmgpmaaaGreatDoor

namespace Go.Proofs.YtejpnabbmgpmaaaGreatDoor
open Go.Ab
def NO (s:PS) (n:EN) (l:List EF):List (Name × Ob):=([105],.box [.bx [100] 0])::([102],.box [.d (i64 n.k),.d (i64 n.a),.d (i64 n.b),.d (i64 n.c),.d (i64 n.n),.d (.str n.name),.d (.str n.s),.vw [103] 0 l.length,.d (i64 n.pos)])::FO s l
def q7 (s:PS) (t:Tok) (l:List EF):EF × PS:=(⟨(s.of 2).1,[],0⟩,(((s.of 2).2.parted t l).must 7 [61]))
def lF (s:PS) (t:Tok) (l:List EF):EF × PS:=(⟨(s.of 3).1,(((s.of 3).2.parted t l).of 2).1,0⟩,(((s.of 3).2.parted t l).of 2).2.must 7 bTo)
theorem sg (s:PS) (t:Tok) (l:List EF):(s.parted t l).l=s.l:=by
 unfold PS.parted
 split
 ·rfl
 split
 ·exact mS _ _ _
 split
 ·exact mS _ _ _
 ·rfl
def Cs (G:List (Nat × Obj)) (f:Nat) (part:PS→Tok→List EF→EF × PS):Prop:=∀ (s:PS) (t:Tok) (n:EN) (l:List EF),s.l.length≤100000→l.length≤100000 →
 HCall Tryz.prog G f [.d (.agg [i64 t.k,.str t.s,i64 t.n,i64 t.pos]),.bx [105] 0,.bx [102] 0] (NO s n l) [100,101,102,103,105] (fun r hp'=>r=.d (fD (part s t l).1)∧hp'=NO (part s t l).2 n l)
theorem Di {G}:Cs G 184 q7:=by
 intro s t n l hs hl
 generalize hR:q7 s t l=R
 unfold q7 at hR
 have c1:=kL (G:=G) s 2 (by omega)
 have h1:=SS.of s 2
 obtain ⟨nm,s1,e1⟩:∃ nm s1,s.of 2=(nm,s1):=⟨_,_,rfl⟩
 rw [e1] at c1 h1 hR
 simp only at c1 h1 hR
 have l1:=h1.len
 have c2:=wS (G:=G) s1 t n l hl
 have l2:=sg s1 t l
 generalize s1.parted t l=s2 at c2 l2 hR
 have c3:=ek (G:=G) s2 7 [61] (by rw [l2];omega) (by decide)
 generalize s2.must 7 [61]=s3 at c3 hR
 subst hR
 unfold NO FO RO TO ag
 refine ao Tryz.func184 rfl (by decide +kernel) (by simp [Tryz.ntmps184]) (veil fun E=>?_)
 simp only [go_sem]
 refine ae E [.bx [100] 0,.d (i64 2)] (RO s) [100,101] (c1) rfl rfl ⟨by simp only [go_sem],by first | (rw [aa];decide) | (simp only [go_sem]<;>(try rw [aa])<;>decide)⟩ rfl (by unfold RO TO ag;simp only [go_sem]) (by unfold RO TO;simp only [go_sem]) ?_
 rintro _ _ ⟨rfl,rfl⟩
 unfold RO TO ag
 simp only [go_sem]
 refine ae E [.bx [100] 0,.d (.agg [i64 t.k,.str t.s,i64 t.n,i64 t.pos]),.agg [.d (i64 n.k),.d (i64 n.a),.d (i64 n.b),.d (i64 n.c),.d (i64 n.n),.d (.str n.name),.d (.str n.s),.vw [103] 0 l.length,.d (i64 n.pos)]] (FO s1 l) [100,101,103] (c2) rfl rfl ⟨by simp only [go_sem],by first | (rw [aa];decide) | (simp only [go_sem]<;>(try rw [aa])<;>decide)⟩ rfl (by unfold FO RO TO ag;simp only [go_sem]) (by unfold FO RO TO;simp only [go_sem]) ?_
 rintro _ _ ⟨rfl,rfl⟩
 unfold FO RO TO ag
 simp only [go_sem]
 refine ⟨Nat.le_refl _,?_⟩
 refine ae E [.bx [100] 0,.d (i64 7),.d (.str [61])] (RO s2) [100,101] (c3) rfl rfl ⟨by simp only [go_sem],by first | (rw [aa];decide) | (simp only [go_sem]<;>(try rw [aa])<;>decide)⟩ rfl (by unfold RO TO ag;simp only [go_sem]) (by unfold RO TO;simp only [go_sem]) ?_
 rintro _ _ ⟨rfl,rfl⟩
 unfold RO TO ag
 simp only [go_sem]
 refine ⟨_,_,[100,101,102,103,105],id,⟨rfl,rfl⟩,?_⟩
 simp only [go_sem]
 all_goals rfl
theorem C5 {G}:Cs G 186 lF:=by
 intro s t n l hs hl
 generalize hR:lF s t l=R
 unfold lF at hR
 have c1:=kL (G:=G) s 3 (by omega)
 have h1:=SS.of s 3
 obtain ⟨nm,s1,e1⟩:∃ nm s1,s.of 3=(nm,s1):=⟨_,_,rfl⟩
 rw [e1] at c1 h1 hR
 simp only at c1 h1 hR
 have l1:=h1.len
 have c2:=wS (G:=G) s1 t n l hl
 have l2:=sg s1 t l
 generalize s1.parted t l=s2 at c2 l2 hR
 have co:=kL (G:=G) s2 2 (by rw [l2];omega)
 have ho:=SS.of s2 2
 obtain ⟨nv,so,eo⟩:∃ nv so,s2.of 2=(nv,so):=⟨_,_,rfl⟩
 rw [eo] at co ho hR
 simp only at co ho hR
 have lo:=ho.len
 rw [l2] at lo
 have c3:=ek (G:=G) so 7 bTo (by omega) (by decide)
 generalize so.must 7 bTo=s3 at c3 hR
 subst hR
 unfold NO FO RO TO ag
 refine ao Tryz.func186 rfl (by decide +kernel) (by simp [Tryz.ntmps186]) (veil fun E=>?_)
 simp only [go_sem]
 refine ae E [.bx [100] 0,.d (i64 3)] (RO s) [100,101] (c1) rfl rfl ⟨by simp only [go_sem],by first | (rw [aa];decide) | (simp only [go_sem]<;>(try rw [aa])<;>decide)⟩ rfl (by unfold RO TO ag;simp only [go_sem]) (by unfold RO TO;simp only [go_sem]) ?_
 rintro _ _ ⟨rfl,rfl⟩
 unfold RO TO ag
 simp only [go_sem]
 refine ae E [.bx [100] 0,.d (.agg [i64 t.k,.str t.s,i64 t.n,i64 t.pos]),.agg [.d (i64 n.k),.d (i64 n.a),.d (i64 n.b),.d (i64 n.c),.d (i64 n.n),.d (.str n.name),.d (.str n.s),.vw [103] 0 l.length,.d (i64 n.pos)]] (FO s1 l) [100,101,103] (c2) rfl rfl ⟨by simp only [go_sem],by first | (rw [aa];decide) | (simp only [go_sem]<;>(try rw [aa])<;>decide)⟩ rfl (by unfold FO RO TO ag;simp only [go_sem]) (by unfold FO RO TO;simp only [go_sem]) ?_
 rintro _ _ ⟨rfl,rfl⟩
 unfold FO RO TO ag
 simp only [go_sem]
 refine ⟨Nat.le_refl _,?_⟩
 refine ae E [.bx [100] 0,.d (i64 2)] (RO s2) [100,101] (co) rfl rfl ⟨by simp only [go_sem],by first | (rw [aa];decide) | (simp only [go_sem]<;>(try rw [aa])<;>decide)⟩ rfl (by unfold RO TO ag;simp only [go_sem]) (by unfold RO TO;simp only [go_sem]) ?_
 rintro _ _ ⟨rfl,rfl⟩
 unfold RO TO ag
 simp only [go_sem]
 refine ae E [.bx [100] 0,.d (i64 7),.d (.str bTo)] (RO so) [100,101] (c3) rfl rfl ⟨by simp only [go_sem],by first | (rw [aa];decide) | (simp only [go_sem]<;>(try rw [aa])<;>decide)⟩ rfl (by unfold RO TO ag;simp only [go_sem]) (by unfold RO TO;simp only [go_sem]) ?_
 rintro _ _ ⟨rfl,rfl⟩
 unfold RO TO ag
 simp only [go_sem]
 refine ⟨_,_,[100,101,102,103,105],id,⟨rfl,rfl⟩,?_⟩
 simp only [go_sem]
 all_goals rfl
end Go.Proofs.YtejpnabbmgpmaaaGreatDoor

namespace Go.Proofs.YtejpnabbmgpmaaaGreatDoor
open Go.Ab
def NQ (s:PS) (n:EN) (l:List EF) (ks:List (List EN)):List (Name × Ob):=([105],.box [.bx [100] 0])::([102],.box [.d (i64 n.k),.d (i64 n.a),.d (i64 n.b),.d (i64 n.c),.d (i64 n.n),.d (.str n.name),.d (.str n.s),.vw [106] 0 l.length,.d (i64 n.pos)])::([106],.arr (some 3) (l.map fD))::([107],.arr (some 1) (ks.map exD))::RO s
theorem vA {G} {N:Nat} {ex:PS→PR} {f:Nat} {part:PS→Tok→List EF→EF × PS} {b:List UInt8} (hex:∀ s,GP 1 s (ex s)) (hc:Reads 34 G N ex) (hp:Cs G f part) (hps:∀ s l,SS s (part s s.peek l).2)
  (s:PS) (n:EN) (hl:s.l.length≤100000) (hN:s.nest=N) :
  HCall Tryz.prog G 183 [.bx [100] 0,.bx [102] 0,.d (.str b),.clo f [.bx [105] 0,.bx [102] 0]] (NO s n []) [100,101,102,103,105]
   (fun r hp'=>r=.vw [107] 0 (bt ex b (fun s l=>part s s.peek l) s.l.length.succ s [] []).2.1.length∧hp'=NQ (bt ex b (fun s l=>part s s.peek l) s.l.length.succ s [] []).2.2 n (bt ex b (fun s l=>part s s.peek l) s.l.length.succ s [] []).1 (bt ex b (fun s l=>part s s.peek l) s.l.length.succ s [] []).2.1):=by
 generalize hR:bt ex b (fun s l=>part s s.peek l) s.l.length.succ s [] []=R
 unfold NO FO RO TO ag
 refine ao Tryz.func183 rfl (by decide +kernel) (by simp [Tryz.ntmps183]) (veil fun E=>?_)
 simp only [go_sem]
 refine qy E 9 98 (some 1) rfl (by rw [aa];decide) ?_
 simp only [go_sem]
 refine aC E (X:={ x:Nat × PS × List EF × List (List EN) // bt ex b (fun s l=>part s s.peek l) x.1 x.2.1 x.2.2.1 x.2.2.2=R∧(x.2.1.l.length<x.1∧x.2.2.1.length=x.2.2.2.length∧x.2.2.1.length+x.2.1.l.length≤s.l.length∧x.2.1.nest=N) })
  (fun x=>[(0,.bx [100] 0),(1,.bx [102] 0),(2,.d (.str b)),(3,.clo f [.bx [105] 0,.bx [102] 0]),(8,.d .nils),(9,.vw [98] 0 x.1.2.2.2.length)])
  (fun x=>[([105],.box [.bx [100] 0]),([102],.box [.d (i64 n.k),.d (i64 n.a),.d (i64 n.b),.d (i64 n.c),.d (i64 n.n),.d (.str n.name),.d (.str n.s),.vw [97] 0 x.1.2.2.1.length,.d (i64 n.pos)]),([97],.arr (some 3) (x.1.2.2.1.map fD)),([98],.arr (some 1) (x.1.2.2.2.map exD)),([100],.box [.bx [101] 0,.d (i64 x.1.2.1.err),.d (i64 x.1.2.1.pos),.d (i64 x.1.2.1.nest)]),([101],.box [.d (.sl (some 4) (x.1.2.1.l.map gi)),.d (i64 x.1.2.1.fin)])]) [97,98,100,101,102,103,105] (fun x=>x.1.2.1.l.length) ⟨(s.l.length.succ,s,[],[]),hR,Nat.lt_succ_self _,rfl,by simp,hN⟩ (tau [([97],[103])]) ?_ ?_
 ·simp only [go_sem]
  all_goals rfl
 rintro ⟨⟨m,q,l,ks⟩,hb,hm,hlk,hls,hqn⟩ E0
 refine aO E0 fun Q' hQ E'=>?_
 simp only at hb hm hlk hls hqn ⊢
 obtain ⟨m,rfl⟩:∃ k,m=k+1:=⟨m-1,by omega⟩
 rw [bt] at hb
 simp only [go_sem]
 have h1:=hp q q.peek n l (by omega) (by omega)
 have g1:=hps q l
 obtain ⟨fd,s1,e1⟩:∃ fd s1,part q q.peek l=(fd,s1):=⟨_,_,rfl⟩
 rw [e1] at h1 g1 hb
 simp only at h1 g1 hb
 rw [show fD fd=.agg [.str fd.nm,.str fd.var,i64 fd.to] from rfl] at h1
 have n1:=g1.len
 have h2:=hc s1 (by omega) (g1.nest.trans hqn)
 have g2:=hex s1
 obtain ⟨x1,s2,e2⟩:∃ x1 s2,ex s1=(x1,s2):=⟨_,_,rfl⟩
 rw [e2] at h2 g2 hb
 simp only at h2 hb
 have n2:=g2.ss.len
 have z2:=g2.ss.nest
 simp only at n2 z2
 have h3:=ir (G:=G) s2 b (by omega)
 unfold exD at h2
 refine ae E' [.bx [101] 0] (TO q.l q.fin) [101] (dj q.l q.fin (by omega)) rfl rfl ⟨by simp only [go_sem],by first | (rw [aa];decide) | (simp only [go_sem]<;>(try rw [aa])<;>decide)⟩ rfl (by unfold TO ag;simp only [go_sem]) (by unfold TO;simp only [go_sem]) ?_
 rintro _ _ ⟨rfl,rfl⟩
 unfold TO ag
 simp only [go_sem]
 refine bw E' (tau [([103],[97])]) [.d (.agg [i64 q.peek.k,.str q.peek.s,i64 q.peek.n,i64 q.peek.pos]),.bx [105] 0,.bx [102] 0] (NO q n l) [100,101,102,103,105] (h1) rfl (by simp only [go_sem];try rfl) ⟨by simp only [go_sem],by first | (rw [aa];decide) | (simp only [go_sem]<;>(try rw [aa])<;>decide)⟩ rfl (by unfold NO FO RO TO ag;simp only [go_sem]) (by unfold NO FO RO TO;simp only [go_sem]) ?_
 rintro _ _ ⟨rfl,rfl⟩
 unfold NO FO RO TO ag
 simp only [go_sem]
 refine ⟨Nat.le_refl _,?_⟩
 refine ae E' [.bx [100] 0] (RO s1) [100,101] (h2) rfl rfl ⟨by simp only [go_sem],by first | (rw [aa];decide) | (simp only [go_sem]<;>(try rw [aa])<;>decide)⟩ rfl (by unfold RO TO ag;simp only [go_sem]) (by unfold RO TO;simp only [go_sem]) ?_
 rintro _ _ ⟨rfl,rfl⟩
 unfold RO TO ag
 simp only [go_sem]
 refine ⟨by omega,?_⟩
 rw [show List.map exD ks++[.agg [.sl (some 9) (List.map enD x1)]]=(ks++[x1]).map exD by rw [List.map_append];rfl]
 refine ak mixed E' fun X=>?_
 simp only [go_sem]
 refine dH X (d:=27) [102] 0 none [.d (i64 n.k),.d (i64 n.a),.d (i64 n.b),.d (i64 n.c),.d (i64 n.n),.d (.str n.name),.d (.str n.s),.vw [97] 0 l.length,.d (i64 n.pos)] (by simp only [go_sem]) rfl rfl ?_
 simp only [go_sem]
 rw [show List.map fD l++[.agg [.str fd.nm,.str fd.var,i64 fd.to]]=(l++[fd]).map fD by rw [List.map_append];rfl]
 refine ⟨by omega,?_⟩
 refine dH X (d:=33) [102] 0 none [.d (i64 n.k),.d (i64 n.a),.d (i64 n.b),.d (i64 n.c),.d (i64 n.n),.d (.str n.name),.d (.str n.s),.vw [97] 0 l.length,.d (i64 n.pos)] (by simp only [go_sem]) rfl rfl ?_
 simp only [go_sem]
 refine ⟨by decide +kernel,?_⟩
 refine ae E' [.bx [100] 0,.d (.str b)] (RO s2) [100,101] (h3) rfl rfl ⟨by simp only [go_sem],by first | (rw [aa];decide) | (simp only [go_sem]<;>(try rw [aa])<;>decide)⟩ rfl (by unfold RO TO ag;simp only [go_sem]) (by unfold RO TO;simp only [go_sem]) ?_
 rintro _ _ ⟨rfl,rfl⟩
 unfold RO TO ag
 simp only [go_sem]
 refine aG E' (fun h=>?_) (fun h=>?_)<;>simp only [go_sem]
 ·have h':s2.sees 7 b=false:=by simpa using h
  rw [eI h',hQ]
  rw [if_neg (by rw [h'];decide)] at hb
  subst hb
  simp only [go_sem]
  refine ⟨_,_,[100,101,102,103,105,106,107],tau [([106],[32]),([107],[24])],⟨rfl,rfl⟩,?_⟩
  unfold NQ RO TO ag
  simp only [go_sem]
  simp only [List.length_append,List.length_singleton,and_self]
 ·have h':s2.sees 7 b=true:=by simpa using h
  have hsl:=aW h'
  rw [cL h',hQ]
  rw [if_pos h'] at hb
  simp only [go_sem]
  refine ⟨⟨(m,s2.next,l++[fd],ks++[x1]),hb,by show s2.next.l.length<m;omega,by simp [hlk],by show (l++[fd]).length+s2.next.l.length≤_;rw [List.length_append,List.length_singleton];omega,by show s2.next.nest=N;rw [← hqn,← g1.nest,← z2];rfl⟩,by show s2.next.l.length<q.l.length;omega,tau [([97],[32]),([98],[24])],?_,?_,?_,?_,?_⟩<;>simp only [go_sem]
  all_goals simp only [List.length_append,List.length_singleton,and_self]
end Go.Proofs.YtejpnabbmgpmaaaGreatDoor

