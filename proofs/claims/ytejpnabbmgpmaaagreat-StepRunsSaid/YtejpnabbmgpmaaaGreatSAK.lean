/-
  One step of a tree: where it is done. (with the parts that follow it)
-/
import Derived.Test.YtejpnabbmgpmaaaGreatSAJ
import Derived.Test.YtejpnabbmgpmaaaGreatSAF
set_option linter.unusedSimpArgs false
namespace Go.Proofs.YtejpnabbmgpmaaaGreat
open Go.Ab
theorem wq {n:EN}:(dS n).length≤(ag n).length∧∀ j,j<(ag n).length→((fI n j=true↔j<(dS n).length)∧((fI n j=true)→(dS n).getD j 0=(ag n).getD j 0)):=by
 unfold dS fI
 by_cases h1:n.k=6∨n.k=10∨n.k=11
 ·simp only [if_pos h1]
  exact ⟨Nat.le_refl _,fun j hj=>⟨by simp [hj],fun _=>by trivial⟩⟩
 simp only [if_neg h1]
 by_cases h2:n.k=7∨n.k=9∨n.k=12∨n.k=13∨n.k=14
 ·simp only [if_pos h2]
  obtain ⟨r,hr⟩:∃ r,ag n=n.a::r:=by
   rcases h2 with h | h | h | h | h
   ·exact ⟨_,kX (.inr (.inl h))⟩
   ·exact ⟨_,B6 h⟩
   ·exact ⟨_,eY (.inr (.inl h))⟩
   ·exact ⟨_,eY (.inr (.inr h))⟩
   ·exact ⟨_,wW h⟩
  rw [hr]
  refine ⟨by simp,fun j hj=>⟨by simp,fun h=>?_⟩⟩
  have:j=0:=by simpa using h
  subst this
  rfl
 ·simp only [if_neg h2]
  exact ⟨Nat.zero_le _,fun j hj=>⟨by simp,fun h=>by cases h⟩⟩
theorem GB {ts:List RT} {q p:Nat} {x:RT} (hp:p<ts.length):(ts.set q x).getD p az=if p=q then x else ts.getD p az:=by
 rw [List.getD_eq_getElem?_getD,List.getElem?_set]
 by_cases h:q=p
 ·subst h
  simp [hp]
 ·rw [if_neg h,if_neg (fun e=>h e.symm)]
  rw [List.getD_eq_getElem?_getD]
theorem CW {G} {xs:List EN} (h:Run xs):∀ (m i:Nat) (h0:Int),i<m→i<xs.length→HCall Tryz.prog G 75 [.at [100] 0,.d (i64 (i:Int))] (spO xs h0) [100] (fun r hp'=>r=.d (gR (stT (trE xs i)))∧hp'=spO xs (stT (trE xs i)).1)
 | 0,_,_,h,_=>absurd h (Nat.not_lt_zero _)
 | m+1,i,h0,him,hi=>by
   have ih:=CW (G:=G) h m
   have ht:=h.t
   have hk:=aJ ht
   have hg:=aN hi
   have hsi:=jZ ht _ (by rw [ba hi];exact List.getElem_mem hi:ndE xs i∈xs)
   have hkn:=ax hk hi
   have hgd:=dW ht h.rng hi
   have hlk:=xz ht xs.length i hi hi
   have hnd:=j9 ht hi
   have hsz:=iT h hi
   rw [show rtE xs xs.length i=trE xs i from rfl] at hlk
   rw [xN ht hi] at hgd hlk hsz ⊢
   obtain ⟨hfl,hfb⟩:=wq (n:=ndE xs i)
   have hcr:=Fu (G:=G) h hi
   have hkt:∀ q,q<(ag (ndE xs i)).length→∃ a:Nat,(ag (ndE xs i)).getD q 0=(a:Int)∧a<i∧(ktE xs i).getD q az=trE xs a:=fun q hq=>by
    obtain ⟨a,h1,h2⟩:=bB ht hi (List.getElem_mem hq)
    refine ⟨a,by simp [hq,h1],h2,?_⟩
    unfold ktE
    simp [hq,h1]
   obtain ⟨ts,hts⟩:∃ ts,ts=ktE xs i:=⟨_,rfl⟩
   have htl:ts.length=(ag (ndE xs i)).length:=by rw [hts];exact List.length_map ..
   rw [← hts] at hcr hkt hgd hlk hsz ⊢
   have hkc:=eg (G:=G) (ndE xs i) (by omega)
   have hfc:=FW (G:=G) (ndE xs i) hsi
   obtain ⟨n,hne⟩:∃ n,n=ndE xs i:=⟨_,rfl⟩
   rw [← hne] at hg hsi hkn hnd hfl hfb hcr hkt htl hkc hfc hgd hlk hsz ⊢
   obtain ⟨K,hK⟩:∃ K,K=ag n:=⟨_,rfl⟩
   obtain ⟨F,hF⟩:∃ F,F=dS n:=⟨_,rfl⟩
   rw [← hK] at hkn hnd hfl hfb hkt htl hkc
   rw [← hF] at hfl hfb hfc
   have hKw:K.length=aA n:=by rw [hK,aM]
   have hKl:K.length≤900003:=by rw [hKw];unfold aA;have:=bn n.k;split<;>omega
   obtain ⟨st,hst⟩:∃ st,st=stT (.mk (can n) ts):=⟨_,rfl⟩
   rw [← hst]
   obtain ⟨hw,hcn,hgl⟩:=(bk.1 hgd).1
   have htg:=(bk.1 hgd).2
   rw [RT.lk] at hlk
   obtain ⟨S,hS⟩:=iO st
   rw [hS]
   unfold spO at *
   refine aq Tryz.func75 rfl (by decide +kernel) (by simp [Tryz.ntmps75]) (veil fun E=>?_)
   simp only [go_sem]
   refine ⟨⟨by omega,by omega⟩,?_⟩
   rw [hg]
   simp only [go_sem]
   rw [aP n] at hkc hfc
   refine ae E _ [] [] hkc rfl rfl ⟨by simp only [go_sem],by rw [aa];decide⟩ rfl (by simp only [go_sem]) (by simp only [go_sem]) ?_
   rintro _ _ ⟨rfl,rfl⟩
   simp only [go_sem]
   refine cV E [22,0] none (K.map i64) rfl (by simp only [go_sem];rfl) ?_
   simp only [go_sem]
   refine ab E (hfc) rfl rfl (by simp) ?_
   rintro _ rfl
   simp only [go_sem]
   refine dc E (X:={ q:Nat // q≤F.length∧∀ j,j<q→b7 (ts.getD j az)=true })
    (fun y=>[(0,.at [100] 0),(1,.d (i64 i)),(4,.at [4] 0),(5,.at [5] 0),(6,.d (.sl none (K.map i64))),(24,.d (.sl none (F.map i64))),(25,.d (i64 F.length)),(26,.d (i64 y.1))])
    (fun _=>[([100],.box [.d (.sl (some 9) (xs.map enD)),.d (i64 h0)]),([4],.box [.d .nils]),([5],.box [.d (i64 n.k),.d (i64 n.a),.d (i64 n.b),.d (i64 n.c),.d (i64 n.n),.d (.str n.name),.d (.str n.s),.d (.sl (some 3) (n.l.map fD)),.d (i64 n.pos)])]) [4,5,100] (fun y=>F.length-y.1) ⟨0,Nat.zero_le _,fun j hj=>absurd hj (Nat.not_lt_zero _)⟩ ?_ ?_
   ·simp only [go_sem]
    all_goals first | rfl | exact ⟨rfl,rfl⟩
   rintro ⟨q,hq,hva⟩ E0
   refine aT E0 fun Q' hQ E'=>?_
   simp only at hq hva ⊢
   simp only [go_sem]
   refine ai E' (fun f1=>?_) (fun f1=>?_)<;>simp only [go_sem]
   ·have hq':q<F.length:=by omega
    obtain ⟨a,ha,hai,hta⟩:=hkt q (by omega)
    have hfq:=(hfb q (by omega)).1.2 hq'
    have hFq:F.getD q 0=(a:Int):=((hfb q (by omega)).2 hfq).trans ha
    have c1:=GK (G:=G) ht h.may h0 (show a<xs.length by omega)
    have c2:=ih a h0 (by omega) (by omega)
    unfold spO at c1
    refine ⟨⟨by omega,by omega⟩,?_⟩
    rw [aw hq',hFq]
    simp only [go_sem]
    refine ae E' _ _ _ c1 rfl rfl ⟨by simp only [go_sem],by first | (rw [aa];decide) | (simp only [go_sem]<;>(try rw [aa])<;>decide)⟩ (by simp only [go_sem]) (by simp only [go_sem]) (by simp only [go_sem]) ?_
    rintro _ _ ⟨rfl,rfl⟩
    refine ⟨by simp only [go_sem];try omega,?_⟩
    simp only [go_sem]
    cases hv:b7 (trE xs a) with
    | true =>
      simp only [go_sem]
      rw [ak ⟨by omega,by omega⟩,hQ]
      simp only [go_sem]
      refine ⟨⟨q+1,by omega,fun j hj=>?_⟩,by show F.length-(q+1)<_;omega,?_⟩
      ·by_cases e:j=q
       ·rw [e,hta,hv]
       ·exact hva j (by omega)
      ·first | rfl | exact ⟨rfl,rfl⟩
    | false =>
      simp only [go_sem]
      have hs:=oY (can n) 0 ts q (by omega) (by rw [Nat.zero_add];exact hfq) (by rw [hta,hv]) (fun j' hj' _=>hva j' hj')
      rw [hta] at hs
      have hst2:st=if (stT (trE xs a)).1=5 then (5,.mk (can n) (ts.set q (stT (trE xs a)).2)) else ((stT (trE xs a)).1,az):=by
       rw [hst,stT,hs]
      have hsg:=kS (can n) 0 ts htg hlk.2 _ _ hs
      generalize stT (trE xs a)=u at c2 hst2 hsg
      obtain ⟨uh,ur⟩:=u
      simp only at c2 hst2 hsg
      by_cases h5:uh=5
      ·subst h5
       rw [if_pos rfl] at hst2
       rw [cD] at c2
       unfold exD at c2
       refine ae E' _ _ _ c2 rfl rfl ⟨by simp only [go_sem],by first | (rw [aa];decide) | (simp only [go_sem]<;>(try rw [aa])<;>decide)⟩ (by simp only [go_sem]) (by simp only [go_sem]) (by simp only [go_sem]) ?_
       rintro _ _ ⟨rfl,rfl⟩
       refine ⟨by simp only [go_sem];try omega,?_⟩
       simp only [go_sem]
       obtain ⟨us,hus⟩:∃ us,us=ts.set q ur:=⟨_,rfl⟩
       rw [← hus] at hsg hst2
       obtain ⟨hul,hug⟩:=hsg
       obtain ⟨hug,huz⟩:=hug rfl
       have hus2:∀ p,p<K.length→us.getD p az=if p=q then ur else ts.getD p az:=fun p hp=>by rw [hus,GB (by omega)]
       have hzz:szs us≤720000:=by
        rw [er] at hsz
        have:=Nat.mul_le_mul (show szs ts≤600 by omega) (show szs ts≤600 by omega)
        omega
       have c3:=Dw (G:=G) (n:=n) (ts:=us) hsi (by rw [← hKw,hul,htl]) hug (by omega) (by omega)
       rw [aP n] at c3
       refine ml E' 10 98 (some 1) rfl (by rw [aa];decide) ?_
       simp only [go_sem]
       refine aE E' (X:={ p:Nat // p≤K.length }) (fun y=>[(0,.at [100] 0),(1,.d (i64 i)),(4,.at [4] 0),(5,.at [5] 0),(6,.d (.sl none (K.map i64))),(8,.d (i64 a)),(9,.at [9] 0),(10,.vw [98] 0 y.1),(42,.d (.sl none (K.map i64))),(43,.d (i64 K.length)),(44,.d (i64 y.1))])
        (fun y=>[([100],.box [.d (.sl (some 9) (xs.map enD)),.d (i64 5)]),([4],.box [.d .nils]),([5],.box [.d (i64 n.k),.d (i64 n.a),.d (i64 n.b),.d (i64 n.c),.d (i64 n.n),.d (.str n.name),.d (.str n.s),.d (.sl (some 3) (n.l.map fD)),.d (i64 n.pos)]),([9],.box [.d (.sl (some 9) (ur.enc.map enD))]),([98],.arr (some 1) ((us.take y.1).map fun t=>exD t.enc))]) [98,9,4,5,100] (fun y=>K.length-y.1) ⟨0,Nat.zero_le _⟩ id ?_ ?_
       ·simp only [go_sem]
        all_goals first | rfl | exact ⟨rfl,rfl⟩
       rintro ⟨p,hp⟩ E2
       refine aT E2 fun Q2 hQ2 E3=>?_
       simp only at hp ⊢
       simp only [go_sem]
       refine ai E3 (fun g1=>?_) (fun g1=>?_)<;>simp only [go_sem]
       ·have hp':p<K.length:=by omega
        obtain ⟨b,hb,hbi,htb⟩:=hkt p hp'
        have hst3:us.take (p+1)=us.take p++[us.getD p az]:=qH (by omega)
        rw [hus2 p hp'] at hst3
        refine ⟨⟨by omega,by omega⟩,?_⟩
        rw [aw hp',hb]
        simp only [go_sem]
        refine ai E3 (fun g2=>?_) (fun g2=>?_)<;>simp only [go_sem]
        ·have hpq:p=q:=by
          have h1:K[p]=(b:Int):=by simpa [hp'] using hb
          have h2:K[q]'(by omega)=(a:Int):=by simpa [show q<K.length by omega] using ha
          have h3:=List.Nodup.idxOf_getElem hnd p hp'
          have h4:=List.Nodup.idxOf_getElem hnd q (by omega)
          rw [h1,g2] at h3
          rw [h2] at h4
          omega
         rw [if_pos hpq] at hst3
         refine ⟨by omega,?_⟩
         rw [show List.take p (List.map (fun t:RT=>exD t.enc) (us.take p))++[.agg [.sl (some 9) (List.map enD (RT.enc ur))]]=(us.take (p+1)).map (fun t:RT=>exD t.enc) by
          rw [List.take_of_length_le (by rw [List.length_map,List.length_take];omega),hst3,List.map_append];rfl]
         rw [ak ⟨by omega,by omega⟩,hQ2]
         simp only [go_sem]
         refine ⟨⟨p+1,by omega⟩,by show K.length-(p+1)<_;omega,tau [([98],[54])],?_⟩
         simp only [go_sem]
         all_goals first | rfl | exact ⟨rfl,rfl⟩
        ·have hpq:p≠q:=by
          rintro rfl
          rw [ha] at hb
          exact g2 hb.symm
         rw [if_neg hpq,htb] at hst3
         have c4:=cH (G:=G) ht h.may 5 (show b<xs.length by omega)
         rw [← cT ht (by omega)] at c4
         unfold spO exD at c4
         refine ae E3 _ _ _ c4 rfl rfl ⟨by simp only [go_sem],by first | (rw [aa];decide) | (simp only [go_sem]<;>(try rw [aa])<;>decide)⟩ (by simp only [go_sem]) (by simp only [go_sem]) (by simp only [go_sem]) ?_
         rintro _ _ ⟨rfl,rfl⟩
         refine ⟨by simp only [go_sem];try omega,?_⟩
         simp only [go_sem]
         refine ⟨by omega,?_⟩
         rw [show List.take p (List.map (fun t:RT=>exD t.enc) (us.take p))++[.agg [.sl (some 9) (List.map enD (RT.enc (trE xs b)))]]=(us.take (p+1)).map (fun t:RT=>exD t.enc) by
          rw [List.take_of_length_le (by rw [List.length_map,List.length_take];omega),hst3,List.map_append];rfl]
         rw [ak ⟨by omega,by omega⟩,hQ2]
         simp only [go_sem]
         refine ⟨⟨p+1,by omega⟩,by show K.length-(p+1)<_;omega,tau [([98],[60])],?_⟩
         simp only [go_sem]
         all_goals first | rfl | exact ⟨rfl,rfl⟩
       ·have h3:p=K.length:=by omega
        subst h3
        rw [hQ2,List.take_of_length_le (show us.length≤K.length by omega)]
        simp only [go_sem]
        refine cV E' [98] (some 1) (us.map fun t=>exD t.enc) rfl (by simp only [go_sem];rfl) ?_
        simp only [go_sem]
        rw [List.take_of_length_le (by rw [List.length_map];omega)]
        refine ab E' c3 rfl rfl (by simp) ?_
        rintro _ rfl
        unfold exD
        simp only [go_sem]
        rw [hQ]
        simp only [go_sem]
        subst hst2
        rw [cD] at hS
        unfold exD at hS
        obtain rfl:D.sl (some 9) (List.map enD (RT.mk (can n) us).enc)=S:=by injection hS with hS;injection hS
        refine ⟨_,_,[100],id,⟨rfl,rfl⟩,?_⟩
        simp only [go_sem]
      ·rw [if_neg h5] at hst2
       rw [bx h5] at c2
       refine ae E' _ _ _ c2 rfl rfl ⟨by simp only [go_sem],by first | (rw [aa];decide) | (simp only [go_sem]<;>(try rw [aa])<;>decide)⟩ (by simp only [go_sem]) (by simp only [go_sem]) (by simp only [go_sem]) ?_
       rintro _ _ ⟨rfl,rfl⟩
       refine ⟨by simp only [go_sem];try omega,?_⟩
       simp only [go_sem]
       rw [decide_eq_true h5]
       simp only [go_sem]
       rw [hQ]
       simp only [go_sem]
       subst hst2
       rw [bx h5] at hS
       obtain rfl:D.nils=S:=by injection hS with hS;injection hS
       refine ⟨_,_,[100],id,⟨rfl,rfl⟩,?_⟩
       simp only [go_sem]
   ·have h3:q=F.length:=by omega
    subst h3
    have hs:=nQ (can n) 0 ts (fun j hj hfj=>hva j ((hfb j (by omega)).1.1 (by rw [Nat.zero_add] at hfj;exact hfj)))
    have hst2:st=ar (can n) ts:=by rw [hst,stT,hs]
    rw [hQ]
    simp only [go_sem]
    rw [← hst2,hS,aP n] at hcr
    refine ae E _ _ _ hcr rfl rfl ⟨by simp only [go_sem],by first | (rw [aa];decide) | (simp only [go_sem]<;>(try rw [aa])<;>decide)⟩ (by simp only [go_sem]) (by simp only [go_sem]) (by simp only [go_sem]) ?_
    rintro _ _ ⟨rfl,rfl⟩
    refine ⟨by simp only [go_sem];try omega,?_⟩
    simp only [go_sem]
    refine ⟨_,_,[100],id,⟨rfl,rfl⟩,?_⟩
    simp only [go_sem]
end Go.Proofs.YtejpnabbmgpmaaaGreat

namespace Go.Proofs.YtejpnabbmgpmaaaGreat
open Go.Ab
def aQ (ns:List EN):List EN × Int × Int :=
 if bL ns≠0 then ([],0,bL ns) else if b7 (trE ns (ns.length-1)) then (kD ns,1,0) else
 if (stT (trE ns (ns.length-1))).1≠5 then (kD ns,(stT (trE ns (ns.length-1))).1,0) else
 if bL (stT (trE ns (ns.length-1))).2.enc≠0 then ([],0,bL (stT (trE ns (ns.length-1))).2.enc) else ((stT (trE ns (ns.length-1))).2.enc,5,0)
def gE (q:List EN × Int × Int):AV:=.tup [.d (if q.2.2=0 then exD q.1 else .agg [.nils]),.d (i64 q.2.1),.d (i64 q.2.2)]
structure Any (ns:List EN):Prop where
 sane:∀ n∈ns,ff BIG n
 few:ns.length≤1000000
 rng:∀ n∈ns,inR n.n
theorem ou {ns:List EN} (h:Run ns) (_hv:b7 (trE ns (ns.length-1))=false) (h5:(stT (trE ns (ns.length-1))).1=5):Any (stT (trE ns (ns.length-1))).2.enc∧∀ n∈(stT (trE ns (ns.length-1))).2.enc,n.l.length≤30:=by
 have ht:=h.t
 have hp:=ht.pos
 have hgd:=dW ht h.rng (show ns.length-1<ns.length by omega)
 obtain ⟨g1,g2⟩:=yI _ hgd (xz ht ns.length (ns.length-1) (by omega) (by omega)) h5
 have hsz:=iT h (show ns.length-1<ns.length by omega)
 have:=Nat.mul_le_mul hsz hsz
 refine ⟨⟨fun n hn=>nt (bY _ g1.rt n hn).1,?_,fun n hn=>(bY _ g1.rt n hn).2⟩,fun n hn=>fy (bY _ g1.rt n hn).1⟩
 show (stT (trE ns (ns.length-1))).2.sz≤_
 omega
set_option maxHeartbeats 1000000 in
theorem v7 {G} (ns:List EN) (ha:Any ns):HP Tryz.prog G 32 [exD ns] (fun r=>r=gE (aQ ns)):=by
 obtain ⟨R,hR⟩:∃ R,R=aQ ns:=⟨_,rfl⟩
 rw [← hR]
 unfold aQ at hR
 by_cases hm:bL ns=0
 ·have h:Run ns:=⟨hm,ha.rng⟩
  have ht:=h.t
  have hp:=ht.pos
  rw [if_neg (by simp [hm])] at hR
  have hi:ns.length-1<ns.length:=by omega
  have c1:=x7 (G:=G) ht hm
  have hx:=jm h hi
  have hxp:=hx.t.pos
  have htx:=vL ht hi
  have c2:=Dm (G:=G) hx.t hx.may
  have c3:=CW (G:=G) hx (sbE ns (ns.length-1)).length ((sbE ns (ns.length-1)).length-1) 0 (by omega) (by omega)
  rw [htx] at c2 c3
  have hsf:=ou h
  have hxl:(sbE ns (ns.length-1)).length≤600:=hx.t.few
  unfold kD at c1 hR
  generalize sbE ns (ns.length-1)=X at *
  generalize trE ns (ns.length-1)=t at *
  cases hv:b7 t with
  | true =>
    rw [hv,if_pos rfl] at hR
    subst hR
    rw [hv] at c2
    unfold exD at *
    refine au Tryz.func32 rfl (by decide +kernel) (by simp [Tryz.ntmps32]) (veil fun E=>?_)
    simp only [go_sem]
    refine ab E (c1) rfl rfl (by simp) ?_
    rintro _ rfl
    simp only [go_sem]
    refine ab E (c2) rfl rfl (by simp) ?_
    rintro _ rfl
    simp only [go_sem]
    unfold gE
    refine ⟨[],?_⟩
    simp only [go_sem]
    rfl
  | false =>
    rw [hv,if_neg (by decide)] at hR
    rw [hv] at c2
    obtain ⟨q,hq⟩:∃ q,q=stT t:=⟨_,rfl⟩
    have hsf:=hsf hv
    rw [← hq] at c3 hR hsf
    obtain ⟨S,hS⟩:=iO q
    rw [hS,show ((X.length-1:Nat):Int)=(X.length:Int)-1 by omega] at c3
    unfold spO at c3
    unfold exD at c1 c2 ⊢
    refine au Tryz.func32 rfl (by decide +kernel) (by simp [Tryz.ntmps32]) (veil fun E=>?_)
    simp only [go_sem]
    refine ab E (c1) rfl rfl (by simp) ?_
    rintro _ rfl
    simp only [go_sem]
    refine ab E (c2) rfl rfl (by simp) ?_
    rintro _ rfl
    simp only [go_sem]
    rw [ak ⟨by omega,by omega⟩]
    refine dC E (tau [([100],[25])]) _ _ _ c3 rfl (by simp only [go_sem];try rfl) ⟨by simp only [go_sem],by first | (rw [aa];decide) | (simp only [go_sem]<;>(try rw [aa])<;>decide)⟩ rfl (by simp only [go_sem];try rfl) (by simp only [go_sem]) ?_
    rintro _ _ ⟨rfl,rfl⟩
    refine ⟨by simp only [go_sem];try simp;try omega,?_⟩
    simp only [go_sem]
    by_cases h5:q.1=5
    ·rw [decide_eq_false (show ¬ ¬ q.1=5 by simp [h5])]
     rw [if_neg (by simp [h5])] at hR
     obtain ⟨g1,_⟩:=hsf h5
     have c4:=lL (G:=G) q.2.enc g1.sane g1.few
     obtain ⟨qh,qt⟩:=q
     simp only at h5 hR c4 hS
     subst h5
     rw [cD] at hS
     unfold exD at hS
     obtain rfl:D.sl (some 9) (List.map enD qt.enc)=S:=by injection hS with hS;injection hS
     generalize qt.enc=Y at *
     unfold exD at c4
     simp only [go_sem]
     refine ab E (c4) rfl rfl (by simp) ?_
     rintro _ rfl
     simp only [go_sem]
     by_cases hy:bL Y=0
     ·rw [decide_eq_false (show ¬ ¬ bL Y=0 by simp [hy])]
      rw [if_neg (by simp [hy])] at hR
      subst hR
      simp only [go_sem]
      unfold gE
      refine ⟨[],?_⟩
      simp only [go_sem]
      rfl
     ·rw [decide_eq_true hy]
      rw [if_pos hy] at hR
      subst hR
      simp only [go_sem]
      unfold gE
      refine ⟨[],?_⟩
      simp only [go_sem]
      rw [if_neg hy]
    ·rw [decide_eq_true h5]
     rw [if_pos h5] at hR
     subst hR
     simp only [go_sem]
     refine aj mixed E fun X2=>?_
     simp only [go_sem]
     refine b9 X2 (d:=39) [25] 0 none [.d (.sl (some 9) (X.map enD)),.d (i64 q.1)] (by simp only [go_sem]) rfl rfl ?_
     simp only [go_sem]
     refine ⟨by decide +kernel,?_⟩
     unfold gE
     refine ⟨[],?_⟩
     simp only [go_sem]
     rfl
 ·rw [if_pos hm] at hR
  subst hR
  have c1:=y7 (G:=G) hm ha.sane ha.few
  generalize bL ns=m at *
  unfold exD at *
  refine au Tryz.func32 rfl (by decide +kernel) (by simp [Tryz.ntmps32]) (veil fun E=>?_)
  simp only [go_sem]
  refine ab E (c1) rfl rfl (by simp) ?_
  rintro _ rfl
  simp only [go_sem]
  rw [decide_eq_true hm]
  simp only [go_sem]
  unfold gE
  refine ⟨[],?_⟩
  simp only [go_sem]
  rw [if_neg hm]
end Go.Proofs.YtejpnabbmgpmaaaGreat

namespace Go.Proofs.YtejpnabbmgpmaaaGreat
open Go.Ab
theorem v5 {ks:List Int} {o:Nat} {l:List EF} {q:Nat} (hq:q<l.length) (hk:o+l.length≤ks.length):aV ks o (l.take (q+1)) 0=aV ks o (l.take q) 0++[{ fdE l q with to:=ks.getD (o+q) 0 }]:=by
 rw [List.take_succ_eq_append_getElem hq,ma]
 simp only [aV,Nat.zero_add,List.length_take,Nat.min_eq_left (Nat.le_of_lt hq)]
 rw [if_pos (by omega),show fdE l q=l[q] by simp [fdE,hq]]
set_option maxHeartbeats 1000000 in
theorem nf {G} (n:EN) (ks:List Int) (hl:n.l.length≤900000) (hw:ks.length=aA n):HP Tryz.prog G 143 [enD n,.sl none (ks.map i64)] (fun r=>r=.d (enD (aK n ks))):=by
 have hk3:=bn n.k
 obtain ⟨a,ha⟩:∃ a,a=if 0<aI n.k then ks.getD 0 0 else 0:=⟨_,rfl⟩
 obtain ⟨b,hb⟩:∃ b,b=if 1<aI n.k then ks.getD 1 0 else 0:=⟨_,rfl⟩
 obtain ⟨c,hc⟩:∃ c,c=if 2<aI n.k then ks.getD 2 0 else 0:=⟨_,rfl⟩
 obtain ⟨L,hL⟩:∃ L,L=if aG n.k then aV ks (aI n.k) n.l 0 else []:=⟨_,rfl⟩
 have hR:aK n ks={ n with a:=a,b:=b,c:=c,l:=L }:=by rw [ha,hb,hc,hL];rfl
 rw [hR,aP n]
 rw [show enD { n with a:=a,b:=b,c:=c,l:=L }=.agg [i64 n.k,i64 a,i64 b,i64 c,i64 n.n,.str n.name,.str n.s,.sl (some 3) (L.map fD),i64 n.pos] from rfl]
 refine ir Tryz.func143 rfl (by decide +kernel) (by simp [Tryz.ntmps143]) fun B0 hB0=>?_
 refine aC (an fun E=>?_)
 simp only [go_sem]
 refine aC (an fun E=>?_)
 simp only [go_sem]
 refine aC (an fun E=>?_)
 simp only [go_sem]
 refine np [5] 7 99 (some 3) _ rfl rfl (by rw [aa];decide) ?_
 simp only [go_sem]
 refine aC (an fun E=>?_)
 simp only [go_sem]
 refine aC (lW [(1,.d (.sl none (ks.map i64))),(2,.at [2] 0),(4,.at [4] 0),(5,.at [5] 0),(6,.d (i64 (aI n.k:Nat)))]
  [([2],.box [.d (i64 n.k),.d (i64 n.a),.d (i64 n.b),.d (i64 n.c),.d (i64 n.n),.d (.str n.name),.d (.str n.s),.d (.sl (some 3) (n.l.map fD)),.d (i64 n.pos)]),([4],.box [.d (i64 0),.d (i64 0),.d (i64 0),.d (i64 0),.d (i64 0),.d (.str []),.d (.str []),.d .nils,.d (i64 0)]),([5],.box [.d (i64 n.k),.d (i64 0),.d (i64 0),.d (i64 0),.d (i64 n.n),.d (.str n.name),.d (.str n.s),.vw [99] 0 L.length,.d (i64 n.pos)]),([99],.arr (some 3) (L.map fD))]
  [2,4,5,99] (fun E=>?_) ?_)
 ·simp only [go_sem]
  by_cases hp:n.k=11∨n.k=14
  ·have hpz:aG n.k=true:=by rcases hp with h | h<;>rw [h]<;>rfl
   rw [hpz,if_pos rfl] at hL
   have hwl:ks.length=aI n.k+n.l.length:=by rw [hw];unfold aA;rw [hpz];rfl
   have hLl:L.length=n.l.length:=by rw [hL,cy]
   rcases hp with hx | hx
   all_goals
    first
    | (rw [decide_eq_true (show n.k=11 from hx)];simp only [go_sem])
    | (rw [decide_eq_false (show ¬ n.k=11 by omega)];simp only [go_sem];rw [decide_eq_true (show n.k=14 from hx)];simp only [go_sem])
    rw [ak ⟨by omega,by omega⟩,show (ks.length:Int)-(n.l.length:Int)=(aI n.k:Nat) by omega]
    refine aE E (X:={ q:Nat // q≤n.l.length }) (fun y=>[(1,.d (.sl none (ks.map i64))),(2,.at [2] 0),(4,.at [4] 0),(5,.at [5] 0),(6,.d (i64 (aI n.k:Nat))),(7,.d (i64 y.1))])
     (fun y=>[([2],.box [.d (i64 n.k),.d (i64 n.a),.d (i64 n.b),.d (i64 n.c),.d (i64 n.n),.d (.str n.name),.d (.str n.s),.d (.sl (some 3) (n.l.map fD)),.d (i64 n.pos)]),([4],.box [.d (i64 0),.d (i64 0),.d (i64 0),.d (i64 0),.d (i64 0),.d (.str []),.d (.str []),.d .nils,.d (i64 0)]),([5],.box [.d (i64 n.k),.d (i64 0),.d (i64 0),.d (i64 0),.d (i64 n.n),.d (.str n.name),.d (.str n.s),.vw [99] 0 y.1,.d (i64 n.pos)]),([99],.arr (some 3) ((aV ks (aI n.k) (n.l.take y.1) 0).map fD))]) [2,4,5,99] (fun y=>n.l.length-y.1) ⟨0,Nat.zero_le _⟩ id ?_ ?_
    ·simp only [go_sem]
     all_goals first | rfl | exact ⟨rfl,rfl⟩
    rintro ⟨q,hq⟩ E0
    refine aT E0 fun Q' hQ E'=>?_
    simp only at hq ⊢
    simp only [go_sem]
    refine ai E' (fun f1=>?_) (fun f1=>?_)<;>simp only [go_sem]
    ·have hq':q<n.l.length:=by omega
     have hsn:=v5 (ks:=ks) (o:=aI n.k) hq' (by omega)
     have hln:(aV ks (aI n.k) (n.l.take q) 0).length=q:=by rw [cy,List.length_take];omega
     refine ⟨⟨by omega,by omega⟩,?_⟩
     rw [cR hq']
     simp only [go_sem]
     rw [ak (n:=((aI n.k:Nat):Int)+(q:Int)) ⟨by omega,by omega⟩]
     refine ⟨⟨by omega,by omega⟩,?_⟩
     rw [show (((aI n.k:Nat):Int)+(q:Int)).toNat=aI n.k+q by omega,aw (by omega)]
     simp only [go_sem]
     refine ⟨by omega,?_⟩
     rw [show List.take q (List.map fD (aV ks (aI n.k) (n.l.take q) 0))++[.agg [.str (fdE n.l q).nm,.str (fdE n.l q).var,i64 (ks.getD (aI n.k+q) 0)]]=(aV ks (aI n.k) (n.l.take (q+1)) 0).map fD by
      rw [List.take_of_length_le (by rw [List.length_map];omega),hsn,List.map_append];rfl]
     rw [ak (n:=(q:Int)+1) ⟨by omega,by omega⟩,hQ]
     simp only [go_sem]
     refine ⟨⟨q+1,by omega⟩,by show n.l.length-(q+1)<_;omega,tau [([99],[51])],?_⟩
     simp only [go_sem]
     all_goals first | rfl | exact ⟨rfl,rfl⟩
    ·have h3:q=n.l.length:=by omega
     subst h3
     rw [List.take_length,← hL,hQ]
     simp only [go_sem]
     refine dM id ?_
     rw [hLl]
     simp only [go_sem]
     all_goals first | rfl | exact ⟨rfl,rfl⟩
  ·have hpz:aG n.k=false:=by unfold aG;simp;omega
   rw [hpz,if_neg (by decide)] at hL
   have hwl:ks.length=aI n.k:=by rw [hw];exact cC hpz
   subst hL
   rw [decide_eq_false (show ¬ n.k=11 by omega)]
   simp only [go_sem]
   rw [decide_eq_false (show ¬ n.k=14 by omega)]
   simp only [go_sem]
   rw [hwl]
   refine dM id ?_
   simp only [go_sem]
   all_goals first | rfl | exact ⟨rfl,rfl⟩
 have hwk:aI n.k≤ks.length:=by rw [hw];unfold aA;omega
 refine aC (lW [(1,.d (.sl none (ks.map i64))),(2,.at [2] 0),(4,.at [4] 0),(5,.at [5] 0),(6,.d (i64 (aI n.k:Nat)))]
  [([2],.box [.d (i64 n.k),.d (i64 n.a),.d (i64 n.b),.d (i64 n.c),.d (i64 n.n),.d (.str n.name),.d (.str n.s),.d (.sl (some 3) (n.l.map fD)),.d (i64 n.pos)]),([4],.box [.d (i64 0),.d (i64 0),.d (i64 0),.d (i64 0),.d (i64 0),.d (.str []),.d (.str []),.d .nils,.d (i64 0)]),([5],.box [.d (i64 n.k),.d (i64 a),.d (i64 0),.d (i64 0),.d (i64 n.n),.d (.str n.name),.d (.str n.s),.vw [99] 0 L.length,.d (i64 n.pos)]),([99],.arr (some 3) (L.map fD))]
  [2,4,5,99] (fun E=>?_) ?_)
 ·simp only [go_sem]
  refine ai E (fun g=>?_) (fun g=>?_)<;>simp only [go_sem]
  ·refine ⟨by omega,?_⟩
   rw [aw (by omega)]
   simp only [go_sem]
   rw [if_pos (by omega)] at ha
   rw [← ha]
   refine dM id ?_
   simp only [go_sem]
   all_goals first | rfl | exact ⟨rfl,rfl⟩
  ·rw [if_neg (by omega)] at ha
   subst ha
   refine dM id ?_
   simp only [go_sem]
   all_goals first | rfl | exact ⟨rfl,rfl⟩
 refine aC (lW [(1,.d (.sl none (ks.map i64))),(2,.at [2] 0),(4,.at [4] 0),(5,.at [5] 0),(6,.d (i64 (aI n.k:Nat)))]
  [([2],.box [.d (i64 n.k),.d (i64 n.a),.d (i64 n.b),.d (i64 n.c),.d (i64 n.n),.d (.str n.name),.d (.str n.s),.d (.sl (some 3) (n.l.map fD)),.d (i64 n.pos)]),([4],.box [.d (i64 0),.d (i64 0),.d (i64 0),.d (i64 0),.d (i64 0),.d (.str []),.d (.str []),.d .nils,.d (i64 0)]),([5],.box [.d (i64 n.k),.d (i64 a),.d (i64 b),.d (i64 0),.d (i64 n.n),.d (.str n.name),.d (.str n.s),.vw [99] 0 L.length,.d (i64 n.pos)]),([99],.arr (some 3) (L.map fD))]
  [2,4,5,99] (fun E=>?_) ?_)
 ·simp only [go_sem]
  refine ai E (fun g=>?_) (fun g=>?_)<;>simp only [go_sem]
  ·refine ⟨by omega,?_⟩
   rw [aw (by omega)]
   simp only [go_sem]
   rw [if_pos (by omega)] at hb
   rw [← hb]
   refine dM id ?_
   simp only [go_sem]
   all_goals first | rfl | exact ⟨rfl,rfl⟩
  ·rw [if_neg (by omega)] at hb
   subst hb
   refine dM id ?_
   simp only [go_sem]
   all_goals first | rfl | exact ⟨rfl,rfl⟩
 refine aC (lW [(1,.d (.sl none (ks.map i64))),(2,.at [2] 0),(4,.at [4] 0),(5,.at [5] 0),(6,.d (i64 (aI n.k:Nat)))]
  [([2],.box [.d (i64 n.k),.d (i64 n.a),.d (i64 n.b),.d (i64 n.c),.d (i64 n.n),.d (.str n.name),.d (.str n.s),.d (.sl (some 3) (n.l.map fD)),.d (i64 n.pos)]),([4],.box [.d (i64 0),.d (i64 0),.d (i64 0),.d (i64 0),.d (i64 0),.d (.str []),.d (.str []),.d .nils,.d (i64 0)]),([5],.box [.d (i64 n.k),.d (i64 a),.d (i64 b),.d (i64 c),.d (i64 n.n),.d (.str n.name),.d (.str n.s),.vw [99] 0 L.length,.d (i64 n.pos)]),([99],.arr (some 3) (L.map fD))]
  [2,4,5,99] (fun E=>?_) ?_)
 ·simp only [go_sem]
  refine ai E (fun g=>?_) (fun g=>?_)<;>simp only [go_sem]
  ·refine ⟨by omega,?_⟩
   rw [aw (by omega)]
   simp only [go_sem]
   rw [if_pos (by omega)] at hc
   rw [← hc]
   refine dM id ?_
   simp only [go_sem]
   all_goals first | rfl | exact ⟨rfl,rfl⟩
  ·rw [if_neg (by omega)] at hc
   subst hc
   refine dM id ?_
   simp only [go_sem]
   all_goals first | rfl | exact ⟨rfl,rfl⟩
 refine an fun E=>?_
 simp only [go_sem]
 refine fF (.inl rfl) hB0 ?_
 simp only [go_sem]
 refine ⟨[([99],some 3,L.map fD)],?_⟩
 simp only [go_sem]
end Go.Proofs.YtejpnabbmgpmaaaGreat

namespace Go.Ab
def wrS (σ:Name→Name) (d:Nat) (chp hp':List (Name × Ob)):List (Name × Option Ob):=((hp'.map fun x:Name × Ob=>(dF σ d chp x.1,some (x.2.ren (dF σ d chp))))++chp.map fun x:Name × Ob=>(σ x.1,none)).reverse
theorem zX (σ:Name→Name) (d:Nat) (chp hp':List (Name × Ob)):(wrS σ d chp hp').map (fun x=>x.1)=((hp'.map fun x:Name × Ob=>dF σ d chp x.1)++chp.map fun x:Name × Ob=>σ x.1).reverse:=by
 unfold wrS
 rw [List.map_reverse,List.map_append,List.map_map,List.map_map]
 rfl
attribute [go_sem] zX
theorem xX (s:St) (σ:Name→Name) (d:Nat) (chp hp':List (Name × Ob)) (r:AV):aft s σ d chp hp' r=s.go (some d) (r.ren (dF σ d chp)) ⟨wrS σ d chp hp',[d]⟩:=by
 refine wB (funext fun q=>?_) rfl fun t=>rfl
 show lkA (lkA (s.hp q) (chp.map fun x=>(σ x.1,none)) q) _ q=(wl (wrS σ d chp hp') q).getD (s.hp q)
 unfold wrS
 rw [w5,qV]
section
variable {P:Program} {cf:Cf} {ops:Array Oper} {K:St→Ns→Prop} {r:List Oper} {s:St} {ns:Ns}
theorem yg (E:XEng P cf ops K) {d:Nat} {fv:Operand} {args:Array Operand} {at':Array TypeId} {ty:TypeId} {pos:String} {af:Array Edge} {g:Option (Nat × Bool)}
  {f:FuncId} {caps:List AV} (σ:Name→Name) (cargs:List AV) (chp:List (Name × Ob)) (cu:List Nat) (x:AV) (hp':List (Name × Ob)) (hc:HCall P cf.G f cargs chp cu (fun y h=>y=x∧h=hp'))
  (hev:ev s fv=.clo f caps) (hargs:args.toList.map (ev s)++caps=ec σ cargs) (hd:d<cf.n∧d ∉ s.used) (hcu:dL cu cargs=true) (hpass:dv σ cu s chp) (hinj:lH σ chp)
  (hl:gB chp hp') (hk:E.run r (aft s σ d chp hp' x) (ns++[(chp.map (fun q=>σ q.1),(wrS σ d chp hp').map (·.1),[d])])) :
  E.stp { dst:=some d,op:=.call { callee:=.value fv,args:=args,argTypes:=at' },type:=ty,pos:=pos,after:=af,guard:=g } r s ns .no:=by
 rw [E.stp_eq]
 refine ⟨x.ren (dF σ d chp),(chp.map (fun q=>σ q.1),⟨wrS σ d chp hp',[d]⟩),fun s' hu hh he B hB ds' β a w hds hs Q'=>?_,fun y hy=>?_,hd.1,?_⟩
 ·have hm:∀ y,y=fv∨y∈args→ev s' y=ev s y:=fun y hy=>he y (by
   simp only [Op.operands,Call.operands]
   rcases hy with rfl | hy<;>simp_all)
  have hpass':dv σ cu s' chp:=by
   have:∀ l:List (Name × Ob),(∀ q∈l,σ q.1∈chp.map (fun q=>σ q.1))→dv σ cu s l→dv σ cu s' l:=by
    intro l
    induction l with
    | nil=>intros;trivial
    | cons q r ih =>
      intro hq h
      refine ⟨⟨?_,h.1.2⟩,ih (fun x hx=>hq x (List.mem_cons_of_mem _ hx)) h.2⟩
      rw [show s'.hp (σ q.1)=s.hp (σ q.1) from hh _ (hq q List.mem_cons_self)]
      exact h.1.1
   exact this chp (fun q hq=>List.mem_map.2 ⟨q,hq,rfl⟩) hpass
  have hok:AOk P cf { dst:=some d,op:=.call { callee:=.value fv,args:=args,argTypes:=at' },type:=ty,pos:=pos,after:=af,guard:=g } s' [] (fun _ s2=>s2=aft s' σ d chp hp' x):=by
   refine mY d σ cargs chp cu _ ((hm fv (.inl rfl)).trans hev) ?_ hcu (hu d (by simp)) (fun t ht=>?_) hpass' hinj hc fun y h hr=>?_
   ·rw [qP (s:=s) (s':=s') fun y hy=>hm y (.inr (by simpa using hy)),hargs]
   ·obtain rfl:=Option.some.inj ht
    exact ⟨hd.1,rfl⟩
   ·obtain ⟨rfl,rfl⟩:=hr
    exact ⟨hl,by rw [dB];rfl⟩
  refine Oper.wpIn_mono ?_ (hok B hB ds' β a w hds hs Q')
  rintro a' w' ⟨hd',s2,β',hrun,hs2⟩
  obtain ⟨_,s3,β3,rfl,hs3⟩:=hrun B hB ds' β' a' w' hd' hs2
  exact ⟨hd',β3,by rw [← xX];exact hs3⟩
 ·obtain rfl:=List.mem_singleton.1 hy
  exact hd.2
 ·rw [← E.run_eq,← xX]
  exact hk
end
end Go.Ab

namespace Go.Proofs.YtejpnabbmgpmaaaGreat
open Go.Ab
theorem Er (acc:List EN) (rs:List Int):∀ (ls:List (List EN)) (X:List EN) (Y:List Int),bl ls (acc++X.map (av acc.length)) (rs++Y.map fun x:Int=>x+acc.length)=(acc++(bl ls X Y).1.map (av acc.length),rs++(bl ls X Y).2.map fun x:Int=>x+acc.length)
 | [],_,_=>rfl
 | l::r,X,Y=>by
   rw [bl,bl,← Er acc rs r]
   congr 1
   ·rw [List.length_append,List.length_map,List.append_assoc,List.map_append,List.map_map]
    congr 2
    refine List.map_congr_left fun x _=>?_
    show _=av acc.length (av X.length x)
    rw [fu]
   ·rw [List.map_append,← List.append_assoc]
    congr 1
    simp only [List.map_cons,List.map_nil,List.length_append,List.length_map]
    congr 1
    omega
theorem FZ {n:EN} {ls:List (List EN)} (hw:aA n=ls.length) (acc:List EN):(bl ls acc []).1++[aK n (bl ls acc []).2]=acc++(aD n ls).map (av acc.length):=by
 have:=Er acc [] ls [] []
 simp only [List.map_nil,List.append_nil,List.nil_append] at this
 rw [this]
 unfold aD
 rw [List.map_append,List.append_assoc]
 simp only [List.map_cons,List.map_nil]
 rw [oK acc.length (by rw [oS,hw])]
def cpE (ns:List EN) (K:List Int) (out:List EN) (q:Nat):List EN × List Int:=bl ((K.take q).map fun k=>(trE ns k.toNat).enc) out []
theorem xE {ns:List EN} {K:List Int} {out:List EN} {q k:Nat} (h:q<K.length) (hk:K.getD q 0=(k:Int)) :
  cpE ns K out (q+1)=((cpE ns K out q).1++(trE ns k).enc.map (av (cpE ns K out q).1.length),(cpE ns K out q).2++[(((cpE ns K out q).1.length+(trE ns k).enc.length:Nat):Int)-1]):=by
 have hk:K[q]=(k:Int):=by simpa [h] using hk
 unfold cpE
 rw [List.take_succ_eq_append_getElem h,List.map_append,List.map_cons,List.map_nil,og,hk,Int.toNat_natCast]
theorem qX (ns:List EN) (K:List Int) (out:List EN) (q:Nat):(cpE ns K out q).1.length=out.length+szs ((K.take q).map fun k=>trE ns k.toNat):=by
 unfold cpE
 rw [jB]
 congr 1
 unfold br szs
 rw [List.map_map,List.map_map]
 rfl
theorem En {α:Type} (f:α→RT) (K:List α) {q:Nat} (h:q<K.length):szs ((K.take q).map f)+(f K[q]).sz≤szs (K.map f):=by
 conv=>rhs;rw [← List.take_append_drop q K,List.map_append,List.drop_eq_getElem_cons h]
 unfold szs
 simp only [List.map_append,List.map_cons,List.sum_append,List.sum_cons]
 omega
theorem yP (ns:List EN) (K:List Int) (out:List EN) (q:Nat) (h:q≤K.length):(cpE ns K out q).2.length=q:=by
 unfold cpE
 rw [nA]
 simp
 omega
structure Low (ns:List EN):Prop where
 len:ns.length≤1000000
 l:∀ n∈ns,n.l.length≤900000
 k:∀ i,i<ns.length→(ag (ndE ns i)).all (inB i)=true
theorem Dl {ns:List EN} (h:Low ns) {i:Nat} (hi:i<ns.length) (out:List EN):(cpE ns (ag (ndE ns i)) out (ag (ndE ns i)).length).1++[aK (ndE ns i) (cpE ns (ag (ndE ns i)) out (ag (ndE ns i)).length).2]=out++(trE ns i).enc.map (av out.length):=by
 unfold cpE
 rw [List.take_length,FZ (by rw [List.length_map,aM]),mB h.k hi,RT.enc,bu,List.map_map,gj (by rw [List.length_map,aM];exact Nat.le_refl _)]
 rfl
theorem HH {ns:List EN} (h:Low ns) {i:Nat} (hi:i<ns.length):(trE ns i).sz=szs ((ag (ndE ns i)).map fun k=>trE ns k.toNat)+1:=by rw [mB h.k hi,er]
set_option maxHeartbeats 1000000 in
theorem xp {G} {ns:List EN} (h:Low ns):∀ (m i:Nat) (out:List EN),i<m→i<ns.length→out.length+(trE ns i).sz≤900000 →
  HCall Tryz.prog G 193 [.d (exD ns),.d (i64 (i:Int)),.vw [100] 0 out.length] [([100],.arr (some 9) (out.map enD))] [100] (fun r hp'=>r=.vw [0] 0 (out.length+(trE ns i).sz)∧hp'=[([0],.arr (some 9) ((out++(trE ns i).enc.map (av out.length)).map enD))])
 | 0,_,_,h,_,_=>absurd h (Nat.not_lt_zero _)
 | m+1,i,out,him,hi,hS=>by
   have ih:=xp (G:=G) h m
   have hg:=aN hi
   have hsi:=h.l _ (by rw [ba hi];exact List.getElem_mem hi:ndE ns i∈ns)
   have hlen:=h.len
   have hkn:∀ q,q<(ag (ndE ns i)).length→∃ k:Nat,(ag (ndE ns i)).getD q 0=(k:Int)∧k<i:=fun q hq=>by
    obtain ⟨h1,h2⟩:=ax h.k hi _ (List.getElem_mem hq)
    exact ⟨((ag (ndE ns i))[q]).toNat,by simp [hq];omega,by omega⟩
   have hend:=Dl h hi out
   have hTl:=HH h hi
   have hTl:(trE ns i).enc.length=szs ((ag (ndE ns i)).map fun k=>trE ns k.toNat)+1:=hTl
   have hSz:(trE ns i).sz=(trE ns i).enc.length:=rfl
   rw [hSz] at hS ⊢
   have hkc:=lI (G:=G) (ndE ns i) (by omega)
   obtain ⟨n,hne⟩:∃ n,n=ndE ns i:=⟨_,rfl⟩
   rw [← hne] at hg hsi hkn hend hTl hkc
   obtain ⟨K,hK⟩:∃ K,K=ag n:=⟨_,rfl⟩
   have hKw:K.length=aA n:=by rw [hK,aM]
   have hKl:K.length≤900003:=by rw [hKw];unfold aA;have:=bn n.k;split<;>omega
   rw [← hK] at hkn hend hTl hkc
   rw [aP n] at hkc
   generalize (trE ns i).enc=T at *
   unfold exD at *
   refine aq Tryz.func193 rfl (by decide +kernel) (by simp [Tryz.ntmps193]) (veil fun E=>?_)
   simp only [go_sem]
   refine ⟨⟨by omega,by omega⟩,?_⟩
   rw [hg]
   simp only [go_sem]
   refine ab E (hkc) rfl rfl (by simp) ?_
   rintro _ rfl
   simp only [go_sem]
   refine aE E (X:={ q:Nat // q≤K.length }) (fun y=>[(1,.d (i64 i)),(2,.vw [98] 0 (cpE ns K out y.1).1.length),(3,.at [3] 0),(7,.d (.sl none (K.map i64))),(8,.vw [97] 0 (cpE ns K out y.1).2.length),(9,.d (i64 y.1))])
    (fun y=>[([3],.box [.d (.sl (some 9) (ns.map enD))]),([98],.arr (some 9) ((cpE ns K out y.1).1.map enD)),([97],.arr none ((cpE ns K out y.1).2.map i64))]) [3,97,98,100] (fun y=>K.length-y.1) ⟨0,Nat.zero_le _⟩ (tau [([98],[100]),([97],[16])]) ?_ ?_
   ·simp only [go_sem]
    skip
    all_goals ((repeat' apply And.intro)<;>first | rfl | trivial)
   rintro ⟨q,hq⟩ E0
   refine aT E0 fun Q' hQ E'=>?_
   simp only at hq ⊢
   simp only [go_sem]
   refine ai E' (fun f1=>?_) (fun f1=>?_)<;>simp only [go_sem]
   ·have hq':q<K.length:=by omega
    obtain ⟨k,hk,hki⟩:=hkn q hq'
    have hst:=xE (ns:=ns) (out:=out) hq' hk
    have hl1:=qX ns K out q
    have hr1:=yP ns K out q hq
    have hz:=En (fun k:Int=>trE ns k.toNat) K hq'
    rw [show K[q]=(k:Int) by simpa [hq'] using hk,Int.toNat_natCast] at hz
    have c:=ih k (cpE ns K out q).1 (by omega) (by omega) (by omega)
    obtain ⟨acc,hacc⟩:∃ acc,acc=(cpE ns K out q).1:=⟨_,rfl⟩
    obtain ⟨rs,hrs⟩:∃ rs,rs=(cpE ns K out q).2:=⟨_,rfl⟩
    have hz2:(trE ns k).sz=(trE ns k).enc.length:=rfl
    rw [← hacc,← hrs] at hst
    rw [← hacc] at hl1 c
    rw [← hrs] at hr1
    rw [← hacc,← hrs]
    rw [hz2] at c hz
    generalize (trE ns k).enc=T at *
    refine aj mixed E' fun X=>?_
    simp only [go_sem]
    refine ⟨⟨by omega,by omega⟩,?_⟩
    rw [aw hq',hk]
    simp only [go_sem]
    refine yg X (tau [([100],[98])]) _ _ _ _ _ c rfl rfl ⟨by simp only [go_sem],by first | (rw [aa];decide) | (simp only [go_sem]<;>(try rw [aa])<;>decide)⟩ (by simp only [go_sem]) (by simp only [go_sem]) (by simp only [go_sem]) (by simp only [go_sem];try omega) ?_
    simp only [go_sem]
    refine ⟨by decide +kernel,?_⟩
    refine ⟨by omega,?_⟩
    rw [ak (n:=((acc.length+T.length:Nat):Int)-1) ⟨by omega,by omega⟩]
    rw [show List.map i64 rs++[i64 (((acc.length+T.length:Nat):Int)-1)]=(rs++[((acc.length+T.length:Nat):Int)-1]).map i64 by rw [List.map_append];rfl]
    rw [ak (n:=(q:Int)+1) ⟨by omega,by omega⟩,hQ]
    simp only [go_sem]
    refine ⟨⟨q+1,by omega⟩,by show K.length-(q+1)<_;omega,tau [([98],[29,0]),([97],[35])],?_⟩
    simp only [hst]
    simp only [go_sem]
    simp only [List.length_append,List.length_map,List.length_singleton]
    all_goals ((repeat' apply And.intro)<;>first | rfl | trivial)
   ·have h3:q=K.length:=by omega
    subst h3
    have hl1:=qX ns K out K.length
    have hr1:=yP ns K out K.length hq
    rw [List.take_length] at hl1
    obtain ⟨acc,hacc⟩:∃ acc,acc=(cpE ns K out K.length).1:=⟨_,rfl⟩
    obtain ⟨rs,hrs⟩:∃ rs,rs=(cpE ns K out K.length).2:=⟨_,rfl⟩
    rw [← hacc,← hrs] at hend
    rw [← hacc] at hl1
    rw [← hrs] at hr1
    rw [← hacc,← hrs,hQ]
    simp only [go_sem]
    refine ⟨⟨by omega,by omega⟩,?_⟩
    rw [hg]
    simp only [go_sem]
    refine cV E [97] none (rs.map i64) rfl (by simp only [go_sem];rfl) ?_
    simp only [go_sem]
    try rw [List.take_of_length_le (by rw [List.length_map];exact Nat.le_refl _)]
    have cw:=nf (G:=G) n rs (by omega) (by rw [hr1,hKw])
    rw [aP n] at cw
    obtain ⟨M,hM⟩:∃ M,M=aK n rs:=⟨_,rfl⟩
    rw [← hM] at cw hend
    rw [aP M] at cw
    refine ab E cw rfl rfl (by simp) ?_
    rintro _ rfl
    simp only [go_sem]
    refine ⟨by omega,?_⟩
    try rw [List.take_of_length_le (by rw [List.length_map];exact Nat.le_refl _)]
    rw [show List.map enD acc++[.agg [i64 M.k,i64 M.a,i64 M.b,i64 M.c,i64 M.n,.str M.name,.str M.s,.sl (some 3) (M.l.map fD),i64 M.pos]]=(out++T.map (av out.length)).map enD by
     rw [← hend,List.map_append];rfl]
    rw [show acc.length+1=out.length+T.length by rw [hTl,hl1];omega]
    refine ⟨_,_,[100,0],tau [([0],[45])],⟨rfl,rfl⟩,?_⟩
    simp only [go_sem]
theorem DR {G} {ns:List EN} (h:Low ns) {i:Nat} (hi:i<ns.length) (hS:(trE ns i).sz≤900000) :
  HCall Tryz.prog G 193 [.d (exD ns),.d (i64 (i:Int)),.d .nils] [] [] (fun r hp'=>r=.vw [0] 0 (([]:List EN).length+(trE ns i).sz)∧hp'=[([0],.arr (some 9) ((([]:List EN)++(trE ns i).enc.map (av ([]:List EN).length)).map enD))]):=by
 have ih:=xp (G:=G) h (i+1)
 obtain ⟨out,ho⟩:∃ out:List EN,out=[]:=⟨_,rfl⟩
 rw [← ho]
 have hS:out.length+(trE ns i).sz≤900000:=by rw [ho];simpa using hS
 have hg:=aN hi
 have hsi:=h.l _ (by rw [ba hi];exact List.getElem_mem hi:ndE ns i∈ns)
 have hlen:=h.len
 have hkn:∀ q,q<(ag (ndE ns i)).length→∃ k:Nat,(ag (ndE ns i)).getD q 0=(k:Int)∧k<i:=fun q hq=>by
  obtain ⟨h1,h2⟩:=ax h.k hi _ (List.getElem_mem hq)
  exact ⟨((ag (ndE ns i))[q]).toNat,by simp [hq];omega,by omega⟩
 have hend:=Dl h hi out
 have hTl:=HH h hi
 have hTl:(trE ns i).enc.length=szs ((ag (ndE ns i)).map fun k=>trE ns k.toNat)+1:=hTl
 have hSz:(trE ns i).sz=(trE ns i).enc.length:=rfl
 rw [hSz] at hS ⊢
 have hkc:=lI (G:=G) (ndE ns i) (by omega)
 obtain ⟨n,hne⟩:∃ n,n=ndE ns i:=⟨_,rfl⟩
 rw [← hne] at hg hsi hkn hend hTl hkc
 obtain ⟨K,hK⟩:∃ K,K=ag n:=⟨_,rfl⟩
 have hKw:K.length=aA n:=by rw [hK,aM]
 have hKl:K.length≤900003:=by rw [hKw];unfold aA;have:=bn n.k;split<;>omega
 rw [← hK] at hkn hend hTl hkc
 rw [aP n] at hkc
 generalize (trE ns i).enc=T at *
 unfold exD at *
 refine aq Tryz.func193 rfl (by decide +kernel) (by simp [Tryz.ntmps193]) (veil fun E=>?_)
 simp only [go_sem]
 refine ⟨⟨by omega,by omega⟩,?_⟩
 rw [hg]
 simp only [go_sem]
 refine H5 E 2 99 (some 9) rfl (by rw [aa];decide) ?_
 simp only [go_sem]
 refine ab E (hkc) rfl rfl (by simp) ?_
 rintro _ rfl
 simp only [go_sem]
 refine aE E (X:={ q:Nat // q≤K.length }) (fun y=>[(1,.d (i64 i)),(2,.vw [98] 0 (cpE ns K out y.1).1.length),(3,.at [3] 0),(7,.d (.sl none (K.map i64))),(8,.vw [97] 0 (cpE ns K out y.1).2.length),(9,.d (i64 y.1))])
  (fun y=>[([3],.box [.d (.sl (some 9) (ns.map enD))]),([98],.arr (some 9) ((cpE ns K out y.1).1.map enD)),([97],.arr none ((cpE ns K out y.1).2.map i64))]) [3,97,98,99] (fun y=>K.length-y.1) ⟨0,Nat.zero_le _⟩ (tau [([98],[99]),([97],[16])]) ?_ ?_
 ·simp only [go_sem]
  subst ho
  all_goals ((repeat' apply And.intro)<;>first | rfl | trivial)
 rintro ⟨q,hq⟩ E0
 refine aT E0 fun Q' hQ E'=>?_
 simp only at hq ⊢
 simp only [go_sem]
 refine ai E' (fun f1=>?_) (fun f1=>?_)<;>simp only [go_sem]
 ·have hq':q<K.length:=by omega
  obtain ⟨k,hk,hki⟩:=hkn q hq'
  have hst:=xE (ns:=ns) (out:=out) hq' hk
  have hl1:=qX ns K out q
  have hr1:=yP ns K out q hq
  have hz:=En (fun k:Int=>trE ns k.toNat) K hq'
  rw [show K[q]=(k:Int) by simpa [hq'] using hk,Int.toNat_natCast] at hz
  have c:=ih k (cpE ns K out q).1 (by omega) (by omega) (by omega)
  obtain ⟨acc,hacc⟩:∃ acc,acc=(cpE ns K out q).1:=⟨_,rfl⟩
  obtain ⟨rs,hrs⟩:∃ rs,rs=(cpE ns K out q).2:=⟨_,rfl⟩
  have hz2:(trE ns k).sz=(trE ns k).enc.length:=rfl
  rw [← hacc,← hrs] at hst
  rw [← hacc] at hl1 c
  rw [← hrs] at hr1
  rw [← hacc,← hrs]
  rw [hz2] at c hz
  generalize (trE ns k).enc=T at *
  refine aj mixed E' fun X=>?_
  simp only [go_sem]
  refine ⟨⟨by omega,by omega⟩,?_⟩
  rw [aw hq',hk]
  simp only [go_sem]
  refine yg X (tau [([100],[98])]) _ _ _ _ _ c rfl rfl ⟨by simp only [go_sem],by first | (rw [aa];decide) | (simp only [go_sem]<;>(try rw [aa])<;>decide)⟩ (by simp only [go_sem]) (by simp only [go_sem]) (by simp only [go_sem]) (by simp only [go_sem];try omega) ?_
  simp only [go_sem]
  refine ⟨by decide +kernel,?_⟩
  refine ⟨by omega,?_⟩
  rw [ak (n:=((acc.length+T.length:Nat):Int)-1) ⟨by omega,by omega⟩]
  rw [show List.map i64 rs++[i64 (((acc.length+T.length:Nat):Int)-1)]=(rs++[((acc.length+T.length:Nat):Int)-1]).map i64 by rw [List.map_append];rfl]
  rw [ak (n:=(q:Int)+1) ⟨by omega,by omega⟩,hQ]
  simp only [go_sem]
  refine ⟨⟨q+1,by omega⟩,by show K.length-(q+1)<_;omega,tau [([98],[29,0]),([97],[35])],?_⟩
  simp only [hst]
  simp only [go_sem]
  simp only [List.length_append,List.length_map,List.length_singleton]
  all_goals ((repeat' apply And.intro)<;>first | rfl | trivial)
 ·have h3:q=K.length:=by omega
  subst h3
  have hl1:=qX ns K out K.length
  have hr1:=yP ns K out K.length hq
  rw [List.take_length] at hl1
  obtain ⟨acc,hacc⟩:∃ acc,acc=(cpE ns K out K.length).1:=⟨_,rfl⟩
  obtain ⟨rs,hrs⟩:∃ rs,rs=(cpE ns K out K.length).2:=⟨_,rfl⟩
  rw [← hacc,← hrs] at hend
  rw [← hacc] at hl1
  rw [← hrs] at hr1
  rw [← hacc,← hrs,hQ]
  simp only [go_sem]
  refine ⟨⟨by omega,by omega⟩,?_⟩
  rw [hg]
  simp only [go_sem]
  refine cV E [97] none (rs.map i64) rfl (by simp only [go_sem];rfl) ?_
  simp only [go_sem]
  try rw [List.take_of_length_le (by rw [List.length_map];exact Nat.le_refl _)]
  have cw:=nf (G:=G) n rs (by omega) (by rw [hr1,hKw])
  rw [aP n] at cw
  obtain ⟨M,hM⟩:∃ M,M=aK n rs:=⟨_,rfl⟩
  rw [← hM] at cw hend
  rw [aP M] at cw
  refine ab E cw rfl rfl (by simp) ?_
  rintro _ rfl
  simp only [go_sem]
  refine ⟨by omega,?_⟩
  try rw [List.take_of_length_le (by rw [List.length_map];exact Nat.le_refl _)]
  rw [show List.map enD acc++[.agg [i64 M.k,i64 M.a,i64 M.b,i64 M.c,i64 M.n,.str M.name,.str M.s,.sl (some 3) (M.l.map fD),i64 M.pos]]=(out++T.map (av out.length)).map enD by
   rw [← hend,List.map_append];rfl]
  rw [show acc.length+1=out.length+T.length by rw [hTl,hl1];omega]
  refine ⟨_,_,[99,0],tau [([0],[45])],⟨rfl,rfl⟩,?_⟩
  simp only [go_sem]
end Go.Proofs.YtejpnabbmgpmaaaGreat

namespace Go.Proofs.YtejpnabbmgpmaaaGreat
open Go.Ab
theorem F7 {ns:List EN} (h:Low ns) {i:Nat} (hi:i<ns.length):(trE ns i).enc.map (av 0)=(trE ns i).enc:=by
 have:=(mg _ (yK h.k hi)).self
 exact (List.map_congr_left this).trans (List.map_id _)
theorem jK {G} {ns:List EN} (h:Low ns) {i:Nat} (hi:i<ns.length) (hS:(trE ns i).sz≤900000):HP Tryz.prog G 127 [exD ns,i64 (i:Int)] (fun r=>r=.d (exD (trE ns i).enc)):=by
 have c:=DR (G:=G) h hi hS
 rw [show ([]:List EN).length+(trE ns i).sz=(trE ns i).enc.length from Nat.zero_add _,List.nil_append,show ([]:List EN).length=0 from rfl,F7 h hi] at c
 generalize (trE ns i).enc=T at *
 unfold exD at *
 refine au Tryz.func127 rfl (by decide +kernel) (by simp [Tryz.ntmps127]) (veil fun E=>?_)
 simp only [go_sem]
 refine ae E _ [] [] c rfl rfl ⟨by simp only [go_sem],by rw [aa];decide⟩ rfl (by simp only [go_sem]) (by simp only [go_sem]) ?_
 rintro _ _ ⟨rfl,rfl⟩
 simp only [go_sem]
 refine ⟨[([7,0],some 9,T.map enD)],?_⟩
 simp only [go_sem]
 first | done | (rw [List.take_of_length_le (by rw [List.length_map];exact Nat.le_refl _)]) | (rw [List.take_of_length_le (by rw [List.length_map];exact Nat.le_refl _)];rfl)
theorem DV {G} {ns:List EN} (h:Low ns) (hp:1≤ns.length) (hS:(trE ns (ns.length-1)).sz≤900000):HP Tryz.prog G 78 [exD ns] (fun r=>r=.d (exD (trE ns (ns.length-1)).enc)):=by
 have hl:=h.len
 have c:=jK (G:=G) h (i:=ns.length-1) (by omega) hS
 rw [show ((ns.length-1:Nat):Int)=(ns.length:Int)-1 by omega] at c
 generalize (trE ns (ns.length-1)).enc=T at *
 unfold exD at *
 refine au Tryz.func78 rfl (by decide +kernel) (by simp [Tryz.ntmps78]) (veil fun E=>?_)
 simp only [go_sem]
 rw [ak ⟨by omega,by omega⟩]
 refine ab E (c) rfl rfl (by simp) ?_
 rintro _ rfl
 simp only [go_sem]
 refine ⟨[],?_⟩
 simp only [go_sem]
theorem Gw {α:Type} {l:List α} {q:Nat} (h:q<l.length) (f:α→Int):(l.take (q+1)).map f=(l.take q).map f++[f l[q]]:=by
 rw [List.take_succ_eq_append_getElem h,List.map_append];rfl
set_option maxHeartbeats 1000000 in
theorem Ih {G} (n:EN) (ls:List (List EN)) (hn:n.l.length≤900000) (hw:aA n=ls.length) (hS:br ls≤1000000) (hk:∀ l∈ls,∀ m∈l,fL l.length m) (hwl:∀ l∈ls,fp 900000 l) :
  HP Tryz.prog G 88 [enD n,.sl (some 1) (ls.map exD)] (fun r=>r=.d (exD (aD n ls))):=by
 have hL:ls.length≤900003:=by rw [← hw];unfold aA;have:=bn n.k;split<;>omega
 have hend:=nf (G:=G) n (bl ls [] []).2 hn (by rw [nA,hw];simp)
 rw [aP n] at hend ⊢
 refine au Tryz.func88 rfl (by decide +kernel) (by simp [Tryz.ntmps88]) (veil fun E=>?_)
 simp only [go_sem]
 refine aE E (X:={ i:Nat // i≤ls.length }) (fun x=>[(1,.d (.sl (some 1) (ls.map exD))),(2,.at [2] 0),(4,.at [4] 0),(5,.vw [97] 0 (eu ls x.1).1.length),(6,.vw [98] 0 (eu ls x.1).2.length),(7,.d (i64 x.1))])
  (fun x=>[([2],.box [.d (i64 n.k),.d (i64 n.a),.d (i64 n.b),.d (i64 n.c),.d (i64 n.n),.d (.str n.name),.d (.str n.s),.d (.sl (some 3) (n.l.map fD)),.d (i64 n.pos)]),([4],.box [.d .nils]),([97],.arr (some 9) ((eu ls x.1).1.map enD)),([98],.arr none ((eu ls x.1).2.map i64))]) [2,4,97,98] (fun x=>ls.length-x.1) ⟨0,Nat.zero_le _⟩ (tau [([97],[13]),([98],[14])]) ?_ ?_
 ·simp only [go_sem]
  all_goals ((repeat' apply And.intro)<;>first | rfl | trivial)
 rintro ⟨i,hi⟩ E0
 refine aT E0 fun Q' hQ E'=>?_
 simp only at hi ⊢
 simp only [go_sem]
 refine ai E' (fun h1=>?_) (fun h1=>?_)<;>simp only [go_sem]
 ·have h1':i<ls.length:=by omega
  have hge:=zf h1'
  obtain ⟨l,hle⟩:∃ l,l=ls[i]:=⟨_,rfl⟩
  have hmem:l∈ls:=by rw [hle];exact List.getElem_mem h1'
  have hcl:=ua h1'
  have hcs:=pR h1'
  have hcr:=xM ls i
  rw [← hle] at hcl hcs hge
  obtain ⟨acc,hacc⟩:∃ acc,acc=(eu ls i).1:=⟨_,rfl⟩
  obtain ⟨rs,hrs⟩:∃ rs,rs=(eu ls i).2:=⟨_,rfl⟩
  rw [← hacc] at hcl hcs
  rw [← hrs] at hcr hcs
  simp only [← hacc,← hrs]
  refine aE E' (X:={ j:Nat // j≤l.length }) (fun x=>[(1,.d (.sl (some 1) (ls.map exD))),(2,.at [2] 0),(4,.at [4] 0),(5,.vw [97] 0 (acc.length+x.1)),(6,.vw [98] 0 rs.length),(7,.d (i64 i)),(8,.d (i64 acc.length)),(9,.d (i64 x.1))])
   (fun x=>[([2],.box [.d (i64 n.k),.d (i64 n.a),.d (i64 n.b),.d (i64 n.c),.d (i64 n.n),.d (.str n.name),.d (.str n.s),.d (.sl (some 3) (n.l.map fD)),.d (i64 n.pos)]),([4],.box [.d .nils]),([97],.arr (some 9) ((acc++(l.take x.1).map (av acc.length)).map enD)),([98],.arr none (rs.map i64))]) [2,4,97,98] (fun x=>l.length-x.1) ⟨0,Nat.zero_le _⟩ id ?_ ?_
  ·simp only [go_sem]
   all_goals ((repeat' apply And.intro)<;>first | rfl | trivial | simp)
  rintro ⟨j,hj⟩ E2
  refine aT E2 fun Q2 hQ2 E3=>?_
  simp only at hj ⊢
  simp only [go_sem]
  refine ⟨⟨by omega,by omega⟩,?_⟩
  rw [hge]
  simp only [go_sem]
  refine ai E3 (fun h2=>?_) (fun h2=>?_)<;>simp only [go_sem]
  ·have h2':j<l.length:=by omega
   have hgl:=aN h2'
   rw [ba h2'] at hgl
   obtain ⟨m,hm⟩:∃ m,m=l[j]:=⟨_,rfl⟩
   have hmm:m∈l:=by rw [hm];exact List.getElem_mem h2'
   have hmk:=hk l hmem m hmm
   have hml:=hwl l hmem m hmm
   rw [← hm] at hgl
   have hkc:=lI (G:=G) m (by omega)
   rw [aP m] at hkc
   refine ⟨⟨by omega,by omega⟩,?_⟩
   rw [hge]
   simp only [go_sem]
   refine ⟨⟨by omega,by omega⟩,?_⟩
   rw [hgl]
   simp only [go_sem]
   refine ab E3 hkc rfl rfl (by simp) ?_
   rintro _ rfl
   simp only [go_sem]
   have hKl:(ag m).length≤900003:=by
    rw [aM];unfold aA
    have:=bn m.k
    split<;>omega
   have hKk:∀ q,q<(ag m).length→0≤(ag m).getD q 0∧(ag m).getD q 0<l.length:=fun q hq=>hmk _ (by simp [hq])
   have hwm:aK m ((ag m).map fun k:Int=>k+acc.length)=av acc.length m:=rfl
   have hkw:=aM m
   obtain ⟨K,hK⟩:∃ K,K=ag m:=⟨_,rfl⟩
   rw [← hK] at hKl hKk hwm hkw ⊢
   refine aE E3 (X:={ q:Nat // q≤K.length }) (fun x=>[(1,.d (.sl (some 1) (ls.map exD))),(2,.at [2] 0),(4,.at [4] 0),(5,.vw [97] 0 (acc.length+j)),(6,.vw [98] 0 rs.length),(7,.d (i64 i)),(8,.d (i64 acc.length)),(9,.d (i64 j)),(10,.d (.sl none (K.map i64))),(11,.vw [96] 0 x.1),(12,.d (i64 x.1))])
    (fun x=>[([2],.box [.d (i64 n.k),.d (i64 n.a),.d (i64 n.b),.d (i64 n.c),.d (i64 n.n),.d (.str n.name),.d (.str n.s),.d (.sl (some 3) (n.l.map fD)),.d (i64 n.pos)]),([4],.box [.d .nils]),([97],.arr (some 9) ((acc++(l.take j).map (av acc.length)).map enD)),([98],.arr none (rs.map i64)),([96],.arr none (((K.take x.1).map fun k:Int=>k+acc.length).map i64))]) [2,4,96,97,98] (fun x=>K.length-x.1) ⟨0,Nat.zero_le _⟩ (tau [([96],[42])]) ?_ ?_
   ·simp only [go_sem]
    all_goals ((repeat' apply And.intro)<;>first | rfl | trivial)
   rintro ⟨q,hq⟩ E4
   refine aT E4 fun Q4 hQ4 E5=>?_
   simp only at hq ⊢
   simp only [go_sem]
   refine ai E5 (fun h3=>?_) (fun h3=>?_)<;>simp only [go_sem]
   ·have h3':q<K.length:=by omega
    have hin:=hKk q h3'
    have hst:=Gw h3' (fun k:Int=>k+acc.length)
    rw [show K[q]=K.getD q 0 by simp [h3']] at hst
    refine ⟨⟨by omega,by omega⟩,?_⟩
    rw [aw h3']
    simp only [go_sem]
    refine ⟨by omega,?_⟩
    rw [ak (n:=K.getD q 0+(acc.length:Int)) ⟨by omega,by omega⟩]
    try rw [List.take_of_length_le (l:=List.map i64 _) (by simp;omega)]
    rw [show List.map i64 (List.map (fun k:Int=>k+acc.length) (List.take q K))++[i64 (K.getD q 0+acc.length)]=((K.take (q+1)).map fun k:Int=>k+acc.length).map i64 by rw [hst,List.map_append];rfl]
    rw [ak ⟨by omega,by omega⟩,hQ4]
    simp only [go_sem]
    refine ⟨⟨q+1,by omega⟩,by show K.length-(q+1)<_;omega,tau [([96],[57])],?_⟩
    simp only [go_sem]
    all_goals ((repeat' apply And.intro)<;>first | rfl | trivial)
   ·have hq2:q=K.length:=by omega
    subst hq2
    rw [List.take_length,hQ4]
    have cm:=nf (G:=G) m (K.map fun k:Int=>k+acc.length) hml (by rw [List.length_map,hkw])
    obtain ⟨M,hM⟩:∃ M,M=av acc.length m:=⟨_,rfl⟩
    rw [hwm,← hM,aP m,aP M] at cm
    simp only [go_sem]
    refine ⟨⟨by omega,by omega⟩,?_⟩
    rw [hge]
    simp only [go_sem]
    refine ⟨⟨by omega,by omega⟩,?_⟩
    rw [hgl]
    simp only [go_sem]
    refine cV E3 [96] none ((K.map fun k:Int=>k+acc.length).map i64) rfl (by simp only [go_sem];rfl) ?_
    simp only [go_sem]
    try rw [List.take_of_length_le (l:=List.map i64 _) (by simp)]
    refine ab E3 cm rfl rfl (by simp) ?_
    rintro _ rfl
    simp only [go_sem]
    refine ⟨by omega,?_⟩
    have hout:List.take (acc.length+j) (List.map enD (acc++List.map (av acc.length) (List.take j l)))++[.agg [i64 M.k,i64 M.a,i64 M.b,i64 M.c,i64 M.n,.str M.name,.str M.s,.sl (some 3) (M.l.map fD),i64 M.pos]]=(acc++(l.take (j+1)).map (av acc.length)).map enD:=by
     rw [List.take_of_length_le (by simp;omega),List.take_succ_eq_append_getElem h2',← hm]
     simp only [List.map_append,List.map_cons,List.map_nil,← hM,← aP M,List.append_assoc]
    rw [hout]
    rw [hQ2]
    simp only [go_sem]
    refine ⟨⟨j+1,by omega⟩,by show l.length-(j+1)<_;omega,tau [([97],[70])],?_⟩
    rw [ak ⟨by omega,by omega⟩]
    simp only [go_sem]
    all_goals ((repeat' apply And.intro)<;>first | rfl | trivial)
  ·rw [hQ2]
   simp only [go_sem]
   have hj2:j=l.length:=by omega
   subst hj2
   refine ⟨by omega,?_⟩
   have hro:List.take rs.length (List.map i64 rs)++[.int .i64 (w64 (((acc.length+l.length:Nat):Int)-1))]=(rs++[((acc.length+l.length:Nat):Int)-1]).map i64:=by
    rw [ak ⟨by omega,by omega⟩,List.take_of_length_le (by rw [List.length_map];exact Nat.le_refl _)]
    simp only [List.map_append,List.map_cons,List.map_nil]
   first | rw [hro] | (rw [List.take_of_length_le (by rw [List.length_map];exact Nat.le_refl _)] at hro;rw [hro])
   rw [hQ]
   simp only [go_sem]
   refine ⟨⟨i+1,by omega⟩,by show ls.length-(i+1)<_;omega,tau [([98],[76])],?_⟩
   simp only [hcs]
   rw [ak ⟨by omega,by omega⟩]
   simp only [go_sem]
   simp only [List.length_append,List.length_map,List.length_singleton]
   all_goals ((repeat' apply And.intro)<;>first | rfl | trivial)
 ·rw [hQ]
  have hi2:i=ls.length:=by omega
  subst hi2
  rw [tF]
  obtain ⟨acc,hacc⟩:∃ acc,acc=(bl ls [] []).1:=⟨_,rfl⟩
  obtain ⟨rs,hrs⟩:∃ rs,rs=(bl ls [] []).2:=⟨_,rfl⟩
  have hal:acc.length=br ls:=by rw [hacc,jB];simp
  have hj:aD n ls=acc++[aK n rs]:=by unfold aD;rw [← hacc,← hrs]
  rw [← hrs] at hend
  rw [← hacc,← hrs]
  obtain ⟨M,hM⟩:∃ M,M=aK n rs:=⟨_,rfl⟩
  rw [← hM] at hj hend
  rw [aP M] at hend
  simp only [go_sem]
  refine cV E [98] none (rs.map i64) rfl (by simp only [go_sem];rfl) ?_
  simp only [go_sem]
  try rw [List.take_of_length_le (l:=List.map i64 _) (by simp)]
  refine ab E hend rfl rfl (by simp) ?_
  rintro _ rfl
  simp only [go_sem]
  have hout:List.take acc.length (List.map enD acc)++[.agg [i64 M.k,i64 M.a,i64 M.b,i64 M.c,i64 M.n,.str M.name,.str M.s,.sl (some 3) (M.l.map fD),i64 M.pos]]=(aD n ls).map enD:=by
   rw [List.take_of_length_le (by rw [List.length_map];exact Nat.le_refl _),hj,List.map_append,← aP];rfl
  refine ⟨by omega,?_⟩
  first | rw [hout] | (rw [List.take_of_length_le (by rw [List.length_map];exact Nat.le_refl _)] at hout;rw [hout])
  refine ⟨[([82],some 9,(aD n ls).map enD)],?_⟩
  simp only [go_sem]
  rw [List.take_of_length_le (by rw [hj];simp)]
  rfl
end Go.Proofs.YtejpnabbmgpmaaaGreat

namespace Go.Proofs.YtejpnabbmgpmaaaGreat
open Go.Ab
def pj (ns:List EN):Prop:=∀ i,i<ns.length→∀ k∈ag (ndE ns i),0≤k∧k<(i:Int)
theorem xc {a b:List EN} {i:Nat} (h:i<a.length):ndE (a++b) i=ndE a i:=by unfold ndE;simp [List.getElem?_append_left h]
theorem vf {a b:List EN} {i:Nat} (h:a.length≤i):ndE (a++b) i=ndE b (i-a.length):=by unfold ndE;simp [List.getElem?_append_right h]
theorem DN {a b:List EN} (h:pj a) (hb:pj b):pj (a++b.map (av a.length)):=fun i hi k hk=>by
 by_cases h1:i<a.length
 ·rw [xc h1] at hk
  exact h i h1 k hk
 ·rw [List.length_append,List.length_map] at hi
  rw [vf (by omega)] at hk
  have h2:i-a.length<b.length:=by omega
  have:ndE (b.map (av a.length)) (i-a.length)=av a.length (ndE b (i-a.length)):=by simp [ndE,h2]
  rw [this,fc] at hk
  obtain ⟨q,hq,rfl⟩:=List.mem_map.1 hk
  have:=hb _ h2 q hq
  omega
theorem uk:∀ (ls:List (List EN)) (acc:List EN) (rs:List Int),(∀ l∈ls,pj l∧0<l.length)→pj acc→(∀ k∈rs,0≤k∧k<(acc.length:Int))→pj (bl ls acc rs).1∧∀ k∈(bl ls acc rs).2,0≤k∧k<((bl ls acc rs).1.length:Int)
 | [],_,_,_,h1,h2=>⟨h1,h2⟩
 | l::r,acc,rs,hl,h1,h2=>by
   obtain ⟨g1,g2⟩:=hl l List.mem_cons_self
   refine uk r _ _ (fun x hx=>hl x (List.mem_cons_of_mem _ hx)) (DN h1 g1) (fun k hk=>?_)
   rw [List.length_append,List.length_map]
   rcases List.mem_append.1 hk with hk | hk
   ·have:=h2 k hk;omega
   ·rw [List.mem_singleton.1 hk];omega
theorem Af {n:EN} {ls:List (List EN)} (hw:aA n=ls.length) (h:∀ l∈ls,pj l∧0<l.length):pj (aD n ls):=by
 obtain ⟨h1,h2⟩:=uk ls [] [] h (fun _ h=>absurd h (Nat.not_lt_zero _)) (fun _ h=>by cases h)
 have hr:=oS ls
 unfold aD
 generalize (bl ls [] []).1=acc at *
 generalize (bl ls [] []).2=rs at *
 intro i hi k hk
 by_cases g:i<acc.length
 ·rw [xc g] at hk
  exact h1 i g k hk
 ·rw [List.length_append,List.length_singleton] at hi
  rw [vf (by omega),show i-acc.length=0 by omega,show ndE [aK n rs] 0=aK n rs from rfl,ct (by omega)] at hk
  have:=h2 k hk
  omega
mutual
theorem vh:∀ t:RT,t.ok→pj t.enc∧0<t.enc.length
 | .mk n ts,h=>by
   rw [RT.ok] at h
   refine ⟨?_,dm _⟩
   rw [RT.enc]
   exact Af (by rw [gD];exact h.1.1) (qu ts h.2)
theorem qu:∀ ts:List RT,RT.oks ts→∀ l∈RT.encs ts,pj l∧0<l.length
 | [],_,l,hl=>by rw [RT.encs] at hl;cases hl
 | t::r,h,l,hl=>by
   rw [RT.oks] at h
   rw [RT.encs] at hl
   rcases List.mem_cons.1 hl with rfl | hl
   ·exact vh t h.1
   ·exact qu r h.2 l hl
end
theorem jO {t:RT} (h:t.good) (hs:t.sz≤1000000):Low t.enc:=by
 refine ⟨hs,fun n hn=>?_,fun i hi=>List.all_eq_true.2 fun k hk=>?_⟩
 ·have:=fy (bY t h.rt n hn).1
  omega
 ·have:=(vh t h.ok).1 i hi k hk
  simp [inB,this]
theorem xV {ns:List EN} (ht:bt ns):Low ns:=⟨by have:=ht.few;omega,jZ ht,aJ ht⟩
theorem rK {G} {ns:List EN} (h:Low ns):∀ (m i:Nat),i<m→i<ns.length→HP Tryz.prog G 190 [exD ns,i64 (i:Int)] (fun r=>r=.d (.bool (b7 (trE ns i))))
 | 0,_,h,_=>absurd h (Nat.not_lt_zero _)
 | m+1,i,him,hi=>by
   have ih:=rK (G:=G) h m
   have hlen:=h.len
   have hg:=aN hi
   have hsi:=h.l _ (by rw [ba hi];exact List.getElem_mem hi:ndE ns i∈ns)
   have hkn:=ax h.k hi
   rw [DQ h.k hi]
   obtain ⟨n,hne⟩:∃ n,n=ndE ns i:=⟨_,rfl⟩
   rw [← hne] at hg hsi hkn ⊢
   generalize hR:(if n.k=11∨n.k=13 then (ag n).all (fun k=>b7 (trE ns k.toNat)) else decide (n.k=1) || decide (n.k=2) || decide (n.k=3) || decide (n.k=5))=R
   unfold exD
   refine al Tryz.func190 rfl (by decide +kernel) (by simp [Tryz.ntmps190]) (veil fun E=>?_)
   simp only [go_sem]
   refine ⟨⟨by omega,by omega⟩,?_⟩
   rw [hg]
   simp only [go_sem]
   refine ai E (fun k11=>?_) (fun k11=>?_)<;>simp only [go_sem]
   ·have hke:ag n=n.l.map (·.to):=qd k11
    rw [if_pos (.inl k11),hke,List.all_map] at hR
    refine aE E (X:={ q:Nat // q≤n.l.length∧(n.l.take q).all ((fun k:Int=>b7 (trE ns k.toNat)) ∘ fun x:EF=>x.to)=true }) (fun y=>[(1,.d (i64 i)),(2,.at [2] 0),(4,.d (.bool false)),(5,.at [5] 0),(6,.d (i64 y.1))])
     (fun _=>[([2],.box [.d (.sl (some 9) (ns.map enD))]),([5],.box [.d (i64 n.k),.d (i64 n.a),.d (i64 n.b),.d (i64 n.c),.d (i64 n.n),.d (.str n.name),.d (.str n.s),.d (.sl (some 3) (n.l.map fD)),.d (i64 n.pos)])]) [2,5] (fun y=>n.l.length-y.1) ⟨0,Nat.zero_le _,by simp⟩ id ?_ ?_
    ·simp only [go_sem]
     all_goals ((repeat' apply And.intro)<;>first | rfl | trivial)
    rintro ⟨q,hq,ha⟩ E0
    refine aT E0 fun Q' hQ E'=>?_
    simp only at hq ha ⊢
    simp only [go_sem]
    refine ai E' (fun f1=>?_) (fun f1=>?_)<;>simp only [go_sem]
    ·have hq':q<n.l.length:=by omega
     have hfq:n.l[q]=fdE n.l q:=by simp [fdE,hq']
     have hm:(fdE n.l q).to∈ag n:=by rw [hke,← hfq];exact List.mem_map_of_mem (List.getElem_mem hq')
     obtain ⟨h1,h2⟩:=hkn _ hm
     have c:=ih (fdE n.l q).to.toNat (by omega) (by omega)
     rw [Int.toNat_of_nonneg h1] at c
     have hst:(n.l.take (q+1)).all ((fun k:Int=>b7 (trE ns k.toNat)) ∘ fun x:EF=>x.to)=b7 (trE ns (fdE n.l q).to.toNat):=by
      rw [List.take_succ_eq_append_getElem hq',List.all_append,ha,hfq]
      simp
     have hno:b7 (trE ns (fdE n.l q).to.toNat)=false→n.l.all ((fun k:Int=>b7 (trE ns k.toNat)) ∘ fun x:EF=>x.to)=false:=fun e=>u7 hq' (by rw [hfq];exact e)
     generalize b7 (trE ns (fdE n.l q).to.toNat)=b at *
     unfold exD at c
     refine aj mixed E' fun X=>?_
     simp only [go_sem]
     refine ⟨⟨by omega,by omega⟩,?_⟩
     rw [cR hq']
     simp only [go_sem]
     refine aZ X c rfl rfl (by simp) ?_
     simp only [go_sem]
     refine ⟨by decide +kernel,?_⟩
     cases b with
     | true =>
       simp only [go_sem]
       rw [ak ⟨by omega,by omega⟩,hQ]
       simp only [go_sem]
       refine ⟨⟨q+1,by omega,hst⟩,by show n.l.length-(q+1)<_;omega,id,?_⟩
       simp only [go_sem]
       all_goals ((repeat' apply And.intro)<;>first | rfl | trivial)
     | false =>
       simp only [go_sem]
       rw [hQ]
       simp only [go_sem]
       rw [← hR,hno rfl]
    ·have h3:q=n.l.length:=by omega
     subst h3
     rw [List.take_length] at ha
     rw [hQ]
     simp only [go_sem]
     rw [← hR,ha]
   ·by_cases k1:n.k=1
    ·rw [decide_eq_true k1]
     simp only [go_sem]
     rw [← hR]
     simp [k1]
    rw [decide_eq_false k1]
    simp only [go_sem]
    by_cases k2:n.k=2
    ·rw [decide_eq_true k2]
     simp only [go_sem]
     rw [← hR]
     simp [k2]
    rw [decide_eq_false k2]
    simp only [go_sem]
    by_cases k3:n.k=3
    ·rw [decide_eq_true k3]
     simp only [go_sem]
     rw [← hR]
     simp [k3]
    rw [decide_eq_false k3]
    simp only [go_sem]
    by_cases k5:n.k=5
    ·rw [decide_eq_true k5]
     simp only [go_sem]
     rw [← hR]
     simp [k5]
    rw [decide_eq_false k5]
    simp only [go_sem]
    by_cases k13:n.k=13
    ·have hke:ag n=[n.a]:=eY (.inr (.inr k13))
     obtain ⟨h1,h2⟩:=hkn n.a (by rw [hke];exact List.mem_cons_self)
     have hc:=ih n.a.toNat (by omega) (by omega)
     rw [Int.toNat_of_nonneg h1] at hc
     rw [if_pos (.inr k13),hke] at hR
     simp only [List.all_cons,List.all_nil,Bool.and_true] at hR
     rw [hR] at hc
     unfold exD at hc
     rw [decide_eq_true k13]
     simp only [go_sem]
     refine ab E (hc) rfl rfl (by simp) ?_
     rintro _ rfl
     simp only [go_sem]
    ·rw [decide_eq_false k13]
     simp only [go_sem]
     rw [← hR,if_neg (by omega)]
     simp [k1,k2,k3,k5]
end Go.Proofs.YtejpnabbmgpmaaaGreat

namespace Go.Proofs.YtejpnabbmgpmaaaGreat
open Go.Ab
theorem m0 {G} {n:EN} {ts:List RT} (hn:n.l.length≤900000) (hw:aA n=ts.length) (hg:∀ t∈ts,t.good) (hS:szs ts≤1000000) :
  HP Tryz.prog G 88 [enD n,.sl (some 1) (ts.map fun t=>exD t.enc)] (fun r=>r=.d (exD (RT.mk (can n) ts).enc)):=by
 have:=Ih (G:=G) n (RT.encs ts) hn (by rw [gD];exact hw) (by rw [jM];exact hS) (fun l hl m hm=>by
  rw [bu] at hl
  obtain ⟨t,ht,rfl⟩:=List.mem_map.1 hl
  exact (mg t (hg t ht).ok).kids.2 m hm) (fun l hl m hm=>by
  rw [bu] at hl
  obtain ⟨t,ht,rfl⟩:=List.mem_map.1 hl
  have:=fy (bY t (hg t ht).rt m hm).1
  omega)
 rw [bu,List.map_map] at this
 rw [RT.enc,bu,gj (by rw [List.length_map,hw];exact Nat.le_refl _)]
 exact this
theorem vi {G} {n:EN} {ts:List RT} (hn:n.l=[]) (hw:aA n=ts.length) (hg:∀ t∈ts,t.good) (hS:szs ts≤1000000) :
  HP Tryz.prog G 88 [ndN n,.sl (some 1) (ts.map fun t=>exD t.enc)] (fun r=>r=.d (exD (RT.mk (can n) ts).enc)) :=
 HP.le (args':=[enD n,.sl (some 1) (ts.map fun t=>exD t.enc)]) rfl (h:=m0 (by rw [hn];exact Nat.zero_le _) hw hg hS) fun i x y hx hy=>by
  rcases i with _ | _ | i
  ·cases hx;cases hy;exact wh hn
  ·cases hx;cases hy;exact .refl _
  ·cases hx
theorem Cs (n:EN) (q:Nat) (x:List UInt8) (h:¬ (n.k=14∧0<q)):cW n q x=((n.name == x) && (decide (n.k=5) || decide (n.k=8) || (decide (n.k=7) && decide (q=1)))):=by
 unfold cW
 by_cases k5:n.k=5
 ·simp [k5]
 by_cases k8:n.k=8
 ·simp [k8]
 by_cases k7:n.k=7
 ·simp [k7]
 by_cases k14:n.k=14
 ·have:¬ 0<q:=fun e=>h ⟨k14,e⟩
  simp [k14,this]
 ·simp [k5,k8,k7,k14]
theorem BW (n:EN) (q:Nat) (x:List UInt8) (h:n.k=14) (hq:0<q):cW n q x=((fdE n.l (q-1)).var == x):=by
 unfold cW
 simp [h,hq]
set_option maxHeartbeats 1000000 in
theorem zp {G} {es:List EN} (h:Low es) (hge:∀ i,i<es.length→(trE es i).good) (x:List UInt8) {v:RT} (hv:v.good) (hvs:v.sz≤900000) :
  ∀ (m i:Nat),i<m→i<es.length→(trE es i).sz*v.sz≤900000→HP Tryz.prog G 280 [exD es,i64 (i:Int),.str x,exD v.enc] (fun r=>r=.d (exD (bW x v (trE es i)).enc))
 | 0,_,h,_,_=>absurd h (Nat.not_lt_zero _)
 | m+1,i,him,hi,hS=>by
   have ih:=zp (G:=G) h hge x hv hvs m
   have hlen:=h.len
   have hg:=aN hi
   have hsi:=h.l _ (by rw [ba hi];exact List.getElem_mem hi:ndE es i∈es)
   have hkn:=ax h.k hi
   have htr:=mB h.k hi
   have hgd:=hge i hi
   have hvl:=jO hv (by omega)
   have hvp:1≤v.enc.length:=dm v
   have cn:=DV (G:=G) hvl hvp (by rw [eQ hv.ok];exact hvs)
   rw [eQ hv.ok] at cn
   generalize hR:(bW x v (trE es i)).enc=R
   have hkc:=lI (G:=G) (ndE es i) (by omega)
   obtain ⟨n,hne⟩:∃ n,n=ndE es i:=⟨_,rfl⟩
   rw [← hne] at hg hsi hkn htr hkc
   obtain ⟨K,hK⟩:∃ K,K=ag n:=⟨_,rfl⟩
   have hKw:K.length=aA n:=by rw [hK,aM]
   have hKl:K.length≤900003:=by rw [hKw];unfold aA;have:=bn n.k;split<;>omega
   rw [← hK] at hkn htr hkc
   obtain ⟨ts,hts⟩:∃ ts,ts=K.map fun k=>trE es k.toNat:=⟨_,rfl⟩
   rw [← hts] at htr
   have htl:ts.length=K.length:=by rw [hts,List.length_map]
   rw [htr] at hR hgd hS
   have htg:=(bk.1 hgd).2
   rw [bW,ck,iZ] at hR
   rw [aP n] at hkc
   unfold exD at cn ⊢
   by_cases hy:n.k=4∧n.name=x
   ·obtain ⟨k4,hnm⟩:=hy
    rw [if_pos ⟨k4,hnm⟩] at hR
    refine au Tryz.func280 rfl (by decide +kernel) (by simp [Tryz.ntmps280]) (veil fun E=>?_)
    simp only [go_sem]
    refine ⟨⟨by omega,by omega⟩,?_⟩
    rw [hg]
    simp only [go_sem]
    rw [decide_eq_true k4]
    simp only [go_sem]
    rw [show (n.name == x)=true by simp [hnm]]
    simp only [go_sem]
    refine ab E (cn) rfl rfl (by simp) ?_
    rintro _ rfl
    simp only [go_sem]
    subst hR
    refine ⟨[],?_⟩
    simp only [go_sem]
   rw [if_neg hy] at hR
   obtain ⟨us,hus⟩:∃ us,us=eC x v (can n) 0 ts:=⟨_,rfl⟩
   rw [← hus] at hR
   have hul:us.length=K.length:=by rw [hus,jJ,htl]
   have husz:szs us≤900000:=by
    have h1:=q5 (x:=x) (v:=v) (can n) 0 ts
    rw [← hus] at h1
    rw [er,Nat.add_mul] at hS
    omega
   have hug:∀ t∈us,t.good:=by rw [hus];exact mn hv (can n) 0 ts htg
   have c3:=m0 (G:=G) (n:=n) (ts:=us) hsi (by rw [hul,hKw]) hug (by omega)
   rw [hR,aP n] at c3
   unfold exD at c3
   refine au Tryz.func280 rfl (by decide +kernel) (by simp [Tryz.ntmps280]) (veil fun E=>?_)
   simp only [go_sem]
   refine ⟨⟨by omega,by omega⟩,?_⟩
   rw [hg]
   simp only [go_sem]
   repeat (first
    | (apply bC E;(· simp only [go_sem]);(· intro h;(try simp only [bq] at h);simp only [↓h,go_sem];rfl);simp only [go_sem])
    | (apply aW E;(· simp only [go_sem]);(· intro h;(try simp only [bq] at h);simp only [↓h,go_sem];rfl);(· intro h;(try simp only [bq] at h);simp only [↓h,go_sem];rfl);simp only [go_sem])
    | (apply aX E;(· simp only [go_sem]);(· rfl);(· intro h h';(try simp only [bq] at h h');simp only [↓h,↓h',go_sem];rfl);simp only [go_sem])
    | (apply aH E;(· simp only [go_sem]);(· rfl);(· intro h h';(try simp only [bq] at h h');simp only [↓h,↓h',go_sem];rfl);(· intro h h';(try simp only [bq] at h h');simp only [↓h,↓h',go_sem];rfl);simp only [go_sem])
    | (apply bz E;(· decide);simp only [go_sem]))
   rw [show (decide (n.k=4) && (n.name == x))=false by
    rw [Bool.eq_false_iff]
    intro e
    simp only [Bool.and_eq_true,decide_eq_true_eq,beq_iff_eq] at e
    exact hy e]
   simp only [go_sem]
   refine ab E (hkc) rfl rfl (by simp) ?_
   rintro _ rfl
   simp only [go_sem]
   refine aE E (X:={ q:Nat // q≤K.length }) (fun y=>[(1,.d (i64 i)),(2,.d (.str x)),(4,.at [4] 0),(7,.at [7] 0),(8,.at [8] 0),(9,.at [9] 0),(10,.d (.sl none (K.map i64))),(11,.vw [111] 0 y.1),(12,.d (i64 y.1))])
    (fun y=>[([4],.box [.d (.sl (some 9) (es.map enD))]),([7],.box [.d (.sl (some 9) (v.enc.map enD))]),([8],.box [.d .nils]),([9],.box [.d (i64 n.k),.d (i64 n.a),.d (i64 n.b),.d (i64 n.c),.d (i64 n.n),.d (.str n.name),.d (.str n.s),.d (.sl (some 3) (n.l.map fD)),.d (i64 n.pos)]),([111],.arr (some 1) ((us.take y.1).map fun t=>exD t.enc))]) [4,7,8,9,111] (fun y=>K.length-y.1) ⟨0,Nat.zero_le _⟩ (tau [([111],[32])]) ?_ ?_
   ·simp only [go_sem]
    all_goals ((repeat' apply And.intro)<;>first | rfl | trivial)
   rintro ⟨q,hq⟩ E0
   refine aT E0 fun Q' hQ E'=>?_
   simp only at hq ⊢
   simp only [go_sem]
   refine ai E' (fun f1=>?_) (fun f1=>?_)<;>simp only [go_sem]
   ·have hq':q<K.length:=by omega
    have hkm:=List.getElem_mem hq'
    have hkq:=hkn K[q] hkm
    obtain ⟨k,hkk⟩:∃ k:Nat,K[q]=(k:Int):=⟨K[q].toNat,by omega⟩
    have htq:ts.getD q az=trE es k:=by
     rw [hts]
     simp [hq',hkk]
    have hst:us.take (q+1)=us.take q++[us.getD q az]:=qH (by omega)
    rw [hus,o4 x v (can n) ts 0 q (by omega),← hus,Nat.zero_add,pD,htq] at hst
    have hks:(trE es k).sz≤(RT.mk (can n) ts).sz:=by
     refine Nat.le_of_lt (fH (t:=.mk (can n) ts) ?_)
     rw [← htq]
     show ts.getD q az∈ts
     exact ku (by omega)
    have hkS:(trE es k).sz*v.sz≤900000:=Nat.le_trans (Nat.mul_le_mul_right _ hks) hS
    have hv1:=dm v
    have hks2:(trE es k).sz≤900000:=by
     have:(trE es k).sz*1≤(trE es k).sz*v.sz:=Nat.mul_le_mul_left _ hv1
     omega
    have cs:=jK (G:=G) h (i:=k) (by omega) hks2
    have cp:=ih k (by omega) (by omega) hkS
    unfold exD at cs cp
    repeat (first
     | (apply bC E';(· simp only [go_sem]);(· intro h;(try simp only [bq] at h);simp only [↓h,go_sem];rfl);simp only [go_sem])
     | (apply aW E';(· simp only [go_sem]);(· intro h;(try simp only [bq] at h);simp only [↓h,go_sem];rfl);(· intro h;(try simp only [bq] at h);simp only [↓h,go_sem];rfl);simp only [go_sem])
     | (apply aX E';(· simp only [go_sem]);(· rfl);(· intro h h';(try simp only [bq] at h h');simp only [↓h,↓h',go_sem];rfl);simp only [go_sem])
     | (apply aH E';(· simp only [go_sem]);(· rfl);(· intro h h';(try simp only [bq] at h h');simp only [↓h,↓h',go_sem];rfl);(· intro h h';(try simp only [bq] at h h');simp only [↓h,↓h',go_sem];rfl);simp only [go_sem])
     | (apply bz E';(· decide);simp only [go_sem]))
    refine aR E' (fun g=>?_) (fun g=>?_)<;>simp only [go_sem]
    ·simp only [Bool.and_eq_true,decide_eq_true_eq] at g
     have hb:=BW n q x g.1 (by omega)
     have hql:q-1<n.l.length:=by
      have:K.length=1+n.l.length:=by rw [hKw];unfold aA;rw [g.1];rfl
      omega
     rw [hb] at hst
     rw [ak ⟨by omega,by omega⟩]
     refine ⟨⟨by omega,by omega⟩,?_⟩
     rw [show ((q:Int)-1).toNat=q-1 by omega,cR hql]
     simp only [go_sem]
     unfold wkT at hst
     refine aR E' (fun hh=>?_) (fun hh=>?_)<;>simp only [go_sem]
     ·rw [if_pos hh] at hst
      ·refine aj mixed E' fun X=>?_
       simp only [go_sem]
       refine ⟨⟨by omega,by omega⟩,?_⟩
       rw [aw hq',show K.getD q 0=(k:Int) by simp [hq',hkk]]
       simp only [go_sem]
       refine aZ X cs rfl rfl (by simp) ?_
       simp only [go_sem]
       refine ⟨by omega,by decide +kernel,?_⟩
       rw [show List.take q (List.map (fun t:RT=>exD t.enc) (us.take q))++[.agg [.sl (some 9) (List.map enD (RT.enc (trE es k)))]]=(us.take (q+1)).map (fun t:RT=>exD t.enc) by
        rw [List.take_of_length_le (by rw [List.length_map,List.length_take];omega),hst,List.map_append];rfl]
       rw [ak ⟨by omega,by omega⟩,hQ]
       simp only [go_sem]
       refine ⟨⟨q+1,by omega⟩,by show K.length-(q+1)<_;omega,tau [([111],[87])],?_⟩
       simp only [go_sem]
       all_goals ((repeat' apply And.intro)<;>first | rfl | trivial)
     ·rw [if_neg (by simpa using hh)] at hst
      ·refine aj mixed E' fun X=>?_
       simp only [go_sem]
       refine ⟨⟨by omega,by omega⟩,?_⟩
       rw [aw hq',show K.getD q 0=(k:Int) by simp [hq',hkk]]
       simp only [go_sem]
       refine aZ X cp rfl rfl (by simp) ?_
       simp only [go_sem]
       refine ⟨by omega,by decide +kernel,?_⟩
       rw [show List.take q (List.map (fun t:RT=>exD t.enc) (us.take q))++[.agg [.sl (some 9) (List.map enD (RT.enc (bW x v (trE es k))))]]=(us.take (q+1)).map (fun t:RT=>exD t.enc) by
        rw [List.take_of_length_le (by rw [List.length_map,List.length_take];omega),hst,List.map_append];rfl]
       rw [ak ⟨by omega,by omega⟩,hQ]
       simp only [go_sem]
       refine ⟨⟨q+1,by omega⟩,by show K.length-(q+1)<_;omega,tau [([111],[98])],?_⟩
       simp only [go_sem]
       all_goals ((repeat' apply And.intro)<;>first | rfl | trivial)
    ·have hb:=Cs n q x (fun e=>by
      have:(decide (n.k=14) && decide (0<(q:Int)))=true:=by simp [e.1];omega
      rw [this] at g
      cases g)
     unfold wkT at hst
     have hz:(decide ((q:Int)=1))=decide (q=1):=decide_eq_decide.2 ⟨fun e=>by omega,fun e=>by omega⟩
     refine aR E' (fun hh=>?_) (fun hh=>?_)<;>simp only [go_sem]
     ·rw [if_pos (by rw [hb,← hh,← hz])] at hst
      ·refine aj mixed E' fun X=>?_
       simp only [go_sem]
       refine ⟨⟨by omega,by omega⟩,?_⟩
       rw [aw hq',show K.getD q 0=(k:Int) by simp [hq',hkk]]
       simp only [go_sem]
       refine aZ X cs rfl rfl (by simp) ?_
       simp only [go_sem]
       refine ⟨by omega,by decide +kernel,?_⟩
       rw [show List.take q (List.map (fun t:RT=>exD t.enc) (us.take q))++[.agg [.sl (some 9) (List.map enD (RT.enc (trE es k)))]]=(us.take (q+1)).map (fun t:RT=>exD t.enc) by
        rw [List.take_of_length_le (by rw [List.length_map,List.length_take];omega),hst,List.map_append];rfl]
       rw [ak ⟨by omega,by omega⟩,hQ]
       simp only [go_sem]
       refine ⟨⟨q+1,by omega⟩,by show K.length-(q+1)<_;omega,tau [([111],[87])],?_⟩
       simp only [go_sem]
       all_goals ((repeat' apply And.intro)<;>first | rfl | trivial)
     ·rw [if_neg (by rw [hb,← hz];simp only [hh];decide)] at hst
      ·refine aj mixed E' fun X=>?_
       simp only [go_sem]
       refine ⟨⟨by omega,by omega⟩,?_⟩
       rw [aw hq',show K.getD q 0=(k:Int) by simp [hq',hkk]]
       simp only [go_sem]
       refine aZ X cp rfl rfl (by simp) ?_
       simp only [go_sem]
       refine ⟨by omega,by decide +kernel,?_⟩
       rw [show List.take q (List.map (fun t:RT=>exD t.enc) (us.take q))++[.agg [.sl (some 9) (List.map enD (RT.enc (bW x v (trE es k))))]]=(us.take (q+1)).map (fun t:RT=>exD t.enc) by
        rw [List.take_of_length_le (by rw [List.length_map,List.length_take];omega),hst,List.map_append];rfl]
       rw [ak ⟨by omega,by omega⟩,hQ]
       simp only [go_sem]
       refine ⟨⟨q+1,by omega⟩,by show K.length-(q+1)<_;omega,tau [([111],[98])],?_⟩
       simp only [go_sem]
       all_goals ((repeat' apply And.intro)<;>first | rfl | trivial)
   ·have h3:q=K.length:=by omega
    subst h3
    have hutk:us.take K.length=us:=List.take_of_length_le (by omega)
    rw [hutk,hQ]
    simp only [go_sem]
    refine cV E [111] (some 1) (us.map fun t=>exD t.enc) rfl (by simp only [go_sem];rfl) ?_
    simp only [go_sem]
    rw [List.take_of_length_le (by rw [List.length_map];omega)]
    refine ab E c3 rfl rfl (by simp) ?_
    rintro _ rfl
    simp only [go_sem]
    refine ⟨[],?_⟩
    simp only [go_sem]
end Go.Proofs.YtejpnabbmgpmaaaGreat

namespace Go.Proofs.YtejpnabbmgpmaaaGreat
open Go.Ab
theorem Hs {ns:List EN} (hk:∀ i,i<ns.length→(ag (ndE ns i)).all (inB i)=true) (hr:∀ n∈ns,GL n):∀ (m i:Nat),i<m→i<ns.length→(rtE ns m i).rt
 | 0,_,h,_=>absurd h (Nat.not_lt_zero _)
 | m+1,i,him,hi=>by
   rw [rtE,RT.rt,Int.toNat_natCast,kU]
   refine ⟨GL.with _ (hr _ (by rw [ba hi];exact List.getElem_mem hi)),fun t htm=>?_⟩
   obtain ⟨k,hkk,rfl⟩:=List.mem_map.1 htm
   obtain ⟨h3,h4⟩:=ax hk hi k hkk
   obtain ⟨k,rfl⟩:∃ q:Nat,k=(q:Int):=⟨k.toNat,by omega⟩
   exact Hs hk hr m k (by omega) (by omega)
theorem Cn {ns:List EN} (h:Low ns) (hr:∀ n∈ns,GL n) {i:Nat} (hi:i<ns.length):(trE ns i).good:=⟨yK h.k hi,Hs h.k hr _ _ hi hi⟩
theorem xB {G} {t v:RT} (ht:t.good) (hv:v.good) (x:List UInt8) (hts:t.sz≤900000) (hvs:v.sz≤900000) (hS:t.sz*v.sz≤900000):HP Tryz.prog G 245 [exD t.enc,.str x,exD v.enc] (fun r=>r=.d (exD (bW x v t).enc)):=by
 have hL:=jO ht (by omega)
 have hp:1≤t.enc.length:=dm t
 have hl:=hL.len
 have c:=zp (G:=G) hL (fun i hi=>Cn hL (bY t ht.rt) hi) x hv hvs t.enc.length (t.enc.length-1) (by omega) (by omega) (by rw [eQ ht.ok];exact hS)
 rw [eQ ht.ok,show ((t.enc.length-1:Nat):Int)=(t.enc.length:Int)-1 by omega] at c
 generalize (bW x v t).enc=R at *
 generalize t.enc=T at *
 generalize v.enc=V at *
 unfold exD at *
 refine au Tryz.func245 rfl (by decide +kernel) (by simp [Tryz.ntmps245]) (veil fun E=>?_)
 simp only [go_sem]
 rw [ak ⟨by omega,by omega⟩]
 refine ab E (c) rfl rfl (by simp) ?_
 rintro _ rfl
 simp only [go_sem]
 refine ⟨[],?_⟩
 simp only [go_sem]
theorem Fv {G} (ns:List EN) (h1:1≤ns.length) (h2:ns.length≤1000000):HP Tryz.prog G 244 [exD ns] (fun r=>r=.d (enD (ndE ns (ns.length-1)))):=by
 have hg:=aN (show ns.length-1<ns.length by omega)
 generalize ndE ns (ns.length-1)=n at *
 rw [aP n]
 unfold exD
 refine au Tryz.func244 rfl (by decide +kernel) (by simp [Tryz.ntmps244]) (veil fun E=>?_)
 simp only [go_sem]
 rw [ak ⟨by omega,by omega⟩]
 refine ⟨⟨by omega,by omega⟩,?_⟩
 rw [show ((ns.length:Int)-1).toNat=ns.length-1 by omega,hg]
 simp only [go_sem]
 refine ⟨[],?_⟩
 simp only [go_sem]
theorem Hi {n:EN} (hn:n.l=[]) (h0:aK n []=n):Wk (.agg [.sl (some 9) [ndN n]]) (exD (bp n)):=by
 have e:bp n=[n]:=by unfold bp aD;rw [show (bl [] [] []:List EN × List Int)=([],[]) from rfl];simp [h0]
 rw [e]
 refine Wk.agg rfl (by simp [D.scal]) fun i a b ha hb=>?_
 rcases i with _ | i
 ·cases ha;cases hb
  refine Wk.sl rfl (fun b hb=>by rw [List.map_cons,List.map_nil,List.mem_singleton] at hb;subst hb;exact DB n) fun i a b ha hb=>?_
  rcases i with _ | i
  ·cases ha;cases hb
   refine ⟨rfl,fun j c d hc hd=>?_⟩
   match j,hc,hd with
   | 0,hc,hd | 1,hc,hd | 2,hc,hd | 3,hc,hd | 4,hc,hd | 5,hc,hd | 6,hc,hd | 8,hc,hd=>cases hc;cases hd;exact .refl _
   | 7,hc,hd =>
     cases hc;cases hd
     unfold efD
     rw [hn];exact .nils _
  ·cases ha
 ·cases ha
theorem yn {G} (n:EN) (hn:n.l=[]) (h0:aK n []=n):HP Tryz.prog G 281 [ndN n] (fun r=>r=.d (exD (bp n))):=by
 refine HP.wkr (Q:=fun r=>r=.d (.agg [.sl (some 9) [ndN n]])) ?_ fun r hr=>⟨_,_,hr,Hi hn h0,rfl⟩
 unfold ndN
 refine au Tryz.func281 rfl (by decide +kernel) (by simp [Tryz.ntmps281]) (veil fun E=>?_)
 simp only [go_sem]
 refine ⟨[([4],some 9,[ndN n])],?_⟩
 unfold ndN
 simp only [go_sem]
theorem Gv {G} (n f g:EN) (hf:inR f.n) (hg:inR g.n) (hfs:f.s.length≤200) (hgs:g.s.length≤200):HP Tryz.prog G 247 [enD n,enD f,enD g] (fun r=>r=.tup [.d (gR (e7 n f g)),.d (i64 (e7 n f g).1)]):=by
 obtain ⟨q,hq⟩:∃ q,q=e7 n f g:=⟨_,rfl⟩
 obtain ⟨R,hRd⟩:∃ R,R=gR q:=⟨_,rfl⟩
 obtain ⟨w,hw⟩:∃ w,w=q.1:=⟨_,rfl⟩
 rw [← hq,← hRd,← hw]
 unfold e7 at hq
 have c1:=GZ (G:=G) n.n f.n g.n hf hg
 unfold gx at c1
 rw [aP n,aP f,aP g]
 refine au Tryz.func247 rfl (by decide +kernel) (by simp [Tryz.ntmps247]) (veil fun E=>?_)
 simp only [go_sem]
 refine ai E (fun h7=>?_) (fun h7=>?_)<;>simp only [go_sem]
 ·rw [if_pos h7] at hq
  repeat (first
   | (apply bC E;(· simp only [go_sem]);(· intro h;(try simp only [bq] at h);simp only [↓h,go_sem];rfl);simp only [go_sem])
   | (apply aW E;(· simp only [go_sem]);(· intro h;(try simp only [bq] at h);simp only [↓h,go_sem];rfl);(· intro h;(try simp only [bq] at h);simp only [↓h,go_sem];rfl);simp only [go_sem])
   | (apply aX E;(· simp only [go_sem]);(· rfl);(· intro h h';(try simp only [bq] at h h');simp only [↓h,↓h',go_sem];rfl);simp only [go_sem])
   | (apply aH E;(· simp only [go_sem]);(· rfl);(· intro h h';(try simp only [bq] at h h');simp only [↓h,↓h',go_sem];rfl);(· intro h h';(try simp only [bq] at h h');simp only [↓h,↓h',go_sem];rfl);simp only [go_sem])
   | (apply bz E;(· decide);simp only [go_sem]))
  by_cases hk:f.k=3∧g.k=3
  ·rw [if_pos hk] at hq
   have cl:=yn (G:=G) ⟨3,0,0,0,0,[],(f.s++g.s).take 200,[],n.pos⟩ rfl rfl
   subst hq
   rw [cD,jq rfl] at hRd
   obtain rfl:w=5:=hw
   subst hRd
   generalize bp ⟨3,0,0,0,0,[],(f.s++g.s).take 200,[],n.pos⟩=V at *
   unfold ndN at cl
   unfold exD at *
   refine aR E (fun h=>absurd h (by simp [hk.1,hk.2])) (fun _=>?_)
   simp only [go_sem]
   refine ⟨by omega,?_⟩
   refine aj mixed E fun X=>?_
   simp only [go_sem]
   obtain ⟨z,hz⟩:∃ z:Int,z=if 200<((f.s++g.s).length:Int) then 200 else ((f.s++g.s).length:Int):=⟨_,rfl⟩
   rw [← hz]
   have hz0:0≤z∧z≤((f.s++g.s).length:Int):=by rw [hz];split<;>omega
   have hzt:(f.s++g.s).take z.toNat=(f.s++g.s).take 200:=by
    rw [hz]
    split
    ·rfl
    ·rw [List.take_of_length_le (by omega),List.take_of_length_le (by omega)]
   refine ⟨hz0,?_⟩
   rw [Nat.sub_zero,hzt]
   refine aZ X cl rfl rfl (by simp) ?_
   simp only [go_sem]
   refine ⟨by decide +kernel,?_⟩
   refine ⟨[],?_⟩
   simp only [go_sem]
  ·rw [if_neg hk] at hq
   subst hq
   rw [bx (by decide)] at hRd
   obtain rfl:w=4:=hw
   subst hRd
   refine aR E (fun _=>?_) (fun h=>absurd h (by
    by_cases h1:f.k=3
    ·have:¬ g.k=3:=fun e=>hk ⟨h1,e⟩
     simp [h1,this]
    ·simp [h1]))
   simp only [go_sem]
   refine ⟨[],?_⟩
   simp only [go_sem]
 ·rw [if_neg h7] at hq
  repeat (first
   | (apply bC E;(· simp only [go_sem]);(· intro h;(try simp only [bq] at h);simp only [↓h,go_sem];rfl);simp only [go_sem])
   | (apply aW E;(· simp only [go_sem]);(· intro h;(try simp only [bq] at h);simp only [↓h,go_sem];rfl);(· intro h;(try simp only [bq] at h);simp only [↓h,go_sem];rfl);simp only [go_sem])
   | (apply aX E;(· simp only [go_sem]);(· rfl);(· intro h h';(try simp only [bq] at h h');simp only [↓h,↓h',go_sem];rfl);simp only [go_sem])
   | (apply aH E;(· simp only [go_sem]);(· rfl);(· intro h h';(try simp only [bq] at h h');simp only [↓h,↓h',go_sem];rfl);(· intro h h';(try simp only [bq] at h h');simp only [↓h,↓h',go_sem];rfl);simp only [go_sem])
   | (apply bz E;(· decide);simp only [go_sem]))
  by_cases hk:f.k=1∧g.k=1
  ·rw [if_pos hk] at hq
   refine aR E (fun h=>absurd h (by simp [hk.1,hk.2])) (fun _=>?_)
   simp only [go_sem]
   refine ab E (c1) rfl rfl (by simp) ?_
   rintro _ rfl
   simp only [go_sem]
   refine ai E (fun he=>?_) (fun he=>?_)<;>simp only [go_sem]
   ·rw [if_pos he] at hq
    subst hq
    rw [bx (by decide)] at hRd
    obtain rfl:w=2:=hw
    subst hRd
    refine ⟨[],?_⟩
    simp only [go_sem]
   have he:iy n.n g.n=0:=by simpa using he
   rw [if_neg (by simp [he])] at hq
   have cl:=yn (G:=G) ⟨if 5≤n.n then 2 else 1,0,0,0,dD n.n f.n g.n,[],[],[],n.pos⟩ rfl (by split<;>rfl)
   subst hq
   rw [cD,jq (by split<;>rfl)] at hRd
   obtain rfl:w=5:=hw
   refine ai E (fun h5=>?_) (fun h5=>?_)<;>simp only [go_sem]
   ·simp only [if_pos h5] at cl hRd
    subst hRd
    generalize bp ⟨2,0,0,0,dD n.n f.n g.n,[],[],[],n.pos⟩=V at *
    unfold ndN at cl
    unfold exD at *
    refine ab E (cl) rfl rfl (by simp) ?_
    rintro _ rfl
    simp only [go_sem]
    refine ⟨[],?_⟩
    simp only [go_sem]
   ·simp only [if_neg h5] at cl hRd
    subst hRd
    generalize bp ⟨1,0,0,0,dD n.n f.n g.n,[],[],[],n.pos⟩=V at *
    unfold ndN at cl
    unfold exD at *
    refine ab E (cl) rfl rfl (by simp) ?_
    rintro _ rfl
    simp only [go_sem]
    refine ⟨[],?_⟩
    simp only [go_sem]
  ·rw [if_neg hk] at hq
   subst hq
   rw [bx (by decide)] at hRd
   obtain rfl:w=4:=hw
   subst hRd
   refine aR E (fun _=>?_) (fun h=>absurd h (by
    by_cases h1:f.k=1
    ·have:¬ g.k=1:=fun e=>hk ⟨h1,e⟩
     simp [h1,this]
    ·simp [h1]))
   simp only [go_sem]
   refine ⟨[],?_⟩
   simp only [go_sem]
end Go.Proofs.YtejpnabbmgpmaaaGreat

namespace Go.Proofs.YtejpnabbmgpmaaaGreat
open Go.Ab
def rtN (t:RT):EN:=ndE t.enc (t.enc.length-1)
theorem xD {t:RT} (h:t.good) (hs:t.sz≤1000000):t=.mk (can (rtN t)) ((ag (rtN t)).map fun k=>trE t.enc k.toNat):=by
 have hp:1≤t.enc.length:=dm t
 have:=mB (jO h hs).k (i:=t.enc.length-1) (by omega)
 rw [eQ h.ok] at this
 exact this
theorem tW {t:RT} (h:t.good) (hs:t.sz≤1000000):t.lab=can (rtN t):=by
 conv=>lhs;rw [xD h hs]
 rfl
theorem fj {t:RT} (h:t.good) (hs:t.sz≤1000000) {j:Nat} (hj:j<(ag (rtN t)).length) :
  ∃ a:Nat,(ag (rtN t)).getD j 0=(a:Int)∧a<t.enc.length∧t.kid j=trE t.enc a∧(trE t.enc a).sz≤t.sz:=by
 have hp:1≤t.enc.length:=dm t
 have hL:=jO h hs
 have hm:(ag (rtN t))[j]∈ag (rtN t):=List.getElem_mem hj
 have:=ax hL.k (i:=t.enc.length-1) (by omega) _ hm
 have ht:=xD h hs
 have hk:t.kids=(ag (rtN t)).map fun k=>trE t.enc k.toNat:=by
  conv=>lhs;rw [ht]
  rfl
 obtain ⟨a,ha⟩:∃ a:Nat,(ag (rtN t))[j]=(a:Int):=⟨((ag (rtN t))[j]).toNat,by omega⟩
 have e:t.kid j=trE t.enc a:=by
  unfold RT.kid
  rw [hk]
  simp [hj,ha]
 refine ⟨a,by simp [hj,ha],by omega,e,?_⟩
 rw [← e]
 refine Nat.le_of_lt (fH (ik ?_))
 rw [hk,List.length_map]
 exact hj
theorem jP {G} {t:RT} (h:t.good) (hs:t.sz≤900000) {j:Nat} (hj:j<(ag (rtN t)).length):HP Tryz.prog G 127 [exD t.enc,i64 ((ag (rtN t)).getD j 0)] (fun r=>r=.d (exD (t.kid j).enc)):=by
 obtain ⟨a,h1,h2,h3,h4⟩:=fj h (by omega) hj
 rw [h1,h3]
 exact jK (jO h (by omega)) h2 (by omega)
theorem dQ {t:RT} (h:t.good):GL (rtN t):=by
 have hp:1≤t.enc.length:=dm t
 exact bY t h.rt _ (by unfold rtN;rw [ba (by omega)];exact List.getElem_mem _)
theorem Cx {t:RT}:(t.enc.map enD).getD (t.enc.length-1) .nilp=.agg [i64 (rtN t).k,i64 (rtN t).a,i64 (rtN t).b,i64 (rtN t).c,i64 (rtN t).n,.str (rtN t).name,.str (rtN t).s,.sl (some 3) ((rtN t).l.map fD),i64 (rtN t).pos]:=by
 have hp:1≤t.enc.length:=dm t
 exact aN (by omega)
set_option maxHeartbeats 1000000 in
theorem GF {G} {n:EN} {f b:RT} (hg:(RT.mk n [f,b]).good) (k8:n.k=8) (k5:f.lab.k=5) (hs:(RT.mk n [f,b]).sz≤900):HP Tryz.prog G 246 [exD (RT.mk n [f,b]).enc] (fun r=>r=.d (exD (cG n f).enc)):=by
 obtain ⟨t,ht⟩:∃ t,t=RT.mk n [f,b]:=⟨_,rfl⟩
 have gf:f.good:=(bk.1 hg).2 f List.mem_cons_self
 have hnl:=ra hg
 rw [← ht] at hg hs hnl ⊢
 have hp:1≤t.enc.length:=dm t
 have hsz:t.enc.length=t.sz:=rfl
 have hL:=jO hg (by omega)
 have hlab:=tW hg (by omega)
 have hgr:=Cx (t:=t)
 have e0:t.kid 0=f:=by rw [ht];rfl
 have hlb:t.lab=n:=by rw [ht];rfl
 rw [hlb] at hlab hnl
 obtain ⟨r,hr⟩:∃ r,r=rtN t:=⟨_,rfl⟩
 have hkk:=fj hg (by omega) (j:=0)
 have hsk:=jP (G:=G) hg (by omega) (j:=0)
 rw [← hr] at hlab hgr hkk hsk
 have k8r:r.k=8:=by rw [← k8,hlab];rfl
 have hnm:n.name=r.name:=by rw [hlab];rfl
 have hps:n.pos=r.pos:=by rw [hlab];rfl
 rw [kX (.inr (.inr (.inl k8r)))] at hkk hsk
 obtain ⟨a,h1,h2,h3,h4⟩:=hkk (Nat.zero_lt_succ _)
 have hsk:=hsk (Nat.zero_lt_succ _)
 rw [show [r.a,r.b].getD 0 0=r.a from rfl] at h1 hsk
 rw [e0] at h3 hsk
 have hga:=aN h2
 have hfl:f.lab=can (ndE t.enc a):=by rw [h3];exact iP h2
 have hfk:(ag (ndE t.enc a)).map (fun k=>trE t.enc k.toNat)=f.kids:=by rw [h3];exact (FQ hL.k h2).symm
 have hfn:=ax hL.k h2
 obtain ⟨g,hge⟩:∃ g,g=ndE t.enc a:=⟨_,rfl⟩
 rw [← hge] at hga hfl hfk hfn
 have k5g:g.k=5:=by rw [← k5,hfl];rfl
 have hgn:f.lab.name=g.name:=by rw [hfl];rfl
 have hgp:f.lab.pos=g.pos:=by rw [hfl];rfl
 rw [eY (.inl k5g)] at hfk hfn
 obtain ⟨c,hc⟩:∃ c:Nat,g.a=(c:Int):=⟨g.a.toNat,by have:=hfn g.a List.mem_cons_self;omega⟩
 have hca:=hfn g.a List.mem_cons_self
 have ek:f.kid 0=trE t.enc c:=by
  unfold RT.kid
  rw [← hfk,hc]
  rfl
 have gc:(f.kid 0).good:=fg gf (by rw [← hfk];exact Nat.one_pos)
 have sc:(f.kid 0).sz<f.sz:=fH (ik (by rw [← hfk];exact Nat.one_pos))
 have sf:f.sz<t.sz:=by rw [ht];exact fH (t:=.mk n [f,b]) List.mem_cons_self
 have cs:=jK (G:=G) hL (i:=c) (by omega) (by rw [← ek];omega)
 rw [← ek,← hc] at cs
 have hfr:=ra gf
 have hun:cG n f=if g.name=r.name then f else .mk (can ⟨5,0,0,0,0,g.name,[],[],g.pos⟩) [.mk (can ⟨8,0,0,0,0,r.name,[],[],r.pos⟩) [f,f.kid 0]]:=by
  unfold cG
  rw [hgn,hgp,hnm,hps]
 rw [hun]
 have g1:(RT.mk (can ⟨8,0,0,0,0,r.name,[],[],r.pos⟩) [f,f.kid 0]).good:=bk.2 ⟨⟨rfl,jT _,(jC (by rw [← hnm];exact gW hnl.1 (.inr (.inr (.inr (.inl k8))))) (by rw [← hps];exact gp hnl.1) (.inr rfl)).with _⟩,fun u hu=>by
  rcases List.mem_cons.1 hu with rfl | hu
  ·exact gf
  ·rw [List.mem_singleton.1 hu];exact gc⟩
 have d1:=vi (G:=G) (n:=⟨8,0,0,0,0,r.name,[],[],r.pos⟩) (ts:=[f,f.kid 0]) rfl rfl (bk.1 g1).2 (by rw [bh,bh];show f.sz+((f.kid 0).sz+0)≤_;omega)
 have s1:(RT.mk (can ⟨8,0,0,0,0,r.name,[],[],r.pos⟩) [f,f.kid 0]).sz≤2000:=by rw [er,bh,bh];show f.sz+((f.kid 0).sz+0)+1≤_;omega
 obtain ⟨J,hJ⟩:∃ J,J=RT.mk (can ⟨8,0,0,0,0,r.name,[],[],r.pos⟩) [f,f.kid 0]:=⟨_,rfl⟩
 rw [← hJ] at d1 g1 s1 ⊢
 have d2:=vi (G:=G) (n:=⟨5,0,0,0,0,g.name,[],[],g.pos⟩) (ts:=[J]) rfl rfl (fun u hu=>by rw [List.mem_singleton.1 hu];exact g1) (by rw [bh];show J.sz+0≤_;omega)
 simp only [List.map_cons,List.map_nil] at d1 d2
 obtain ⟨V,hV⟩:∃ V,V=(RT.mk (can ⟨5,0,0,0,0,g.name,[],[],g.pos⟩) [J]).enc:=⟨_,rfl⟩
 rw [← hV] at d2
 obtain ⟨R,hR⟩:∃ R,R=(if g.name=r.name then f else .mk (can ⟨5,0,0,0,0,g.name,[],[],g.pos⟩) [J]).enc:=⟨_,rfl⟩
 rw [← hR]
 unfold ndN at d1 d2
 unfold exD at *
 generalize t.enc=es at *
 refine au Tryz.func246 rfl (by decide +kernel) (by simp [Tryz.ntmps246]) (veil fun E=>?_)
 simp only [go_sem]
 rw [ak ⟨by omega,by omega⟩]
 refine ⟨⟨by omega,by omega⟩,?_⟩
 rw [show ((es.length:Int)-1).toNat=es.length-1 by omega,hgr]
 simp only [go_sem]
 refine ⟨⟨by omega,by omega⟩,?_⟩
 rw [h1] at hsk ⊢
 first | rw [hga] | rw [Int.toNat_natCast,hga]
 simp only [go_sem]
 by_cases hnn:g.name=r.name
 ·rw [if_pos hnn] at hR
  rw [show (g.name == r.name)=true by simp [hnn]]
  simp only [go_sem]
  refine ab E (hsk) rfl rfl (by simp) ?_
  rintro _ rfl
  simp only [go_sem]
  refine ⟨[],?_⟩
  rw [hR]
  simp only [go_sem]
 ·rw [if_neg hnn,← hV] at hR
  rw [show (g.name == r.name)=false by simp [hnn]]
  simp only [go_sem]
  refine aj mixed E fun X=>?_
  simp only [go_sem]
  refine aZ X hsk rfl rfl (by simp) ?_
  simp only [go_sem]
  refine aZ X cs rfl rfl (by simp) ?_
  simp only [go_sem]
  refine cg X 42 [42] (some 1) [.agg [.sl (some 9) (f.enc.map enD)],.agg [.sl (some 9) ((f.kid 0).enc.map enD)]] d1 (fun _=>rfl) rfl rfl rfl (by simp) rfl (by simp only [go_sem]) ?_
  simp only [go_sem]
  refine ⟨by decide +kernel,?_⟩
  refine cV E [50] (some 1) [.agg [.sl (some 9) (J.enc.map enD)]] rfl (by simp only [go_sem];rfl) ?_
  simp only [go_sem]
  refine ab E (d2) rfl rfl (by simp) ?_
  rintro _ rfl
  simp only [go_sem]
  refine ⟨[],?_⟩
  rw [hR]
  simp only [go_sem]
def fN (n:EN):Nat:=if n.k=6∨n.k=10 then 2 else if n.k=7∨n.k=9∨n.k=12∨n.k=13∨n.k=14 then 1 else if n.k=11 then n.l.length else 0
def upD (m:Nat):List D:=(List.range m).map fun j:Nat=>i64 (j:Int)
theorem wE {m q:Nat} (h:q<m):(upD m).getD q .nilp=i64 (q:Int):=by simp [upD,h]
theorem wU (m:Nat):(upD m).length=m:=by simp [upD]
theorem G1 (m:Nat):upD m++[i64 (m:Int)]=upD (m+1):=by unfold upD;rw [List.range_succ,List.map_append];rfl
theorem GY {G} (n:EN) (hl:n.l.length≤900000):HP Tryz.prog G 191 [enD n] (fun r=>r=.d (.sl none (upD (fN n)))):=by
 refine HP.wkr (Q:=fun r=>r=.d (.sl none (upD (fN n)))∨(r=.d .nils∧upD (fN n)=[])) ?_ (fun r hr=>?_)
 ·generalize hR:upD (fN n)=R
  unfold fN at hR
  rw [aP n]
  refine au Tryz.func191 rfl (by decide +kernel) (by simp [Tryz.ntmps191]) (veil fun E=>?_)
  simp only [go_sem]
  by_cases k6:n.k=6
  ·rw [if_pos (.inl k6)] at hR
   rw [decide_eq_true k6]
   simp only [go_sem]
   rw [← hR]
   refine ⟨[([10],none,[i64 0,i64 1])],?_⟩
   simp only [go_sem]
   exact .inl rfl
  rw [decide_eq_false k6]
  simp only [go_sem]
  by_cases k10:n.k=10
  ·rw [if_pos (.inr k10)] at hR
   rw [decide_eq_true k10]
   simp only [go_sem]
   rw [← hR]
   refine ⟨[([10],none,[i64 0,i64 1])],?_⟩
   simp only [go_sem]
   exact .inl rfl
  rw [decide_eq_false k10]
  simp only [go_sem]
  rw [if_neg (by omega)] at hR
  by_cases k7:n.k=7∨n.k=9∨n.k=12∨n.k=13∨n.k=14
  ·rw [if_pos k7] at hR
   refine ai E (fun g7=>?_) (fun g7=>?_)<;>simp only [go_sem]
   ·rw [decide_eq_true g7]
    simp only [go_sem]
    rw [← hR]
    refine ⟨[([17],none,[i64 0])],?_⟩
    simp only [go_sem]
    exact .inl rfl
   refine ai E (fun g9=>?_) (fun g9=>?_)<;>simp only [go_sem]
   ·rw [decide_eq_true g9]
    simp only [go_sem]
    rw [← hR]
    refine ⟨[([17],none,[i64 0])],?_⟩
    simp only [go_sem]
    exact .inl rfl
   refine ai E (fun g12=>?_) (fun g12=>?_)<;>simp only [go_sem]
   ·rw [decide_eq_true g12]
    simp only [go_sem]
    rw [← hR]
    refine ⟨[([17],none,[i64 0])],?_⟩
    simp only [go_sem]
    exact .inl rfl
   refine ai E (fun g13=>?_) (fun g13=>?_)<;>simp only [go_sem]
   ·rw [decide_eq_true g13]
    simp only [go_sem]
    rw [← hR]
    refine ⟨[([17],none,[i64 0])],?_⟩
    simp only [go_sem]
    exact .inl rfl
   rw [decide_eq_true (show n.k=14 by omega)]
   simp only [go_sem]
   rw [← hR]
   refine ⟨[([17],none,[i64 0])],?_⟩
   simp only [go_sem]
   exact .inl rfl
  ·rw [if_neg k7] at hR
   rw [decide_eq_false (show ¬ n.k=7 by omega)]
   simp only [go_sem]
   rw [decide_eq_false (show ¬ n.k=9 by omega)]
   simp only [go_sem]
   rw [decide_eq_false (show ¬ n.k=12 by omega)]
   simp only [go_sem]
   rw [decide_eq_false (show ¬ n.k=13 by omega)]
   simp only [go_sem]
   rw [decide_eq_false (show ¬ n.k=14 by omega)]
   simp only [go_sem]
   refine ai E (fun k11=>?_) (fun k11=>?_)<;>simp only [go_sem]
   ·rw [if_pos k11] at hR
    refine aE E (X:={ q:Nat // q≤n.l.length }) (fun y=>[(1,.at [1] 0),(3,.vw [97] 0 y.1),(4,.d (i64 y.1))])
     (fun y=>[([1],.box [.d (i64 n.k),.d (i64 n.a),.d (i64 n.b),.d (i64 n.c),.d (i64 n.n),.d (.str n.name),.d (.str n.s),.d (.sl (some 3) (n.l.map fD)),.d (i64 n.pos)]),([97],.arr none (upD y.1))]) [1,97] (fun y=>n.l.length-y.1) ⟨0,Nat.zero_le _⟩ (tau [([97],[20])]) ?_ ?_
    ·simp only [go_sem]
     all_goals ((repeat' apply And.intro)<;>first | rfl | trivial)
    rintro ⟨q,hq⟩ E0
    refine aT E0 fun Q' hQ E'=>?_
    simp only at hq ⊢
    simp only [go_sem]
    refine ai E' (fun f1=>?_) (fun f1=>?_)<;>simp only [go_sem]
    ·have hu:=G1 q
     refine ⟨by omega,?_⟩
     rw [List.take_of_length_le (by rw [wU];exact Nat.le_refl _),hu]
     rw [ak ⟨by omega,by omega⟩,hQ]
     simp only [go_sem]
     refine ⟨⟨q+1,by omega⟩,by show n.l.length-(q+1)<_;omega,tau [([97],[31])],?_⟩
     simp only [go_sem]
     all_goals ((repeat' apply And.intro)<;>first | rfl | trivial)
    ·have h3:q=n.l.length:=by omega
     subst h3
     rw [hQ]
     simp only [go_sem]
     refine ⟨[([97],none,R)],?_⟩
     rw [hR]
     simp only [go_sem]
     rw [← hR,List.take_of_length_le (by rw [wU];exact Nat.le_refl _)]
     exact .inl rfl
   ·rw [if_neg k11] at hR
    rw [← hR]
    refine ⟨[],?_⟩
    simp only [go_sem]
    exact .inr rfl
 ·rcases hr with hr | ⟨hr,he⟩
  ·exact ⟨_,_,hr,.refl _,rfl⟩
  ·exact ⟨_,_,hr,.nils none,by rw [he]⟩
end Go.Proofs.YtejpnabbmgpmaaaGreat

namespace Go.Proofs.YtejpnabbmgpmaaaGreat
open Go.Ab
theorem bP {ts:List RT} {j:Nat} (h:j<ts.length):(ts.map fun t=>exD t.enc).getD j .nilp=.agg [.sl (some 9) ((ts.getD j az).enc.map enD)]:=by simp [h,exD]
structure Rdx (n:EN) (ts:List RT):Prop where
 g:(RT.mk (can n) ts).good
 l:n.l.length≤900000
 s:(RT.mk (can n) ts).sz≤600
 k:n.k=8→(ts.getD 0 az).lab.k=5
section
variable {n:EN} {ts:List RT} (h:Rdx n ts)
include h
theorem Rdx.at {j:Nat} (hj:j<ts.length):(ts.getD j az).good∧(ts.getD j az).sz≤600:=by
 have hm:=ku hj
 have h1:=fH (t:=.mk (can n) ts) hm
 have h2:=h.s
 exact ⟨(bk.1 h.g).2 _ hm,by omega⟩
theorem Rdx.wide:aA n=ts.length:=by
 have:=(bk.1 h.g).1.1
 rwa [je] at this
theorem Rdx.root {G} {j:Nat} (hj:j<ts.length):HP Tryz.prog G 244 [.agg [.sl (some 9) ((ts.getD j az).enc.map enD)]] (fun r=>r=.d (enD (rtN (ts.getD j az)))):=by
 obtain ⟨h1,h2⟩:=h.at hj
 have hp:1≤(ts.getD j az).enc.length:=dm _
 have hs:(ts.getD j az).enc.length≤600:=h2
 exact Fv _ hp (by omega)
theorem Rdx.lab {j:Nat} (hj:j<ts.length):(ts.getD j az).lab=can (rtN (ts.getD j az)):=by
 obtain ⟨h1,h2⟩:=h.at hj
 exact tW h1 (by omega)
omit h in
theorem Rdx.raw {G} {x:List UInt8} {t v:RT} (h1:t.good∧t.sz≤600) (h2:v.good) (h3:v.sz≤600):HP Tryz.prog G 245 [.agg [.sl (some 9) (t.enc.map enD)],.str x,.agg [.sl (some 9) (v.enc.map enD)]] (fun r=>r=.d (exD (bW x v t).enc)) :=
 xB h1.1 h2 x (by have:=h1.2;omega) (by omega) (Nat.le_trans (Nat.mul_le_mul h1.2 h3) (by decide))
end
def fh (q:Int × RT):AV:=.tup [.d (gR q),.d (i64 q.1)]
theorem HJ {G} {n:EN} {ts:List RT} (h:Rdx n ts) (k7:n.k=7):HP Tryz.prog G 192 [enD n,.sl (some 1) (ts.map fun t=>exD t.enc)] (fun r=>r=fh (ar (can n) ts)):=by
 obtain ⟨R,hR⟩:∃ R,R=fh (ar (can n) ts):=⟨_,rfl⟩
 rw [← hR]
 have hw:=h.wide
 rw [cC (by rw [k7];rfl),k7] at hw
 have hw:ts.length=2:=hw.symm
 have hq:ar (can n) ts=(5,bW n.name (ts.getD 0 az) (ts.getD 1 az)):=by
  unfold ar
  rw [ck,if_neg (by omega),if_pos k7]
  rfl
 rw [hq] at hR
 have c:=Rdx.raw (G:=G) (x:=n.name) (h.at (j:=1) (by omega)) (h.at (j:=0) (by omega)).1 (h.at (j:=0) (by omega)).2
 generalize (bW n.name (ts.getD 0 az) (ts.getD 1 az))=V at *
 rw [aP n]
 refine au Tryz.func192 rfl (by decide +kernel) (by simp [Tryz.ntmps192]) (veil fun E=>?_)
 simp only [go_sem]
 rw [k7]
 simp only [go_sem]
 refine aj mixed E fun X=>?_
 simp only [go_sem]
 first | refine ⟨⟨by omega,by omega⟩,?_⟩ | refine ⟨by omega,?_⟩
 rw [bP (show 1<ts.length by omega)]
 simp only [go_sem]
 first | refine ⟨⟨by omega,by omega⟩,?_⟩ | refine ⟨by omega,?_⟩
 rw [bP (show 0<ts.length by omega)]
 simp only [go_sem]
 unfold exD at c
 refine aZ X c rfl rfl (by simp) ?_
 simp only [go_sem]
 refine ⟨by decide +kernel,?_⟩
 refine ⟨[],?_⟩
 simp only [go_sem]
 rw [hR]
 rfl
theorem HL {G} {n:EN} {ts:List RT} (h:Rdx n ts) (k6:n.k=6):HP Tryz.prog G 192 [enD n,.sl (some 1) (ts.map fun t=>exD t.enc)] (fun r=>r=fh (ar (can n) ts)):=by
 obtain ⟨R,hR⟩:∃ R,R=fh (ar (can n) ts):=⟨_,rfl⟩
 rw [← hR]
 have hw:=h.wide
 rw [cC (by rw [k6];rfl),k6] at hw
 have hw:ts.length=2:=hw.symm
 have h0:=h.at (j:=0) (by omega)
 have c0:=h.root (G:=G) (j:=0) (by omega)
 have hl0:=h.lab (j:=0) (by omega)
 have hsk:=fun j hj=>jP (G:=G) h0.1 (by have:=h0.2;omega) (j:=j) hj
 have hrk:=fun j hj=>fj h0.1 (by have:=h0.2;omega) (j:=j) hj
 have hrr:=dQ h0.1
 obtain ⟨t0,ht0⟩:∃ t0,t0=ts.getD 0 az:=⟨_,rfl⟩
 rw [← ht0] at h0 c0 hl0 hsk hrk hrr
 obtain ⟨f,hf⟩:∃ f,f=rtN t0:=⟨_,rfl⟩
 rw [← hf] at c0 hl0 hsk hrk hrr
 rw [aP f] at c0
 have hq:ar (can n) ts=if f.k=5 then (5,bW f.name (ts.getD 1 az) (t0.kid 0)) else (4,az):=by
  unfold ar
  rw [ck,if_pos k6]
  simp only [← ht0]
  rw [hl0,ck,iZ]
 rw [hq] at hR
 have h1:=h.at (j:=1) (by omega)
 by_cases k5:f.k=5
 ·rw [if_pos k5] at hR
  have hke:=eY (.inl k5)
  rw [hke] at hsk hrk
  have cs:=hsk 0 (Nat.zero_lt_succ _)
  rw [show [f.a].getD 0 0=f.a from rfl] at cs
  obtain ⟨a,_,_,ea,sa⟩:=hrk 0 (Nat.zero_lt_succ _)
  have gk:(t0.kid 0).good:=by
   refine fg h0.1 ?_
   rw [eP h0.1,hl0,je,cC (by rw [k5];rfl),k5]
   decide
  have c:=Rdx.raw (G:=G) (x:=f.name) (t:=t0.kid 0) ⟨gk,by rw [ea];have:=h0.2;omega⟩ h1.1 h1.2
  generalize (bW f.name (ts.getD 1 az) (t0.kid 0))=V at *
  unfold exD at cs c
  rw [aP n]
  refine au Tryz.func192 rfl (by decide +kernel) (by simp [Tryz.ntmps192]) (veil fun E=>?_)
  simp only [go_sem]
  rw [k6]
  simp only [go_sem]
  first | refine ⟨⟨by omega,by omega⟩,?_⟩ | refine ⟨by omega,?_⟩
  rw [bP (show 0<ts.length by omega),← ht0]
  simp only [go_sem]
  refine ab E (c0) rfl rfl (by simp) ?_
  rintro _ rfl
  simp only [go_sem]
  rw [decide_eq_true k5]
  simp only [go_sem]
  refine aj mixed E fun X=>?_
  simp only [go_sem]
  first | refine ⟨⟨by omega,by omega⟩,?_⟩ | refine ⟨by omega,?_⟩
  rw [bP (show 0<ts.length by omega),← ht0]
  simp only [go_sem]
  refine aZ X cs rfl rfl (by simp) ?_
  simp only [go_sem]
  first | refine ⟨⟨by omega,by omega⟩,?_⟩ | refine ⟨by omega,?_⟩
  rw [bP (show 1<ts.length by omega)]
  simp only [go_sem]
  refine aZ X c rfl rfl (by simp) ?_
  simp only [go_sem]
  refine ⟨by decide +kernel,?_⟩
  refine ⟨[],?_⟩
  simp only [go_sem]
  rw [hR]
  rfl
 ·rw [if_neg k5] at hR
  rw [aP n]
  refine au Tryz.func192 rfl (by decide +kernel) (by simp [Tryz.ntmps192]) (veil fun E=>?_)
  simp only [go_sem]
  rw [k6]
  simp only [go_sem]
  first | refine ⟨⟨by omega,by omega⟩,?_⟩ | refine ⟨by omega,?_⟩
  rw [bP (show 0<ts.length by omega),← ht0]
  simp only [go_sem]
  refine ab E (c0) rfl rfl (by simp) ?_
  rintro _ rfl
  simp only [go_sem]
  rw [decide_eq_false k5]
  simp only [go_sem]
  refine ⟨[],?_⟩
  simp only [go_sem]
  rw [hR]
  unfold fh
  rw [bx (by decide)]
theorem Ja {G} {n:EN} {ts:List RT} (h:Rdx n ts) (k8:n.k=8):HP Tryz.prog G 192 [enD n,.sl (some 1) (ts.map fun t=>exD t.enc)] (fun r=>r=fh (ar (can n) ts)):=by
 obtain ⟨R,hR⟩:∃ R,R=fh (ar (can n) ts):=⟨_,rfl⟩
 rw [← hR]
 have hw:=h.wide
 rw [cC (by rw [k8];rfl),k8] at hw
 have hw:ts.length=2:=hw.symm
 have hts:ts=[ts.getD 0 az,ts.getD 1 az]:=by
  match ts,hw with
  | [a,b],_=>rfl
 have hq:ar (can n) ts=(5,bW n.name (cG (can n) (ts.getD 0 az)) (ts.getD 1 az)):=by
  unfold ar
  rw [ck,if_neg (by omega),if_neg (by omega),if_pos k8]
  rfl
 rw [hq] at hR
 have hsz:szs ts≤600:=by have:=h.s;rw [er] at this;omega
 have cj:=m0 (G:=G) (n:=n) (ts:=ts) h.l h.wide (bk.1 h.g).2 (by omega)
 have hg2:=h.g
 have hs2:=h.s
 rw [hts] at hg2 hs2
 have cu:=GF (G:=G) hg2 k8 (h.k k8) (by omega)
 rw [← hts] at cu
 have hs3:2*(ts.getD 0 az).sz+1≤1201:=by have:=(h.at (j:=0) (by omega)).2;omega
 obtain ⟨u1,u2⟩:=ja (n:=can n) (f:=ts.getD 0 az) (ra h.g).1 k8 (h.at (j:=0) (by omega)).1 (h.k k8)
 have h1:=h.at (j:=1) (by omega)
 have c:=xB (G:=G) h1.1 u1 n.name (by have:=h1.2;omega) (by omega) (Nat.le_trans (Nat.mul_le_mul h1.2 (Nat.le_trans u2 hs3)) (by decide))
 generalize (bW n.name (cG (can n) (ts.getD 0 az)) (ts.getD 1 az))=V at *
 generalize cG (can n) (ts.getD 0 az)=U at *
 rw [aP n] at cj
 unfold exD at c cu
 rw [show exD (RT.mk (can n) ts).enc=.agg [.sl (some 9) ((RT.mk (can n) ts).enc.map enD)] from rfl] at cj
 rw [aP n]
 refine au Tryz.func192 rfl (by decide +kernel) (by simp [Tryz.ntmps192]) (veil fun E=>?_)
 simp only [go_sem]
 rw [k8]
 simp only [go_sem]
 refine aj mixed E fun X=>?_
 simp only [go_sem]
 first | refine ⟨⟨by omega,by omega⟩,?_⟩ | refine ⟨by omega,?_⟩
 rw [bP (show 1<ts.length by omega)]
 simp only [go_sem]
 rw [k8] at cj
 refine aZ X cj rfl rfl (by simp) ?_
 simp only [go_sem]
 refine aZ X cu rfl rfl (by simp) ?_
 simp only [go_sem]
 refine aZ X c rfl rfl (by simp) ?_
 simp only [go_sem]
 refine ⟨by decide +kernel,?_⟩
 refine ⟨[],?_⟩
 simp only [go_sem]
 rw [hR]
 rfl
theorem HX {G} {n:EN} {ts:List RT} (h:Rdx n ts) (k9:n.k=9):HP Tryz.prog G 192 [enD n,.sl (some 1) (ts.map fun t=>exD t.enc)] (fun r=>r=fh (ar (can n) ts)):=by
 obtain ⟨R,hR⟩:∃ R,R=fh (ar (can n) ts):=⟨_,rfl⟩
 rw [← hR]
 have hw:=h.wide
 rw [cC (by rw [k9];rfl),k9] at hw
 have hw:ts.length=3:=hw.symm
 have h0:=h.at (j:=0) (by omega)
 have c0:=h.root (G:=G) (j:=0) (by omega)
 have hl0:=h.lab (j:=0) (by omega)
 have hsk:=fun j hj=>jP (G:=G) h0.1 (by have:=h0.2;omega) (j:=j) hj
 have hrk:=fun j hj=>fj h0.1 (by have:=h0.2;omega) (j:=j) hj
 have hrr:=dQ h0.1
 obtain ⟨t0,ht0⟩:∃ t0,t0=ts.getD 0 az:=⟨_,rfl⟩
 rw [← ht0] at h0 c0 hl0 hsk hrk hrr
 obtain ⟨f,hf⟩:∃ f,f=rtN t0:=⟨_,rfl⟩
 rw [← hf] at c0 hl0 hsk hrk hrr
 rw [aP f] at c0
 have hq:ar (can n) ts=if f.k=2 then (5,if f.n=1 then ts.getD 1 az else ts.getD 2 az) else (4,az):=by
  unfold ar
  rw [ck,if_neg (by omega),if_neg (by omega),if_neg (by omega),if_pos k9]
  simp only [← ht0]
  rw [hl0,ck,Jy]
 rw [hq] at hR
 rw [aP n]
 refine au Tryz.func192 rfl (by decide +kernel) (by simp [Tryz.ntmps192]) (veil fun E=>?_)
 simp only [go_sem]
 rw [k9]
 simp only [go_sem]
 first | refine ⟨⟨by omega,by omega⟩,?_⟩ | refine ⟨by omega,?_⟩
 rw [bP (show 0<ts.length by omega),← ht0]
 simp only [go_sem]
 refine ab E (c0) rfl rfl (by simp) ?_
 rintro _ rfl
 simp only [go_sem]
 repeat (first
  | (apply bC E;(· simp only [go_sem]);(· intro h;(try simp only [bq] at h);simp only [↓h,go_sem];rfl);simp only [go_sem])
  | (apply aW E;(· simp only [go_sem]);(· intro h;(try simp only [bq] at h);simp only [↓h,go_sem];rfl);(· intro h;(try simp only [bq] at h);simp only [↓h,go_sem];rfl);simp only [go_sem])
  | (apply aX E;(· simp only [go_sem]);(· rfl);(· intro h h';(try simp only [bq] at h h');simp only [↓h,↓h',go_sem];rfl);simp only [go_sem])
  | (apply aH E;(· simp only [go_sem]);(· rfl);(· intro h h';(try simp only [bq] at h h');simp only [↓h,↓h',go_sem];rfl);(· intro h h';(try simp only [bq] at h h');simp only [↓h,↓h',go_sem];rfl);simp only [go_sem])
  | (apply bz E;(· decide);simp only [go_sem]))
 by_cases k2:f.k=2
 ·rw [if_pos k2] at hR
  by_cases k1:f.n=1
  ·rw [if_pos k1] at hR
   refine aR E (fun _=>?_) (fun g=>absurd g (by simp [k1,k2]))<;>simp only [go_sem]
   first | refine ⟨⟨by omega,by omega⟩,?_⟩ | refine ⟨by omega,?_⟩
   rw [bP (show 1<ts.length by omega)]
   simp only [go_sem]
   refine ⟨[],?_⟩
   simp only [go_sem]
   rw [hR]
   rfl
  ·rw [if_neg k1] at hR
   refine aR E (fun g=>absurd g (by simp [k1,k2])) (fun _=>?_)<;>simp only [go_sem]
   rw [decide_eq_true k2]
   simp only [go_sem]
   first | refine ⟨⟨by omega,by omega⟩,?_⟩ | refine ⟨by omega,?_⟩
   rw [bP (show 2<ts.length by omega)]
   simp only [go_sem]
   refine ⟨[],?_⟩
   simp only [go_sem]
   rw [hR]
   rfl
 ·rw [if_neg k2] at hR
  refine aR E (fun g=>absurd g (by simp [k2])) (fun _=>?_)<;>simp only [go_sem]
  rw [decide_eq_false k2]
  simp only [go_sem]
  refine ⟨[],?_⟩
  simp only [go_sem]
  rw [hR]
  unfold fh
  rw [bx (by decide)]
theorem Gs {G} {n:EN} {ts:List RT} (h:Rdx n ts) (k10:n.k=10):HP Tryz.prog G 192 [enD n,.sl (some 1) (ts.map fun t=>exD t.enc)] (fun r=>r=fh (ar (can n) ts)):=by
 obtain ⟨R,hR⟩:∃ R,R=fh (ar (can n) ts):=⟨_,rfl⟩
 rw [← hR]
 have hw:=h.wide
 rw [cC (by rw [k10];rfl),k10] at hw
 have hw:ts.length=2:=hw.symm
 have h0:=h.at (j:=0) (by omega)
 have c0:=h.root (G:=G) (j:=0) (by omega)
 have hl0:=h.lab (j:=0) (by omega)
 have hsk:=fun j hj=>jP (G:=G) h0.1 (by have:=h0.2;omega) (j:=j) hj
 have hrk:=fun j hj=>fj h0.1 (by have:=h0.2;omega) (j:=j) hj
 have hrr:=dQ h0.1
 obtain ⟨t0,ht0⟩:∃ t0,t0=ts.getD 0 az:=⟨_,rfl⟩
 rw [← ht0] at h0 c0 hl0 hsk hrk hrr
 obtain ⟨f,hf⟩:∃ f,f=rtN t0:=⟨_,rfl⟩
 rw [← hf] at c0 hl0 hsk hrk hrr
 rw [aP f] at c0
 have h1:=h.at (j:=1) (by omega)
 have c1:=h.root (G:=G) (j:=1) (by omega)
 have hl1:=h.lab (j:=1) (by omega)
 have hr1:=dQ h1.1
 obtain ⟨t1,ht1⟩:∃ t1,t1=ts.getD 1 az:=⟨_,rfl⟩
 rw [← ht1] at h1 c1 hl1 hr1
 obtain ⟨g,hg⟩:∃ g,g=rtN t1:=⟨_,rfl⟩
 rw [← hg] at c1 hl1 hr1
 rw [aP g] at c1
 have hq:ar (can n) ts=e7 n f g:=by
  unfold ar
  rw [ck,if_neg (by omega),if_neg (by omega),if_neg (by omega),if_neg (by omega),if_pos k10]
  simp only [← ht0,← ht1]
  rw [hl0,hl1]
  rfl
 rw [hq] at hR
 have cp:=Gv (G:=G) n f g hrr.2 hr1.2 (lE hrr.1) (lE hr1.1)
 rw [aP n,aP f,aP g] at cp
 obtain ⟨S,hS⟩:=iO (e7 n f g)
 rw [hS] at cp
 unfold fh at hR
 rw [hS] at hR
 generalize (e7 n f g).1=w at *
 rw [aP n]
 refine au Tryz.func192 rfl (by decide +kernel) (by simp [Tryz.ntmps192]) (veil fun E=>?_)
 simp only [go_sem]
 rw [k10]
 simp only [go_sem]
 refine aj mixed E fun X=>?_
 simp only [go_sem]
 first | refine ⟨⟨by omega,by omega⟩,?_⟩ | refine ⟨by omega,?_⟩
 rw [bP (show 0<ts.length by omega),← ht0]
 simp only [go_sem]
 refine aZ X c0 rfl rfl (by simp) ?_
 simp only [go_sem]
 first | refine ⟨⟨by omega,by omega⟩,?_⟩ | refine ⟨by omega,?_⟩
 rw [bP (show 1<ts.length by omega),← ht1]
 simp only [go_sem]
 refine aZ X c1 rfl rfl (by simp) ?_
 simp only [go_sem]
 rw [k10] at cp
 refine aZ X cp rfl rfl (by simp) ?_
 simp only [go_sem]
 refine ⟨by decide +kernel,?_⟩
 refine ⟨[],?_⟩
 simp only [go_sem]
 rw [hR]
theorem zu {l:List EF} {p:EF→Bool} {q:Nat} (hq:q<l.length) (ha:∀ j,j<q→p (fdE l j)=false) (hp:p (fdE l q)=true):l.findIdx p=q:=by
 have hf:∀ j (h:j<l.length),fdE l j=l[j]:=fun j h=>by simp [fdE,h]
 rw [hf q hq] at hp
 refine (List.findIdx_eq hq).2 ⟨hp,fun j hj=>?_⟩
 have:=ha j hj
 rwa [hf j (by omega)] at this
theorem qg {l:List EF} {p:EF→Bool} (ha:∀ j,j<l.length→p (fdE l j)=false):¬ l.findIdx p<l.length:=fun h=>by
 have h1:=List.findIdx_getElem (w:=h)
 have h2:=ha _ h
 rw [show fdE l (l.findIdx p)=l[l.findIdx p] by simp [fdE,h]] at h2
 rw [h1] at h2
 cases h2
set_option maxHeartbeats 1000000 in
theorem GC {G} {n:EN} {ts:List RT} (h:Rdx n ts) (k12:n.k=12):HP Tryz.prog G 192 [enD n,.sl (some 1) (ts.map fun t=>exD t.enc)] (fun r=>r=fh (ar (can n) ts)):=by
 obtain ⟨R,hR⟩:∃ R,R=fh (ar (can n) ts):=⟨_,rfl⟩
 rw [← hR]
 have hw:=h.wide
 rw [cC (by rw [k12];rfl),k12] at hw
 have hw:ts.length=1:=hw.symm
 have h0:=h.at (j:=0) (by omega)
 have c0:=h.root (G:=G) (j:=0) (by omega)
 have hl0:=h.lab (j:=0) (by omega)
 have hsk:=fun j hj=>jP (G:=G) h0.1 (by have:=h0.2;omega) (j:=j) hj
 have hrk:=fun j hj=>fj h0.1 (by have:=h0.2;omega) (j:=j) hj
 have hrr:=dQ h0.1
 obtain ⟨t0,ht0⟩:∃ t0,t0=ts.getD 0 az:=⟨_,rfl⟩
 rw [← ht0] at h0 c0 hl0 hsk hrk hrr
 obtain ⟨f,hf⟩:∃ f,f=rtN t0:=⟨_,rfl⟩
 rw [← hf] at c0 hl0 hsk hrk hrr
 rw [aP f] at c0
 have hfl:=fy hrr.1
 have hq:ar (can n) ts=if f.k=11∧dy f.l n.name<f.l.length then (5,t0.kid (dy f.l n.name)) else (4,az):=by
  unfold ar
  rw [ck,if_neg (by omega),if_neg (by omega),if_neg (by omega),if_neg (by omega),if_neg (by omega),if_pos k12]
  simp only [← ht0]
  rw [hl0,ck,iZ]
  by_cases k11:f.k=11
  ·obtain ⟨j1,j2⟩:=kY (n:=f) (by rw [k11];rfl) n.name
   rw [j1,j2]
  ·simp [k11]
 rw [hq] at hR
 rw [aP n]
 refine au Tryz.func192 rfl (by decide +kernel) (by simp [Tryz.ntmps192]) (veil fun E=>?_)
 simp only [go_sem]
 rw [k12]
 simp only [go_sem]
 first | refine ⟨⟨by omega,by omega⟩,?_⟩ | refine ⟨by omega,?_⟩
 rw [bP (show 0<ts.length by omega),← ht0]
 simp only [go_sem]
 refine ab E (c0) rfl rfl (by simp) ?_
 rintro _ rfl
 simp only [go_sem]
 refine aE E (X:={ q:Nat // q≤f.l.length∧∀ j,j<q→(f.k=11→((fdE f.l j).nm == n.name)=false) }) (fun y=>[(1,.d (.sl (some 1) (ts.map fun t=>exD t.enc))),(2,.at [2] 0),(4,.at [4] 0),(5,.d (i64 0)),(8,.at [8] 0),(9,.d (i64 y.1))])
  (fun _=>[([2],.box [.d (i64 12),.d (i64 n.a),.d (i64 n.b),.d (i64 n.c),.d (i64 n.n),.d (.str n.name),.d (.str n.s),.d (.sl (some 3) (n.l.map fD)),.d (i64 n.pos)]),([4],.box [.d .nils]),([8],.box [.d (i64 f.k),.d (i64 f.a),.d (i64 f.b),.d (i64 f.c),.d (i64 f.n),.d (.str f.name),.d (.str f.s),.d (.sl (some 3) (f.l.map fD)),.d (i64 f.pos)])]) [2,4,8] (fun y=>f.l.length-y.1) ⟨0,Nat.zero_le _,fun j hj=>absurd hj (Nat.not_lt_zero _)⟩ id ?_ ?_
 ·simp only [go_sem]
  all_goals ((repeat' apply And.intro)<;>first | rfl | trivial)
 rintro ⟨q,hqq,ha⟩ E0
 refine aT E0 fun Q' hQ E'=>?_
 simp only at hqq ha ⊢
 simp only [go_sem]
 repeat (first
  | (apply bC E';(· simp only [go_sem]);(· intro h;(try simp only [bq] at h);simp only [↓h,go_sem];rfl);simp only [go_sem])
  | (apply aW E';(· simp only [go_sem]);(· intro h;(try simp only [bq] at h);simp only [↓h,go_sem];rfl);(· intro h;(try simp only [bq] at h);simp only [↓h,go_sem];rfl);simp only [go_sem])
  | (apply aX E';(· simp only [go_sem]);(· rfl);(· intro h h';(try simp only [bq] at h h');simp only [↓h,↓h',go_sem];rfl);simp only [go_sem])
  | (apply aH E';(· simp only [go_sem]);(· rfl);(· intro h h';(try simp only [bq] at h h');simp only [↓h,↓h',go_sem];rfl);(· intro h h';(try simp only [bq] at h h');simp only [↓h,↓h',go_sem];rfl);simp only [go_sem])
  | (apply bz E';(· decide);simp only [go_sem]))
 refine aR E' (fun g=>?_) (fun g=>?_)<;>simp only [go_sem]
 ·simp only [Bool.and_eq_true,decide_eq_true_eq] at g
  obtain ⟨g1,k11⟩:=g
  have hq':q<f.l.length:=by omega
  refine aj mixed E' fun X=>?_
  simp only [go_sem]
  refine ⟨⟨by omega,by omega⟩,?_⟩
  rw [cR hq']
  simp only [go_sem]
  refine ⟨by decide +kernel,?_⟩
  refine aR E' (fun g2=>?_) (fun g2=>?_)<;>simp only [go_sem]
  ·have hi:dy f.l n.name=q:=zu hq' (fun j hj=>ha j hj k11) g2
   rw [hi,if_pos ⟨k11,hq'⟩] at hR
   have hkl:=qd k11
   rw [hkl] at hsk
   have cs:=hsk q (by rw [List.length_map];exact hq')
   rw [show (f.l.map (·.to)).getD q 0=(fdE f.l q).to by simp [fdE,hq']] at cs
   generalize t0.kid q=V at *
   unfold exD at cs
   refine aj mixed E' fun X=>?_
   simp only [go_sem]
   first | refine ⟨⟨by omega,by omega⟩,?_⟩ | refine ⟨by omega,?_⟩
   rw [bP (show 0<ts.length by omega),← ht0]
   simp only [go_sem]
   refine ⟨⟨by omega,by omega⟩,?_⟩
   rw [cR hq']
   simp only [go_sem]
   refine aZ X cs rfl rfl (by simp) ?_
   simp only [go_sem]
   refine ⟨by decide +kernel,?_⟩
   rw [hQ]
   simp only [go_sem]
   refine ⟨[],?_⟩
   simp only [go_sem]
   rw [hR]
   rfl
  ·rw [ak ⟨by omega,by omega⟩,hQ]
   simp only [go_sem]
   refine ⟨⟨q+1,by omega,fun j hj e=>?_⟩,by show f.l.length-(q+1)<_;omega,id,?_⟩
   ·by_cases e2:j=q
    ·rw [e2];exact g2
    ·exact ha j (by omega) e
   ·simp only [go_sem]
    all_goals ((repeat' apply And.intro)<;>first | rfl | trivial)
 ·rw [hQ]
  simp only [go_sem]
  rw [if_neg (by
   rintro ⟨k11,hlt⟩
   have h3:q=f.l.length:=by
    simp only [Bool.and_eq_false_iff,decide_eq_false_iff_not] at g
    rcases g with g | g
    ·omega
    ·exact absurd k11 g
   subst h3
   exact qg (fun j hj=>ha j hj k11) hlt)] at hR
  refine ⟨[],?_⟩
  simp only [go_sem]
  rw [hR]
  unfold fh
  rw [bx (by decide)]
set_option maxHeartbeats 1000000 in
theorem Ft {G} {n:EN} {ts:List RT} (h:Rdx n ts) (k14:n.k=14):HP Tryz.prog G 192 [enD n,.sl (some 1) (ts.map fun t=>exD t.enc)] (fun r=>r=fh (ar (can n) ts)):=by
 obtain ⟨R,hR⟩:∃ R,R=fh (ar (can n) ts):=⟨_,rfl⟩
 rw [← hR]
 have hw:=h.wide
 have hw:ts.length=1+n.l.length:=by
  rw [← hw]
  unfold aA
  rw [k14]
  rfl
 have hnl:=h.l
 have h0:=h.at (j:=0) (by omega)
 have c0:=h.root (G:=G) (j:=0) (by omega)
 have hl0:=h.lab (j:=0) (by omega)
 have hsk:=fun j hj=>jP (G:=G) h0.1 (by have:=h0.2;omega) (j:=j) hj
 have hrk:=fun j hj=>fj h0.1 (by have:=h0.2;omega) (j:=j) hj
 have hrr:=dQ h0.1
 obtain ⟨t0,ht0⟩:∃ t0,t0=ts.getD 0 az:=⟨_,rfl⟩
 rw [← ht0] at h0 c0 hl0 hsk hrk hrr
 obtain ⟨f,hf⟩:∃ f,f=rtN t0:=⟨_,rfl⟩
 rw [← hf] at c0 hl0 hsk hrk hrr
 rw [aP f] at c0
 have hq:ar (can n) ts=if f.k=13∧dy n.l f.name<n.l.length then (5,bW (fdE n.l (dy n.l f.name)).var (t0.kid 0) (ts.getD (dy n.l f.name+1) az)) else (4,az):=by
  unfold ar
  rw [ck,if_neg (by omega),if_neg (by omega),if_neg (by omega),if_neg (by omega),if_neg (by omega),if_neg (by omega),if_pos k14]
  simp only [← ht0]
  obtain ⟨j1,j2⟩:=kY (n:=n) (by rw [k14];rfl) f.name
  rw [hl0,ck,iZ,j1,j2,rU (by rw [k14];rfl)]
 rw [hq] at hR
 rw [aP n]
 refine au Tryz.func192 rfl (by decide +kernel) (by simp [Tryz.ntmps192]) (veil fun E=>?_)
 simp only [go_sem]
 rw [k14]
 simp only [go_sem]
 first | refine ⟨⟨by omega,by omega⟩,?_⟩ | refine ⟨by omega,?_⟩
 rw [bP (show 0<ts.length by omega),← ht0]
 simp only [go_sem]
 refine ab E (c0) rfl rfl (by simp) ?_
 rintro _ rfl
 simp only [go_sem]
 refine aE E (X:={ q:Nat // q≤n.l.length∧∀ j,j<q→(f.k=13→((fdE n.l j).nm == f.name)=false) }) (fun y=>[(1,.d (.sl (some 1) (ts.map fun t=>exD t.enc))),(2,.at [2] 0),(4,.at [4] 0),(5,.d (i64 0)),(10,.at [10] 0),(11,.d (i64 y.1))])
  (fun _=>[([2],.box [.d (i64 14),.d (i64 n.a),.d (i64 n.b),.d (i64 n.c),.d (i64 n.n),.d (.str n.name),.d (.str n.s),.d (.sl (some 3) (n.l.map fD)),.d (i64 n.pos)]),([4],.box [.d .nils]),([10],.box [.d (i64 f.k),.d (i64 f.a),.d (i64 f.b),.d (i64 f.c),.d (i64 f.n),.d (.str f.name),.d (.str f.s),.d (.sl (some 3) (f.l.map fD)),.d (i64 f.pos)])]) [2,4,10] (fun y=>n.l.length-y.1) ⟨0,Nat.zero_le _,fun j hj=>absurd hj (Nat.not_lt_zero _)⟩ id ?_ ?_
 ·simp only [go_sem]
  all_goals ((repeat' apply And.intro)<;>first | rfl | trivial)
 rintro ⟨q,hqq,ha⟩ E0
 refine aT E0 fun Q' hQ E'=>?_
 simp only at hqq ha ⊢
 simp only [go_sem]
 repeat (first
  | (apply bC E';(· simp only [go_sem]);(· intro h;(try simp only [bq] at h);simp only [↓h,go_sem];rfl);simp only [go_sem])
  | (apply aW E';(· simp only [go_sem]);(· intro h;(try simp only [bq] at h);simp only [↓h,go_sem];rfl);(· intro h;(try simp only [bq] at h);simp only [↓h,go_sem];rfl);simp only [go_sem])
  | (apply aX E';(· simp only [go_sem]);(· rfl);(· intro h h';(try simp only [bq] at h h');simp only [↓h,↓h',go_sem];rfl);simp only [go_sem])
  | (apply aH E';(· simp only [go_sem]);(· rfl);(· intro h h';(try simp only [bq] at h h');simp only [↓h,↓h',go_sem];rfl);(· intro h h';(try simp only [bq] at h h');simp only [↓h,↓h',go_sem];rfl);simp only [go_sem])
  | (apply bz E';(· decide);simp only [go_sem]))
 refine aR E' (fun g=>?_) (fun g=>?_)<;>simp only [go_sem]
 ·simp only [Bool.and_eq_true,decide_eq_true_eq] at g
  obtain ⟨g1,k13⟩:=g
  have hq':q<n.l.length:=by omega
  refine aj mixed E' fun X=>?_
  simp only [go_sem]
  refine ⟨⟨by omega,by omega⟩,?_⟩
  rw [cR hq']
  simp only [go_sem]
  refine ⟨by decide +kernel,?_⟩
  refine aR E' (fun g2=>?_) (fun g2=>?_)<;>simp only [go_sem]
  ·have hi:dy n.l f.name=q:=zu hq' (fun j hj=>ha j hj k13) g2
   rw [hi,if_pos ⟨k13,hq'⟩] at hR
   have hke:=eY (.inr (.inr k13))
   rw [hke] at hsk hrk
   have cs:=hsk 0 (Nat.zero_lt_succ _)
   rw [show [f.a].getD 0 0=f.a from rfl] at cs
   obtain ⟨a,_,_,ea,sa⟩:=hrk 0 (Nat.zero_lt_succ _)
   have gk:(t0.kid 0).good:=by
    refine fg h0.1 ?_
    rw [eP h0.1,hl0,je,cC (by rw [k13];rfl),k13]
    decide
   have c:=Rdx.raw (G:=G) (x:=(fdE n.l q).var) (h.at (j:=q+1) (by omega)) gk (by rw [ea];have:=h0.2;omega)
   generalize (bW (fdE n.l q).var (t0.kid 0) (ts.getD (q+1) az))=V at *
   unfold exD at cs c
   refine aj mixed E' fun X=>?_
   simp only [go_sem]
   rw [ak ⟨by omega,by omega⟩]
   refine ⟨⟨by omega,by omega⟩,?_⟩
   rw [show ((q:Int)+1).toNat=q+1 by omega,bP (show q+1<ts.length by omega)]
   simp only [go_sem]
   refine ⟨⟨by omega,by omega⟩,?_⟩
   rw [cR hq']
   simp only [go_sem]
   first | refine ⟨⟨by omega,by omega⟩,?_⟩ | refine ⟨by omega,?_⟩
   rw [bP (show 0<ts.length by omega),← ht0]
   simp only [go_sem]
   refine aZ X cs rfl rfl (by simp) ?_
   simp only [go_sem]
   refine aZ X c rfl rfl (by simp) ?_
   simp only [go_sem]
   refine ⟨by decide +kernel,?_⟩
   rw [hQ]
   simp only [go_sem]
   refine ⟨[],?_⟩
   simp only [go_sem]
   rw [hR]
   rfl
  ·rw [ak ⟨by omega,by omega⟩,hQ]
   simp only [go_sem]
   refine ⟨⟨q+1,by omega,fun j hj e=>?_⟩,by show n.l.length-(q+1)<_;omega,id,?_⟩
   ·by_cases e2:j=q
    ·rw [e2];exact g2
    ·exact ha j (by omega) e
   ·simp only [go_sem]
    all_goals ((repeat' apply And.intro)<;>first | rfl | trivial)
 ·rw [hQ]
  simp only [go_sem]
  rw [if_neg (by
   rintro ⟨k13,hlt⟩
   have h3:q=n.l.length:=by
    simp only [Bool.and_eq_false_iff,decide_eq_false_iff_not] at g
    rcases g with g | g
    ·omega
    ·exact absurd k13 g
   subst h3
   exact qg (fun j hj=>ha j hj k13) hlt)] at hR
  refine ⟨[],?_⟩
  simp only [go_sem]
  rw [hR]
  unfold fh
  rw [bx (by decide)]
theorem GR {G} {n:EN} {ts:List RT} (h:Rdx n ts):HP Tryz.prog G 192 [enD n,.sl (some 1) (ts.map fun t=>exD t.enc)] (fun r=>r=fh (ar (can n) ts)):=by
 by_cases k6:n.k=6
 ·exact HL h k6
 by_cases k7:n.k=7
 ·exact HJ h k7
 by_cases k8:n.k=8
 ·exact Ja h k8
 by_cases k9:n.k=9
 ·exact HX h k9
 by_cases k10:n.k=10
 ·exact Gs h k10
 by_cases k12:n.k=12
 ·exact GC h k12
 by_cases k14:n.k=14
 ·exact Ft h k14
 obtain ⟨R,hR⟩:∃ R,R=fh (ar (can n) ts):=⟨_,rfl⟩
 rw [← hR]
 have hw:=h.wide
 have hq:ar (can n) ts=(4,az):=by
  unfold ar
  rw [ck,if_neg k6,if_neg k7,if_neg k8,if_neg k9,if_neg k10,if_neg k12,if_neg k14]
 rw [hq] at hR
 rw [aP n]
 refine au Tryz.func192 rfl (by decide +kernel) (by simp [Tryz.ntmps192]) (veil fun E=>?_)
 simp only [go_sem]
 rw [decide_eq_false k6]
 simp only [go_sem]
 rw [decide_eq_false k7]
 simp only [go_sem]
 rw [decide_eq_false k8]
 simp only [go_sem]
 rw [decide_eq_false k9]
 simp only [go_sem]
 rw [decide_eq_false k10]
 simp only [go_sem]
 rw [decide_eq_false k12]
 simp only [go_sem]
 rw [decide_eq_false k14]
 simp only [go_sem]
 refine ⟨[],?_⟩
 simp only [go_sem]
 rw [hR]
 unfold fh
 rw [bx (by decide)]
end Go.Proofs.YtejpnabbmgpmaaaGreat

