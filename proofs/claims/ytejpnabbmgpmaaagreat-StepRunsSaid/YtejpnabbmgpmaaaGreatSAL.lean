/-
  The document's steps: what becomes of a node, of a tree that may be. (with the parts that follow it)
-/
import Derived.Test.YtejpnabbmgpmaaaGreatSAK
import Derived.Test.YtejpnabbmgpmaaaGreatSAI
import Derived.Test.YtejpnabbmgpmaaaGreatSAF
import Derived.Test.YtejpnabbmgpmaaaGreatSAG
import Derived.Test.YtejpnabbmgpmaaaGreatSAH
import Derived.Test.YtejpnabbmgpmaaaGreatSAC
import Derived.Test.YtejpnabbmgpmaaaGreatRows
import Derived.ProofKit
import Derived.JoinedOf
import Derived.ChangeMaps5
set_option linter.unusedSimpArgs false
namespace Go.Proofs.YtejpnabbmgpmaaaGreat
open Go.Ab
def atT (t:RT):Int × RT:=if b7 t then (1,t) else if (stT t).1=5 then (5,(stT t).2) else ((stT t).1,t)
def atR (q:Int × RT):AV:=.tup [.d (exD q.2.enc),.d (i64 q.1)]
theorem De {n:EN}:∀ j,j<(ag n).length→(fI n j=true↔j<fN n):=fun j hj=>by
 unfold fI fN
 by_cases h1:n.k=6∨n.k=10
 ·rw [if_pos h1,if_pos (by omega)]
  have:(ag n).length=2:=by rw [kX (by omega)];rfl
  exact ⟨fun _=>by omega,fun _=>rfl⟩
 rw [if_neg h1]
 by_cases h2:n.k=7∨n.k=9∨n.k=12∨n.k=13∨n.k=14
 ·rw [if_pos h2,if_neg (by omega),if_pos h2]
  simp
 rw [if_neg h2]
 by_cases h3:n.k=11
 ·rw [if_pos (by omega),if_neg h2,if_pos h3]
  have:(ag n).length=n.l.length:=by rw [qd h3,List.length_map]
  simp only [true_iff]
  omega
 ·rw [if_neg h3,if_neg (by omega),if_neg (by omega)]
  simp
theorem Jw {n:EN}:fN n≤(ag n).length:=by
 unfold fN
 by_cases h1:n.k=6∨n.k=10
 ·rw [if_pos h1,kX (by omega)]
  exact Nat.le_refl _
 rw [if_neg h1]
 by_cases h2:n.k=7∨n.k=9∨n.k=12∨n.k=13∨n.k=14
 ·rw [if_pos h2]
  rcases h2 with h | h | h | h | h
  ·rw [kX (.inr (.inl h))];simp
  ·rw [B6 h];simp
  ·rw [eY (.inr (.inl h))];simp
  ·rw [eY (.inr (.inr h))];simp
  ·rw [wW h];simp
 rw [if_neg h2]
 split
 ·rename_i h;rw [qd h,List.length_map];exact Nat.le_refl _
 ·exact Nat.zero_le _
set_option maxHeartbeats 2000000 in
theorem yj {G} {xs:List EN} (h:Run xs):∀ (m i:Nat),i<m→i<xs.length→HP Tryz.prog G 126 [exD xs,i64 (i:Int)] (fun r=>r=atR (atT (trE xs i)))
 | 0,_,h,_=>absurd h (Nat.not_lt_zero _)
 | m+1,i,him,hi=>by
   have ih:=yj (G:=G) h m
   have ht:=h.t
   have hL:=xV ht
   have hlen:=hL.len
   have hk:=aJ ht
   have hg:=aN hi
   have hsi:=jZ ht _ (by rw [ba hi];exact List.getElem_mem hi:ndE xs i∈xs)
   have hnd:=j9 ht hi
   have hgd:=dW ht h.rng hi
   have hlk:=xz ht xs.length i hi hi
   have hsz:=iT h hi
   have cv:=rK (G:=G) hL (i+1) i (by omega) hi
   have cs:=jK (G:=G) hL hi (by omega)
   rw [show rtE xs xs.length i=trE xs i from rfl] at hlk
   obtain ⟨R,hR⟩:∃ R,R=atR (atT (trE xs i)):=⟨_,rfl⟩
   rw [← hR]
   unfold atT at hR
   cases hva:b7 (trE xs i) with
   | true =>
     rw [hva] at cv
     rw [hva,if_pos rfl] at hR
     generalize trE xs i=t at *
     unfold exD at *
     refine au Tryz.func126 rfl (by decide +kernel) (by simp [Tryz.ntmps126]) (veil fun E=>?_)
     simp only [go_sem]
     refine ab E (cv) rfl rfl (by simp) ?_
     rintro _ rfl
     simp only [go_sem]
     refine ab E (cs) rfl rfl (by simp) ?_
     rintro _ rfl
     simp only [go_sem]
     refine ⟨[],?_⟩
     simp only [go_sem]
     rw [hR]
     rfl
   | false =>
   rw [hva] at cv
   rw [hva,if_neg (by decide)] at hR
   obtain ⟨T,hT⟩:∃ T,T=trE xs i:=⟨_,rfl⟩
   rw [← hT] at cs hR
   have hst0:T=.mk (can (ndE xs i)) (ktE xs i):=by rw [hT,xN ht hi]
   rw [xN ht hi] at hgd hlk hsz
   have hkt:∀ q,q<(ag (ndE xs i)).length→∃ a:Nat,(ag (ndE xs i)).getD q 0=(a:Int)∧a<i∧(ktE xs i).getD q az=trE xs a:=fun q hq=>by
    obtain ⟨a,h1,h2⟩:=bB ht hi (List.getElem_mem hq)
    refine ⟨a,by simp [hq,h1],h2,?_⟩
    unfold ktE
    simp [hq,h1]
   obtain ⟨ts,hts⟩:∃ ts,ts=ktE xs i:=⟨_,rfl⟩
   have htl:ts.length=(ag (ndE xs i)).length:=by rw [hts];exact List.length_map ..
   rw [← hts] at hkt hgd hlk hsz hst0
   have hfb:=De (n:=ndE xs i)
   have hfl:=Jw (n:=ndE xs i)
   have hkc:=lI (G:=G) (ndE xs i) (by omega)
   have hoc:=GY (G:=G) (ndE xs i) hsi
   obtain ⟨n,hne⟩:∃ n,n=ndE xs i:=⟨_,rfl⟩
   rw [← hne] at hg hsi hnd hfb hfl hkt htl hkc hoc hgd hlk hsz hst0
   have hrx:=GR (G:=G) (n:=n) (ts:=ts) ⟨hgd,hsi,hsz,fun e=>by rw [RT.lk] at hlk;exact hlk.1 e⟩
   obtain ⟨K,hK⟩:∃ K,K=ag n:=⟨_,rfl⟩
   obtain ⟨F,hF⟩:∃ F,F=fN n:=⟨_,rfl⟩
   rw [← hK] at hnd hfb hfl hkt htl hkc
   rw [← hF] at hfb hfl hoc
   have hKw:K.length=aA n:=by rw [hK,aM]
   have hKl:K.length≤900003:=by rw [hKw];unfold aA;have:=bn n.k;split<;>omega
   have htg:=(bk.1 hgd).2
   rw [RT.lk] at hlk
   have hsz2:szs ts+1≤600:=by rw [← er (can n) ts];exact hsz
   rw [aP n] at hkc hoc hrx
   have hul:=wU F
   unfold exD at cv cs ⊢
   refine au Tryz.func126 rfl (by decide +kernel) (by simp [Tryz.ntmps126]) (veil fun E=>?_)
   simp only [go_sem]
   refine ab E (cv) rfl rfl (by simp) ?_
   rintro _ rfl
   simp only [go_sem]
   refine ⟨⟨by omega,by omega⟩,?_⟩
   rw [hg]
   simp only [go_sem]
   refine ab E (hkc) rfl rfl (by simp) ?_
   rintro _ rfl
   simp only [go_sem]
   refine aE E (X:={ q:Nat // q≤K.length }) (fun y=>[(1,.d (i64 i)),(2,.at [2] 0),(4,.at [4] 0),(5,.d (i64 0)),(6,.at [6] 0),(7,.d (.sl none (K.map i64))),(8,.vw [111] 0 y.1),(9,.d (i64 y.1))])
    (fun y=>[([2],.box [.d (.sl (some 9) (xs.map enD))]),([4],.box [.d .nils]),([6],.box [.d (i64 n.k),.d (i64 n.a),.d (i64 n.b),.d (i64 n.c),.d (i64 n.n),.d (.str n.name),.d (.str n.s),.d (.sl (some 3) (n.l.map fD)),.d (i64 n.pos)]),([111],.arr (some 1) ((ts.take y.1).map fun t=>exD t.enc))]) [2,4,6,111] (fun y=>K.length-y.1) ⟨0,Nat.zero_le _⟩ (tau [([111],[29])]) ?_ ?_
   ·simp only [go_sem]
    all_goals ((repeat' apply And.intro)<;>first | rfl | trivial)
   rintro ⟨p,hp⟩ E2
   refine aT E2 fun Q2 hQ2 E3=>?_
   simp only at hp ⊢
   simp only [go_sem]
   refine ai E3 (fun g1=>?_) (fun g1=>?_)<;>simp only [go_sem]
   ·have hp':p<K.length:=by omega
    obtain ⟨b,hb,hbi,htb⟩:=hkt p hp'
    have hst3:ts.take (p+1)=ts.take p++[ts.getD p az]:=qH (by omega)
    rw [htb] at hst3
    have hsb:=iT h (show b<xs.length by omega)
    have c4:=jK (G:=G) hL (show b<xs.length by omega) (by omega)
    unfold exD at c4
    refine aj mixed E3 fun X=>?_
    simp only [go_sem]
    refine ⟨⟨by omega,by omega⟩,?_⟩
    rw [aw hp',hb]
    simp only [go_sem]
    refine aZ X c4 rfl rfl (by simp) ?_
    simp only [go_sem]
    refine ⟨by omega,by decide +kernel,?_⟩
    rw [show List.take p (List.map (fun t:RT=>exD t.enc) (ts.take p))++[.agg [.sl (some 9) (List.map enD (RT.enc (trE xs b)))]]=(ts.take (p+1)).map (fun t:RT=>exD t.enc) by
     rw [List.take_of_length_le (by rw [List.length_map,List.length_take];omega),hst3,List.map_append];rfl]
    rw [ak ⟨by omega,by omega⟩,hQ2]
    simp only [go_sem]
    refine ⟨⟨p+1,by omega⟩,by show K.length-(p+1)<_;omega,tau [([111],[44])],?_⟩
    simp only [go_sem]
    all_goals ((repeat' apply And.intro)<;>first | rfl | trivial)
   have h3:p=K.length:=by omega
   subst h3
   rw [List.take_of_length_le (show ts.length≤K.length by omega),hQ2]
   simp only [go_sem]
   refine ab E (hoc) rfl rfl (by simp) ?_
   rintro _ rfl
   simp only [go_sem]
   refine aE E (X:={ q:Nat // q≤F∧∀ j,j<q→b7 (ts.getD j az)=true }) (fun y=>[(1,.d (i64 i)),(2,.at [2] 0),(4,.at [4] 0),(5,.d (i64 0)),(6,.at [6] 0),(7,.d (.sl none (K.map i64))),(8,.vw [111] 0 K.length),(10,.d (.sl none (upD F))),(11,.d (i64 y.1))])
    (fun y=>[([2],.box [.d (.sl (some 9) (xs.map enD))]),([4],.box [.d .nils]),([6],.box [.d (i64 n.k),.d (i64 n.a),.d (i64 n.b),.d (i64 n.c),.d (i64 n.n),.d (.str n.name),.d (.str n.s),.d (.sl (some 3) (n.l.map fD)),.d (i64 n.pos)]),([111],.arr (some 1) (ts.map fun t=>exD t.enc))]) [2,4,6,111] (fun y=>F-y.1) ⟨0,Nat.zero_le _,fun j hj=>absurd hj (Nat.not_lt_zero _)⟩ id ?_ ?_
   ·simp only [go_sem]
    all_goals ((repeat' apply And.intro)<;>first | rfl | trivial)
   rintro ⟨q,hq,hvs⟩ E0
   refine aT E0 fun Q' hQ E'=>?_
   simp only at hq hvs ⊢
   simp only [go_sem]
   refine ai E' (fun f1=>?_) (fun f1=>?_)<;>simp only [go_sem]
   ·have f1':q<F:=by omega
    obtain ⟨a,ha,hai,hta⟩:=hkt q (by omega)
    have hfq:=(hfb q (by omega)).2 f1'
    have c1:=rK (G:=G) hL (a+1) a (by omega) (by omega)
    have c2:=ih a (by omega) (by omega)
    unfold exD at c1 c2
    refine aj mixed E' fun X=>?_
    simp only [go_sem]
    refine ⟨⟨by omega,by omega⟩,?_⟩
    rw [wE f1']
    simp only [go_sem]
    refine ⟨⟨by omega,by omega⟩,?_⟩
    rw [aw (show q<K.length by omega),ha]
    simp only [go_sem]
    refine aZ X c1 rfl rfl (by simp) ?_
    simp only [go_sem]
    refine ⟨by decide +kernel,?_⟩
    cases hv:b7 (trE xs a) with
    | true =>
      simp only [go_sem]
      rw [ak ⟨by omega,by omega⟩,hQ]
      simp only [go_sem]
      refine ⟨⟨q+1,by omega,fun j hj=>?_⟩,by show F-(q+1)<_;omega,id,?_⟩
      ·by_cases e:j=q
       ·rw [e,hta,hv]
       ·exact hvs j (by omega)
      ·simp only [go_sem]
       all_goals ((repeat' apply And.intro)<;>first | rfl | trivial)
    | false =>
      simp only [go_sem]
      have hs:=oY (can n) 0 ts q (by omega) (by rw [Nat.zero_add];exact hfq) (by rw [hta,hv]) (fun j' hj' _=>hvs j' hj')
      rw [hta] at hs
      have hsg:=kS (can n) 0 ts htg hlk.2 _ _ hs
      have hst2:stT T=if (stT (trE xs a)).1=5 then (5,.mk (can n) (ts.set q (stT (trE xs a)).2)) else ((stT (trE xs a)).1,az):=by
       rw [hst0,stT,hs]
      unfold atT at c2
      rw [hv,if_neg (by decide)] at c2
      generalize stT (trE xs a)=u at c2 hst2 hsg
      obtain ⟨uh,ur⟩:=u
      simp only at c2 hst2 hsg
      refine aj mixed E' fun X=>?_
      simp only [go_sem]
      refine ⟨⟨by omega,by omega⟩,?_⟩
      rw [wE f1']
      simp only [go_sem]
      refine ⟨⟨by omega,by omega⟩,?_⟩
      rw [aw (show q<K.length by omega),ha]
      simp only [go_sem]
      by_cases h5:uh=5
      ·subst h5
       rw [if_pos rfl] at c2
       rw [if_pos rfl] at hst2
       rw [hst2,if_pos rfl] at hR
       unfold atR exD at c2
       dsimp only at c2
       refine aZ X c2 rfl rfl (by simp) ?_
       simp only [go_sem]
       refine ⟨by decide +kernel,?_⟩
       obtain ⟨us,hus⟩:∃ us,us=ts.set q ur:=⟨_,rfl⟩
       rw [← hus] at hsg hR
       obtain ⟨hulen,hug⟩:=hsg
       obtain ⟨hug,huz⟩:=hug rfl
       have hzz:szs us≤720000:=by
        have:=Nat.mul_le_mul (show szs ts≤600 by omega) (show szs ts≤600 by omega)
        omega
       have c3:=m0 (G:=G) (n:=n) (ts:=us) hsi (by rw [← hKw,hulen,htl]) hug (by omega)
       rw [aP n] at c3
       refine aj mixed E' fun X=>?_
       simp only [go_sem]
       refine ⟨⟨by omega,by omega⟩,?_⟩
       rw [wE f1']
       simp only [go_sem]
       refine ⟨⟨by omega,by omega⟩,by decide +kernel,?_⟩
       rw [show (List.map (fun t:RT=>exD t.enc) ts).set q (.agg [.sl (some 9) (List.map enD ur.enc)])=us.map (fun t:RT=>exD t.enc) by rw [hus,List.map_set];rfl]
       refine cV E' [111] (some 1) (us.map fun t=>exD t.enc) rfl (by simp only [go_sem];rfl) ?_
       simp only [go_sem]
       rw [List.take_of_length_le (by rw [List.length_map];omega)]
       refine ab E' c3 rfl rfl (by simp) ?_
       rintro _ rfl
       unfold exD
       simp only [go_sem]
       rw [hQ]
       simp only [go_sem]
       refine ⟨[],?_⟩
       simp only [go_sem]
       rw [hR]
       rfl
      ·rw [if_neg h5] at c2
       rw [if_neg h5] at hst2
       rw [hst2,if_neg h5] at hR
       unfold atR exD at c2
       dsimp only at c2 hR
       generalize (trE xs a)=ta at *
       refine aZ X c2 rfl rfl (by simp) ?_
       simp only [go_sem]
       refine ⟨by decide +kernel,?_⟩
       rw [decide_eq_true h5]
       simp only [go_sem]
       refine ab E' cs rfl rfl (by simp) ?_
       rintro _ rfl
       simp only [go_sem]
       rw [hQ]
       simp only [go_sem]
       refine ⟨[],?_⟩
       simp only [go_sem]
       rw [hR]
       rfl
   ·have h3:q=F:=by omega
    subst h3
    have hs:=nQ (can n) 0 ts (fun j hj hfj=>hvs j ((hfb j (by omega)).1 (by rw [Nat.zero_add] at hfj;exact hfj)))
    have hst2:stT T=ar (can n) ts:=by rw [hst0,stT,hs]
    rw [hQ]
    simp only [go_sem]
    rw [← hst2] at hrx
    unfold fh at hrx
    generalize hw:stT T=st at *
    obtain ⟨S,hS⟩:=iO st
    rw [hS] at hrx
    refine cV E [111] (some 1) (ts.map fun t=>exD t.enc) rfl (by simp only [go_sem];rfl) ?_
    simp only [go_sem]
    rw [List.take_of_length_le (by rw [List.length_map];omega)]
    refine ab E hrx rfl rfl (by simp) ?_
    rintro _ rfl
    simp only [go_sem]
    by_cases h5:st.1=5
    ·rw [if_pos h5] at hR
     rw [h5]
     simp only [go_sem]
     refine ⟨[],?_⟩
     simp only [go_sem]
     have e5:exD st.2.enc=.agg [S]:=by rw [← hS];exact (if_pos h5).symm
     rw [hR]
     unfold atR
     rw [e5]
    ·rw [if_neg h5] at hR
     rw [decide_eq_true h5]
     simp only [go_sem]
     refine ab E (cs) rfl rfl (by simp) ?_
     rintro _ rfl
     simp only [go_sem]
     refine ⟨[],?_⟩
     simp only [go_sem]
     rw [hR]
     rfl
theorem HW {G} {xs:List EN} (h:Run xs):HP Tryz.prog G 76 [exD xs] (fun r=>r=atR (atT (trE xs (xs.length-1)))):=by
 have hp:=h.t.pos
 have hf:=h.t.few
 have c:=yj (G:=G) h xs.length (xs.length-1) (by omega) (by omega)
 rw [show ((xs.length-1:Nat):Int)=(xs.length:Int)-1 by omega] at c
 generalize atT (trE xs (xs.length-1))=q at *
 unfold atR exD at *
 refine au Tryz.func76 rfl (by decide +kernel) (by simp [Tryz.ntmps76]) (veil fun E=>?_)
 simp only [go_sem]
 rw [ak ⟨by omega,by omega⟩]
 refine ab E (c) rfl rfl (by simp) ?_
 rintro _ rfl
 simp only [go_sem]
 refine ⟨[],?_⟩
 simp only [go_sem]
theorem Eo {G} (ns:List EN) (ha:Any ns):HP Tryz.prog G 33 [exD ns] (fun r=>r=gE (aQ ns)):=by
 obtain ⟨R,hR⟩:∃ R,R=gE (aQ ns):=⟨_,rfl⟩
 rw [← hR]
 unfold aQ at hR
 by_cases hm:bL ns=0
 ·have h:Run ns:=⟨hm,ha.rng⟩
  have ht:=h.t
  have hp:=ht.pos
  have hi:ns.length-1<ns.length:=by omega
  rw [if_neg (by simp [hm])] at hR
  have c1:=nz (G:=G) ns ha.sane ha.few
  rw [hm] at c1
  have c2:=HW (G:=G) h
  have hen:=cT ht hi
  have hsm:=wA ht hi
  have hsr:=jm h hi
  have hsf:=ou h
  unfold kD at hR
  unfold atT at c2
  obtain ⟨t,htt⟩:∃ t,t=trE ns (ns.length-1):=⟨_,rfl⟩
  rw [← htt] at c2 hR hen hsf
  rw [← hen] at hR hsm hsr
  have c3:=nz (G:=G) t.enc (iV hsr.t) (by have:=hsr.t.few;omega)
  rw [hsm] at c3
  have key:∀ w:Int,(b7 t=true∧w=1)∨(b7 t=false∧w=(stT t).1∧(stT t).1≠5)→HP Tryz.prog G 76 [exD ns] (fun r=>r=atR (w,t))→R=gE (t.enc,w,0)→HP Tryz.prog G 33 [exD ns] (fun r=>r=R):=by
   intro w _ c hR
   unfold gE at hR
   rw [if_pos rfl] at hR
   subst hR
   unfold atR exD at *
   refine au Tryz.func33 rfl (by decide +kernel) (by simp [Tryz.ntmps33]) (veil fun E=>?_)
   simp only [go_sem]
   refine ab E (c1) rfl rfl (by simp) ?_
   rintro _ rfl
   simp only [go_sem]
   refine ab E (c) rfl rfl (by simp) ?_
   rintro _ rfl
   simp only [go_sem]
   refine ab E (c3) rfl rfl (by simp) ?_
   rintro _ rfl
   simp only [go_sem]
   refine ⟨[],?_⟩
   simp only [go_sem]
  cases hv:b7 t with
  | true =>
    rw [hv,if_pos rfl] at c2
    rw [hv,if_pos rfl] at hR
    exact key 1 (.inl ⟨hv,rfl⟩) c2 hR
  | false =>
    rw [hv,if_neg (by decide)] at c2
    rw [hv,if_neg (by decide)] at hR
    by_cases h5:(stT t).1=5
    ·rw [if_pos h5] at c2
     rw [if_neg (by simp [h5])] at hR
     obtain ⟨g1,_⟩:=hsf hv h5
     have c4:=nz (G:=G) (stT t).2.enc g1.sane g1.few
     generalize (stT t).2=u at *
     unfold atR exD at *
     by_cases hy:bL u.enc=0
     ·rw [if_neg (by simp [hy])] at hR
      rw [hy] at c4
      unfold gE exD at hR
      rw [if_pos rfl] at hR
      subst hR
      refine au Tryz.func33 rfl (by decide +kernel) (by simp [Tryz.ntmps33]) (veil fun E=>?_)
      simp only [go_sem]
      refine ab E (c1) rfl rfl (by simp) ?_
      rintro _ rfl
      simp only [go_sem]
      refine ab E (c2) rfl rfl (by simp) ?_
      rintro _ rfl
      simp only [go_sem]
      refine ab E (c4) rfl rfl (by simp) ?_
      rintro _ rfl
      simp only [go_sem]
      refine ⟨[],?_⟩
      simp only [go_sem]
     ·rw [if_pos hy] at hR
      unfold gE at hR
      rw [if_neg hy] at hR
      subst hR
      generalize bL u.enc=m at *
      refine au Tryz.func33 rfl (by decide +kernel) (by simp [Tryz.ntmps33]) (veil fun E=>?_)
      simp only [go_sem]
      refine ab E (c1) rfl rfl (by simp) ?_
      rintro _ rfl
      simp only [go_sem]
      refine ab E (c2) rfl rfl (by simp) ?_
      rintro _ rfl
      simp only [go_sem]
      refine ab E (c4) rfl rfl (by simp) ?_
      rintro _ rfl
      simp only [go_sem]
      rw [decide_eq_true hy]
      simp only [go_sem]
      refine ⟨[],?_⟩
      simp only [go_sem]
    ·rw [if_neg h5] at c2
     rw [if_pos h5] at hR
     exact key _ (.inr ⟨hv,rfl,h5⟩) c2 hR
 ·rw [if_pos hm] at hR
  unfold gE at hR
  rw [if_neg hm] at hR
  subst hR
  have c1:=nz (G:=G) ns ha.sane ha.few
  generalize bL ns=m at *
  unfold exD at *
  refine au Tryz.func33 rfl (by decide +kernel) (by simp [Tryz.ntmps33]) (veil fun E=>?_)
  simp only [go_sem]
  refine ab E (c1) rfl rfl (by simp) ?_
  rintro _ rfl
  simp only [go_sem]
  rw [decide_eq_true hm]
  simp only [go_sem]
  refine ⟨[],?_⟩
  simp only [go_sem]
end Go.Proofs.YtejpnabbmgpmaaaGreat

namespace Go.Proofs.YtejpnabbmgpmaaaGreat
open Go.Ab
def ig:Nat→List EN→Int→List EN × Int × Int × Int
 | 0,e,d=>if (aQ e).2.1=1∨(aQ e).2.1=4 then ((aQ e).1,(aQ e).2.1,d,0) else (e,3,d,0)
 | m+1,e,d=>if (aQ e).2.1=1∨(aQ e).2.1=4 then ((aQ e).1,(aQ e).2.1,d,0) else
   if (aQ e).2.2≠0 then ([],0,d,(aQ e).2.2) else if (aQ e).2.1=2 then ((aQ e).1,2,d+1,0) else ig m (aQ e).1 (d+1)
def fJ (ns:List EN) (n:Int):List EN × Int × Int × Int:=if n<0 then ([],0,0,2) else if bL ns≠0 then ([],0,0,bL ns) else ig n.toNat (kD ns) 0
def bF (q:List EN × Int × Int × Int):AV:=.tup [.d (if q.2.2.2=0 then exD q.1 else .agg [.nils]),.d (i64 q.2.1),.d (i64 q.2.2.1),.d (i64 q.2.2.2)]
theorem Run.any {e:List EN} (h:Run e):Any e:=⟨iV h.t,by have:=h.t.few;omega,h.rng⟩
theorem lr {e:List EN} (h:Run e) (h0:(aQ e).2.2=0):Run (aQ e).1:=by
 have hp:=h.t.pos
 have hi:e.length-1<e.length:=by omega
 have hn:Run (kD e):=jm h hi
 have hf:=ou h
 have hm:=h.may
 unfold aQ at h0 ⊢
 rw [if_neg (by simp [hm])] at h0 ⊢
 cases hv:b7 (trE e (e.length-1)) with
 | true=>rw [if_pos rfl];exact hn
 | false =>
   rw [hv,if_neg (by decide)] at h0
   rw [if_neg (by decide)]
   by_cases h5:(stT (trE e (e.length-1))).1=5
   ·rw [if_neg (by simp [h5])] at h0 ⊢
    obtain ⟨g1,_⟩:=hf hv h5
    by_cases hy:bL (stT (trE e (e.length-1))).2.enc=0
    ·rw [if_neg (by simp [hy])]
     exact ⟨hy,g1.rng⟩
    ·rw [if_pos hy] at h0
     exact absurd h0 hy
   ·rw [if_pos h5]
    exact hn
theorem kH {e:List EN} (h0:(aQ e).2.2≠0):(aQ e).1=[]∧(aQ e).2.1=0:=by
 unfold aQ at h0 ⊢
 by_cases hm:bL e≠0
 ·rw [if_pos hm]
  exact ⟨rfl,rfl⟩
 rw [if_neg hm] at h0 ⊢
 cases hv:b7 (trE e (e.length-1)) with
 | true=>rw [hv,if_pos rfl] at h0;exact absurd rfl h0
 | false =>
   rw [hv,if_neg (by decide)] at h0
   rw [if_neg (by decide)]
   by_cases h5:(stT (trE e (e.length-1))).1=5
   ·rw [if_neg (by simp [h5])] at h0 ⊢
    by_cases hy:bL (stT (trE e (e.length-1))).2.enc=0
    ·rw [if_neg (by simp [hy])] at h0
     exact absurd rfl h0
    ·rw [if_pos hy]
     exact ⟨rfl,rfl⟩
   ·rw [if_pos h5] at h0
    exact absurd rfl h0
theorem sR {n d:Nat} {e:List EN} (hd:d≤n):ig (n-d) e d =
  if (aQ e).2.1=1∨(aQ e).2.1=4 then ((aQ e).1,(aQ e).2.1,(d:Int),0) else if d=n then (e,3,(d:Int),0) else
  if (aQ e).2.2≠0 then ([],0,(d:Int),(aQ e).2.2) else if (aQ e).2.1=2 then ((aQ e).1,2,(d:Int)+1,0) else ig (n-(d+1)) (aQ e).1 ((d+1:Nat):Int):=by
 by_cases h:d=n
 ·subst h
  rw [Nat.sub_self,ig,if_pos rfl]
 ·rw [show n-d=(n-(d+1))+1 by omega,ig,if_neg h]
  rfl
theorem HM {G} (e0:List EN) (n:Nat) (h:Run e0) (hn:(n:Int)≤9223372036854775807):HP Tryz.prog G 77 [exD e0,i64 (n:Int),.clo 32 []] (fun r=>r=bF (ig n e0 0)):=by
 obtain ⟨R,hR⟩:∃ R,R=bF (ig n e0 0):=⟨_,rfl⟩
 rw [← hR]
 unfold exD
 refine au Tryz.func77 rfl (by decide +kernel) (by simp [Tryz.ntmps77]) (veil fun E=>?_)
 simp only [go_sem]
 refine aE E (X:={ y:List EN × Nat // Run y.1∧y.2≤n∧ig n e0 0=ig (n-y.2) y.1 y.2 }) (fun y=>[(1,.d (i64 n)),(2,.d (.clo 32 [])),(3,.at [3] 0),(6,.at [6] 0),(7,.d (i64 0)),(8,.d (i64 0)),(9,.d (i64 0)),(10,.d (i64 y.1.2))])
  (fun y=>[([3],.box [.d (.sl (some 9) (y.1.1.map enD))]),([6],.box [.d .nils])]) [3,6] (fun y=>n-y.1.2) ⟨(e0,0),h,Nat.zero_le _,by rw [Nat.sub_zero];rfl⟩ id ?_ ?_
 ·simp only [go_sem]
  all_goals ((repeat' apply And.intro)<;>first | rfl | trivial)
 rintro ⟨⟨e,d⟩,he,hd,hRe⟩ E0
 refine aT E0 fun Q' hQ E'=>?_
 simp only at he hd hRe ⊢
 have hcs:=v7 (G:=G) e he.any
 rw [sR hd] at hRe
 have hru:=lr he
 have her:=kH (e:=e)
 generalize aQ e=s at *
 obtain ⟨x,how,f⟩:=s
 simp only at hRe hru her
 rw [hRe] at hR
 simp only [go_sem]
 by_cases hf:f=0
 ·subst hf
  have hru:=hru rfl
  unfold gE exD at hcs
  dsimp only at hcs
  rw [if_pos rfl] at hcs
  refine jD E' hcs rfl rfl (by simp) ?_
  rintro _ rfl
  simp only [go_sem]
  repeat (first
   | (apply bC E';(· simp only [go_sem]);(· intro h;(try simp only [bq] at h);simp only [↓h,go_sem];rfl);simp only [go_sem])
   | (apply aW E';(· simp only [go_sem]);(· intro h;(try simp only [bq] at h);simp only [↓h,go_sem];rfl);(· intro h;(try simp only [bq] at h);simp only [↓h,go_sem];rfl);simp only [go_sem])
   | (apply aX E';(· simp only [go_sem]);(· rfl);(· intro h h';(try simp only [bq] at h h');simp only [↓h,↓h',go_sem];rfl);simp only [go_sem])
   | (apply aH E';(· simp only [go_sem]);(· rfl);(· intro h h';(try simp only [bq] at h h');simp only [↓h,↓h',go_sem];rfl);(· intro h h';(try simp only [bq] at h h');simp only [↓h,↓h',go_sem];rfl);simp only [go_sem])
   | (apply bz E';(· decide);simp only [go_sem]))
  refine aR E' (fun g=>?_) (fun g=>?_)<;>simp only [go_sem]
  ·simp only [Bool.or_eq_true,decide_eq_true_eq] at g
   rw [if_pos g] at hR
   unfold bF exD at hR
   rw [if_pos rfl] at hR
   rw [hQ]
   simp only [go_sem]
   subst hR
   refine ⟨[],?_⟩
   simp only [go_sem]
  simp only [Bool.or_eq_false_iff,decide_eq_false_iff_not] at g
  rw [if_neg (by omega)] at hR hRe
  refine ai E' (fun gn=>?_) (fun gn=>?_)<;>simp only [go_sem]
  ·rw [if_pos (by omega)] at hR
   unfold bF exD at hR
   rw [if_pos rfl] at hR
   rw [hQ]
   simp only [go_sem]
   subst hR
   refine ⟨[],?_⟩
   simp only [go_sem]
  rw [if_neg (by omega),if_neg (by simp)] at hR hRe
  refine ai E' (fun g2=>?_) (fun g2=>?_)<;>simp only [go_sem]
  ·rw [if_pos g2] at hR
   subst g2
   unfold bF exD at hR
   rw [if_pos rfl] at hR
   rw [ak (n:=(d:Int)+1) ⟨by omega,by omega⟩]
   rw [hQ]
   simp only [go_sem]
   subst hR
   refine ⟨[],?_⟩
   simp only [go_sem]
  ·rw [if_neg g2] at hRe
   rw [ak (n:=(d:Int)+1) ⟨by omega,by omega⟩]
   rw [hQ]
   simp only [go_sem]
   refine ⟨⟨(x,d+1),hru,by omega,hRe⟩,by show n-(d+1)<n-d;omega,id,?_⟩
   simp only [go_sem]
   all_goals ((repeat' apply And.intro)<;>first | rfl | trivial)
 ·have her:=her hf
  obtain ⟨h1,h2⟩:=her
  subst h1
  subst h2
  unfold gE at hcs
  dsimp only at hcs
  rw [if_neg hf] at hcs
  refine jD E' hcs rfl rfl (by simp) ?_
  rintro _ rfl
  simp only [go_sem]
  rw [if_neg (by omega)] at hR
  refine ai E' (fun gn=>?_) (fun gn=>?_)<;>simp only [go_sem]
  ·rw [if_pos (by omega)] at hR
   unfold bF exD at hR
   rw [if_pos rfl] at hR
   rw [hQ]
   simp only [go_sem]
   subst hR
   refine ⟨[],?_⟩
   simp only [go_sem]
  rw [if_neg (by omega),if_pos hf] at hR
  rw [decide_eq_true hf]
  simp only [go_sem]
  unfold bF at hR
  rw [if_neg hf] at hR
  rw [hQ]
  simp only [go_sem]
  subst hR
  refine ⟨[],?_⟩
  simp only [go_sem]
theorem Bb {G} (ns:List EN) (n:Int) (ha:Any ns) (hn:n≤9223372036854775807):HP Tryz.prog G 36 [exD ns,i64 n] (fun r=>r=bF (fJ ns n)):=by
 obtain ⟨R,hR⟩:∃ R,R=bF (fJ ns n):=⟨_,rfl⟩
 rw [← hR]
 unfold fJ at hR
 by_cases h0:n<0
 ·rw [if_pos h0] at hR
  unfold bF at hR
  rw [if_neg (by show ¬ (2:Int)=0;decide)] at hR
  subst hR
  unfold exD
  refine au Tryz.func36 rfl (by decide +kernel) (by simp [Tryz.ntmps36]) (veil fun E=>?_)
  simp only [go_sem]
  rw [decide_eq_true h0]
  simp only [go_sem]
  refine ⟨[],?_⟩
  simp only [go_sem]
 rw [if_neg h0] at hR
 by_cases hm:bL ns=0
 ·have h:Run ns:=⟨hm,ha.rng⟩
  have hp:=h.t.pos
  rw [if_neg (by simp [hm])] at hR
  have c1:=x7 (G:=G) h.t hm
  have c2:=HM (G:=G) (kD ns) n.toNat (jm h (by omega)) (by omega)
  rw [show ((n.toNat:Nat):Int)=n by omega,← hR] at c2
  generalize ig n.toNat (kD ns) 0=q at *
  unfold bF at hR
  obtain ⟨S,hS⟩:∃ S,(if q.2.2.2=0 then exD q.1 else .agg [.nils])=.agg [S]:=by
   unfold exD
   split<;>exact ⟨_,rfl⟩
  rw [hS] at hR
  subst hR
  generalize kD ns=X at *
  unfold exD at *
  have c3:=HP.clo (args:=[.d (.agg [.sl (some 9) (X.map enD)]),.d (i64 n),.clo 32 []]) rfl (fun i x y hx hy=>by
   rcases i with _ | _ | _ | i
   ·cases hx;cases hy;exact .inl rfl
   ·cases hx;cases hy;exact .inl rfl
   ·cases hx;cases hy;exact .inr ⟨32,rfl,rfl⟩
   ·cases hx) c2
  refine au Tryz.func36 rfl (by decide +kernel) (by simp [Tryz.ntmps36]) (veil fun E=>?_)
  simp only [go_sem]
  rw [decide_eq_false h0]
  simp only [go_sem]
  refine ab E (c1) rfl rfl (by simp) ?_
  rintro _ rfl
  simp only [go_sem]
  refine ae E _ [] [] c3 rfl rfl ⟨by simp only [go_sem],by rw [aa];decide⟩ rfl (by simp only [go_sem]) (by simp only [go_sem]) ?_
  rintro _ _ ⟨rfl,_,rfl⟩
  simp only [go_sem]
  refine ⟨[],?_⟩
  simp only [go_sem]
 ·rw [if_pos hm] at hR
  unfold bF at hR
  rw [if_neg hm] at hR
  subst hR
  have c1:=y7 (G:=G) hm ha.sane ha.few
  generalize bL ns=m at *
  unfold exD at *
  refine au Tryz.func36 rfl (by decide +kernel) (by simp [Tryz.ntmps36]) (veil fun E=>?_)
  simp only [go_sem]
  rw [decide_eq_false h0]
  simp only [go_sem]
  refine ab E (c1) rfl rfl (by simp) ?_
  rintro _ rfl
  simp only [go_sem]
  rw [decide_eq_true hm]
  simp only [go_sem]
  refine ⟨[],?_⟩
  simp only [go_sem]
set_option maxHeartbeats 1000000 in
theorem HO {G} (ns:List EN) (n0:Int) (ha:Any ns) (hn:n0≤9223372036854775807):HP Tryz.prog G 37 [exD ns,i64 n0] (fun r=>r=bF (fJ ns n0)):=by
 obtain ⟨R,hR⟩:∃ R,R=bF (fJ ns n0):=⟨_,rfl⟩
 rw [← hR]
 unfold fJ at hR
 by_cases h0:n0<0
 ·rw [if_pos h0] at hR
  unfold bF at hR
  rw [if_neg (by show ¬ (2:Int)=0;decide)] at hR
  subst hR
  unfold exD
  refine au Tryz.func37 rfl (by decide +kernel) (by simp [Tryz.ntmps37]) (veil fun E=>?_)
  simp only [go_sem]
  rw [decide_eq_true h0]
  simp only [go_sem]
  refine ⟨[],?_⟩
  simp only [go_sem]
 rw [if_neg h0] at hR
 have c1:=nz (G:=G) ns ha.sane ha.few
 by_cases hm:bL ns=0
 ·have h:Run ns:=⟨hm,ha.rng⟩
  have hp:=h.t.pos
  rw [if_neg (by simp [hm])] at hR
  rw [hm] at c1
  have hL:=xV h.t
  have hi:ns.length-1<ns.length:=by omega
  have c2:=DV (G:=G) hL hp (by have:=iT h hi;omega)
  rw [cT h.t hi,show sbE ns (ns.length-1)=kD ns from rfl] at c2
  have hx:Run (kD ns):=jm h hi
  obtain ⟨n,hnn⟩:∃ n:Nat,n0=(n:Int):=⟨n0.toNat,by omega⟩
  subst hnn
  rw [Int.toNat_natCast] at hR
  generalize kD ns=X at *
  unfold exD at *
  refine au Tryz.func37 rfl (by decide +kernel) (by simp [Tryz.ntmps37]) (veil fun E=>?_)
  simp only [go_sem]
  rw [decide_eq_false h0]
  simp only [go_sem]
  refine ab E (c1) rfl rfl (by simp) ?_
  rintro _ rfl
  simp only [go_sem]
  refine ab E (c2) rfl rfl (by simp) ?_
  rintro _ rfl
  simp only [go_sem]
  refine aE E (X:={ y:List EN × Nat // Run y.1∧y.2≤n∧ig n X 0=ig (n-y.2) y.1 y.2 }) (fun y=>[(1,.d (i64 n)),(2,.at [2] 0),(4,.at [4] 0),(5,.d (i64 0)),(6,.d (i64 0)),(7,.d (i64 0)),(9,.d (i64 y.1.2))])
   (fun y=>[([2],.box [.d (.sl (some 9) (y.1.1.map enD))]),([4],.box [.d .nils])]) [2,4] (fun y=>n-y.1.2) ⟨(X,0),hx,Nat.zero_le _,by rw [Nat.sub_zero];rfl⟩ id ?_ ?_
  ·simp only [go_sem]
   all_goals ((repeat' apply And.intro)<;>first | rfl | trivial)
  rintro ⟨⟨e,d⟩,he,hd,hRe⟩ E0
  refine aT E0 fun Q' hQ E'=>?_
  simp only at he hd hRe ⊢
  have hcs:=Eo (G:=G) e he.any
  rw [sR hd] at hRe
  have hru:=lr he
  have her:=kH (e:=e)
  generalize aQ e=s at *
  obtain ⟨x,how,f⟩:=s
  simp only at hRe hru her
  rw [hRe] at hR
  simp only [go_sem]
  by_cases hf:f=0
  ·subst hf
   have hru:=hru rfl
   unfold gE exD at hcs
   dsimp only at hcs
   rw [if_pos rfl] at hcs
   refine ab E' hcs rfl rfl (by simp) ?_
   rintro _ rfl
   simp only [go_sem]
   repeat (first
    | (apply bC E';(· simp only [go_sem]);(· intro h;(try simp only [bq] at h);simp only [↓h,go_sem];rfl);simp only [go_sem])
    | (apply aW E';(· simp only [go_sem]);(· intro h;(try simp only [bq] at h);simp only [↓h,go_sem];rfl);(· intro h;(try simp only [bq] at h);simp only [↓h,go_sem];rfl);simp only [go_sem])
    | (apply aX E';(· simp only [go_sem]);(· rfl);(· intro h h';(try simp only [bq] at h h');simp only [↓h,↓h',go_sem];rfl);simp only [go_sem])
    | (apply aH E';(· simp only [go_sem]);(· rfl);(· intro h h';(try simp only [bq] at h h');simp only [↓h,↓h',go_sem];rfl);(· intro h h';(try simp only [bq] at h h');simp only [↓h,↓h',go_sem];rfl);simp only [go_sem])
    | (apply bz E';(· decide);simp only [go_sem]))
   refine aR E' (fun g=>?_) (fun g=>?_)<;>simp only [go_sem]
   ·simp only [Bool.or_eq_true,decide_eq_true_eq] at g
    rw [if_pos g] at hR
    unfold bF exD at hR
    rw [if_pos rfl] at hR
    rw [hQ]
    simp only [go_sem]
    subst hR
    refine ⟨[],?_⟩
    simp only [go_sem]
   simp only [Bool.or_eq_false_iff,decide_eq_false_iff_not] at g
   rw [if_neg (by omega)] at hR hRe
   refine ai E' (fun gn=>?_) (fun gn=>?_)<;>simp only [go_sem]
   ·rw [if_pos (by omega)] at hR
    unfold bF exD at hR
    rw [if_pos rfl] at hR
    rw [hQ]
    simp only [go_sem]
    subst hR
    refine ⟨[],?_⟩
    simp only [go_sem]
   rw [if_neg (by omega),if_neg (by simp)] at hR hRe
   rw [ak (n:=(d:Int)+1) ⟨by omega,by omega⟩]
   refine ai E' (fun g2=>?_) (fun g2=>?_)<;>simp only [go_sem]
   ·rw [if_pos g2] at hR
    subst g2
    unfold bF exD at hR
    rw [if_pos rfl] at hR
    rw [hQ]
    simp only [go_sem]
    subst hR
    refine ⟨[],?_⟩
    simp only [go_sem]
   ·rw [if_neg g2] at hRe
    rw [hQ]
    simp only [go_sem]
    refine ⟨⟨(x,d+1),hru,by omega,hRe⟩,by show n-(d+1)<n-d;omega,id,?_⟩
    simp only [go_sem]
    all_goals ((repeat' apply And.intro)<;>first | rfl | trivial)
  ·have her:=her hf
   obtain ⟨h1,h2⟩:=her
   subst h1
   subst h2
   unfold gE at hcs
   dsimp only at hcs
   rw [if_neg hf] at hcs
   refine ab E' hcs rfl rfl (by simp) ?_
   rintro _ rfl
   simp only [go_sem]
   rw [if_neg (by omega)] at hR
   refine ai E' (fun gn=>?_) (fun gn=>?_)<;>simp only [go_sem]
   ·rw [if_pos (by omega)] at hR
    unfold bF exD at hR
    rw [if_pos rfl] at hR
    rw [hQ]
    simp only [go_sem]
    subst hR
    refine ⟨[],?_⟩
    simp only [go_sem]
   rw [if_neg (by omega),if_pos hf] at hR
   rw [decide_eq_true hf]
   simp only [go_sem]
   unfold bF at hR
   rw [if_neg hf] at hR
   rw [hQ]
   simp only [go_sem]
   subst hR
   refine ⟨[],?_⟩
   simp only [go_sem]
 ·rw [if_pos hm] at hR
  unfold bF at hR
  rw [if_neg hm] at hR
  subst hR
  generalize bL ns=m at *
  unfold exD at *
  refine au Tryz.func37 rfl (by decide +kernel) (by simp [Tryz.ntmps37]) (veil fun E=>?_)
  simp only [go_sem]
  rw [decide_eq_false h0]
  simp only [go_sem]
  refine ab E (c1) rfl rfl (by simp) ?_
  rintro _ rfl
  simp only [go_sem]
  rw [decide_eq_true hm]
  simp only [go_sem]
  refine ⟨[],?_⟩
  simp only [go_sem]
end Go.Proofs.YtejpnabbmgpmaaaGreat

namespace Go.Proofs.YtejpnabbmgpmaaaGreat
open Go.Ab
def FO (s:PS) (l:List EF):List (Name × Ob):=([103],.arr (some 3) (l.map fD))::RO s
theorem y5 {G} (s:PS) (t:Tok) (n:EN) (l:List EF) (hl:l.length≤100000):HCall Tryz.prog G 355 [.at [100] 0,.d (.agg [i64 t.k,.str t.s,i64 t.n,i64 t.pos]),.agg [.d (i64 n.k),.d (i64 n.a),.d (i64 n.b),.d (i64 n.c),.d (i64 n.n),.d (.str n.name),.d (.str n.s),.vw [103] 0 l.length,.d (i64 n.pos)]] (FO s l) [100,101,103] (fun r hp'=>r=.tup []∧hp'=FO (s.parted t l) l):=by
 generalize hR:s.parted t l=R
 unfold PS.parted at hR
 have c8:=nI (G:=G) s 8 t.pos
 have c5:=nI (G:=G) s 5 t.pos
 unfold FO RO TO ah
 refine aq Tryz.func355 rfl (by decide +kernel) (by simp [Tryz.ntmps355]) (veil fun E=>?_)
 simp only [go_sem]
 refine ae E [.at [100] 0] (RO s) [100,101] (e9 s) rfl rfl ⟨by simp only [go_sem],by first | (rw [aa];decide) | (simp only [go_sem]<;>(try rw [aa])<;>decide)⟩ rfl (by unfold RO TO ah;simp only [go_sem]) (by unfold RO TO;simp only [go_sem]) ?_
 rintro _ _ ⟨rfl,rfl⟩
 unfold RO TO ah
 simp only [go_sem]
 refine aR E (fun h1=>?_) (fun h1=>?_)<;>simp only [go_sem]
 ·rw [if_pos (by simpa using h1)] at hR
  rw [← hR]
  refine ⟨_,_,[100,101,103],id,⟨rfl,rfl⟩,?_⟩
  simp only [go_sem]
 rw [if_neg (by simpa using h1)] at hR
 refine ai E (fun h2=>?_) (fun h2=>?_)<;>simp only [go_sem]
 ·rw [if_pos (by omega)] at hR
  refine ae E [.at [100] 0,.d (i64 8),.d (i64 t.pos)] (RO s) [100,101] (c8) rfl rfl ⟨by simp only [go_sem],by first | (rw [aa];decide) | (simp only [go_sem]<;>(try rw [aa])<;>decide)⟩ rfl (by unfold RO TO ah;simp only [go_sem]) (by unfold RO TO;simp only [go_sem]) ?_
  rintro _ _ ⟨rfl,rfl⟩
  unfold RO TO ah
  simp only [go_sem]
  rw [← hR]
  refine ⟨_,_,[100,101,103],id,⟨rfl,rfl⟩,?_⟩
  simp only [go_sem]
 ·rw [if_neg (by omega)] at hR
  refine qf E [4] (.agg [i64 t.k,.str t.s,i64 t.n,i64 t.pos]) rfl rfl ?_
  simp only [go_sem]
  refine ni E [([103],some 3,l.map fD)] (zm l (fun x=>decide (x.nm=t.s)) 371 [.ptr (.agg [i64 t.k,.str t.s,i64 t.n,i64 t.pos])] (by omega) (fun x _=>ES x t)) (by rintro _ rfl;rfl) (by simp only [go_sem]) rfl (by simp only [go_sem]) (by simp) ?_
  rintro _ rfl
  simp only [go_sem]
  refine aR E (fun h3=>?_) (fun h3=>?_)<;>simp only [go_sem]
  ·rw [if_pos h3] at hR
   refine ae E [.at [100] 0,.d (i64 5),.d (i64 t.pos)] (RO s) [100,101] (c5) rfl rfl ⟨by simp only [go_sem],by first | (rw [aa];decide) | (simp only [go_sem]<;>(try rw [aa])<;>decide)⟩ rfl (by unfold RO TO ah;simp only [go_sem]) (by unfold RO TO;simp only [go_sem]) ?_
   rintro _ _ ⟨rfl,rfl⟩
   unfold RO TO ah
   simp only [go_sem]
   rw [← hR]
   refine ⟨_,_,[100,101,103],id,⟨rfl,rfl⟩,?_⟩
   simp only [go_sem]
  ·rw [if_neg (by rw [h3];decide)] at hR
   rw [← hR]
   refine ⟨_,_,[100,101,103],id,⟨rfl,rfl⟩,?_⟩
   simp only [go_sem]
end Go.Proofs.YtejpnabbmgpmaaaGreat

namespace Go.Proofs.YtejpnabbmgpmaaaGreat
open Go.Ab
def NO (s:PS) (n:EN) (l:List EF):List (Name × Ob):=([105],.box [.at [100] 0])::([102],.box [.d (i64 n.k),.d (i64 n.a),.d (i64 n.b),.d (i64 n.c),.d (i64 n.n),.d (.str n.name),.d (.str n.s),.vw [103] 0 l.length,.d (i64 n.pos)])::FO s l
def rr (s:PS) (t:Tok) (l:List EF):EF × PS:=(⟨(s.of 2).1,[],0⟩,(((s.of 2).2.parted t l).must 7 [61]))
def m7 (s:PS) (t:Tok) (l:List EF):EF × PS:=(⟨(s.of 3).1,(((s.of 3).2.parted t l).of 2).1,0⟩,(((s.of 3).2.parted t l).of 2).2.must 7 bTo)
theorem vz (s:PS) (t:Tok) (l:List EF):(s.parted t l).l=s.l:=by
 unfold PS.parted
 split
 ·rfl
 split
 ·exact ot _ _ _
 split
 ·exact ot _ _ _
 ·rfl
def Dr (G:List (Nat × Obj)) (f:Nat) (part:PS→Tok→List EF→EF × PS):Prop:=∀ (s:PS) (t:Tok) (n:EN) (l:List EF),s.l.length≤100000→l.length≤100000 →
 HCall Tryz.prog G f [.d (.agg [i64 t.k,.str t.s,i64 t.n,i64 t.pos]),.at [105] 0,.at [102] 0] (NO s n l) [100,101,102,103,105] (fun r hp'=>r=.d (fD (part s t l).1)∧hp'=NO (part s t l).2 n l)
theorem G5 {G}:Dr G 354 rr:=by
 intro s t n l hs hl
 generalize hR:rr s t l=R
 unfold rr at hR
 have c1:=lP (G:=G) s 2 (by omega)
 have h1:=SS.of s 2
 obtain ⟨nm,s1,e1⟩:∃ nm s1,s.of 2=(nm,s1):=⟨_,_,rfl⟩
 rw [e1] at c1 h1 hR
 simp only at c1 h1 hR
 have l1:=h1.len
 have c2:=y5 (G:=G) s1 t n l hl
 have l2:=vz s1 t l
 generalize s1.parted t l=s2 at c2 l2 hR
 have c3:=fe (G:=G) s2 7 [61] (by rw [l2];omega) (by decide)
 generalize s2.must 7 [61]=s3 at c3 hR
 subst hR
 unfold NO FO RO TO ah
 refine aq Tryz.func354 rfl (by decide +kernel) (by simp [Tryz.ntmps354]) (veil fun E=>?_)
 simp only [go_sem]
 refine ae E [.at [100] 0,.d (i64 2)] (RO s) [100,101] (c1) rfl rfl ⟨by simp only [go_sem],by first | (rw [aa];decide) | (simp only [go_sem]<;>(try rw [aa])<;>decide)⟩ rfl (by unfold RO TO ah;simp only [go_sem]) (by unfold RO TO;simp only [go_sem]) ?_
 rintro _ _ ⟨rfl,rfl⟩
 unfold RO TO ah
 simp only [go_sem]
 refine ae E [.at [100] 0,.d (.agg [i64 t.k,.str t.s,i64 t.n,i64 t.pos]),.agg [.d (i64 n.k),.d (i64 n.a),.d (i64 n.b),.d (i64 n.c),.d (i64 n.n),.d (.str n.name),.d (.str n.s),.vw [103] 0 l.length,.d (i64 n.pos)]] (FO s1 l) [100,101,103] (c2) rfl rfl ⟨by simp only [go_sem],by first | (rw [aa];decide) | (simp only [go_sem]<;>(try rw [aa])<;>decide)⟩ rfl (by unfold FO RO TO ah;simp only [go_sem]) (by unfold FO RO TO;simp only [go_sem]) ?_
 rintro _ _ ⟨rfl,rfl⟩
 unfold FO RO TO ah
 simp only [go_sem]
 refine ⟨Nat.le_refl _,?_⟩
 refine ae E [.at [100] 0,.d (i64 7),.d (.str [61])] (RO s2) [100,101] (c3) rfl rfl ⟨by simp only [go_sem],by first | (rw [aa];decide) | (simp only [go_sem]<;>(try rw [aa])<;>decide)⟩ rfl (by unfold RO TO ah;simp only [go_sem]) (by unfold RO TO;simp only [go_sem]) ?_
 rintro _ _ ⟨rfl,rfl⟩
 unfold RO TO ah
 simp only [go_sem]
 refine ⟨_,_,[100,101,102,103,105],id,⟨rfl,rfl⟩,?_⟩
 simp only [go_sem]
 all_goals rfl
theorem Ew {G}:Dr G 356 m7:=by
 intro s t n l hs hl
 generalize hR:m7 s t l=R
 unfold m7 at hR
 have c1:=lP (G:=G) s 3 (by omega)
 have h1:=SS.of s 3
 obtain ⟨nm,s1,e1⟩:∃ nm s1,s.of 3=(nm,s1):=⟨_,_,rfl⟩
 rw [e1] at c1 h1 hR
 simp only at c1 h1 hR
 have l1:=h1.len
 have c2:=y5 (G:=G) s1 t n l hl
 have l2:=vz s1 t l
 generalize s1.parted t l=s2 at c2 l2 hR
 have co:=lP (G:=G) s2 2 (by rw [l2];omega)
 have ho:=SS.of s2 2
 obtain ⟨nv,so,eo⟩:∃ nv so,s2.of 2=(nv,so):=⟨_,_,rfl⟩
 rw [eo] at co ho hR
 simp only at co ho hR
 have lo:=ho.len
 rw [l2] at lo
 have c3:=fe (G:=G) so 7 bTo (by omega) (by decide)
 generalize so.must 7 bTo=s3 at c3 hR
 subst hR
 unfold NO FO RO TO ah
 refine aq Tryz.func356 rfl (by decide +kernel) (by simp [Tryz.ntmps356]) (veil fun E=>?_)
 simp only [go_sem]
 refine ae E [.at [100] 0,.d (i64 3)] (RO s) [100,101] (c1) rfl rfl ⟨by simp only [go_sem],by first | (rw [aa];decide) | (simp only [go_sem]<;>(try rw [aa])<;>decide)⟩ rfl (by unfold RO TO ah;simp only [go_sem]) (by unfold RO TO;simp only [go_sem]) ?_
 rintro _ _ ⟨rfl,rfl⟩
 unfold RO TO ah
 simp only [go_sem]
 refine ae E [.at [100] 0,.d (.agg [i64 t.k,.str t.s,i64 t.n,i64 t.pos]),.agg [.d (i64 n.k),.d (i64 n.a),.d (i64 n.b),.d (i64 n.c),.d (i64 n.n),.d (.str n.name),.d (.str n.s),.vw [103] 0 l.length,.d (i64 n.pos)]] (FO s1 l) [100,101,103] (c2) rfl rfl ⟨by simp only [go_sem],by first | (rw [aa];decide) | (simp only [go_sem]<;>(try rw [aa])<;>decide)⟩ rfl (by unfold FO RO TO ah;simp only [go_sem]) (by unfold FO RO TO;simp only [go_sem]) ?_
 rintro _ _ ⟨rfl,rfl⟩
 unfold FO RO TO ah
 simp only [go_sem]
 refine ⟨Nat.le_refl _,?_⟩
 refine ae E [.at [100] 0,.d (i64 2)] (RO s2) [100,101] (co) rfl rfl ⟨by simp only [go_sem],by first | (rw [aa];decide) | (simp only [go_sem]<;>(try rw [aa])<;>decide)⟩ rfl (by unfold RO TO ah;simp only [go_sem]) (by unfold RO TO;simp only [go_sem]) ?_
 rintro _ _ ⟨rfl,rfl⟩
 unfold RO TO ah
 simp only [go_sem]
 refine ae E [.at [100] 0,.d (i64 7),.d (.str bTo)] (RO so) [100,101] (c3) rfl rfl ⟨by simp only [go_sem],by first | (rw [aa];decide) | (simp only [go_sem]<;>(try rw [aa])<;>decide)⟩ rfl (by unfold RO TO ah;simp only [go_sem]) (by unfold RO TO;simp only [go_sem]) ?_
 rintro _ _ ⟨rfl,rfl⟩
 unfold RO TO ah
 simp only [go_sem]
 refine ⟨_,_,[100,101,102,103,105],id,⟨rfl,rfl⟩,?_⟩
 simp only [go_sem]
 all_goals rfl
end Go.Proofs.YtejpnabbmgpmaaaGreat

namespace Go.Proofs.YtejpnabbmgpmaaaGreat
open Go.Ab
def NQ (s:PS) (n:EN) (l:List EF) (ks:List (List EN)):List (Name × Ob):=([105],.box [.at [100] 0])::([102],.box [.d (i64 n.k),.d (i64 n.a),.d (i64 n.b),.d (i64 n.c),.d (i64 n.n),.d (.str n.name),.d (.str n.s),.vw [106] 0 l.length,.d (i64 n.pos)])::([106],.arr (some 3) (l.map fD))::([107],.arr (some 1) (ks.map exD))::RO s
theorem zl {G} {N:Nat} {ex:PS→PR} {f:Nat} {part:PS→Tok→List EF→EF × PS} {b:List UInt8} (hex:∀ s,GP 1 s (ex s)) (hc:Reads 53 G N ex) (hp:Dr G f part) (hps:∀ s l,SS s (part s s.peek l).2)
  (s:PS) (n:EN) (hl:s.l.length≤100000) (hN:s.nest=N) :
  HCall Tryz.prog G 353 [.at [100] 0,.at [102] 0,.d (.str b),.clo f [.at [105] 0,.at [102] 0]] (NO s n []) [100,101,102,103,105]
   (fun r hp'=>r=.vw [107] 0 (bK ex b (fun s l=>part s s.peek l) s.l.length.succ s [] []).2.1.length∧hp'=NQ (bK ex b (fun s l=>part s s.peek l) s.l.length.succ s [] []).2.2 n (bK ex b (fun s l=>part s s.peek l) s.l.length.succ s [] []).1 (bK ex b (fun s l=>part s s.peek l) s.l.length.succ s [] []).2.1):=by
 generalize hR:bK ex b (fun s l=>part s s.peek l) s.l.length.succ s [] []=R
 unfold NO FO RO TO ah
 refine aq Tryz.func353 rfl (by decide +kernel) (by simp [Tryz.ntmps353]) (veil fun E=>?_)
 simp only [go_sem]
 refine ml E 9 98 (some 1) rfl (by rw [aa];decide) ?_
 simp only [go_sem]
 refine aE E (X:={ x:Nat × PS × List EF × List (List EN) // bK ex b (fun s l=>part s s.peek l) x.1 x.2.1 x.2.2.1 x.2.2.2=R∧(x.2.1.l.length<x.1∧x.2.2.1.length=x.2.2.2.length∧x.2.2.1.length+x.2.1.l.length≤s.l.length∧x.2.1.nest=N) })
  (fun x=>[(0,.at [100] 0),(1,.at [102] 0),(2,.d (.str b)),(3,.clo f [.at [105] 0,.at [102] 0]),(8,.d .nils),(9,.vw [98] 0 x.1.2.2.2.length)])
  (fun x=>[([105],.box [.at [100] 0]),([102],.box [.d (i64 n.k),.d (i64 n.a),.d (i64 n.b),.d (i64 n.c),.d (i64 n.n),.d (.str n.name),.d (.str n.s),.vw [97] 0 x.1.2.2.1.length,.d (i64 n.pos)]),([97],.arr (some 3) (x.1.2.2.1.map fD)),([98],.arr (some 1) (x.1.2.2.2.map exD)),([100],.box [.at [101] 0,.d (i64 x.1.2.1.err),.d (i64 x.1.2.1.pos),.d (i64 x.1.2.1.nest)]),([101],.box [.d (.sl (some 4) (x.1.2.1.l.map gM)),.d (i64 x.1.2.1.fin)])]) [97,98,100,101,102,103,105] (fun x=>x.1.2.1.l.length) ⟨(s.l.length.succ,s,[],[]),hR,Nat.lt_succ_self _,rfl,by simp,hN⟩ (tau [([97],[103])]) ?_ ?_
 ·simp only [go_sem]
  all_goals rfl
 rintro ⟨⟨m,q,l,ks⟩,hb,hm,hlk,hls,hqn⟩ E0
 refine aT E0 fun Q' hQ E'=>?_
 simp only at hb hm hlk hls hqn ⊢
 obtain ⟨m,rfl⟩:∃ k,m=k+1:=⟨m-1,by omega⟩
 rw [bK] at hb
 simp only [go_sem]
 have h1:=hp q q.peek n l (by omega) (by omega)
 have g1:=hps q l
 obtain ⟨fd,s1,e1⟩:∃ fd s1,part q q.peek l=(fd,s1):=⟨_,_,rfl⟩
 rw [e1] at h1 g1 hb
 simp only at h1 g1 hb
 rw [show fD fd=.agg [.str fd.nm,.str fd.var,i64 fd.to] from rfl] at h1
 have n1:=g1.len
 have h2:=hc s1 (by omega) (g1.nest.trans hqn)
 have g2:=hex s1
 obtain ⟨x1,s2,e2⟩:∃ x1 s2,ex s1=(x1,s2):=⟨_,_,rfl⟩
 rw [e2] at h2 g2 hb
 simp only at h2 hb
 have n2:=g2.ss.len
 have z2:=g2.ss.nest
 simp only at n2 z2
 have h3:=jU (G:=G) s2 b (by omega)
 unfold exD at h2
 refine ae E' [.at [101] 0] (TO q.l q.fin) [101] (dN q.l q.fin (by omega)) rfl rfl ⟨by simp only [go_sem],by first | (rw [aa];decide) | (simp only [go_sem]<;>(try rw [aa])<;>decide)⟩ rfl (by unfold TO ah;simp only [go_sem]) (by unfold TO;simp only [go_sem]) ?_
 rintro _ _ ⟨rfl,rfl⟩
 unfold TO ah
 simp only [go_sem]
 refine dC E' (tau [([103],[97])]) [.d (.agg [i64 q.peek.k,.str q.peek.s,i64 q.peek.n,i64 q.peek.pos]),.at [105] 0,.at [102] 0] (NO q n l) [100,101,102,103,105] (h1) rfl (by simp only [go_sem];try rfl) ⟨by simp only [go_sem],by first | (rw [aa];decide) | (simp only [go_sem]<;>(try rw [aa])<;>decide)⟩ rfl (by unfold NO FO RO TO ah;simp only [go_sem]) (by unfold NO FO RO TO;simp only [go_sem]) ?_
 rintro _ _ ⟨rfl,rfl⟩
 unfold NO FO RO TO ah
 simp only [go_sem]
 refine ⟨Nat.le_refl _,?_⟩
 refine ae E' [.at [100] 0] (RO s1) [100,101] (h2) rfl rfl ⟨by simp only [go_sem],by first | (rw [aa];decide) | (simp only [go_sem]<;>(try rw [aa])<;>decide)⟩ rfl (by unfold RO TO ah;simp only [go_sem]) (by unfold RO TO;simp only [go_sem]) ?_
 rintro _ _ ⟨rfl,rfl⟩
 unfold RO TO ah
 simp only [go_sem]
 refine ⟨by omega,?_⟩
 rw [show List.map exD ks++[.agg [.sl (some 9) (List.map enD x1)]]=(ks++[x1]).map exD by rw [List.map_append];rfl]
 refine aj mixed E' fun X=>?_
 simp only [go_sem]
 refine b9 X (d:=27) [102] 0 none [.d (i64 n.k),.d (i64 n.a),.d (i64 n.b),.d (i64 n.c),.d (i64 n.n),.d (.str n.name),.d (.str n.s),.vw [97] 0 l.length,.d (i64 n.pos)] (by simp only [go_sem]) rfl rfl ?_
 simp only [go_sem]
 rw [show List.map fD l++[.agg [.str fd.nm,.str fd.var,i64 fd.to]]=(l++[fd]).map fD by rw [List.map_append];rfl]
 refine ⟨by omega,?_⟩
 refine b9 X (d:=33) [102] 0 none [.d (i64 n.k),.d (i64 n.a),.d (i64 n.b),.d (i64 n.c),.d (i64 n.n),.d (.str n.name),.d (.str n.s),.vw [97] 0 l.length,.d (i64 n.pos)] (by simp only [go_sem]) rfl rfl ?_
 simp only [go_sem]
 refine ⟨by decide +kernel,?_⟩
 refine ae E' [.at [100] 0,.d (.str b)] (RO s2) [100,101] (h3) rfl rfl ⟨by simp only [go_sem],by first | (rw [aa];decide) | (simp only [go_sem]<;>(try rw [aa])<;>decide)⟩ rfl (by unfold RO TO ah;simp only [go_sem]) (by unfold RO TO;simp only [go_sem]) ?_
 rintro _ _ ⟨rfl,rfl⟩
 unfold RO TO ah
 simp only [go_sem]
 refine aR E' (fun h=>?_) (fun h=>?_)<;>simp only [go_sem]
 ·have h':s2.sees 7 b=false:=by simpa using h
  rw [e6 h',hQ]
  rw [if_neg (by rw [h'];decide)] at hb
  subst hb
  simp only [go_sem]
  refine ⟨_,_,[100,101,102,103,105,106,107],tau [([106],[32]),([107],[24])],⟨rfl,rfl⟩,?_⟩
  unfold NQ RO TO ah
  simp only [go_sem]
  simp only [List.length_append,List.length_singleton,and_self]
 ·have h':s2.sees 7 b=true:=by simpa using h
  have hsl:=bm h'
  rw [dz h',hQ]
  rw [if_pos h'] at hb
  simp only [go_sem]
  refine ⟨⟨(m,s2.next,l++[fd],ks++[x1]),hb,by show s2.next.l.length<m;omega,by simp [hlk],by show (l++[fd]).length+s2.next.l.length≤_;rw [List.length_append,List.length_singleton];omega,by show s2.next.nest=N;rw [← hqn,← g1.nest,← z2];rfl⟩,by show s2.next.l.length<q.l.length;omega,tau [([97],[32]),([98],[24])],?_,?_,?_,?_,?_⟩<;>simp only [go_sem]
  all_goals simp only [List.length_append,List.length_singleton,and_self]
end Go.Proofs.YtejpnabbmgpmaaaGreat

namespace Go.Proofs.YtejpnabbmgpmaaaGreat
open Go.Ab
theorem FU {G} {N:Nat} {ex:PS→PR} (hex:∀ s,GP 1 s (ex s)) (hc:Reads 53 G N ex):qL 340 G N (eI ex):=by
 intro s p hl hN
 generalize hR:eI ex s p=R
 unfold eI at hR
 have h0:=jU (G:=G) s [125] (by omega)
 have hg:=e8 hex [44] ib SS.field s.l.length.succ s [] [] rfl (fun _ h=>by cases h)
 have hp:=zl (G:=G) (b:=[44]) hex hc (G5 (G:=G)) (fun s l=>SS.field s l) s (nd0 11 p) hl hN
 rw [show (fun s l=>rr s s.peek l)=ib from rfl] at hp
 obtain ⟨F,hF⟩:∃ F,F=bK ex [44] ib s.l.length.succ s [] []:=⟨_,rfl⟩
 rw [← hF] at hg hp
 simp only [← hF] at hR
 obtain ⟨fl,ks,q⟩:=F
 simp only at hp hR
 have g1:=hg.sz
 have g2:=hg.ln
 have g3:=hg.ss.len
 have g4:=hg.eq
 simp only [br,List.map_nil,List.sum_nil,List.length_nil] at g1 g2 g3 g4
 have hm:=fe (G:=G) q 7 [125] (by omega) (by decide)
 have h4:=nY (G:=G) { nd0 11 p with l:=fl } ks (by simp only;omega) (by omega) (by simp only [br];omega)
  (fun l h=>(hg.tr l h).kids.2) (fun l h=>(hg.wd (s.l.length+1) (fun _ h=>by cases h) (by simp only;omega) l h).mono (by omega))
 unfold RO TO ah
 refine aq Tryz.func340 rfl (by decide +kernel) (by simp [Tryz.ntmps340]) (veil fun E=>?_)
 simp only [go_sem]
 refine ae E [.at [100] 0,.d (.str [125])] (RO s) [100,101] (h0) rfl rfl ⟨by simp only [go_sem],by first | (rw [aa];decide) | (simp only [go_sem]<;>(try rw [aa])<;>decide)⟩ rfl (by unfold RO TO ah;simp only [go_sem]) (by unfold RO TO;simp only [go_sem]) ?_
 rintro _ _ ⟨rfl,rfl⟩
 unfold RO TO ah
 simp only [go_sem]
 refine aR E (fun h=>?_) (fun h=>?_)<;>simp only [go_sem]
 ·rw [if_pos h] at hR
  rw [dz h]
  have hlf:=fE (G:=G) (nd0 11 p) rfl
  generalize bp (nd0 11 p)=L at hlf hR
  unfold exD at hlf
  refine ab E hlf rfl rfl (by simp) ?_
  rintro _ rfl
  simp only [go_sem]
  subst hR
  refine ⟨_,_,[100,101],id,⟨rfl,rfl⟩,?_⟩
  simp only [go_sem]
  rfl
 ·rw [if_neg (by rw [h];decide)] at hR
  rw [e6 h]
  refine xG E [5] 7 98 (some 3) [.d (i64 11),.d (i64 0),.d (i64 0),.d (i64 0),.d (i64 0),.d (.str []),.d (.str []),.d .nils,.d (i64 p)] rfl rfl (by rw [aa];decide) rfl ?_
  simp only [go_sem]
  refine dC E (tau [([105],[2]),([102],[5]),([103],[98])]) [.at [100] 0,.at [102] 0,.d (.str [44]),.clo 354 [.at [105] 0,.at [102] 0]] (NO s (nd0 11 p) []) [100,101,102,103,105] (hp) rfl (by simp only [go_sem];try rfl) ⟨by simp only [go_sem],by first | (rw [aa];decide) | (simp only [go_sem]<;>(try rw [aa])<;>decide)⟩ rfl (by unfold NO FO RO TO ah;simp only [go_sem];try rfl) (by unfold NO FO RO TO;simp only [go_sem]) ?_
  rintro _ _ ⟨rfl,rfl⟩
  unfold NQ NO FO RO TO ah nd0
  simp only [go_sem]
  refine ae E [.at [100] 0,.d (i64 7),.d (.str [125])] (RO q) [100,101] (hm) rfl rfl ⟨by simp only [go_sem],by first | (rw [aa];decide) | (simp only [go_sem]<;>(try rw [aa])<;>decide)⟩ rfl (by unfold RO TO ah;simp only [go_sem]) (by unfold RO TO;simp only [go_sem]) ?_
  rintro _ _ ⟨rfl,rfl⟩
  unfold RO TO ah
  simp only [go_sem]
  refine cV E [15,107] (some 1) (ks.map exD) rfl (by simp only [go_sem];rfl) ?_
  simp only [go_sem]
  refine cV E [15,106] (some 3) (fl.map fD) rfl (by simp only [go_sem];rfl) ?_
  simp only [go_sem]
  generalize aD { nd0 11 p with l:=fl } ks=J at h4 hR
  unfold exD at h4
  refine ab E h4 rfl rfl (by simp) ?_
  rintro _ rfl
  simp only [go_sem]
  subst hR
  refine ⟨_,_,[100,101],id,⟨rfl,rfl⟩,?_⟩
  simp only [go_sem]
  rfl
theorem Gi {G} {N:Nat} {ex:PS→PR} (hex:∀ s,GP 1 s (ex s)) (hc:Reads 53 G N ex):qL 341 G N (im ex):=by
 intro s p hl hN
 generalize hR:im ex s p=R
 unfold im at hR
 have ce:=hc s hl hN
 have he:=hex s
 obtain ⟨e,s0,e0⟩:∃ e s0,ex s=(e,s0):=⟨_,_,rfl⟩
 rw [e0] at ce he hR
 simp only at ce hR
 have le:=he.ss.len
 have ne:=he.ss.nest
 have ze:=he.sz
 simp only at le ne ze
 have cm:=fe (G:=G) s0 1 bOf (by omega) (by decide)
 have hm:=SS.must s0 1 bOf
 generalize s0.must 1 bOf=s1 at cm hm hR
 have lm:=hm.len
 have nm:=hm.nest
 have hg:=e8 hex [124] eG SS.branch s1.l.length.succ s1 [] [] rfl (fun _ h=>by cases h)
 have hp:=zl (G:=G) (b:=[124]) hex hc (Ew (G:=G)) (fun s l=>SS.branch s l) s1 (nd0 14 p) (by omega) (by rw [nm,ne,hN])
 rw [show (fun s l=>m7 s s.peek l)=eG from rfl] at hp
 obtain ⟨F,hF⟩:∃ F,F=bK ex [124] eG s1.l.length.succ s1 [] []:=⟨_,rfl⟩
 rw [← hF] at hg hp
 simp only [← hF] at hR
 obtain ⟨fl,ks,q⟩:=F
 simp only at hp hR
 have g1:=hg.sz
 have g2:=hg.ln
 have g3:=hg.ss.len
 have g4:=hg.eq
 simp only [br,List.map_nil,List.sum_nil,List.length_nil] at g1 g2 g3 g4
 have cx:=fe (G:=G) q 1 Hg (by omega) (by decide)
 have h4:=nY (G:=G) { nd0 14 p with l:=fl } (e::ks) (by simp only;omega) (by rw [List.length_cons];omega) (by simp only [br,List.map_cons,List.sum_cons];omega)
  (fun l h=>by
   rcases List.mem_cons.1 h with rfl | h
   ·exact he.tr.kids.2
   ·exact (hg.tr l h).kids.2)
  (fun l h=>by
   rcases List.mem_cons.1 h with rfl | h
   ·exact he.wd.mono (by omega)
   ·exact (hg.wd (s1.l.length+1) (fun _ h=>by cases h) (by simp only;omega) l h).mono (by omega))
 unfold exD at ce
 unfold RO TO ah
 refine aq Tryz.func341 rfl (by decide +kernel) (by simp [Tryz.ntmps341]) (veil fun E=>?_)
 simp only [go_sem]
 refine ae E [.at [100] 0] (RO s) [100,101] (ce) rfl rfl ⟨by simp only [go_sem],by first | (rw [aa];decide) | (simp only [go_sem]<;>(try rw [aa])<;>decide)⟩ rfl (by unfold RO TO ah;simp only [go_sem]) (by unfold RO TO;simp only [go_sem]) ?_
 rintro _ _ ⟨rfl,rfl⟩
 unfold RO TO ah
 simp only [go_sem]
 refine ae E [.at [100] 0,.d (i64 1),.d (.str bOf)] (RO s0) [100,101] (cm) rfl rfl ⟨by simp only [go_sem],by first | (rw [aa];decide) | (simp only [go_sem]<;>(try rw [aa])<;>decide)⟩ rfl (by unfold RO TO ah;simp only [go_sem]) (by unfold RO TO;simp only [go_sem]) ?_
 rintro _ _ ⟨rfl,rfl⟩
 unfold RO TO ah
 simp only [go_sem]
 refine xG E [5] 7 98 (some 3) [.d (i64 14),.d (i64 0),.d (i64 0),.d (i64 0),.d (i64 0),.d (.str []),.d (.str []),.d .nils,.d (i64 p)] rfl rfl (by rw [aa];decide) rfl ?_
 simp only [go_sem]
 refine dC E (tau [([105],[2]),([102],[5]),([103],[98])]) [.at [100] 0,.at [102] 0,.d (.str [124]),.clo 356 [.at [105] 0,.at [102] 0]] (NO s1 (nd0 14 p) []) [100,101,102,103,105] (hp) rfl (by simp only [go_sem];try rfl) ⟨by simp only [go_sem],by first | (rw [aa];decide) | (simp only [go_sem]<;>(try rw [aa])<;>decide)⟩ rfl (by unfold NO FO RO TO ah;simp only [go_sem];try rfl) (by unfold NO FO RO TO;simp only [go_sem]) ?_
 rintro _ _ ⟨rfl,rfl⟩
 unfold NQ NO FO RO TO ah nd0
 simp only [go_sem]
 refine ae E [.at [100] 0,.d (i64 1),.d (.str Hg)] (RO q) [100,101] (cx) rfl rfl ⟨by simp only [go_sem],by first | (rw [aa];decide) | (simp only [go_sem]<;>(try rw [aa])<;>decide)⟩ rfl (by unfold RO TO ah;simp only [go_sem]) (by unfold RO TO;simp only [go_sem]) ?_
 rintro _ _ ⟨rfl,rfl⟩
 unfold RO TO ah
 simp only [go_sem]
 refine iw E [16,107] (some 1) (ks.map exD) rfl ?_
 simp only [go_sem]
 refine iw E [16,106] (some 3) (fl.map fD) rfl ?_
 simp only [go_sem]
 refine aj mixed E fun X=>?_
 simp only [go_sem]
 refine ⟨by omega,?_⟩
 generalize aD { nd0 14 p with l:=fl } (e::ks)=J at h4 hR
 unfold exD at h4
 refine cg X 23 [23] (some 1) (.agg [.sl (some 9) (e.map enD)]::ks.map exD) h4 (fun _=>rfl) rfl rfl rfl (by simp) (by rw [List.drop_zero,List.take_of_length_le (by simp;omega)];rfl) (by simp only [go_sem]) ?_
 simp only [go_sem]
 refine ⟨by decide +kernel,?_⟩
 subst hR
 refine ⟨_,_,[100,101],id,⟨rfl,rfl⟩,?_⟩
 simp only [go_sem]
 rfl
end Go.Proofs.YtejpnabbmgpmaaaGreat

namespace Go.Proofs.YtejpnabbmgpmaaaGreat
open Go.Ab
theorem EK {G} {N:Nat} {ex:PS→PR} (hex:∀ s,GP 1 s (ex s)) (hc:Reads 53 G N ex):Reads 329 G N (dH ex):=by
 intro s hl hN
 generalize hR:dH ex s=R
 unfold dH at hR
 rw [jF] at hR
 have hpk:=dN (G:=G) s.l s.fin (by omega)
 generalize b8 s.l s.fin=t at hpk hR
 simp only at hR
 have hnx:s.next.nest=N:=hN
 have hnl:s.next.l.length≤100000:=by have:=(SS.next s).len;omega
 have c1:=kc (G:=G) s lp (by omega)
 have c2:=kc (G:=G) s gY (by omega)
 have c3:=jU (G:=G) s [40] (by omega)
 have c4:=jU (G:=G) s [123] (by omega)
 have c5:=kc (G:=G) s mK (by omega)
 have cr:=FU (G:=G) hex hc s.next t.pos hnl hnx
 have cc:=Gi (G:=G) hex hc s.next t.pos hnl hnx
 have ce:=hc s.next hnl hnx
 have he:=hex s.next
 generalize eI ex s.next t.pos=R1 at hR cr
 generalize im ex s.next t.pos=R2 at hR cc
 obtain ⟨e0,s0,h0⟩:∃ e0 s0,ex s.next=(e0,s0):=⟨_,_,rfl⟩
 rw [h0] at ce hR he
 have ln:=he.ss.len
 simp only at hR ce ln
 have cm:=fe (G:=G) s0 7 [41] (by omega) (by decide)
 unfold exD at cr cc ce
 unfold RO TO ah
 refine aq Tryz.func329 rfl (by decide +kernel) (by simp [Tryz.ntmps329]) (veil fun E=>?_)
 simp only [go_sem]
 refine ae E [.at [101] 0] (TO s.l s.fin) [101] (hpk) rfl rfl ⟨by simp only [go_sem],by first | (rw [aa];decide) | (simp only [go_sem]<;>(try rw [aa])<;>decide)⟩ rfl (by unfold TO ah;simp only [go_sem]) (by unfold TO;simp only [go_sem]) ?_
 rintro _ _ ⟨rfl,rfl⟩
 unfold TO ah
 simp only [go_sem]
 refine ae E [.at [100] 0] (RO s) [100,101] (e9 s) rfl rfl ⟨by simp only [go_sem],by first | (rw [aa];decide) | (simp only [go_sem]<;>(try rw [aa])<;>decide)⟩ rfl (by unfold RO TO ah;simp only [go_sem]) (by unfold RO TO;simp only [go_sem]) ?_
 rintro _ _ ⟨rfl,rfl⟩
 unfold RO TO ah
 simp only [go_sem]
 refine aR E (fun h=>?_) (fun h=>?_)<;>simp only [go_sem]
 ·rw [if_pos (by simpa using h)] at hR
  refine ae E [.at [100] 0] (RO s) [100,101] (nN s (by omega)) rfl rfl ⟨by simp only [go_sem],by first | (rw [aa];decide) | (simp only [go_sem]<;>(try rw [aa])<;>decide)⟩ rfl (by unfold RO TO ah;simp only [go_sem]) (by unfold RO TO;simp only [go_sem]) ?_
  rintro _ _ ⟨rfl,rfl⟩
  unfold RO TO ah
  simp only [go_sem]
  have hlf:=fE (G:=G) (nd0 1 0) rfl
  unfold noE at hR
  generalize bp (nd0 1 0)=L at hlf hR
  unfold exD at hlf
  refine ab E hlf rfl rfl (by simp) ?_
  rintro _ rfl
  simp only [go_sem]
  subst hR
  refine ⟨_,_,[100,101],id,⟨rfl,rfl⟩,?_⟩
  simp only [go_sem]
  all_goals first | rfl | exact ⟨rfl,rfl,rfl⟩
 rw [if_neg (by simpa using h)] at hR
 refine ai E (fun h=>?_) (fun h=>?_)<;>simp only [go_sem]
 ·rw [if_pos h] at hR
  refine ae E [.at [101] 0] (TO s.l s.fin) [101] (jV s.l s.fin (by omega)) rfl rfl ⟨by simp only [go_sem],by first | (rw [aa];decide) | (simp only [go_sem]<;>(try rw [aa])<;>decide)⟩ rfl (by unfold TO ah;simp only [go_sem]) (by unfold TO;simp only [go_sem]) ?_
  rintro _ _ ⟨rfl,rfl⟩
  unfold TO ah
  simp only [go_sem]
  have hlf:=fE (G:=G) ({ nd0 1 t.pos with n:=t.n }) rfl
  generalize bp ({ nd0 1 t.pos with n:=t.n })=L at hlf hR
  unfold exD at hlf
  refine ab E hlf rfl rfl (by simp) ?_
  rintro _ rfl
  simp only [go_sem]
  subst hR
  refine ⟨_,_,[100,101],id,⟨rfl,rfl⟩,?_⟩
  simp only [go_sem]
  all_goals first | rfl | exact ⟨rfl,rfl,rfl⟩
 rw [if_neg h] at hR
 refine ai E (fun h=>?_) (fun h=>?_)<;>simp only [go_sem]
 ·rw [if_pos h] at hR
  refine ae E [.at [101] 0] (TO s.l s.fin) [101] (jV s.l s.fin (by omega)) rfl rfl ⟨by simp only [go_sem],by first | (rw [aa];decide) | (simp only [go_sem]<;>(try rw [aa])<;>decide)⟩ rfl (by unfold TO ah;simp only [go_sem]) (by unfold TO;simp only [go_sem]) ?_
  rintro _ _ ⟨rfl,rfl⟩
  unfold TO ah
  simp only [go_sem]
  have hlf:=fE (G:=G) ({ nd0 3 t.pos with s:=t.s }) rfl
  generalize bp ({ nd0 3 t.pos with s:=t.s })=L at hlf hR
  unfold exD at hlf
  refine ab E hlf rfl rfl (by simp) ?_
  rintro _ rfl
  simp only [go_sem]
  subst hR
  refine ⟨_,_,[100,101],id,⟨rfl,rfl⟩,?_⟩
  simp only [go_sem]
  all_goals first | rfl | exact ⟨rfl,rfl,rfl⟩
 rw [if_neg h] at hR
 refine ai E (fun h=>?_) (fun h=>?_)<;>simp only [go_sem]
 ·rw [if_pos h] at hR
  refine ae E [.at [101] 0] (TO s.l s.fin) [101] (jV s.l s.fin (by omega)) rfl rfl ⟨by simp only [go_sem],by first | (rw [aa];decide) | (simp only [go_sem]<;>(try rw [aa])<;>decide)⟩ rfl (by unfold TO ah;simp only [go_sem]) (by unfold TO;simp only [go_sem]) ?_
  rintro _ _ ⟨rfl,rfl⟩
  unfold TO ah
  simp only [go_sem]
  have hlf:=fE (G:=G) ({ nd0 4 t.pos with name:=t.s }) rfl
  generalize bp ({ nd0 4 t.pos with name:=t.s })=L at hlf hR
  unfold exD at hlf
  refine ab E hlf rfl rfl (by simp) ?_
  rintro _ rfl
  simp only [go_sem]
  subst hR
  refine ⟨_,_,[100,101],id,⟨rfl,rfl⟩,?_⟩
  simp only [go_sem]
  all_goals first | rfl | exact ⟨rfl,rfl,rfl⟩
 rw [if_neg h] at hR
 refine ae E [.at [100] 0,.d (.str lp)] (RO s) [100,101] (c1) rfl rfl ⟨by simp only [go_sem],by first | (rw [aa];decide) | (simp only [go_sem]<;>(try rw [aa])<;>decide)⟩ rfl (by unfold RO TO ah;simp only [go_sem]) (by unfold RO TO;simp only [go_sem]) ?_
 rintro _ _ ⟨rfl,rfl⟩
 unfold RO TO ah
 simp only [go_sem]
 refine aR E (fun h=>?_) (fun h=>?_)<;>simp only [go_sem]
 ·rw [if_pos h] at hR
  rw [dz h]
  have hlf:=fE (G:=G) ({ nd0 2 t.pos with n:=1 }) rfl
  generalize bp ({ nd0 2 t.pos with n:=1 })=L at hlf hR
  unfold exD at hlf
  refine ab E hlf rfl rfl (by simp) ?_
  rintro _ rfl
  simp only [go_sem]
  subst hR
  refine ⟨_,_,[100,101],id,⟨rfl,rfl⟩,?_⟩
  simp only [go_sem]
  all_goals first | rfl | exact ⟨rfl,rfl,rfl⟩
 rw [if_neg (by rw [h];decide)] at hR
 rw [e6 h]
 refine ae E [.at [100] 0,.d (.str gY)] (RO s) [100,101] (c2) rfl rfl ⟨by simp only [go_sem],by first | (rw [aa];decide) | (simp only [go_sem]<;>(try rw [aa])<;>decide)⟩ rfl (by unfold RO TO ah;simp only [go_sem]) (by unfold RO TO;simp only [go_sem]) ?_
 rintro _ _ ⟨rfl,rfl⟩
 unfold RO TO ah
 simp only [go_sem]
 refine aR E (fun h=>?_) (fun h=>?_)<;>simp only [go_sem]
 ·rw [if_pos h] at hR
  rw [dz h]
  have hlf:=fE (G:=G) (nd0 2 t.pos) rfl
  generalize bp (nd0 2 t.pos)=L at hlf hR
  unfold exD at hlf
  refine ab E hlf rfl rfl (by simp) ?_
  rintro _ rfl
  simp only [go_sem]
  subst hR
  refine ⟨_,_,[100,101],id,⟨rfl,rfl⟩,?_⟩
  simp only [go_sem]
  all_goals first | rfl | exact ⟨rfl,rfl,rfl⟩
 rw [if_neg (by rw [h];decide)] at hR
 rw [e6 h]
 refine ae E [.at [100] 0,.d (.str [40])] (RO s) [100,101] (c3) rfl rfl ⟨by simp only [go_sem],by first | (rw [aa];decide) | (simp only [go_sem]<;>(try rw [aa])<;>decide)⟩ rfl (by unfold RO TO ah;simp only [go_sem]) (by unfold RO TO;simp only [go_sem]) ?_
 rintro _ _ ⟨rfl,rfl⟩
 unfold RO TO ah
 simp only [go_sem]
 refine aR E (fun h=>?_) (fun h=>?_)<;>simp only [go_sem]
 ·rw [if_pos h] at hR
  rw [dz h]
  refine ae E [.at [100] 0] (RO s.next) [100,101] (ce) rfl rfl ⟨by simp only [go_sem],by first | (rw [aa];decide) | (simp only [go_sem]<;>(try rw [aa])<;>decide)⟩ rfl (by unfold RO TO ah;simp only [go_sem]) (by unfold RO TO;simp only [go_sem]) ?_
  rintro _ _ ⟨rfl,rfl⟩
  unfold RO TO ah
  simp only [go_sem]
  refine ae E [.at [100] 0,.d (i64 7),.d (.str [41])] (RO s0) [100,101] (cm) rfl rfl ⟨by simp only [go_sem],by first | (rw [aa];decide) | (simp only [go_sem]<;>(try rw [aa])<;>decide)⟩ rfl (by unfold RO TO ah;simp only [go_sem]) (by unfold RO TO;simp only [go_sem]) ?_
  rintro _ _ ⟨rfl,rfl⟩
  unfold RO TO ah
  simp only [go_sem]
  subst hR
  refine ⟨_,_,[100,101],id,⟨rfl,rfl⟩,?_⟩
  simp only [go_sem]
  all_goals rfl
 rw [if_neg (by rw [h];decide)] at hR
 rw [e6 h]
 refine ae E [.at [100] 0,.d (.str [123])] (RO s) [100,101] (c4) rfl rfl ⟨by simp only [go_sem],by first | (rw [aa];decide) | (simp only [go_sem]<;>(try rw [aa])<;>decide)⟩ rfl (by unfold RO TO ah;simp only [go_sem]) (by unfold RO TO;simp only [go_sem]) ?_
 rintro _ _ ⟨rfl,rfl⟩
 unfold RO TO ah
 simp only [go_sem]
 refine aR E (fun h=>?_) (fun h=>?_)<;>simp only [go_sem]
 ·rw [if_pos h] at hR
  rw [dz h]
  refine ae E [.at [100] 0,.d (i64 t.pos)] (RO s.next) [100,101] (cr) rfl rfl ⟨by simp only [go_sem],by first | (rw [aa];decide) | (simp only [go_sem]<;>(try rw [aa])<;>decide)⟩ rfl (by unfold RO TO ah;simp only [go_sem]) (by unfold RO TO;simp only [go_sem]) ?_
  rintro _ _ ⟨rfl,rfl⟩
  unfold RO TO ah
  simp only [go_sem]
  subst hR
  refine ⟨_,_,[100,101],id,⟨rfl,rfl⟩,?_⟩
  simp only [go_sem]
  all_goals rfl
 rw [if_neg (by rw [h];decide)] at hR
 rw [e6 h]
 refine ae E [.at [100] 0,.d (.str mK)] (RO s) [100,101] (c5) rfl rfl ⟨by simp only [go_sem],by first | (rw [aa];decide) | (simp only [go_sem]<;>(try rw [aa])<;>decide)⟩ rfl (by unfold RO TO ah;simp only [go_sem]) (by unfold RO TO;simp only [go_sem]) ?_
 rintro _ _ ⟨rfl,rfl⟩
 unfold RO TO ah
 simp only [go_sem]
 refine aR E (fun h=>?_) (fun h=>?_)<;>simp only [go_sem]
 ·rw [if_pos h] at hR
  rw [dz h]
  refine ae E [.at [100] 0,.d (i64 t.pos)] (RO s.next) [100,101] (cc) rfl rfl ⟨by simp only [go_sem],by first | (rw [aa];decide) | (simp only [go_sem]<;>(try rw [aa])<;>decide)⟩ rfl (by unfold RO TO ah;simp only [go_sem]) (by unfold RO TO;simp only [go_sem]) ?_
  rintro _ _ ⟨rfl,rfl⟩
  unfold RO TO ah
  simp only [go_sem]
  subst hR
  refine ⟨_,_,[100,101],id,⟨rfl,rfl⟩,?_⟩
  simp only [go_sem]
  all_goals rfl
 rw [if_neg (by rw [h];decide)] at hR
 rw [e6 h]
 refine ae E [.at [100] 0] (RO s) [100,101] (nN s (by omega)) rfl rfl ⟨by simp only [go_sem],by first | (rw [aa];decide) | (simp only [go_sem]<;>(try rw [aa])<;>decide)⟩ rfl (by unfold RO TO ah;simp only [go_sem]) (by unfold RO TO;simp only [go_sem]) ?_
 rintro _ _ ⟨rfl,rfl⟩
 unfold RO TO ah
 simp only [go_sem]
 have hlf:=fE (G:=G) (nd0 1 0) rfl
 unfold noE at hR
 generalize bp (nd0 1 0)=L at hlf hR
 unfold exD at hlf
 refine ab E hlf rfl rfl (by simp) ?_
 rintro _ rfl
 simp only [go_sem]
 subst hR
 refine ⟨_,_,[100,101],id,⟨rfl,rfl⟩,?_⟩
 simp only [go_sem]
 all_goals first | rfl | exact ⟨rfl,rfl,rfl⟩
end Go.Proofs.YtejpnabbmgpmaaaGreat

namespace Go.Proofs.YtejpnabbmgpmaaaGreat
open Go.Ab
theorem D4 (s:PS) (e p:Int) (he:e≠0):(s.fail e p).err≠0:=by
 unfold PS.fail
 split
 ·exact he
 ·assumption
theorem C9 {G}:Reads 53 G 100 (iD 0):=by
 intro s hl hN
 generalize hR:iD 0 s=R
 unfold iD at hR
 rw [jF] at hR
 have hpk:=dN (G:=G) s.l s.fin (by omega)
 generalize b8 s.l s.fin=t at hpk hR
 have hf:=nI (G:=G) s 6 t.pos
 have hne:=D4 s 6 t.pos (by decide)
 generalize s.fail 6 t.pos=s2 at hf hne hR
 unfold noE at hR
 have hlf:=fE (G:=G) (nd0 1 0) rfl
 generalize bp (nd0 1 0)=L at hlf hR
 subst hR
 unfold exD at hlf
 unfold RO TO ah
 refine yM Tryz.func53 rfl (by decide +kernel) (by simp [Tryz.ntmps53]) fun B0 hB0=>?_
 refine aC (an fun E=>?_)
 simp only [go_sem]
 refine aC (an fun E=>?_)
 simp only [go_sem]
 refine ae E [.at [101] 0] (TO s.l s.fin) [101] (hpk) rfl rfl ⟨by simp only [go_sem],by first | (rw [aa];decide) | (simp only [go_sem]<;>(try rw [aa])<;>decide)⟩ rfl (by unfold TO ah;simp only [go_sem]) (by unfold TO;simp only [go_sem]) ?_
 rintro _ _ ⟨rfl,rfl⟩
 unfold TO ah
 simp only [go_sem]
 refine aC (an fun E=>?_)
 simp only [go_sem]
 refine ai E (fun h=>?_) (fun h=>absurd (by omega) h)<;>simp only [go_sem]
 refine ae E [.at [100] 0,.d (i64 6),.d (i64 t.pos)] (RO s) [100,101] (hf) rfl rfl ⟨by simp only [go_sem],by first | (rw [aa];decide) | (simp only [go_sem]<;>(try rw [aa])<;>decide)⟩ rfl (by unfold RO TO ah;simp only [go_sem]) (by unfold RO TO;simp only [go_sem]) ?_
 rintro _ _ ⟨rfl,rfl⟩
 unfold RO TO ah
 simp only [go_sem]
 refine aC (an fun E=>?_)
 simp only [go_sem]
 refine ae E [.at [100] 0] (RO s2) [100,101] (e9 s2) rfl rfl ⟨by simp only [go_sem],by first | (rw [aa];decide) | (simp only [go_sem]<;>(try rw [aa])<;>decide)⟩ rfl (by unfold RO TO ah;simp only [go_sem]) (by unfold RO TO;simp only [go_sem]) ?_
 rintro _ _ ⟨rfl,rfl⟩
 unfold RO TO ah
 simp only [go_sem]
 refine aR E (fun g=>?_) (fun g=>absurd (by simpa using g) hne)<;>simp only [go_sem]
 refine ab E hlf rfl rfl (by simp) ?_
 rintro _ rfl
 simp only [go_sem]
 refine y2 (.inl rfl) hB0 ?_
 simp only [go_sem]
 refine ⟨_,_,[100,101],id,⟨rfl,rfl⟩,?_⟩
 simp only [go_sem]
 rfl
def BD (ex:PS→PR) (s:PS):PR:=if s.err≠0 then (noE,s) else
 let r:=n8 ex { s with nest:=s.nest+1 }
 (r.1,{ r.2 with nest:=s.nest })
set_option maxHeartbeats 1000000 in
theorem CH {G} {N:Nat} {ex:PS→PR} (hN0:N<100) (hex:∀ s,GP 1 s (ex s)) (hc:Reads 53 G (N+1) ex):Reads 53 G N (BD ex):=by
 intro s hl hN
 generalize hR:BD ex s=R
 unfold BD n8 at hR
 have hp1:({ s with nest:=s.nest+1 }:PS).peek=b8 s.l s.fin:=rfl
 obtain ⟨s1,hs1⟩:∃ s1:PS,s1={ s with nest:=s.nest+1 }:=⟨_,rfl⟩
 rw [← hs1] at hp1
 simp only [← hs1,hp1] at hR
 have hpk:=dN (G:=G) s.l s.fin (by omega)
 generalize b8 s.l s.fin=t at hpk hR
 have l1:s1.l.length≤100000:=by rw [hs1];exact hl
 have n1:s1.nest=N+1:=by rw [hs1];show s.nest+1=_;rw [hN]
 have hlf:=fE (G:=G) (nd0 1 0) rfl
 unfold noE at hR
 generalize bp (nd0 1 0)=L at hlf hR
 have c1:=kc (G:=G) s1 H3 (by omega)
 have c2:=kc (G:=G) s1 Ib (by omega)
 have c3:=kc (G:=G) s1 bIf (by omega)
 have nn:=(SS.next s1).nest
 have ln:=(SS.next s1).len
 have c4:=I3 (G:=G) hex hc s1.next t.pos (by omega) (nn.trans n1)
 have c5:=Ik (G:=G) hex hc s1.next t.pos (by omega) (nn.trans n1)
 have c6:=Ho (G:=G) hex (Fe hex (EW hex (FI hex (FR hex (EK hex hc))))) s1 l1 n1
 have g4:=(uZ hex s1.next t.pos).ss.nest
 have g5:=(yG hex s1.next t.pos).ss.nest
 have g6:=(uR hex s1).ss.nest
 generalize sr ex s1.next t.pos=R4 at c4 g4 hR
 generalize ifS ex s1.next t.pos=R5 at c5 g5 hR
 generalize ui ex s1=R6 at c6 g6 hR
 have c7:=lP (G:=G) s1.next 2 (by omega)
 have g7:=SS.of s1.next 2
 obtain ⟨nm,s2,e2⟩:∃ nm s2,s1.next.of 2=(nm,s2):=⟨_,_,rfl⟩
 rw [e2] at c7 g7
 simp only [e2] at hR
 simp only at c7 g7
 have l2:=g7.len
 have n2:=g7.nest
 have c8:=fe (G:=G) s2 7 bTo (by omega) (by decide)
 have g8:=SS.must s2 7 bTo
 generalize s2.must 7 bTo=s3 at c8 g8 hR
 have l3:=g8.len
 have n3:=g8.nest
 have c9:=hc s3 (by omega) (by rw [n3,n2,nn,n1])
 have g9:=hex s3
 obtain ⟨b,s4,e4⟩:∃ b s4,ex s3=(b,s4):=⟨_,_,rfl⟩
 rw [e4] at c9 g9
 simp only [e4] at hR
 have n4:=g9.ss.nest
 have z4:=g9.sz
 simp only at n4 z4
 have h4:=iL (G:=G) { nd0 5 t.pos with name:=nm } [b] rfl (by simp) (by simp only [br,List.map_cons,List.map_nil,List.sum_cons,List.sum_nil];omega)
  (fun l h=>by rw [List.mem_singleton.1 h];exact g9.tr.kids.2)
  (fun l h=>by rw [List.mem_singleton.1 h];exact g9.wd.mono (by omega))
 generalize aD { nd0 5 t.pos with name:=nm } [b]=J at h4 hR
 unfold exD at hlf c4 c5 c6 c9 h4
 unfold RO TO ah
 refine yM Tryz.func53 rfl (by decide +kernel) (by simp [Tryz.ntmps53]) fun B0 hB0=>?_
 refine aC (an fun E=>?_)
 simp only [go_sem]
 refine aC (an fun E=>?_)
 simp only [go_sem]
 refine ae E [.at [101] 0] (TO s.l s.fin) [101] (hpk) rfl rfl ⟨by simp only [go_sem],by first | (rw [aa];decide) | (simp only [go_sem]<;>(try rw [aa])<;>decide)⟩ rfl (by unfold TO ah;simp only [go_sem]) (by unfold TO;simp only [go_sem]) ?_
 rintro _ _ ⟨rfl,rfl⟩
 unfold TO ah
 simp only [go_sem]
 refine aC (an fun E=>?_)
 simp only [go_sem]
 refine ai E (fun h=>absurd h (by omega)) (fun h=>?_)<;>simp only [go_sem]
 refine aC (an fun E=>?_)
 simp only [go_sem]
 refine ae E [.at [100] 0] (RO s) [100,101] (e9 s) rfl rfl ⟨by simp only [go_sem],by first | (rw [aa];decide) | (simp only [go_sem]<;>(try rw [aa])<;>decide)⟩ rfl (by unfold RO TO ah;simp only [go_sem]) (by unfold RO TO;simp only [go_sem]) ?_
 rintro _ _ ⟨rfl,rfl⟩
 unfold RO TO ah
 simp only [go_sem]
 refine aR E (fun g=>?_) (fun g=>?_)<;>simp only [go_sem]
 ·rw [if_pos (by simpa using g)] at hR
  refine ab E hlf rfl rfl (by simp) ?_
  rintro _ rfl
  simp only [go_sem]
  subst hR
  refine y2 (.inl rfl) hB0 ?_
  simp only [go_sem]
  refine ⟨_,_,[100,101],id,⟨rfl,rfl⟩,?_⟩
  simp only [go_sem]
  all_goals first | rfl | exact ⟨rfl,rfl⟩ | exact ⟨rfl,rfl,rfl⟩
 rw [if_neg (by simpa using g)] at hR
 refine aC (an fun E=>?_)
 simp only [go_sem]
 rw [ak (n:=(s.nest:Int)+1) ⟨by omega,by omega⟩]
 rw [show s.err=s1.err by rw [hs1],show s.pos=s1.pos by rw [hs1],show s.l=s1.l by rw [hs1],show s.fin=s1.fin by rw [hs1],show (s.nest:Int)+1=(s1.nest:Int) by rw [n1,← hN];rfl]
 refine aC (jo ?_)
 refine o9 rfl ?_
 simp only [go_sem]
 refine Hd [[1]] rfl rfl (by intro p hp;rw [List.mem_singleton.1 hp];exact ⟨_,rfl⟩) ?_
 refine mb ?_
 refine aC (an fun E=>?_)
 simp only [go_sem]
 refine ae E [.at [100] 0,.d (.str H3)] (RO s1) [100,101] (c1) rfl rfl ⟨by simp only [go_sem],by first | (rw [aa];decide) | (simp only [go_sem]<;>(try rw [aa])<;>decide)⟩ rfl (by unfold RO TO ah;simp only [go_sem]) (by unfold RO TO;simp only [go_sem]) ?_
 rintro _ _ ⟨rfl,rfl⟩
 unfold RO TO ah
 simp only [go_sem]
 refine aR E (fun h=>?_) (fun h=>?_)<;>simp only [go_sem]
 ·rw [if_pos h] at hR
  rw [dz h]
  refine ae E [.at [100] 0,.d (i64 2)] (RO s1.next) [100,101] (c7) rfl rfl ⟨by simp only [go_sem],by first | (rw [aa];decide) | (simp only [go_sem]<;>(try rw [aa])<;>decide)⟩ rfl (by unfold RO TO ah;simp only [go_sem]) (by unfold RO TO;simp only [go_sem]) ?_
  rintro _ _ ⟨rfl,rfl⟩
  unfold RO TO ah
  simp only [go_sem]
  refine ae E [.at [100] 0,.d (i64 7),.d (.str bTo)] (RO s2) [100,101] (c8) rfl rfl ⟨by simp only [go_sem],by first | (rw [aa];decide) | (simp only [go_sem]<;>(try rw [aa])<;>decide)⟩ rfl (by unfold RO TO ah;simp only [go_sem]) (by unfold RO TO;simp only [go_sem]) ?_
  rintro _ _ ⟨rfl,rfl⟩
  unfold RO TO ah
  simp only [go_sem]
  refine aj mixed E fun X=>?_
  simp only [go_sem]
  refine bd X [.at [100] 0] (RO s3) [100,101] _ _ c9 rfl rfl ⟨by simp only [go_sem],by rw [aa];decide⟩ rfl (by unfold RO TO ah;simp only [go_sem]) (by unfold RO TO;simp only [go_sem]) (by unfold RO TO;simp only [go_sem]) ?_
  unfold RO TO ah
  simp only [go_sem]
  refine cg X 45 [45] (some 1) [.agg [.sl (some 9) (b.map enD)]] h4 (fun _=>rfl) rfl rfl rfl (by simp) rfl (by simp only [go_sem]) ?_
  simp only [go_sem]
  refine ⟨by decide +kernel,?_⟩
  subst hR
  refine qB (ns:=[[1]]) (.inl rfl) hB0 Tryz.func94 rfl (by decide +kernel) (by simp [Tryz.ntmps94]) (by intro p hp;rw [List.mem_singleton.1 hp];simp only [go_sem]) (veil fun E=>?_)
  simp only [go_sem]
  rw [iX]
  simp only [go_sem]
  rw [ak (n:=(s4.nest:Int)-1) ⟨by omega,by omega⟩]
  refine ⟨p7 (ij (by simp only [go_sem])),?_⟩
  simp only [iX]
  simp only [go_sem]
  refine ⟨_,_,[100,101],id,⟨rfl,rfl⟩,?_⟩
  simp only [go_sem]
  have hq:(s4.nest:Int)-1=(s.nest:Int):=by omega
  rw [hq]
  exact ⟨rfl,rfl⟩
 rw [if_neg (by rw [h];decide)] at hR
 rw [e6 h]
 refine ae E [.at [100] 0,.d (.str Ib)] (RO s1) [100,101] (c2) rfl rfl ⟨by simp only [go_sem],by first | (rw [aa];decide) | (simp only [go_sem]<;>(try rw [aa])<;>decide)⟩ rfl (by unfold RO TO ah;simp only [go_sem]) (by unfold RO TO;simp only [go_sem]) ?_
 rintro _ _ ⟨rfl,rfl⟩
 unfold RO TO ah
 simp only [go_sem]
 refine aR E (fun h=>?_) (fun h=>?_)<;>simp only [go_sem]
 ·rw [if_pos h] at hR
  rw [dz h]
  refine ae E [.at [100] 0,.d (i64 t.pos)] (RO s1.next) [100,101] (c4) rfl rfl ⟨by simp only [go_sem],by first | (rw [aa];decide) | (simp only [go_sem]<;>(try rw [aa])<;>decide)⟩ rfl (by unfold RO TO ah;simp only [go_sem]) (by unfold RO TO;simp only [go_sem]) ?_
  rintro _ _ ⟨rfl,rfl⟩
  unfold RO TO ah
  simp only [go_sem]
  subst hR
  refine qB (ns:=[[1]]) (.inl rfl) hB0 Tryz.func94 rfl (by decide +kernel) (by simp [Tryz.ntmps94]) (by intro p hp;rw [List.mem_singleton.1 hp];simp only [go_sem]) (veil fun E=>?_)
  simp only [go_sem]
  rw [iX]
  simp only [go_sem]
  rw [ak (n:=(R4.2.nest:Int)-1) ⟨by omega,by omega⟩]
  refine ⟨p7 (ij (by simp only [go_sem])),?_⟩
  simp only [iX]
  simp only [go_sem]
  refine ⟨_,_,[100,101],id,⟨rfl,rfl⟩,?_⟩
  simp only [go_sem]
  have hq:(R4.2.nest:Int)-1=(s.nest:Int):=by omega
  rw [hq]
  exact ⟨rfl,rfl⟩
 rw [if_neg (by rw [h];decide)] at hR
 rw [e6 h]
 refine ae E [.at [100] 0,.d (.str bIf)] (RO s1) [100,101] (c3) rfl rfl ⟨by simp only [go_sem],by first | (rw [aa];decide) | (simp only [go_sem]<;>(try rw [aa])<;>decide)⟩ rfl (by unfold RO TO ah;simp only [go_sem]) (by unfold RO TO;simp only [go_sem]) ?_
 rintro _ _ ⟨rfl,rfl⟩
 unfold RO TO ah
 simp only [go_sem]
 refine aR E (fun h=>?_) (fun h=>?_)<;>simp only [go_sem]
 ·rw [if_pos h] at hR
  rw [dz h]
  refine ae E [.at [100] 0,.d (i64 t.pos)] (RO s1.next) [100,101] (c5) rfl rfl ⟨by simp only [go_sem],by first | (rw [aa];decide) | (simp only [go_sem]<;>(try rw [aa])<;>decide)⟩ rfl (by unfold RO TO ah;simp only [go_sem]) (by unfold RO TO;simp only [go_sem]) ?_
  rintro _ _ ⟨rfl,rfl⟩
  unfold RO TO ah
  simp only [go_sem]
  subst hR
  refine qB (ns:=[[1]]) (.inl rfl) hB0 Tryz.func94 rfl (by decide +kernel) (by simp [Tryz.ntmps94]) (by intro p hp;rw [List.mem_singleton.1 hp];simp only [go_sem]) (veil fun E=>?_)
  simp only [go_sem]
  rw [iX]
  simp only [go_sem]
  rw [ak (n:=(R5.2.nest:Int)-1) ⟨by omega,by omega⟩]
  refine ⟨p7 (ij (by simp only [go_sem])),?_⟩
  simp only [iX]
  simp only [go_sem]
  refine ⟨_,_,[100,101],id,⟨rfl,rfl⟩,?_⟩
  simp only [go_sem]
  have hq:(R5.2.nest:Int)-1=(s.nest:Int):=by omega
  rw [hq]
  exact ⟨rfl,rfl⟩
 rw [if_neg (by rw [h];decide)] at hR
 rw [e6 h]
 refine an fun E=>?_
 simp only [go_sem]
 refine ae E [.at [100] 0] (RO s1) [100,101] (c6) rfl rfl ⟨by simp only [go_sem],by first | (rw [aa];decide) | (simp only [go_sem]<;>(try rw [aa])<;>decide)⟩ rfl (by unfold RO TO ah;simp only [go_sem]) (by unfold RO TO;simp only [go_sem]) ?_
 rintro _ _ ⟨rfl,rfl⟩
 unfold RO TO ah
 simp only [go_sem]
 subst hR
 refine qB (ns:=[[1]]) (.inl rfl) hB0 Tryz.func94 rfl (by decide +kernel) (by simp [Tryz.ntmps94]) (by intro p hp;rw [List.mem_singleton.1 hp];simp only [go_sem]) (veil fun E=>?_)
 simp only [go_sem]
 rw [iX]
 simp only [go_sem]
 rw [ak (n:=(R6.2.nest:Int)-1) ⟨by omega,by omega⟩]
 refine ⟨p7 (ij (by simp only [go_sem])),?_⟩
 simp only [iX]
 simp only [go_sem]
 refine ⟨_,_,[100,101],id,⟨rfl,rfl⟩,?_⟩
 simp only [go_sem]
 have hq:(R6.2.nest:Int)-1=(s.nest:Int):=by omega
 rw [hq]
 exact ⟨rfl,rfl⟩
theorem BM {G}:∀ (m N:Nat),N+m=100→Reads 53 G N (iD m)
 | 0,N,h=>by
   obtain rfl:N=100:=by omega
   exact C9
 | m+1,N,h=>CH (by omega) (fR m) (BM m (N+1) (by omega))
end Go.Proofs.YtejpnabbmgpmaaaGreat

namespace Go.Proofs.YtejpnabbmgpmaaaGreat
open Go.Ab
def nE (s:PS) (ns:List EN):List EN × Int × Int :=
 if s.err≠0 then ([],s.pos,s.err) else if ns.any (fun n=>decide (1048576<n.pos)) then ([],0,7) else if bL ns≠0 then ([],0,bL ns) else (ns,0,0)
def mc (l:List Tok) (n:Int):PS:=⟨l,n,0,0,0⟩
def vF (s:PS):PS:=if s.l.isEmpty then s else s.wrong
def bX (s:List UInt8):List EN × Int × Int :=
 if (dx s).2.2≠0 then ([],(dx s).2.1,(dx s).2.2)
 else nE (vF (iD 100 (mc (dx s).1 (dx s).2.1)).2) (iD 100 (mc (dx s).1 (dx s).2.1)).1
theorem SS.done (s:PS):SS s (vF s):=by
 unfold vF
 split
 ·exact SS.refl s
 ·exact SS.wrong s
end Go.Proofs.YtejpnabbmgpmaaaGreat

namespace Go.Proofs.YtejpnabbmgpmaaaGreat
open Go.Ab
def Fm (B:Nat) (f:EF):Prop:=f.nm.length≤B∧f.var.length≤B
def Nm (B:Nat) (n:EN):Prop:=n.name.length≤B∧n.s.length≤B∧∀ f∈n.l,Fm B f
def Sm (B:Nat) (ns:List EN):Prop:=∀ n∈ns,Nm B n
def Tm (B:Nat) (s:PS):Prop:=∀ t∈s.l,t.s.length≤B
section
variable {B:Nat}
theorem vr (ks:List Int) (o:Nat):∀ (l:List EF) (i:Nat),(∀ f∈l,Fm B f)→∀ f∈aV ks o l i,Fm B f
 | [],_,_,f,hf=>by simp [aV] at hf
 | g::r,i,h,f,hf=>by
   rw [aV] at hf
   rcases List.mem_cons.1 hf with rfl | hf
   ·have:=h g List.mem_cons_self
    split<;>exact this
   ·exact vr ks o r (i+1) (fun x hx=>h x (List.mem_cons_of_mem _ hx)) f hf
theorem Nm.with {n:EN} (h:Nm B n) (ks:List Int):Nm B (aK n ks):=by
 refine ⟨h.1,h.2.1,fun f hf=>?_⟩
 have hf:f∈(if aG n.k then aV ks (aI n.k) n.l 0 else []):=hf
 split at hf
 ·exact vr _ _ _ _ h.2.2 f hf
 ·cases hf
theorem D2:∀ (ls:List (List EN)) (acc:List EN) (rs:List Int),(∀ l∈ls,Sm B l)→Sm B acc→Sm B (bl ls acc rs).1
 | [],_,_,_,h=>h
 | l::r,acc,rs,hl,h=>by
   refine D2 r _ _ (fun x hx=>hl x (List.mem_cons_of_mem _ hx)) fun n hn=>?_
   rcases List.mem_append.1 hn with hn | hn
   ·exact h n hn
   ·obtain ⟨m,hm,rfl⟩:=List.mem_map.1 hn
    exact (hl l List.mem_cons_self m hm).with _
theorem dA {n:EN} {ls:List (List EN)} (hn:Nm B n) (hl:∀ l∈ls,Sm B l):Sm B (aD n ls):=by
 intro m hm
 rcases List.mem_append.1 hm with hm | hm
 ·exact D2 ls [] [] hl (fun _ h=>by cases h) m hm
 ·rw [List.mem_singleton.1 hm];exact hn.with _
theorem nJ (k p:Int):Nm B (nd0 k p):=⟨Nat.zero_le _,Nat.zero_le _,fun _ h=>by cases h⟩
theorem gG {n:EN} (hn:Nm B n):Sm B (bp n):=dA hn fun _ h=>by cases h
theorem y1:Sm B noE:=gG (nJ 1 0)
theorem Tm.ss {s r:PS} (h:SS s r) (g:Tm B s):Tm B r:=by
 obtain ⟨k,hk⟩:=h.suf
 intro t ht
 rw [hk] at ht
 exact g t (List.mem_of_mem_drop ht)
theorem Tm.peek {s:PS} (g:Tm B s):s.peek.s.length≤B:=by
 unfold PS.peek
 split
 ·exact Nat.zero_le _
 ·rename_i t r e
  exact g t (by rw [e];exact List.mem_cons_self)
theorem Tm.of {s:PS} (g:Tm B s) (k:Int):(s.of k).1.length≤B:=by
 unfold PS.of
 split
 ·exact g.peek
 ·exact Nat.zero_le _
variable {ex:PS→PR} (hex:∀ s,GP 1 s (ex s)) (hx:∀ s,Tm B s→Sm B (ex s).1)
include hex hx
omit hex hx in
theorem BE {s:PS} (g:Tm B s) (l:List EF):Fm B (ib s l).1:=⟨g.of 2,Nat.zero_le _⟩
omit hex hx in
theorem AF {s:PS} (g:Tm B s) (l:List EF):Fm B (eG s l).1 :=
 ⟨g.of 3,Tm.of (g.ss (SS.partp (s:=s) (SS.of s 3) s.peek l fun _ h=>kZ h)) 2⟩
theorem oz (between:List UInt8) (part:PS→List EF→EF × PS) (hp:∀ s l,SS s (part s l).2) (hf:∀ s l,Tm B s→Fm B (part s l).1):∀ (m:Nat) (s:PS) (l:List EF) (ks:List (List EN)),Tm B s→(∀ f∈l,Fm B f)→(∀ k∈ks,Sm B k) →
  (∀ f∈(bK ex between part m s l ks).1,Fm B f)∧(∀ k∈(bK ex between part m s l ks).2.1,Sm B k)
 | 0,s,l,ks,_,h1,h2=>⟨h1,h2⟩
 | m+1,s,l,ks,g,h1,h2=>by
   have g1:=g.ss (hp s l)
   have g2:=g1.ss (hex (part s l).2).ss
   have a1:∀ f∈l++[(part s l).1],Fm B f:=fun f h=>by
    rcases List.mem_append.1 h with h | h
    ·exact h1 f h
    ·rw [List.mem_singleton.1 h];exact hf s l g
   have a2:∀ k∈ks++[(ex (part s l).2).1],Sm B k:=fun k h=>by
    rcases List.mem_append.1 h with h | h
    ·exact h2 k h
    ·rw [List.mem_singleton.1 h];exact hx _ g1
   unfold bK
   simp only
   split
   ·exact oz between part hp hf m _ _ _ (g2.ss (SS.next _)) a1 a2
   ·exact ⟨a1,a2⟩
theorem AX (s:PS) (g:Tm B s) (pos:Int):Sm B (eI ex s pos).1:=by
 unfold eI
 split
 ·exact gG (nJ 11 pos)
 ·have h:=oz hex hx [44] ib SS.field (fun s l g=>BE g l) s.l.length.succ s [] [] g (fun _ h=>by cases h) (fun _ h=>by cases h)
  exact dA ⟨Nat.zero_le _,Nat.zero_le _,h.1⟩ h.2
theorem Ch (s:PS) (g:Tm B s) (pos:Int):Sm B (im ex s pos).1:=by
 unfold im
 have g1:=(g.ss (hex s).ss).ss (SS.must (ex s).2 1 bOf)
 simp only
 have h:=oz hex hx [124] eG SS.branch (fun s l g=>AF g l) ((ex s).2.must 1 bOf).l.length.succ _ [] [] g1 (fun _ h=>by cases h) (fun _ h=>by cases h)
 refine dA ⟨Nat.zero_le _,Nat.zero_le _,h.1⟩ fun l hl=>?_
 rcases List.mem_cons.1 hl with rfl | hl
 ·exact hx s g
 ·exact h.2 l hl
theorem G9 (s:PS) (g:Tm B s):Sm B (dH ex s).1:=by
 have gn:=g.ss (SS.next s)
 unfold dH
 simp only
 repeat' split
 ·exact y1
 ·exact gG ⟨Nat.zero_le _,Nat.zero_le _,fun _ h=>by cases h⟩
 ·exact gG ⟨Nat.zero_le _,g.peek,fun _ h=>by cases h⟩
 ·exact gG ⟨g.peek,Nat.zero_le _,fun _ h=>by cases h⟩
 ·exact gG ⟨Nat.zero_le _,Nat.zero_le _,fun _ h=>by cases h⟩
 ·exact gG (nJ _ _)
 ·exact hx _ gn
 ·exact AX hex hx _ gn _
 ·exact Ch hex hx _ gn _
 ·exact y1
omit hex hx in
theorem xW:∀ (m:Nat) (a:List EN) (s:PS),Sm B a→Tm B s→Sm B (gz m a s).1
 | 0,_,_,h,_=>h
 | m+1,a,s,h,g=>by
   unfold gz
   split
   ·exact xW m _ _ (dA ⟨(g.ss (SS.next s)).of 2,Nat.zero_le _,fun _ h=>by cases h⟩ fun l hl=>by rw [List.mem_singleton.1 hl];exact h) ((g.ss (SS.next s)).ss (SS.of _ 2))
   ·exact h
theorem qC (s:PS) (g:Tm B s):Sm B (dG ex s).1:=xW _ _ _ (G9 hex hx s g) (g.ss (lT hex s).1.ss)
theorem zh:∀ (m:Nat) (a:List EN) (s:PS),Sm B a→Tm B s→Sm B (iG ex m a s).1
 | 0,_,_,h,_=>h
 | m+1,a,s,h,g=>by
   unfold iG
   split
   ·refine zh m _ _ (dA (nJ _ _) fun l hl=>?_) (g.ss (eN hex s).1.ss)
    rcases List.mem_cons.1 hl with rfl | hl
    ·exact h
    ·rw [List.mem_singleton.1 hl];exact qC hex hx s g
   ·exact h
theorem A5 (s:PS) (g:Tm B s):Sm B (lQ ex s).1:=by
 unfold lQ
 simp only
 split
 ·exact dA ⟨g.peek,Nat.zero_le _,fun _ h=>by cases h⟩ fun l hl=>by rw [List.mem_singleton.1 hl];exact qC hex hx _ (g.ss (SS.next s))
 ·exact zh hex hx _ _ _ (qC hex hx s g) (g.ss (eN hex s).1.ss)
omit hex hx in
theorem wj (ops:List (List UInt8 × Int)) (sub:PS→PR) (h1:∀ s,SS s (sub s).2) (h2:∀ s,Tm B s→Sm B (sub s).1):∀ (m:Nat) (a:List EN) (s:PS),Sm B a→Tm B s→Sm B (kq ops sub m a s).1
 | 0,_,_,h,_=>h
 | m+1,a,s,h,g=>by
   unfold kq
   split
   ·have gn:=g.ss (SS.next s)
    refine wj ops sub h1 h2 m _ _ (dA ⟨Nat.zero_le _,Nat.zero_le _,fun _ h=>by cases h⟩ fun l hl=>?_) (gn.ss (h1 _))
    rcases List.mem_cons.1 hl with rfl | hl
    ·exact h
    ·rw [List.mem_singleton.1 hl];exact h2 _ gn
   ·exact h
theorem xe (s:PS) (g:Tm B s):Sm B (j4 ex s).1:=wj _ _ (fun s=>(jk hex s).ss) (A5 hex hx) _ _ _ (A5 hex hx s g) (g.ss (jk hex s).ss)
theorem wg (s:PS) (g:Tm B s):Sm B (sY ex s).1:=wj _ _ (fun s=>(gu hex s).ss) (xe hex hx) _ _ _ (xe hex hx s g) (g.ss (gu hex s).ss)
theorem Jc (s:PS) (g:Tm B s):Sm B (ui ex s).1:=by
 unfold ui
 simp only
 split
 ·refine dA ⟨Nat.zero_le _,Nat.zero_le _,fun _ h=>by cases h⟩ fun l hl=>?_
  rcases List.mem_cons.1 hl with rfl | hl
  ·exact wg hex hx s g
  ·rw [List.mem_singleton.1 hl];exact wg hex hx _ ((g.ss (jg hex s).ss).ss (SS.next _))
 ·exact wg hex hx s g
theorem I1 (s:PS) (g:Tm B s) (pos:Int):Sm B (sr ex s pos).1:=by
 unfold sr
 simp only
 obtain ⟨k,hk⟩:∃ k:Int,k=if s.sees 1 kJ=true then 8 else 7:=⟨_,rfl⟩
 rw [← hk]
 have g1:=g.ss (SS.may s 1 kJ)
 have g2:=g1.ss (SS.of _ 2)
 have g3:=g2.ss (SS.must _ 7 [61])
 have g4:=g3.ss (hex _).ss
 refine dA ⟨g1.of 2,Nat.zero_le _,fun _ h=>by cases h⟩ fun l hl=>?_
 rcases List.mem_cons.1 hl with rfl | hl
 ·exact hx _ g3
 ·rw [List.mem_singleton.1 hl]
  refine hx _ (Tm.ss (SS.must _ 1 bIn) ?_)
  split
  ·intro t ht
   rw [ot] at ht
   exact g4 t ht
  ·exact g4
theorem JN (s:PS) (g:Tm B s) (pos:Int):Sm B (ifS ex s pos).1:=by
 unfold ifS
 simp only
 have g1:=(g.ss (hex _).ss).ss (SS.must _ 1 qj)
 have g2:=(g1.ss (hex _).ss).ss (SS.must _ 1 qw)
 refine dA (nJ _ _) fun l hl=>?_
 simp only [List.mem_cons,List.not_mem_nil,or_false] at hl
 rcases hl with rfl | rfl | rfl
 ·exact hx _ g
 ·exact hx _ g1
 ·exact hx _ g2
theorem Et (s:PS) (g:Tm B s):Sm B (n8 ex s).1:=by
 have gn:=g.ss (SS.next s)
 unfold n8
 simp only
 repeat' split
 ·exact dA ⟨gn.of 2,Nat.zero_le _,fun _ h=>by cases h⟩ fun l hl=>by rw [List.mem_singleton.1 hl];exact hx _ ((gn.ss (SS.of _ 2)).ss (SS.must _ 7 bTo))
 ·exact I1 hex hx _ gn _
 ·exact JN hex hx _ gn _
 ·exact Jc hex hx s g
end
theorem rJ {B:Nat}:∀ (m:Nat) (s:PS),Tm B s→Sm B (iD m s).1
 | 0,s,_=>y1
 | m+1,s,g=>by
   unfold iD
   split
   ·exact y1
   ·exact Et (fR m) (rJ m) _ g
theorem rR:∀ (m:Nat) (r:List UInt8) (i:Nat) (acc:List UInt8),(ee m r i acc).1.length≤200
 | 0,_,_,_=>Nat.zero_le _
 | _+1,[],_,_=>Nat.zero_le _
 | m+1,c::r,i,acc=>by
   unfold ee
   split
   ·split
    ·exact Nat.zero_le _
    ·simp only;omega
   split
   ·split
    ·exact Nat.zero_le _
    ·exact rR m _ _ _
   split
   ·exact rR m _ _ _
   ·exact Nat.zero_le _
theorem HB (s:List UInt8):(dP s).t.s.length≤200:=by
 unfold dP
 split
 ·unfold oB
  repeat' split
  ·exact Nat.zero_le _
  all_goals (show (s.take _).length≤_;rw [List.length_take];omega)
 split
 ·unfold s9
  repeat' split
  ·exact Nat.zero_le _
  ·exact Nat.zero_le _
  ·show ((s.drop 1).take _).length≤_;rw [List.length_take];omega
 split
 ·exact Nat.zero_le _
 split
 ·unfold vd dp
  repeat' split
  ·exact Nat.zero_le _
  ·exact rR _ _ _ _
  ·exact Nat.zero_le _
 ·unfold nP
  repeat' split
  ·show (s.take _).length≤_;rw [List.length_take];omega
  ·exact Nat.zero_le _
  ·show (s.take _).length≤_;rw [List.length_take];omega
theorem Dz:∀ (m:Nat) (s:List UInt8) (a:Nat),∀ q∈ej m s a,q.2.t.s.length≤200
 | 0,_,_,_,h=>by simp [ej] at h
 | m+1,s,a,q,h=>by
   unfold ej at h
   split at h
   ·cases h
   split at h
   ·rw [List.mem_singleton.1 h];exact HB _
   ·rcases List.mem_cons.1 h with rfl | h
    ·exact HB _
    ·exact Dz m _ _ q h
theorem HD (s:List UInt8):∀ t∈(dx s).1,t.s.length≤200:=by
 unfold dx
 split
 ·intro _ h;cases h
 ·intro t ht
  obtain ⟨q,hq,rfl⟩:=List.mem_map.1 ht
  exact Dz _ _ _ q hq
end Go.Proofs.YtejpnabbmgpmaaaGreat

namespace Go.Proofs.YtejpnabbmgpmaaaGreat
open Go.Ab
def gi (q:List EN × Int × Int):AV:=.tup [.d (if q.2.2=0 then exD q.1 else .agg [.nils]),.d (i64 q.2.1),.d (i64 q.2.2)]
theorem IH {G} (s:PS) (ns:List EN) (hN:ns.length≤1000000) (hs:∀ n∈ns,ff BIG n):HCall Tryz.prog G 56 [.at [100] 0,.d (exD ns)] (RO s) [100,101] (fun r hp'=>r=gi (nE s ns)∧hp'=RO s):=by
 generalize hR:nE s ns=R
 unfold nE at hR
 have c1:=Gn (G:=G) ns (fun n=>decide (1048576<n.pos)) 102 [] hN (fun x _=>EV x)
 have c2:=lL (G:=G) ns hs hN
 generalize (ns.any fun n=>decide (1048576<n.pos))=b at c1 hR
 generalize bL ns=m at c2 hR
 have c3:=HP.clo (args:=[.d (.sl (some 9) (ns.map enD)),.clo 102 []]) rfl (fun i x y hx hy=>by
  rcases i with _ | _ | i
  ·cases hx;cases hy;exact .inl rfl
  ·cases hx;cases hy;exact .inr ⟨102,rfl,rfl⟩
  ·cases hx) c1
 unfold exD at *
 unfold RO TO ah
 refine aq Tryz.func56 rfl (by decide +kernel) (by simp [Tryz.ntmps56]) (veil fun E=>?_)
 simp only [go_sem]
 refine ae E [.at [100] 0] (RO s) [100,101] (e9 s) rfl rfl ⟨by simp only [go_sem],by first | (rw [aa];decide) | (simp only [go_sem]<;>(try rw [aa])<;>decide)⟩ rfl (by unfold RO TO ah;simp only [go_sem]) (by unfold RO TO;simp only [go_sem]) ?_
 rintro _ _ ⟨rfl,rfl⟩
 unfold RO TO ah
 simp only [go_sem]
 refine aR E (fun h=>?_) (fun h=>?_)<;>simp only [go_sem]
 ·have h':¬ s.err=0:=by simpa using h
  rw [if_pos h'] at hR
  refine aj mixed E fun X=>?_
  simp only [go_sem]
  refine b9 X (d:=13) [100] 0 none [.at [101] 0,.d (i64 s.err),.d (i64 s.pos),.d (i64 s.nest)] (by simp only [go_sem]) rfl rfl ?_
  simp only [go_sem]
  refine b9 X (d:=17) [100] 0 none [.at [101] 0,.d (i64 s.err),.d (i64 s.pos),.d (i64 s.nest)] (by simp only [go_sem]) rfl rfl ?_
  simp only [go_sem]
  refine ⟨by decide +kernel,?_⟩
  subst hR
  have he:gi ([],s.pos,s.err)=.tup [.d (.agg [.nils]),.d (i64 s.pos),.d (i64 s.err)]:=by unfold gi;rw [if_neg h']
  rw [he]
  refine ⟨_,_,[100,101],id,⟨rfl,rfl⟩,?_⟩
  simp only [go_sem]
 rw [if_neg (by simpa using h)] at hR
 refine ae E [.d (.sl (some 9) (ns.map enD)),.clo 102 []] [] [] c3 rfl rfl ⟨by simp only [go_sem],by rw [aa];decide⟩ rfl (by simp only [go_sem]) (by simp only [go_sem]) ?_
 rintro _ _ ⟨rfl,_,rfl⟩
 simp only [go_sem]
 refine aR E (fun h=>?_) (fun h=>?_)<;>simp only [go_sem]
 ·rw [if_pos h] at hR
  subst hR
  have he:gi ([],0,7)=.tup [.d (.agg [.nils]),.d (i64 0),.d (i64 7)]:=by unfold gi;rw [if_neg (by decide)]
  rw [he]
  refine ⟨_,_,[100,101],id,⟨rfl,rfl⟩,?_⟩
  simp only [go_sem]
 rw [if_neg (by rw [h];decide)] at hR
 refine ab E c2 rfl rfl (by simp) ?_
 rintro _ rfl
 simp only [go_sem]
 refine aR E (fun h=>?_) (fun h=>?_)<;>simp only [go_sem]
 ·have h':¬ m=0:=by simpa using h
  rw [if_pos h'] at hR
  subst hR
  have he:gi ([],0,m)=.tup [.d (.agg [.nils]),.d (i64 0),.d (i64 m)]:=by unfold gi;rw [if_neg h']
  rw [he]
  refine ⟨_,_,[100,101],id,⟨rfl,rfl⟩,?_⟩
  simp only [go_sem]
 ·have h':m=0:=by simpa using h
  rw [if_neg (by simpa using h')] at hR
  subst hR
  have he:gi (ns,0,0)=.tup [.d (.agg [.sl (some 9) (ns.map enD)]),.d (i64 0),.d (i64 0)]:=by unfold gi;rw [if_pos rfl];rfl
  rw [he]
  refine ⟨_,_,[100,101],id,⟨rfl,rfl⟩,?_⟩
  simp only [go_sem]
theorem EB {G} (l:List Tok) (fin:Int) (hl:l.length≤1000000):HCall Tryz.prog G 52 [.d (ah l),.d (i64 fin)] [] [] (fun r hp'=>r=.at [101] 0∧hp'=[([101],.box [.vw [102] 0 l.length,.d (i64 fin)]),([102],.arr (some 4) (l.map gM))]):=by
 unfold ah
 refine aq Tryz.func52 rfl (by decide +kernel) (by simp [Tryz.ntmps52]) (veil fun E=>?_)
 simp only [go_sem]
 refine ⟨by omega,?_⟩
 refine ⟨_,_,[101,102],tau [([101],[9]),([102],[6])],⟨rfl,rfl⟩,?_⟩
 simp only [go_sem]
 all_goals rfl
theorem H2 {G} (l:List Tok) (fin:Int) (hl:l.length≤1000000):HCall Tryz.prog G 52 [.d (ah l),.d (i64 fin)] [] [] (fun r hp'=>r=.at [101] 0∧hp'=TO l fin) :=
 HCall.fA (EB l fin hl) [102] (by
  rintro r hp' ⟨rfl,rfl⟩
  refine ⟨some 4,l.map gM,by simp only [go_sem],by simp only [go_sem],?_⟩
  unfold TO ah
  simp only [go_sem])
theorem xP {s:PS} {ns:List EN} {r:PS} (h:GP 1 s (ns,r)) (hl:s.l.length≤100000) (hn:Sm 200 ns):ns.length≤1000000∧∀ n∈ns,ff BIG n:=by
 have h1:=h.sz
 have h2:=h.wd
 simp only at h1
 refine ⟨by omega,fun n hm=>?_⟩
 obtain ⟨a,b,c⟩:=hn n hm
 have:=h2 n hm
 simp only at this
 exact ⟨by unfold BIG;omega,by unfold BIG;omega,by omega,fun f hf=>⟨by have:=(c f hf).1;unfold BIG;omega,by have:=(c f hf).2;unfold BIG;omega⟩⟩
set_option maxHeartbeats 1000000 in
theorem HZ {G} (s:List UInt8) (hl:s.length≤100000):HP Tryz.prog G 15 [.str s] (fun r=>r=gi (bX s)):=by
 generalize hR:bX s=R
 unfold bX at hR
 obtain ⟨hl1,hl2,hl3,hl4⟩:=Dv s
 have hls:=HD s
 cases hb:lD (a9 s) with
 | some q =>
   obtain ⟨i,e⟩:=q
   have c1:=Gg (G:=G) s (by omega) hb
   have hne:=su hb
   have hlx:dx s=([],i,e):=by unfold dx;rw [hb]
   rw [hlx,if_pos hne] at hR
   simp only at hR hne
   have he:gi R=.tup [.d (.agg [.nils]),.d (i64 i),.d (i64 e)]:=by rw [← hR];unfold gi;rw [if_neg hne]
   rw [he]
   refine au Tryz.func15 rfl (by decide +kernel) (by simp [Tryz.ntmps15]) (veil fun E=>?_)
   simp only [go_sem]
   refine ab E c1 rfl rfl (by simp) ?_
   rintro _ rfl
   simp only [go_sem]
   refine aR E (fun h=>?_) (fun h=>absurd (by simpa using h) hne)<;>simp only [go_sem]
   refine ⟨[],?_⟩
   simp only [go_sem]
 | none =>
   have c1:=HN (G:=G) s (by omega) hb
   have hz:(dx s).2.2=0:=by unfold dx;rw [hb]
   rw [if_neg (by rw [hz];decide)] at hR
   rw [hz] at c1
   generalize dx s=q at c1 hR hl1 hl2 hl3 hls
   obtain ⟨l,n,z⟩:=q
   simp only at c1 hR hl1 hl2 hl3 hls
   have c2:=H2 (G:=G) l n (by omega)
   have hst:mc l n=⟨l,n,0,0,0⟩:=rfl
   obtain ⟨st,hs⟩:∃ st,st=mc l n:=⟨_,rfl⟩
   rw [← hs] at hR hst
   have hsl:st.l.length≤100000:=by rw [hst];simp only;omega
   have c3:=BM (G:=G) 100 0 rfl st hsl (by rw [hst])
   have g3:=fR 100 st
   have n3:=rJ (B:=200) 100 st (by rw [hst];exact hls)
   obtain ⟨x,s2,hx⟩:∃ x s2,iD 100 st=(x,s2):=⟨_,_,rfl⟩
   rw [hx] at c3 g3 n3 hR
   simp only at c3 n3 hR
   have hl2':=g3.ss.len
   simp only at hl2'
   obtain ⟨hxl,hxs⟩:=xP g3 hsl n3
   have c4:=wL (G:=G) s2.l s2.fin
   have c5:=nN (G:=G) s2 (by omega)
   have c6:=IH (G:=G) (vF s2) x hxl hxs
   unfold vF at hR c6
   unfold exD at c3 c6
   unfold ah at c2
   refine au Tryz.func15 rfl (by decide +kernel) (by simp [Tryz.ntmps15]) (veil fun E=>?_)
   simp only [go_sem]
   refine ab E c1 rfl rfl (by simp) ?_
   rintro _ rfl
   simp only [go_sem]
   refine ae E [.d (.sl (some 4) (l.map gM)),.d (i64 n)] [] [] c2 rfl rfl ⟨by simp only [go_sem],by rw [aa];decide⟩ rfl (by simp only [go_sem]) (by simp only [go_sem]) ?_
   rintro _ _ ⟨rfl,rfl⟩
   unfold TO ah
   simp only [go_sem]
   rw [hst] at c3
   refine dC E (tau [([100],[25]),([101],[23,101])]) [.at [100] 0] (RO ⟨l,n,0,0,0⟩) [100,101] (c3) rfl (by simp only [go_sem];try rfl) ⟨by simp only [go_sem],by first | (rw [aa];decide) | (simp only [go_sem]<;>(try rw [aa])<;>decide)⟩ rfl (by unfold RO TO ah;simp only [go_sem];try rfl) (by unfold RO TO;simp only [go_sem]) ?_
   rintro _ _ ⟨rfl,rfl⟩
   unfold RO TO ah
   simp only [go_sem]
   refine dC E (tau [([101],[23,101])]) [.at [101] 0] (TO s2.l s2.fin) [101] c4 rfl (by simp only [go_sem];try rfl) ⟨by simp only [go_sem],by rw [aa];decide⟩ rfl (by unfold TO ah;simp only [go_sem];try rfl) (by unfold TO;simp only [go_sem]) ?_
   rintro _ _ ⟨rfl,rfl⟩
   unfold TO ah
   simp only [go_sem]
   refine aR E (fun h=>?_) (fun h=>?_)<;>simp only [go_sem]
   ·have h':s2.l.isEmpty=false:=by simpa using h
    rw [h'] at hR c6
    simp only [Bool.false_eq_true,if_false] at hR c6
    refine dC E (tau [([100],[25]),([101],[23,101])]) [.at [100] 0] (RO s2) [100,101] (c5) rfl (by simp only [go_sem];try rfl) ⟨by simp only [go_sem],by first | (rw [aa];decide) | (simp only [go_sem]<;>(try rw [aa])<;>decide)⟩ rfl (by unfold RO TO ah;simp only [go_sem];try rfl) (by unfold RO TO;simp only [go_sem]) ?_
    rintro _ _ ⟨rfl,rfl⟩
    unfold RO TO ah
    simp only [go_sem]
    refine dC E (tau [([100],[25]),([101],[23,101])]) [.at [100] 0,.d (.agg [.sl (some 9) (x.map enD)])] (RO s2.wrong) [100,101] (c6) rfl (by simp only [go_sem];try rfl) ⟨by simp only [go_sem],by first | (rw [aa];decide) | (simp only [go_sem]<;>(try rw [aa])<;>decide)⟩ rfl (by unfold RO TO ah;simp only [go_sem];try rfl) (by unfold RO TO;simp only [go_sem]) ?_
    rintro _ _ ⟨rfl,rfl⟩
    unfold RO TO ah
    simp only [go_sem]
    rw [hR]
    unfold gi exD
    by_cases hz:R.2.2=0
    ·simp only [if_pos hz]
     simp only [go_sem]
     refine ⟨[],?_⟩
     simp only [go_sem]
     unfold gi exD
     rw [if_pos hz]
    ·simp only [if_neg hz]
     simp only [go_sem]
     refine ⟨[],?_⟩
     simp only [go_sem]
     unfold gi
     rw [if_neg hz]
   ·have h':s2.l.isEmpty=true:=by simpa using h
    rw [h'] at hR c6
    simp only [if_true] at hR c6
    refine dC E (tau [([100],[25]),([101],[23,101])]) [.at [100] 0,.d (.agg [.sl (some 9) (x.map enD)])] (RO s2) [100,101] (c6) rfl (by simp only [go_sem];try rfl) ⟨by simp only [go_sem],by first | (rw [aa];decide) | (simp only [go_sem]<;>(try rw [aa])<;>decide)⟩ rfl (by unfold RO TO ah;simp only [go_sem];try rfl) (by unfold RO TO;simp only [go_sem]) ?_
    rintro _ _ ⟨rfl,rfl⟩
    unfold RO TO ah
    simp only [go_sem]
    rw [hR]
    unfold gi exD
    by_cases hz:R.2.2=0
    ·simp only [if_pos hz]
     simp only [go_sem]
     refine ⟨[],?_⟩
     simp only [go_sem]
     unfold gi exD
     rw [if_pos hz]
    ·simp only [if_neg hz]
     simp only [go_sem]
     refine ⟨[],?_⟩
     simp only [go_sem]
     unfold gi
     rw [if_neg hz]
end Go.Proofs.YtejpnabbmgpmaaaGreat

namespace Go.Proofs.YtejpnabbmgpmaaaGreat
open Go.Ab
theorem wO {s:List UInt8} (hl:s.length≤100000) (h:(bX s).2.2=0):(bX s).1.length≤1000000∧∀ n∈(bX s).1,ff BIG n:=by
 obtain ⟨_,_,hl3,_⟩:=Dv s
 have hls:=HD s
 unfold bX at h ⊢
 split
 ·rename_i g;rw [if_pos g] at h;exact absurd h g
 rename_i he
 rw [if_neg he] at h
 have g3:=fR 100 (mc (dx s).1 (dx s).2.1)
 have n3:=rJ (B:=200) 100 (mc (dx s).1 (dx s).2.1) hls
 have hx:=xP g3 (by show (dx s).1.length≤_;omega) n3
 unfold nE at h ⊢
 repeat' split
 ·exact ⟨Nat.zero_le _,fun _ h=>by cases h⟩
 ·exact ⟨Nat.zero_le _,fun _ h=>by cases h⟩
 ·exact ⟨Nat.zero_le _,fun _ h=>by cases h⟩
 ·exact hx
end Go.Proofs.YtejpnabbmgpmaaaGreat

namespace Go.Proofs.YtejpnabbmgpmaaaGreat
open Go.Ab
def exW:List UInt8:=[40,102,117,110,32,120,32,45,62,32,120,32,43,32,49,41,32,50]
theorem pX:(bX exW).2.2=0∧(bX exW).2.1=0∧((bX exW).1.all fun n=>decide (-9223372036854775808≤n.n) && decide (n.n≤9223372036854775807))=true:=by decide +kernel
theorem CB:(aQ (bX exW).1).2.1=5∧(aQ (bX exW).1).2.2=0∧(aQ (bX exW).1).1.length=3:=by decide +kernel
theorem Fl:(fJ (bX exW).1 9).2.2.2=0∧(fJ (bX exW).1 9).2.1=1∧(fJ (bX exW).1 9).2.2.1=2∧(fJ (bX exW).1 9).1.length=1∧(ndE (fJ (bX exW).1 9).1 0).n=3:=by decide +kernel
theorem yb:Any (bX exW).1:=by
 obtain ⟨h1,_,h3⟩:=pX
 obtain ⟨g1,g2⟩:=wO (s:=exW) (by decide) h1
 refine ⟨g2,g1,fun n hn=>?_⟩
 have:=List.all_eq_true.1 h3 n hn
 simpa [inR] using this
set_option maxHeartbeats 1000000 in
theorem wV {G}:HP Tryz.prog G 35 [] (fun r=>r=.d (.bool true)):=by
 have c1:=HZ (G:=G) exW (by decide)
 have c2:=v7 (G:=G) _ yb
 have c3:=Bb (G:=G) _ 9 yb (by decide)
 obtain ⟨h1,h2,_⟩:=pX
 obtain ⟨s1,s2,s3⟩:=CB
 obtain ⟨r1,r2,r3,r4,r5⟩:=Fl
 generalize bX exW=P at *
 generalize aQ P.1=S at *
 generalize fJ P.1 9=R at *
 rw [show gi P=.tup [.d (.agg [.sl (some 9) (P.1.map enD)]),.d (i64 0),.d (i64 0)] by unfold gi exD;rw [if_pos h1,h1,h2]] at c1
 rw [show gE S=.tup [.d (.agg [.sl (some 9) (S.1.map enD)]),.d (i64 5),.d (i64 0)] by unfold gE exD;rw [if_pos s2,s1,s2]] at c2
 rw [show bF R=.tup [.d (.agg [.sl (some 9) (R.1.map enD)]),.d (i64 1),.d (i64 2),.d (i64 0)] by unfold bF exD;rw [if_pos r1,r1,r2,r3]] at c3
 have hg:=aN (show 0<R.1.length by omega)
 unfold exW at c1
 unfold exD at c2 c3
 refine al Tryz.func35 rfl (by decide +kernel) (by simp [Tryz.ntmps35]) (veil fun E=>?_)
 simp only [go_sem]
 refine ab E (c1) rfl rfl (by simp) ?_
 rintro _ rfl
 simp only [go_sem]
 refine ab E (c2) rfl rfl (by simp) ?_
 rintro _ rfl
 simp only [go_sem]
 refine ab E (c3) rfl rfl (by simp) ?_
 rintro _ rfl
 simp only [go_sem]
 rw [s3]
 simp only [go_sem]
 rw [r4]
 simp only [go_sem]
 rw [hg,r5]
 simp only [go_sem]
 omega
set_option maxHeartbeats 1000000 in
theorem Ip {G} (ns:List EN) (hN:ns.length≤1000000) (hl:∀ n∈ns,n.l.length≤1000000):HP Tryz.prog G 34 [exD ns,exD ns] (fun r=>r=.d (.bool true)):=by
 have c1:=Iy (G:=G) ns hN hl
 unfold exD at *
 refine al Tryz.func34 rfl (by decide +kernel) (by simp [Tryz.ntmps34]) (veil fun E=>?_)
 simp only [go_sem]
 refine ab E (c1) rfl rfl (by simp) ?_
 rintro _ rfl
 simp only [go_sem]
 refine aE E (X:={ q:Nat // q≤ns.length }) (fun y=>[(2,.at [2] 0),(3,.at [3] 0),(5,.d (i64 y.1))])
  (fun _=>[([2],.box [.d (.sl (some 9) (ns.map enD))]),([3],.box [.d (.sl (some 9) (ns.map enD))])]) [2,3] (fun y=>ns.length-y.1) ⟨0,Nat.zero_le _⟩ id ?_ ?_
 ·simp only [go_sem]
  all_goals ((repeat' apply And.intro)<;>first | rfl | trivial)
 rintro ⟨q,hq⟩ E0
 refine aT E0 fun Q' hQ E'=>?_
 simp only at hq ⊢
 simp only [go_sem]
 refine ai E' (fun f1=>?_) (fun f1=>?_)<;>simp only [go_sem]
 ·have hq':q<ns.length:=by omega
  have hg:=aN hq'
  refine aj mixed E' fun X=>?_
  simp only [go_sem]
  refine ⟨⟨by omega,by omega⟩,?_⟩
  rw [hg]
  simp only [go_sem]
  refine ⟨⟨by omega,by omega⟩,?_⟩
  rw [hg]
  simp only [go_sem]
  refine ⟨by decide +kernel,?_⟩
  rw [ak ⟨by omega,by omega⟩,hQ]
  simp only [go_sem]
  refine ⟨⟨q+1,by omega⟩,by show ns.length-(q+1)<_;omega,id,?_⟩
  simp only [go_sem]
  all_goals ((repeat' apply And.intro)<;>first | rfl | trivial)
 ·rw [hQ]
  simp only [go_sem]
theorem Hu {G} (b:Prop) [Decidable b] (ns:List EN) (hN:ns.length≤1000000) (hl:∀ n∈ns,n.l.length≤1000000) (hb:¬ b→ns=[]):HP Tryz.prog G 34 [if b then exD ns else .agg [.nils],if b then exD ns else .agg [.nils]] (fun r=>r=.d (.bool true)):=by
 have hw:Wk (if b then exD ns else .agg [.nils]) (exD ns):=by
  by_cases h:b
  ·rw [if_pos h];exact .refl _
  ·rw [if_neg h,hb h]
   refine Wk.agg rfl (by simp [D.scal]) fun i a b ha hb=>?_
   match i,ha,hb with
   | 0,ha,hb=>cases ha;cases hb;exact .nils _
 exact (Ip ns hN hl).wk ⟨hw,hw,trivial⟩
theorem xA:∀ {xs:List D} {ns:List EN},RwL xs ns→(∀ x∈xs,okW (some 9) x∧oks [.int .i64,.int .i64,.int .i64,.int .i64,.int .i64,.str,.str,.sl (some 3) [.str,.str,.int .i64],.int .i64] x.cells)→∀ n∈ns,inR n.n
 | [],[],_,_,n,hn=>by cases hn
 | x::xs,m::ns,h,hx,n,hn=>by
   rcases List.mem_cons.1 hn with rfl | hn
   ·obtain ⟨F,rfl,_⟩:=h.1
    have h2:=(hx _ List.mem_cons_self).2
    exact h2.2.2.2.2.1.2
   ·exact xA h.2 (fun y hy=>hx y (List.mem_cons_of_mem _ hy)) n hn
 | [],_::_,h,_,_,_=>h.elim
 | _::_,[],h,_,_,_=>h.elim
theorem DU {ds:List D} (h:oks Cq ds):∃ ns,Wk (.agg ds) (exD ns)∧ns.length≤maxLen∧(∀ n∈ns,InN n)∧∀ n∈ns,inR n.n:=by
 match ds,h with
 | [L],h =>
   obtain ⟨h1,_⟩:=h
   cases L with
   | nils =>
     refine ⟨[],Wk.agg rfl (by simp [D.scal]) fun i a b ha hb=>?_,by simp,by simp,by simp⟩
     match i,ha,hb with
     | 0,ha,hb=>cases ha;cases hb;exact .nils _
   | sl w xs =>
     obtain ⟨rfl,g1,g2⟩:=h1
     obtain ⟨ns,k1,k2⟩:=CZ g2
     exact ⟨ns,JB k1,by rw [← k1.len];exact g1,k2,xA k1 g2⟩
   | _=>exact h1.elim
theorem yz {ns:List EN} (hn:∀ n∈ns,InN n) (hr:∀ n∈ns,inR n.n):Any (lF ns):=by
 have hin:=wx hn
 refine ⟨fun n h=>(hin.2 n h).1,by have:=hin.1;omega,fun n h=>?_⟩
 unfold lF at h
 obtain ⟨m,hm,rfl⟩:=List.mem_map.1 h
 exact hr m (List.mem_of_mem_take hm)
theorem GI {ns:List EN} (ha:Any ns):(aQ ns).1.length≤1000000∧(∀ n∈(aQ ns).1,n.l.length≤1000000)∧(¬ (aQ ns).2.2=0→(aQ ns).1=[]):=by
 by_cases h0:(aQ ns).2.2=0
 ·have hm:bL ns=0:=by
   unfold aQ at h0
   by_cases hm:bL ns=0
   ·exact hm
   ·rw [if_pos hm] at h0;exact absurd h0 hm
  have hr:=lr ⟨hm,ha.rng⟩ h0
  refine ⟨by have:=hr.t.few;omega,fun n hn=>by have:=jZ hr.t n hn;omega,fun h=>absurd h0 h⟩
 ·have:=(kH h0).1
  rw [this]
  exact ⟨by simp,by simp,fun _=>rfl⟩
set_option maxHeartbeats 1000000 in
theorem JL {G} {ds:List D} {ns:List EN} (hw:Wk (.agg ds) (exD ns)) (hl:ns.length≤maxLen) (hn:∀ n∈ns,InN n) (hr:∀ n∈ns,inR n.n):HP Tryz.prog G 7 [.agg ds] (fun r=>r=.d (.bool true)):=by
 refine HP.wk (bs:=[exD ns]) ?_ ⟨hw,trivial⟩
 have hx:=mi
 obtain ⟨N,hN⟩:∃ N,N=lF ns:=⟨_,rfl⟩
 have hin:InF N:=by rw [hN];exact wx hn
 have ha:Any N:=by rw [hN];exact yz hn hr
 have c0:=wJ (G:=G) ns (by omega) (fun n h=>by have:=(hn n h).2.2.1;omega)
 have c1:=pE (G:=G) hin (by rw [hN,xy])
 rw [← hN] at c0
 have c2:=v7 (G:=G) N ha
 have c3:=Eo (G:=G) N ha
 obtain ⟨g1,g2,g3⟩:=GI ha
 have c4:=Hu (G:=G) ((aQ N).2.2=0) (aQ N).1 g1 g2 g3
 unfold gE at c2 c3
 obtain ⟨S,hS⟩:∃ S,(if (aQ N).2.2=0 then exD (aQ N).1 else .agg [.nils])=.agg [S]:=by
  unfold exD
  split<;>exact ⟨_,rfl⟩
 rw [hS] at c2 c3 c4
 generalize (aQ N).2.1=how at *
 generalize (aQ N).2.2=err at *
 unfold exD at c0 c1 c2 c3 ⊢
 refine al Tryz.func7 rfl (by decide +kernel) (by simp [Tryz.ntmps7]) (veil fun E=>?_)
 simp only [go_sem]
 refine ab E (c0) rfl rfl (by simp) ?_
 rintro _ rfl
 simp only [go_sem]
 refine ab E (c1) rfl rfl (by simp) ?_
 rintro _ rfl
 simp only [go_sem]
 refine ab E (c2) rfl rfl (by simp) ?_
 rintro _ rfl
 simp only [go_sem]
 refine ab E (c3) rfl rfl (by simp) ?_
 rintro _ rfl
 simp only [go_sem]
 refine ab E (c4) rfl rfl (by simp) ?_
 rintro _ rfl
 simp only [go_sem]
 refine ab E (wV) rfl rfl (by simp) ?_
 rintro _ rfl
 simp only [go_sem]
theorem Bs:∀ (m:Nat) (e:List EN) (d:Int),Run e→(ig m e d).1.length≤1000000∧(∀ n∈(ig m e d).1,n.l.length≤1000000)∧(¬ (ig m e d).2.2.2=0→(ig m e d).1=[])
 | m,e,d,he=>by
   have key:∀ X:List EN,Run X→X.length≤1000000∧(∀ n∈X,n.l.length≤1000000):=fun X hX=>⟨by have:=hX.t.few;omega,fun n hn=>by have:=jZ hX.t n hn;omega⟩
   have h1:(aQ e).2.1=1∨(aQ e).2.1=4→(aQ e).2.2=0:=fun h=>by
    by_cases h0:(aQ e).2.2=0
    ·exact h0
    ·have:=(kH h0).2
     omega
   have h2:(aQ e).2.2=0→Run (aQ e).1:=lr he
   cases m with
   | zero =>
     rw [ig]
     split
     ·rename_i g
      exact ⟨(key _ (h2 (h1 g))).1,(key _ (h2 (h1 g))).2,fun h=>absurd rfl h⟩
     ·exact ⟨(key _ he).1,(key _ he).2,fun h=>absurd rfl h⟩
   | succ m =>
     rw [ig]
     split
     ·rename_i g
      exact ⟨(key _ (h2 (h1 g))).1,(key _ (h2 (h1 g))).2,fun h=>absurd rfl h⟩
     split
     ·exact ⟨by simp,by simp,fun _=>rfl⟩
     rename_i h0
     have h0:(aQ e).2.2=0:=by simpa using h0
     split
     ·exact ⟨(key _ (h2 h0)).1,(key _ (h2 h0)).2,fun h=>absurd rfl h⟩
     ·exact Bs m _ _ (h2 h0)
theorem Ir {ns:List EN} (ha:Any ns) (n:Int):(fJ ns n).1.length≤1000000∧(∀ m∈(fJ ns n).1,m.l.length≤1000000)∧(¬ (fJ ns n).2.2.2=0→(fJ ns n).1=[]):=by
 unfold fJ
 split
 ·exact ⟨by simp,by simp,fun _=>rfl⟩
 split
 ·exact ⟨by simp,by simp,fun _=>rfl⟩
 ·rename_i h
  have hm:bL ns=0:=by simpa using h
  have hr:Run ns:=⟨hm,ha.rng⟩
  have hp:=hr.t.pos
  exact Bs _ _ _ (jm hr (by omega))
set_option maxHeartbeats 1000000 in
theorem JC {G} {ds:List D} {ns:List EN} {n:Int} (hw:Wk (.agg ds) (exD ns)) (hl:ns.length≤maxLen) (hn:∀ n∈ns,InN n) (hr:∀ n∈ns,inR n.n) (hz:inR n):HP Tryz.prog G 8 [.agg ds,i64 n] (fun r=>r=.d (.bool true)):=by
 refine HP.wk (bs:=[exD ns,i64 n]) ?_ ⟨hw,.refl _,trivial⟩
 have hx:=mi
 obtain ⟨N,hN⟩:∃ N,N=lF ns:=⟨_,rfl⟩
 have hin:InF N:=by rw [hN];exact wx hn
 have ha:Any N:=by rw [hN];exact yz hn hr
 have c0:=wJ (G:=G) ns (by omega) (fun n h=>by have:=(hn n h).2.2.1;omega)
 have c1:=pE (G:=G) hin (by rw [hN,xy])
 rw [← hN] at c0
 have key:∀ z:Int,z≤9223372036854775807→∃ S w1 w2 w3,HP Tryz.prog G 36 [exD N,i64 z] (fun r=>r=.tup [.d (.agg [S]),.d (i64 w1),.d (i64 w2),.d (i64 w3)])∧HP Tryz.prog G 37 [exD N,i64 z] (fun r=>r=.tup [.d (.agg [S]),.d (i64 w1),.d (i64 w2),.d (i64 w3)])∧HP Tryz.prog G 34 [.agg [S],.agg [S]] (fun r=>r=.d (.bool true)):=fun z hz=>by
  have c2:=Bb (G:=G) N z ha hz
  have c3:=HO (G:=G) N z ha hz
  obtain ⟨g1,g2,g3⟩:=Ir ha z
  have c4:=Hu (G:=G) ((fJ N z).2.2.2=0) (fJ N z).1 g1 g2 g3
  unfold bF at c2 c3
  obtain ⟨S,hS⟩:∃ S,(if (fJ N z).2.2.2=0 then exD (fJ N z).1 else .agg [.nils])=.agg [S]:=by
   unfold exD
   split<;>exact ⟨_,rfl⟩
  rw [hS] at c2 c3 c4
  exact ⟨S,_,_,_,c2,c3,c4⟩
 unfold exD at c0 c1 key ⊢
 refine al Tryz.func8 rfl (by decide +kernel) (by simp [Tryz.ntmps8]) (veil fun E=>?_)
 simp only [go_sem]
 refine ab E (c0) rfl rfl (by simp) ?_
 rintro _ rfl
 simp only [go_sem]
 refine ai E (fun h30=>?_) (fun h30=>?_)<;>simp only [go_sem]
 ·obtain ⟨S,w1,w2,w3,c2,c3,c4⟩:=key (n.tmod 31) (by
   have:=hz.2
   rw [Int.tmod_eq_emod_of_nonneg (by omega)]
   have:=Int.emod_lt_of_pos n (show (0:Int)<31 by decide)
   omega)
  refine ab E (c1) rfl rfl (by simp) ?_
  rintro _ rfl
  simp only [go_sem]
  refine ab E (c2) rfl rfl (by simp) ?_
  rintro _ rfl
  simp only [go_sem]
  refine ab E (c3) rfl rfl (by simp) ?_
  rintro _ rfl
  simp only [go_sem]
  refine ab E (c4) rfl rfl (by simp) ?_
  rintro _ rfl
  simp only [go_sem]
  refine ab E (wV) rfl rfl (by simp) ?_
  rintro _ rfl
  simp only [go_sem]
 ·obtain ⟨S,w1,w2,w3,c2,c3,c4⟩:=key n (by omega)
  refine ab E (c1) rfl rfl (by simp) ?_
  rintro _ rfl
  simp only [go_sem]
  refine ab E (c2) rfl rfl (by simp) ?_
  rintro _ rfl
  simp only [go_sem]
  refine ab E (c3) rfl rfl (by simp) ?_
  rintro _ rfl
  simp only [go_sem]
  refine ab E (c4) rfl rfl (by simp) ?_
  rintro _ rfl
  simp only [go_sem]
  refine ab E (wV) rfl rfl (by simp) ?_
  rintro _ rfl
  simp only [go_sem]
end Go.Proofs.YtejpnabbmgpmaaaGreat

namespace Go.Proofs.YtejpnabbmgpmaaaGreat
open Go.Ab
theorem v3 {G} {d1:List D} (h1:oks Cq d1):HP Tryz.prog G 7 [.agg d1] (fun r=>r=.d (.bool true)):=by
 obtain ⟨ns,hw,hl,hn,hr⟩:=DU h1
 exact JL hw hl hn hr
theorem H9 {d:D} (h:(TS.int .i64).ok d):∃ n,d=i64 n∧inR n:=by
 cases d with
 | int k n =>
   obtain ⟨h1,h2,h3⟩:=h
   subst h1
   exact ⟨n,rfl,h2,h3⟩
 | _=>exact h.elim
theorem uK {G} {d1:List D} {d2:D} (h1:oks Cq d1) (h2:(TS.int .i64).ok d2):HP Tryz.prog G 8 [.agg d1,d2] (fun r=>r=.d (.bool true)):=by
 obtain ⟨ns,hw,hl,hn,hr⟩:=DU h1
 obtain ⟨n,rfl,hz⟩:=H9 h2
 exact JC hw hl hn hr hz
end Go.Proofs.YtejpnabbmgpmaaaGreat

namespace Go.Proofs.YtejpnabbmgpmaaaGreat
open Go.Ab
open Go.ChangeShapes Go.WideShapes Go.ChangeAt Go.RowKit
theorem Tryz.own:ownKnob Tryz.prog.godebug=none:=by kernel_rfl
theorem Tryz.laidOut:laidOutB Tryz.prog=true:=by kernel_rfl
theorem oI {H:Type} {enc:TypeId × Value→H} {t:TypeId} (hr:Tryz.prog.readableRec t=true) (hrow:t<Tryz.prog.types.size) {W W':World} {v:Value} {d:DataW H} {ps:List MemPlace}
  (h:DataW.Trod enc Tryz.prog W 0 (fun _=>true) true t v d ps) (he:Ext W W') (hlt:∀ x∈ps,x.block<W.heap.size) :
  DataW.Trod enc Tryz.prog W' 0 (fun b=>decide (b<W.heap.size)) true t v d ps :=
 WideElems.Trod_stays Tryz.laidOut hr hrow h (fun x hx=>by
  have h1:=he.old x.block (hlt x hx)
  cases x with
  | cell b off=>show W'.cell? _=W.cell? _;unfold World.cell?;rw [show W'.heap[b]?=W.heap[b]? from h1]
  | map b=>exact h1) (fun x hx=>by simpa using hlt x hx)
end Go.Proofs.YtejpnabbmgpmaaaGreat

namespace Go.Proofs.YtejpnabbmgpmaaaGreat
open Go.Ab
open Go.ChangeShapes Go.WideShapes Go.ChangeAt Go.RowKit
theorem wy:(Rows.stepOneRow.wf (OpenSpec.ofChange Rows.stepOneSpec))=true:=by kernel_rfl
theorem wz:(Tryz.f7.params.all (Tryz.prog.readableRec ·))=true:=by kernel_rfl
theorem wb:(namedTie Tryz.prog Rows.stepOneRow.named Rows.stepOneSpec.vars)=true:=by kernel_rfl
theorem vI:((Rows.stepOneRow.stops == []))=true:=by kernel_rfl
theorem xa:((Rows.stepOneRow.knobs == []))=true:=by kernel_rfl
theorem sU:((Rows.stepOneRow.inPlace == Tryz.prog.inPlace 7))=true:=by kernel_rfl
theorem um:((Rows.stepOneRow.unfollowed == Tryz.prog.unfollowed 7))=true:=by kernel_rfl
theorem uX:((Rows.stepOneRow.recurses == Tryz.prog.recurses 7))=true:=by kernel_rfl
theorem vj:((Rows.stepOneRow.named == Tryz.prog.varsNamed 7))=true:=by kernel_rfl
theorem u3:((Rows.stepOneRow.maps == (Tryz.f7.params.toList++Rows.stepOneSpec.plain.varTypes Tryz.prog).any (Tryz.prog.mapsRec ·)))=true:=by kernel_rfl
theorem va:((Rows.stepOneRow.ifaces == (Tryz.f7.params.toList++Rows.stepOneSpec.plain.varTypes Tryz.prog).any (Tryz.prog.ifacesRec ·)))=true:=by kernel_rfl
theorem tA:((Rows.stepOneRow.mapsOut == Tryz.prog.mapsAmong Tryz.f7.resultTypes.toList))=true:=by kernel_rfl
theorem tX:((Rows.stepOneRow.loops == (Tryz.f7.params.toList++Rows.stepOneSpec.plain.varTypes Tryz.prog).any (Tryz.prog.loopsFrom ·)))=true:=by kernel_rfl
theorem tv:((Rows.stepOneRow.wideKeys == (Tryz.f7.params.toList++Rows.stepOneSpec.plain.varTypes Tryz.prog++Tryz.f7.resultTypes.toList).any (Tryz.prog.wideKeysFrom ·)))=true:=by kernel_rfl
theorem tw:(Rows.stepOneSpec.vars.all (Tryz.prog.varReadable ·))=true:=by kernel_rfl
theorem u6:(Tryz.f7.resultTypes.all (fun t=>Tryz.prog.readableRec t && decide (t<Tryz.prog.types.size)))=true:=by kernel_rfl
theorem ud:((Rows.stepOneRow.ifacesOut == Tryz.f7.resultTypes.toList.any (Tryz.prog.ifacesRec ·)))=true:=by kernel_rfl
theorem uQ:((Rows.stepOneRow.loopsOut == Tryz.f7.resultTypes.toList.any (Tryz.prog.loopsFrom ·)))=true:=by kernel_rfl
theorem uc:((Rows.stepOneRow.plainKeys == Tryz.prog.plainKeys))=true:=by kernel_rfl
theorem uP:(Rows.stepOneRow.shortTexts.isNone)=true:=by kernel_rfl
theorem sO:((Rows.stepOneRow.lifted == Tryz.prog.liftsFinal))=true:=by kernel_rfl
theorem sP:((Tryz.prog.make == some Rows.stepOneRow.make))=true:=by kernel_rfl
theorem sM:((Rows.stepOneRow.kinds == (if Rows.stepOneRow.domain.isEmpty then [] else Tryz.f7.params.toList.map fun t=>match Tryz.prog.underlying t with | some (.int k)=>some k | _=>none)))=true:=by kernel_rfl
theorem sD:((Rows.stepOneRow.pinned == Rows.stepOneRow.pinnedBy))=true:=by kernel_rfl
theorem tC:((Rows.stepOneRow.veiled == (Tryz.f7.params.toList++Rows.stepOneSpec.plain.varTypes Tryz.prog++Tryz.f7.resultTypes.toList).any (Tryz.prog.veiledRec ·)))=true:=by kernel_rfl
theorem uq:(Rows.stepOneRow.veiledFits Tryz.prog Tryz.f7.params.toList (Tryz.f7.params.toList++Rows.stepOneSpec.plain.varTypes Tryz.prog++Tryz.f7.resultTypes.toList))=true:=by kernel_rfl
end Go.Proofs.YtejpnabbmgpmaaaGreat

namespace Go.Proofs.YtejpnabbmgpmaaaGreat
open Go.Ab
open Go.ChangeShapes Go.WideShapes Go.ChangeAt Go.RowKit
theorem aL {a b:Bool} (ha:a=true) (hb:b=true):(a && b)=true:=by rw [ha,hb];rfl
theorem xm:(laidOutB Tryz.prog)=true:=by kernel_rfl
theorem yr:(mapsRowed Tryz.prog)=true:=by kernel_rfl
theorem vc:((Tryz.prog.stops == []))=true:=by kernel_rfl
theorem vn:((Tryz.prog.stopKnobs == []))=true:=by kernel_rfl
theorem sZ:(Tryz.prog.stopsHeard)=true:=by kernel_rfl
theorem s6:(Tryz.prog.mayEnter)=true:=by kernel_rfl
end Go.Proofs.YtejpnabbmgpmaaaGreat

namespace Go.Proofs.YtejpnabbmgpmaaaGreat
open Go.Ab
open Go.ChangeShapes Go.WideShapes Go.ChangeAt Go.RowKit
set_option maxRecDepth 100000 in
theorem oa (os:Os) (started:os.Started) (H:Type) (enc:TypeId × Value→H) :
  ReturnsInHanded {} Tryz.checked os 7 .any (Rows.stepOneSpec.pre6 enc Tryz.prog Tryz.f7 [] false) (Rows.stepOneSpec.post enc Tryz.prog Tryz.f7 false true false false):=by
 refine returnsInHanded_of_change (C:=Tryz.checked) Tryz.own started (by kernel_rfl) Tryz.func7
  (ChangeSpec.witness6 (enc:=enc) (C:=Tryz.checked) false ⟨#[],#[.agg #[.slice none 0 0]],[]⟩ 8 (by kernel_rfl) (by kernel_rfl) (by kernel_rfl) (by kernel_rfl)) ?_
 intro W base args ds gs before hval0 hW _ _
 have hval:∀ (j:Nat) t v,Tryz.f7.params[j]?=some t→args[j]?=some v→Value.okWide Tryz.prog W .any base t v:=hval0
 have hW':=hW
 obtain ⟨p,q,hA0,hV,rfl,hfz,hnd⟩:=hW
 have hA:DataW.TrodAll enc Tryz.prog W 0 (fun _=>true) true Tryz.f7.params.toList args.toList ds p:=hA0
 rw [Tryz.params7] at hA hval
 obtain ⟨v0,d0,rfl,rfl,h0⟩:=trodAll_one hA
 obtain ⟨rfl,rfl⟩:=trodVars_none hV
 clear hA0 hval0
 obtain ⟨x0,rfl,_⟩:=okWide_struct Tryz.underlying26 (hval 0 26 v0 rfl rfl)
 obtain ⟨e0,k0,r0⟩:=pI (m:=30) (show shp Tryz.prog 30 26=some Cq by kernel_rfl) h0
 have eF:Rows.stepOneSpec.fn H ([d0]++[])={ results:=[.lit (.bool true)],args:=[d0] }:=rfl
 refine (my (G:=[]) (v3 k0) (by simp) (vs:=#[.agg x0]) rfl ?_).mono ?_
 ·intro i d hi
  match i,hi with
  | 0,hi=>obtain rfl:=Option.some.inj hi;exact r0
 rintro e W' ⟨v,r,rfl,rfl,hext,_,_,_,_,hv⟩
 obtain rfl:=hv.bool
 have hlt:∀ x∈p,x.block<W.heap.size:=fun x hx=>by simpa using hW'.lt x (by simpa using hx)
 refine ⟨_,rfl,_,_,_,[],p,[],hW',?_,?_,?_,hext.frame _,fun h=>by cases h⟩
 ·rw [eF];exact trodAll_mk1 (shut_bool Tryz.underlying4 true)
 ·rw [eF];exact trodAll_mk1 (oI (by kernel_rfl) (of_decide_eq_true (by kernel_rfl)) h0 hext (fun x hx=>hlt x (by exact hx)))
 ·rw [eF];rfl
set_option maxRecDepth 100000 in
theorem px:joinedFacts Tryz.prog 7 Tryz.f7 Rows.stepOneSpec Rows.stepOneRow=true:=by
 unfold joinedFacts
 exact aL (aL (aL (aL (aL (aL (aL (aL (aL (aL (aL (aL (aL (aL (aL (aL (aL (aL (aL (aL (aL (aL (aL (aL (aL (aL (aL (aL (aL (aL (aL wy xm) yr) wz) wb) vI) vc) xa) vn) sU) um) uX) vj) u3) va) tA) tX) tv) tw) u6) ud) uQ) uc) uP) sZ) s6) sO) sP) sM) sD) tC) uq
theorem o7:Tryz.pinned.checked.prog.funcNamed Rows.stepOneRow.func=some 7:=by kernel_rfl
theorem qW:decide (Tryz.f7.isInstance Tryz.pinned.checked.prog Rows.stepOneRow.origin Rows.stepOneRow.targs)=true:=by kernel_rfl
theorem pw:Rows.StepOneSaid :=
 OpenClaim.holds_of_wide 7 Tryz.f7 rfl rfl rfl rfl rfl rfl rfl ⟨rfl,rfl,rfl,rfl,rfl⟩ rfl rfl rfl rfl rfl o7 Tryz.func7 px
  (of_decide_eq_true qW) (by unfold Func.isWrapper;rw [if_neg (of_decide_eq_false (by kernel_rfl))];exact ⟨rfl,rfl⟩)
  (fun os started H enc _=>oa os started H enc)
end Go.Proofs.YtejpnabbmgpmaaaGreat

namespace Go.Proofs.YtejpnabbmgpmaaaGreat
open Go.Ab
open Go.ChangeShapes Go.WideShapes Go.ChangeAt Go.RowKit
theorem tG:(Rows.stepRunsRow.wf (OpenSpec.ofChange Rows.stepRunsSpec))=true:=by kernel_rfl
theorem sV:(Tryz.f8.params.all (Tryz.prog.readableRec ·))=true:=by kernel_rfl
theorem tb:(namedTie Tryz.prog Rows.stepRunsRow.named Rows.stepRunsSpec.vars)=true:=by kernel_rfl
theorem uy:((Rows.stepRunsRow.stops == []))=true:=by kernel_rfl
theorem u5:((Rows.stepRunsRow.knobs == []))=true:=by kernel_rfl
theorem rA:((Rows.stepRunsRow.inPlace == Tryz.prog.inPlace 8))=true:=by kernel_rfl
theorem r9:((Rows.stepRunsRow.unfollowed == Tryz.prog.unfollowed 8))=true:=by kernel_rfl
theorem rV:((Rows.stepRunsRow.recurses == Tryz.prog.recurses 8))=true:=by kernel_rfl
theorem rl:((Rows.stepRunsRow.named == Tryz.prog.varsNamed 8))=true:=by kernel_rfl
theorem q9:((Rows.stepRunsRow.maps == (Tryz.f8.params.toList++Rows.stepRunsSpec.plain.varTypes Tryz.prog).any (Tryz.prog.mapsRec ·)))=true:=by kernel_rfl
theorem qT:((Rows.stepRunsRow.ifaces == (Tryz.f8.params.toList++Rows.stepRunsSpec.plain.varTypes Tryz.prog).any (Tryz.prog.ifacesRec ·)))=true:=by kernel_rfl
theorem q0:((Rows.stepRunsRow.mapsOut == Tryz.prog.mapsAmong Tryz.f8.resultTypes.toList))=true:=by kernel_rfl
theorem qM:((Rows.stepRunsRow.loops == (Tryz.f8.params.toList++Rows.stepRunsSpec.plain.varTypes Tryz.prog).any (Tryz.prog.loopsFrom ·)))=true:=by kernel_rfl
theorem qD:((Rows.stepRunsRow.wideKeys == (Tryz.f8.params.toList++Rows.stepRunsSpec.plain.varTypes Tryz.prog++Tryz.f8.resultTypes.toList).any (Tryz.prog.wideKeysFrom ·)))=true:=by kernel_rfl
theorem rQ:(Rows.stepRunsSpec.vars.all (Tryz.prog.varReadable ·))=true:=by kernel_rfl
theorem qS:(Tryz.f8.resultTypes.all (fun t=>Tryz.prog.readableRec t && decide (t<Tryz.prog.types.size)))=true:=by kernel_rfl
theorem sg:((Rows.stepRunsRow.ifacesOut == Tryz.f8.resultTypes.toList.any (Tryz.prog.ifacesRec ·)))=true:=by kernel_rfl
theorem qQ:((Rows.stepRunsRow.loopsOut == Tryz.f8.resultTypes.toList.any (Tryz.prog.loopsFrom ·)))=true:=by kernel_rfl
theorem rv:((Rows.stepRunsRow.plainKeys == Tryz.prog.plainKeys))=true:=by kernel_rfl
theorem ry:(Rows.stepRunsRow.shortTexts.isNone)=true:=by kernel_rfl
theorem sh:((Rows.stepRunsRow.lifted == Tryz.prog.liftsFinal))=true:=by kernel_rfl
theorem rZ:((Tryz.prog.make == some Rows.stepRunsRow.make))=true:=by kernel_rfl
theorem ri:((Rows.stepRunsRow.kinds == (if Rows.stepRunsRow.domain.isEmpty then [] else Tryz.f8.params.toList.map fun t=>match Tryz.prog.underlying t with | some (.int k)=>some k | _=>none)))=true:=by kernel_rfl
theorem qU:((Rows.stepRunsRow.pinned == Rows.stepRunsRow.pinnedBy))=true:=by kernel_rfl
theorem rY:((Rows.stepRunsRow.veiled == (Tryz.f8.params.toList++Rows.stepRunsSpec.plain.varTypes Tryz.prog++Tryz.f8.resultTypes.toList).any (Tryz.prog.veiledRec ·)))=true:=by kernel_rfl
theorem rn:(Rows.stepRunsRow.veiledFits Tryz.prog Tryz.f8.params.toList (Tryz.f8.params.toList++Rows.stepRunsSpec.plain.varTypes Tryz.prog++Tryz.f8.resultTypes.toList))=true:=by kernel_rfl
end Go.Proofs.YtejpnabbmgpmaaaGreat

namespace Go.Proofs.YtejpnabbmgpmaaaGreat
open Go.Ab
open Go.ChangeShapes Go.WideShapes Go.ChangeAt Go.RowKit
set_option maxRecDepth 100000 in
theorem mP (os:Os) (started:os.Started) (H:Type) (enc:TypeId × Value→H) :
  ReturnsInHanded {} Tryz.checked os 8 .any (Rows.stepRunsSpec.pre6 enc Tryz.prog Tryz.f8 [] false) (Rows.stepRunsSpec.post enc Tryz.prog Tryz.f8 false true false false):=by
 refine returnsInHanded_of_change (C:=Tryz.checked) Tryz.own started (by kernel_rfl) Tryz.func8
  (ChangeSpec.witness6 (enc:=enc) (C:=Tryz.checked) false ⟨#[],#[.agg #[.slice none 0 0],.int .i64 0],[]⟩ 8 (by kernel_rfl) (by kernel_rfl) (by kernel_rfl) (by kernel_rfl)) ?_
 intro W base args ds gs before hval0 hW _ _
 have hval:∀ (j:Nat) t v,Tryz.f8.params[j]?=some t→args[j]?=some v→Value.okWide Tryz.prog W .any base t v:=hval0
 have hW':=hW
 obtain ⟨p,q,hA0,hV,rfl,hfz,hnd⟩:=hW
 have hA:DataW.TrodAll enc Tryz.prog W 0 (fun _=>true) true Tryz.f8.params.toList args.toList ds p:=hA0
 rw [Tryz.params8] at hA hval
 obtain ⟨v0,v1,d0,d1,p0,p1,rfl,rfl,rfl,h0,h1⟩:=trodAll_two hA
 obtain ⟨rfl,rfl⟩:=trodVars_none hV
 clear hA0 hval0
 obtain ⟨x0,rfl,_⟩:=okWide_struct Tryz.underlying26 (hval 0 26 v0 rfl rfl)
 obtain ⟨e0,k0,r0⟩:=pI (m:=30) (show shp Tryz.prog 30 26=some Cq by kernel_rfl) h0
 obtain ⟨n1,rfl⟩:=okWide_int Tryz.underlying3 (hval 1 3 v1 rfl rfl)
 obtain ⟨e1,k1,r1⟩:=zL (m:=30) (show shp Tryz.prog 30 3=some [.int .i64] by kernel_rfl) rfl h1
 have eF:Rows.stepRunsSpec.fn H ([d0,d1]++[])={ results:=[.lit (.bool true)],args:=[d0,d1] }:=rfl
 refine (my (G:=[]) (uK k0 k1) (by simp) (vs:=#[.agg x0,.int .i64 n1]) rfl ?_).mono ?_
 ·intro i d hi
  match i,hi with
  | 0,hi=>obtain rfl:=Option.some.inj hi;exact r0
  | 1,hi=>obtain rfl:=Option.some.inj hi;exact r1
 rintro e W' ⟨v,r,rfl,rfl,hext,_,_,_,_,hv⟩
 obtain rfl:=hv.bool
 have hlt:∀ x∈p0++p1,x.block<W.heap.size:=fun x hx=>by simpa using hW'.lt x (by simpa using hx)
 refine ⟨_,rfl,_,_,_,[],p0++p1,[],hW',?_,?_,?_,hext.frame _,fun h=>by cases h⟩
 ·rw [eF];exact trodAll_mk1 (shut_bool Tryz.underlying4 true)
 ·rw [eF];exact trodAll_mk2 (oI (by kernel_rfl) (of_decide_eq_true (by kernel_rfl)) h0 hext (fun x hx=>hlt x (by simp [hx]))) (oI (by kernel_rfl) (of_decide_eq_true (by kernel_rfl)) h1 hext (fun x hx=>hlt x (by simp [hx])))
 ·rw [eF];rfl
set_option maxRecDepth 100000 in
theorem nM:joinedFacts Tryz.prog 8 Tryz.f8 Rows.stepRunsSpec Rows.stepRunsRow=true:=by
 unfold joinedFacts
 exact aL (aL (aL (aL (aL (aL (aL (aL (aL (aL (aL (aL (aL (aL (aL (aL (aL (aL (aL (aL (aL (aL (aL (aL (aL (aL (aL (aL (aL (aL (aL tG xm) yr) sV) tb) uy) vc) u5) vn) rA) r9) rV) rl) q9) qT) q0) qM) qD) rQ) qS) sg) qQ) rv) ry) sZ) s6) sh) rZ) ri) qU) rY) rn
theorem oG:Tryz.pinned.checked.prog.funcNamed Rows.stepRunsRow.func=some 8:=by kernel_rfl
theorem o8:decide (Tryz.f8.isInstance Tryz.pinned.checked.prog Rows.stepRunsRow.origin Rows.stepRunsRow.targs)=true:=by kernel_rfl
theorem oJ:Rows.StepRunsSaid :=
 OpenClaim.holds_of_wide 8 Tryz.f8 rfl rfl rfl rfl rfl rfl rfl ⟨rfl,rfl,rfl,rfl,rfl⟩ rfl rfl rfl rfl rfl oG Tryz.func8 nM
  (of_decide_eq_true o8) (by unfold Func.isWrapper;rw [if_neg (of_decide_eq_false (by kernel_rfl))];exact ⟨rfl,rfl⟩)
  (fun os started H enc _=>mP os started H enc)
end Go.Proofs.YtejpnabbmgpmaaaGreat

