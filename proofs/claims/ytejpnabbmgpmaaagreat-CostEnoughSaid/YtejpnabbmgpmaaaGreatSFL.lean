/-
  The document's parser: what an expr may be. (with the parts that follow it)
-/
import Derived.Test.YtejpnabbmgpmaaaGreatSFK
import Derived.Test.YtejpnabbmgpmaaaGreatSFI
import Derived.Test.YtejpnabbmgpmaaaGreatSFG
import Derived.Test.YtejpnabbmgpmaaaGreatSFF
import Derived.Test.YtejpnabbmgpmaaaGreatSFH
import Derived.Test.YtejpnabbmgpmaaaGreatSFJ
set_option linter.all false
namespace Go.Proofs.YtejpnabbmgpmaaaGreat
open Go.Ab
def Hn (f:Nat) (G:List (Nat × Obj)) (N:Nat) (sub:PS→PR):Prop:=∀ (L:List Tok) (s:PS),Fit L s→L.length≤100000→s.nest=N→s.err=0→HCall Tryz.prog G f [.bx [100] 0,.d (i64 s.peek.pos)] (RX L s) [100,101] (fun r hp'=>r=.d (exD (sub s).1)∧hp'=RX L (sub s).2)
theorem EM {s:PS} (h1:s.sees 7 [60]=false) (h2:s.sees 7 [61,61]=false):opS s dK=none:=by
 unfold dK opS opS opS
 rw [h1,h2];rfl
set_option maxHeartbeats 2000000 in
theorem Eb {G} {N:Nat} {ex:PS→PR} (hex:∀ s,GP 1 s (ex s)) (hst:∀ s,s.err≠0→(ex s).2=s) (hc:cR 70 G N ex):Hn 120 G N (fX ex):=by
 have h177:=Ew hex (FL hex (Fu hex (Ev hex (EI hex hst hc))))
 intro L s hf hl hN he0
 have hl1:L.length≤1000000:=by omega
 have hfl:=hf.le
 generalize hR:fX ex s=R
 unfold fX at hR
 obtain ⟨p,hp⟩:∃ p,p=s.peek.pos:=⟨_,rfl⟩
 simp only [← hp] at hR ⊢
 have hnx:s.next.nest=N:=hN
 have hfn:=hf.ss (SS.next s)
 have ln:=(SS.next s).len
 have c1:=iq (G:=G) hf hl1 zu
 have c2:=iq (G:=G) hf hl1 zl
 have c3:=iq (G:=G) hf hl1 bIf
 unfold RX TS TX ae
 refine ar Tryz.func120 rfl (by decide +kernel) (by simp [Tryz.ntmps120]) (veil fun E=>?_)
 simp only [go_sem]
 refine ab E [.bx [100] 0,.d (.str zu)] (RX L s) [100,101] (c1) rfl rfl ⟨by simp only [go_sem],by first | (rw [aa];decide) | (simp only [go_sem]<;>(try rw [aa])<;>decide)⟩ rfl (by unfold RX TS TX ae;simp only [go_sem]) (by unfold RX TS TX;simp only [go_sem]) ?_
 rintro _ _ ⟨rfl,rfl⟩
 unfold RX TS TX ae
 simp only [go_sem]
 refine aD E (fun h=>?_) (fun h=>?_)<;>simp only [go_sem]
 ·rw [if_pos h] at hR
  rw [br h]
  have co:=jK (G:=G) hfn hl1 2
  have ho:=SS.of s.next 2
  obtain ⟨nm,so,eo⟩:∃ nm so,s.next.of 2=(nm,so):=⟨_,_,rfl⟩
  rw [eo] at co ho hR
  simp only at co ho hR
  have cm:=ei (G:=G) (hfn.ss ho) hl1 7 bTo (by decide)
  have hm:=ho.trans (SS.must so 7 bTo)
  generalize so.must 7 bTo=s2 at hR cm hm
  have ca:=hc L s2 (hfn.ss hm) hl (hm.nest.trans hnx)
  have ha:=hex s2
  obtain ⟨a,sa,ea⟩:∃ a sa,ex s2=(a,sa):=⟨_,_,rfl⟩
  rw [ea] at ha ca hR
  have l2:=hm.len
  have za:=ha.sz
  simp only at za hR
  have h4:=eK (G:=G) { nd0 5 p with name:=nm } [a] rfl rfl (by simp only [aT,List.map_cons,List.map_nil,List.sum_cons,List.sum_nil];omega)
   (fun l h=>by rw [List.mem_singleton.1 h];exact ha.tr.kids.2)
   (fun l h=>by rw [List.mem_singleton.1 h];exact ha.wd.mono (by omega))
  unfold exD at ca
  refine ab E [.bx [100] 0,.d (i64 2)] (RX L s.next) [100,101] (co) rfl rfl ⟨by simp only [go_sem],by first | (rw [aa];decide) | (simp only [go_sem]<;>(try rw [aa])<;>decide)⟩ rfl (by unfold RX TS TX ae;simp only [go_sem]) (by unfold RX TS TX;simp only [go_sem]) ?_
  rintro _ _ ⟨rfl,rfl⟩
  unfold RX TS TX ae
  simp only [go_sem]
  refine ab E [.bx [100] 0,.d (i64 7),.d (.str bTo)] (RX L so) [100,101] (cm) rfl rfl ⟨by simp only [go_sem],by first | (rw [aa];decide) | (simp only [go_sem]<;>(try rw [aa])<;>decide)⟩ rfl (by unfold RX TS TX ae;simp only [go_sem]) (by unfold RX TS TX;simp only [go_sem]) ?_
  rintro _ _ ⟨rfl,rfl⟩
  unfold RX TS TX ae
  simp only [go_sem]
  refine ab E [.bx [100] 0] (RX L s2) [100,101] (ca) rfl rfl ⟨by simp only [go_sem],by first | (rw [aa];decide) | (simp only [go_sem]<;>(try rw [aa])<;>decide)⟩ rfl (by unfold RX TS TX ae;simp only [go_sem]) (by unfold RX TS TX;simp only [go_sem]) ?_
  rintro _ _ ⟨rfl,rfl⟩
  unfold RX TS TX ae
  simp only [go_sem]
  refine cL E [27] (some 1) ([.agg [.sl (some 9) (a.map enD)]]) rfl (by simp only [go_sem];rfl) ?_
  simp only [go_sem]
  generalize av { nd0 5 p with name:=nm } [a]=J at h4 hR
  unfold ndN exD at h4
  refine ag E h4 rfl rfl (by simp) ?_
  rintro _ rfl
  simp only [go_sem]
  subst hR
  refine ⟨_,_,[100,101],id,⟨rfl,rfl⟩,?_⟩
  simp only [go_sem]
  rfl
 rw [if_neg (by rw [h];decide)] at hR
 rw [bP h]
 refine ab E [.bx [100] 0,.d (.str zl)] (RX L s) [100,101] (c2) rfl rfl ⟨by simp only [go_sem],by first | (rw [aa];decide) | (simp only [go_sem]<;>(try rw [aa])<;>decide)⟩ rfl (by unfold RX TS TX ae;simp only [go_sem]) (by unfold RX TS TX;simp only [go_sem]) ?_
 rintro _ _ ⟨rfl,rfl⟩
 unfold RX TS TX ae
 simp only [go_sem]
 refine aD E (fun h=>?_) (fun h=>?_)<;>simp only [go_sem]
 ·rw [if_pos h] at hR
  rw [br h]
  unfold kW at hR
  have cw:=iq (G:=G) hfn hl1 gA
  have hw:=SS.may s.next 1 gA
  obtain ⟨c,hcc⟩:∃ c,c=s.next.sees 1 gA:=⟨_,rfl⟩
  rw [← hcc] at cw
  simp only [← hcc] at hR
  generalize s.next.may 1 gA=sm at hR cw hw
  have co:=jK (G:=G) (hfn.ss hw) hl1 2
  have ho:=hw.trans (SS.of sm 2)
  obtain ⟨nm,so,eo⟩:∃ nm so,sm.of 2=(nm,so):=⟨_,_,rfl⟩
  rw [eo] at co ho hR
  simp only at co ho hR
  have cm:=ei (G:=G) (hfn.ss ho) hl1 7 [61] (by decide)
  have hm:=ho.trans (SS.must so 7 [61])
  generalize so.must 7 [61]=s2 at hR cm hm
  have cp:=fH (G:=G) (hfn.ss hm) hl1
  have ca:=hc L s2 (hfn.ss hm) hl (hm.nest.trans hnx)
  have ha:=hex s2
  obtain ⟨a,sa,ea⟩:∃ a sa,ex s2=(a,sa):=⟨_,_,rfl⟩
  rw [ea] at ha ca hR
  have hma:=hm.trans ha.ss
  have l2:=hma.len
  have hap:=ha.tr.kids.1
  have za:=ha.sz
  have l3:=hm.len
  simp only at hR l2 hap za
  have cf:=iV (G:=G) L sa 5 s2.peek.pos
  have key:∀ s3:PS,SS s.next s3→∀ k:Int,aG k=2→aI k=false→(av { nd0 k p with name:=nm } [a,(ex (s3.must 1 bIn)).1],(ex (s3.must 1 bIn)).2)=R →
    HCall Tryz.prog G 175 [.bx [100] 0,.d (i64 1),.d (.str bIn)] (RX L s3) [100,101] (fun r hp'=>r=.tup []∧hp'=RX L (s3.must 1 bIn))∧∃ b sb J,R=(J,sb) ∧
    HCall Tryz.prog G 70 [.bx [100] 0] (RX L (s3.must 1 bIn)) [100,101] (fun r hp'=>r=.d (.agg [.sl (some 9) (b.map enD)])∧hp'=RX L sb) ∧
    HP Tryz.prog G 176 [ndN { nd0 k p with name:=nm },.sl (some 1) ([a,b].map exD)] (fun r=>r=.d (.agg [.sl (some 9) (J.map enD)])):=by
   intro s3 h3 k hk1 hk2 hk
   have hm3:=h3
   have cm3:=ei (G:=G) (hfn.ss hm3) hl1 1 bIn (by decide)
   have hm4:=hm3.trans (SS.must s3 1 bIn)
   generalize s3.must 1 bIn=s4 at hk cm3 hm4 ⊢
   have l4:=hm4.len
   have hb:=hex s4
   have cb:=hc L s4 (hfn.ss hm4) hl (hm4.nest.trans hnx)
   obtain ⟨b,sb,eb⟩:∃ b sb,ex s4=(b,sb):=⟨_,_,rfl⟩
   rw [eb] at hb cb hk
   have zb:=hb.sz
   simp only at zb hk
   have h4:=eK (G:=G) { nd0 k p with name:=nm } [a,b] rfl (by show aG k+(if aI k then _ else 0)=_;rw [hk1,hk2];rfl) (by simp only [aT,List.map_cons,List.map_nil,List.sum_cons,List.sum_nil];omega)
    (fun l h=>by
     simp only [List.mem_cons,List.mem_singleton,List.not_mem_nil,or_false] at h
     rcases h with rfl | rfl
     ·exact ha.tr.kids.2
     ·exact hb.tr.kids.2)
    (fun l h=>by
     simp only [List.mem_cons,List.mem_singleton,List.not_mem_nil,or_false] at h
     rcases h with rfl | rfl
     ·exact ha.wd.mono (by omega)
     ·exact hb.wd.mono (by omega))
   exact ⟨cm3,b,sb,_,hk.symm,cb,h4⟩
  unfold exD at ca
  refine ab E [.bx [100] 0,.d (.str gA)] (RX L s.next) [100,101] (cw) rfl rfl ⟨by simp only [go_sem],by first | (rw [aa];decide) | (simp only [go_sem]<;>(try rw [aa])<;>decide)⟩ rfl (by unfold RX TS TX ae;simp only [go_sem]) (by unfold RX TS TX;simp only [go_sem]) ?_
  rintro _ _ ⟨rfl,rfl⟩
  unfold RX TS TX ae
  simp only [go_sem]
  cases c with
  | false =>
    refine ab E [.bx [100] 0,.d (i64 2)] (RX L sm) [100,101] (co) rfl rfl ⟨by simp only [go_sem],by first | (rw [aa];decide) | (simp only [go_sem]<;>(try rw [aa])<;>decide)⟩ rfl (by unfold RX TS TX ae;simp only [go_sem]) (by unfold RX TS TX;simp only [go_sem]) ?_
    rintro _ _ ⟨rfl,rfl⟩
    unfold RX TS TX ae
    simp only [go_sem]
    refine ab E [.bx [100] 0,.d (i64 7),.d (.str [61])] (RX L so) [100,101] (cm) rfl rfl ⟨by simp only [go_sem],by first | (rw [aa];decide) | (simp only [go_sem]<;>(try rw [aa])<;>decide)⟩ rfl (by unfold RX TS TX ae;simp only [go_sem]) (by unfold RX TS TX;simp only [go_sem]) ?_
    rintro _ _ ⟨rfl,rfl⟩
    unfold RX TS TX ae
    simp only [go_sem]
    refine ab E [.bx [101] 0] (TS L s2) [101] (cp) rfl rfl ⟨by simp only [go_sem],by first | (rw [aa];decide) | (simp only [go_sem]<;>(try rw [aa])<;>decide)⟩ rfl (by unfold TS TX ae;simp only [go_sem]) (by unfold TS TX;simp only [go_sem]) ?_
    rintro _ _ ⟨rfl,rfl⟩
    unfold TS TX ae
    simp only [go_sem]
    refine ab E [.bx [100] 0] (RX L s2) [100,101] (ca) rfl rfl ⟨by simp only [go_sem],by first | (rw [aa];decide) | (simp only [go_sem]<;>(try rw [aa])<;>decide)⟩ rfl (by unfold RX TS TX ae;simp only [go_sem]) (by unfold RX TS TX;simp only [go_sem]) ?_
    rintro _ _ ⟨rfl,rfl⟩
    unfold RX TS TX ae
    simp only [go_sem]
    rw [if_neg (by decide),if_neg (fun q=>absurd q.1 (by decide))] at hR
    obtain ⟨k1,b,sb,J,eR,k2,k3⟩:=key sa hma 7 rfl rfl hR
    subst eR
    refine ab E [.bx [100] 0,.d (i64 1),.d (.str bIn)] (RX L sa) [100,101] (k1) rfl rfl ⟨by simp only [go_sem],by first | (rw [aa];decide) | (simp only [go_sem]<;>(try rw [aa])<;>decide)⟩ rfl (by unfold RX TS TX ae;simp only [go_sem]) (by unfold RX TS TX;simp only [go_sem]) ?_
    rintro _ _ ⟨rfl,rfl⟩
    unfold RX TS TX ae
    simp only [go_sem]
    refine ab E [.bx [100] 0] (RX L (sa.must 1 bIn)) [100,101] (k2) rfl rfl ⟨by simp only [go_sem],by first | (rw [aa];decide) | (simp only [go_sem]<;>(try rw [aa])<;>decide)⟩ rfl (by unfold RX TS TX ae;simp only [go_sem]) (by unfold RX TS TX;simp only [go_sem]) ?_
    rintro _ _ ⟨rfl,rfl⟩
    unfold RX TS TX ae
    simp only [go_sem]
    refine cL E [85] (some 1) [.agg [.sl (some 9) (a.map enD)],.agg [.sl (some 9) (b.map enD)]] rfl (by simp only [go_sem];rfl) ?_
    simp only [go_sem]
    unfold ndN nd0 at k3
    refine ag E k3 rfl rfl (by simp) ?_
    rintro _ rfl
    simp only [go_sem]
    refine ⟨_,_,[100,101],id,⟨rfl,rfl⟩,?_⟩
    simp only [go_sem]
    rfl
  | true =>
    refine ab E [.bx [100] 0,.d (i64 2)] (RX L sm) [100,101] (co) rfl rfl ⟨by simp only [go_sem],by first | (rw [aa];decide) | (simp only [go_sem]<;>(try rw [aa])<;>decide)⟩ rfl (by unfold RX TS TX ae;simp only [go_sem]) (by unfold RX TS TX;simp only [go_sem]) ?_
    rintro _ _ ⟨rfl,rfl⟩
    unfold RX TS TX ae
    simp only [go_sem]
    refine ab E [.bx [100] 0,.d (i64 7),.d (.str [61])] (RX L so) [100,101] (cm) rfl rfl ⟨by simp only [go_sem],by first | (rw [aa];decide) | (simp only [go_sem]<;>(try rw [aa])<;>decide)⟩ rfl (by unfold RX TS TX ae;simp only [go_sem]) (by unfold RX TS TX;simp only [go_sem]) ?_
    rintro _ _ ⟨rfl,rfl⟩
    unfold RX TS TX ae
    simp only [go_sem]
    refine ab E [.bx [101] 0] (TS L s2) [101] (cp) rfl rfl ⟨by simp only [go_sem],by first | (rw [aa];decide) | (simp only [go_sem]<;>(try rw [aa])<;>decide)⟩ rfl (by unfold TS TX ae;simp only [go_sem]) (by unfold TS TX;simp only [go_sem]) ?_
    rintro _ _ ⟨rfl,rfl⟩
    unfold TS TX ae
    simp only [go_sem]
    refine ab E [.bx [100] 0] (RX L s2) [100,101] (ca) rfl rfl ⟨by simp only [go_sem],by first | (rw [aa];decide) | (simp only [go_sem]<;>(try rw [aa])<;>decide)⟩ rfl (by unfold RX TS TX ae;simp only [go_sem]) (by unfold RX TS TX;simp only [go_sem]) ?_
    rintro _ _ ⟨rfl,rfl⟩
    unfold RX TS TX ae
    simp only [go_sem]
    rw [if_pos rfl] at hR
    refine ao E (fun g1=>?_) (fun g1=>?_)<;>simp only [go_sem]
    ·rw [ai (n:=(a.length:Int)-1) ⟨by omega,by omega⟩]
     refine ⟨⟨by omega,by omega⟩,?_⟩
     rw [show ((a.length:Int)-1).toNat=a.length-1 by omega,aP (show a.length-1<a.length by omega)]
     have hrt:dh a=ndE a (a.length-1):=rfl
     rw [← hrt]
     simp only [go_sem]
     refine ah E (fun h=>?_) (fun h=>?_)<;>simp only [go_sem]
     ·rw [if_pos ⟨rfl,h⟩] at hR
      refine ab E [.bx [100] 0,.d (i64 5),.d (i64 s2.peek.pos)] (RX L sa) [100,101] (cf) rfl rfl ⟨by simp only [go_sem],by first | (rw [aa];decide) | (simp only [go_sem]<;>(try rw [aa])<;>decide)⟩ rfl (by unfold RX TS TX ae;simp only [go_sem]) (by unfold RX TS TX;simp only [go_sem]) ?_
      rintro _ _ ⟨rfl,rfl⟩
      unfold RX TS TX ae
      simp only [go_sem]
      have hfs:SS s.next (sa.fail 5 s2.peek.pos):=by
       refine ⟨by rw [mn];exact hma.suf,?_,?_,fun N h=>?_⟩
       ·unfold PS.fail;split<;>exact hma.fin
       ·unfold PS.fail;split<;>exact hma.nest
       ·rw [show (sa.fail 5 s2.peek.pos).pos=if sa.err=0 then s2.peek.pos else sa.pos by unfold PS.fail;split<;>rfl]
        by_cases g:sa.err=0
        ·rw [if_pos g];exact gq (hm.po h)
        ·rw [if_neg g];exact hma.pos N h
      obtain ⟨k1,b,sb,J,eR,k2,k3⟩:=key (sa.fail 5 s2.peek.pos) hfs 8 rfl rfl hR
      subst eR
      refine ab E [.bx [100] 0,.d (i64 1),.d (.str bIn)] (RX L (sa.fail 5 s2.peek.pos)) [100,101] (k1) rfl rfl ⟨by simp only [go_sem],by first | (rw [aa];decide) | (simp only [go_sem]<;>(try rw [aa])<;>decide)⟩ rfl (by unfold RX TS TX ae;simp only [go_sem]) (by unfold RX TS TX;simp only [go_sem]) ?_
      rintro _ _ ⟨rfl,rfl⟩
      unfold RX TS TX ae
      simp only [go_sem]
      refine ab E [.bx [100] 0] (RX L ((sa.fail 5 s2.peek.pos).must 1 bIn)) [100,101] (k2) rfl rfl ⟨by simp only [go_sem],by first | (rw [aa];decide) | (simp only [go_sem]<;>(try rw [aa])<;>decide)⟩ rfl (by unfold RX TS TX ae;simp only [go_sem]) (by unfold RX TS TX;simp only [go_sem]) ?_
      rintro _ _ ⟨rfl,rfl⟩
      unfold RX TS TX ae
      simp only [go_sem]
      refine cL E [78] (some 1) [.agg [.sl (some 9) (a.map enD)],.agg [.sl (some 9) (b.map enD)]] rfl (by simp only [go_sem];rfl) ?_
      simp only [go_sem]
      unfold ndN nd0 at k3
      refine ag E k3 rfl rfl (by simp) ?_
      rintro _ rfl
      simp only [go_sem]
      refine ⟨_,_,[100,101],id,⟨rfl,rfl⟩,?_⟩
      simp only [go_sem]
      rfl
     ·rw [if_neg (fun q=>h q.2)] at hR
      obtain ⟨k1,b,sb,J,eR,k2,k3⟩:=key sa hma 8 rfl rfl hR
      subst eR
      refine ab E [.bx [100] 0,.d (i64 1),.d (.str bIn)] (RX L sa) [100,101] (k1) rfl rfl ⟨by simp only [go_sem],by first | (rw [aa];decide) | (simp only [go_sem]<;>(try rw [aa])<;>decide)⟩ rfl (by unfold RX TS TX ae;simp only [go_sem]) (by unfold RX TS TX;simp only [go_sem]) ?_
      rintro _ _ ⟨rfl,rfl⟩
      unfold RX TS TX ae
      simp only [go_sem]
      refine ab E [.bx [100] 0] (RX L (sa.must 1 bIn)) [100,101] (k2) rfl rfl ⟨by simp only [go_sem],by first | (rw [aa];decide) | (simp only [go_sem]<;>(try rw [aa])<;>decide)⟩ rfl (by unfold RX TS TX ae;simp only [go_sem]) (by unfold RX TS TX;simp only [go_sem]) ?_
      rintro _ _ ⟨rfl,rfl⟩
      unfold RX TS TX ae
      simp only [go_sem]
      refine cL E [78] (some 1) [.agg [.sl (some 9) (a.map enD)],.agg [.sl (some 9) (b.map enD)]] rfl (by simp only [go_sem];rfl) ?_
      simp only [go_sem]
      unfold ndN nd0 at k3
      refine ag E k3 rfl rfl (by simp) ?_
      rintro _ rfl
      simp only [go_sem]
      refine ⟨_,_,[100,101],id,⟨rfl,rfl⟩,?_⟩
      simp only [go_sem]
      rfl
    ·have hfs:(if (8:Int)=8∧(dh a).k≠5 then sa.fail 5 s2.peek.pos else sa)=sa:=by
      rw [cg g1]
      split<;>rfl
     rw [hfs] at hR
     obtain ⟨k1,b,sb,J,eR,k2,k3⟩:=key sa hma 8 rfl rfl hR
     subst eR
     refine ab E [.bx [100] 0,.d (i64 1),.d (.str bIn)] (RX L sa) [100,101] (k1) rfl rfl ⟨by simp only [go_sem],by first | (rw [aa];decide) | (simp only [go_sem]<;>(try rw [aa])<;>decide)⟩ rfl (by unfold RX TS TX ae;simp only [go_sem]) (by unfold RX TS TX;simp only [go_sem]) ?_
     rintro _ _ ⟨rfl,rfl⟩
     unfold RX TS TX ae
     simp only [go_sem]
     refine ab E [.bx [100] 0] (RX L (sa.must 1 bIn)) [100,101] (k2) rfl rfl ⟨by simp only [go_sem],by first | (rw [aa];decide) | (simp only [go_sem]<;>(try rw [aa])<;>decide)⟩ rfl (by unfold RX TS TX ae;simp only [go_sem]) (by unfold RX TS TX;simp only [go_sem]) ?_
     rintro _ _ ⟨rfl,rfl⟩
     unfold RX TS TX ae
     simp only [go_sem]
     refine cL E [78] (some 1) [.agg [.sl (some 9) (a.map enD)],.agg [.sl (some 9) (b.map enD)]] rfl (by simp only [go_sem];rfl) ?_
     simp only [go_sem]
     unfold ndN nd0 at k3
     refine ag E k3 rfl rfl (by simp) ?_
     rintro _ rfl
     simp only [go_sem]
     refine ⟨_,_,[100,101],id,⟨rfl,rfl⟩,?_⟩
     simp only [go_sem]
     rfl
 rw [if_neg (by rw [h];decide)] at hR
 rw [bP h]
 refine ab E [.bx [100] 0,.d (.str bIf)] (RX L s) [100,101] (c3) rfl rfl ⟨by simp only [go_sem],by first | (rw [aa];decide) | (simp only [go_sem]<;>(try rw [aa])<;>decide)⟩ rfl (by unfold RX TS TX ae;simp only [go_sem]) (by unfold RX TS TX;simp only [go_sem]) ?_
 rintro _ _ ⟨rfl,rfl⟩
 unfold RX TS TX ae
 simp only [go_sem]
 refine aD E (fun h=>?_) (fun h=>?_)<;>simp only [go_sem]
 ·rw [if_pos h] at hR
  rw [br h]
  unfold ifS at hR
  have ca:=hc L s.next hfn hl hnx
  have ha:=hex s.next
  obtain ⟨a,sa,ea⟩:∃ a sa,ex s.next=(a,sa):=⟨_,_,rfl⟩
  rw [ea] at ha ca
  simp only [ea] at hR
  have hma:SS s.next sa:=ha.ss
  have cm1:=ei (G:=G) (hfn.ss hma) hl1 1 gG (by decide)
  have hm1:=hma.trans (SS.must sa 1 gG)
  have lm1:=(SS.must sa 1 gG).len
  generalize sa.must 1 gG=s1 at hR cm1 hm1 lm1
  have cb:=hc L s1 (hfn.ss hm1) hl (hm1.nest.trans hnx)
  have hb:=hex s1
  obtain ⟨b,sb,eb⟩:∃ b sb,ex s1=(b,sb):=⟨_,_,rfl⟩
  rw [eb] at hb cb
  simp only [eb] at hR
  have hmb:SS s.next sb:=hm1.trans hb.ss
  have cm2:=ei (G:=G) (hfn.ss hmb) hl1 1 iJ (by decide)
  have hm2:=hmb.trans (SS.must sb 1 iJ)
  have lm2:=(SS.must sb 1 iJ).len
  generalize sb.must 1 iJ=s2 at hR cm2 hm2 lm2
  have cx:=hc L s2 (hfn.ss hm2) hl (hm2.nest.trans hnx)
  have hx:=hex s2
  obtain ⟨x,sx,exx⟩:∃ x sx,ex s2=(x,sx):=⟨_,_,rfl⟩
  rw [exx] at hx cx
  simp only [exx] at hR
  have l1:=hm1.len
  have l2:=hm2.len
  have za:=ha.sz
  have zb:=hb.sz
  have zx:=hx.sz
  simp only at za zb zx
  have h4:=eK (G:=G) (nd0 9 p) [a,b,x] rfl rfl (by simp only [aT,List.map_cons,List.map_nil,List.sum_cons,List.sum_nil];omega)
   (fun l h=>by
    simp only [List.mem_cons,List.mem_singleton,List.not_mem_nil,or_false] at h
    rcases h with rfl | rfl | rfl
    ·exact ha.tr.kids.2
    ·exact hb.tr.kids.2
    ·exact hx.tr.kids.2)
   (fun l h=>by
    simp only [List.mem_cons,List.mem_singleton,List.not_mem_nil,or_false] at h
    rcases h with rfl | rfl | rfl
    ·exact ha.wd.mono (by omega)
    ·exact hb.wd.mono (by omega)
    ·exact hx.wd.mono (by omega))
  unfold exD at ca cb cx
  refine ab E [.bx [100] 0] (RX L s.next) [100,101] (ca) rfl rfl ⟨by simp only [go_sem],by first | (rw [aa];decide) | (simp only [go_sem]<;>(try rw [aa])<;>decide)⟩ rfl (by unfold RX TS TX ae;simp only [go_sem]) (by unfold RX TS TX;simp only [go_sem]) ?_
  rintro _ _ ⟨rfl,rfl⟩
  unfold RX TS TX ae
  simp only [go_sem]
  refine ab E [.bx [100] 0,.d (i64 1),.d (.str gG)] (RX L sa) [100,101] (cm1) rfl rfl ⟨by simp only [go_sem],by first | (rw [aa];decide) | (simp only [go_sem]<;>(try rw [aa])<;>decide)⟩ rfl (by unfold RX TS TX ae;simp only [go_sem]) (by unfold RX TS TX;simp only [go_sem]) ?_
  rintro _ _ ⟨rfl,rfl⟩
  unfold RX TS TX ae
  simp only [go_sem]
  refine ab E [.bx [100] 0] (RX L s1) [100,101] (cb) rfl rfl ⟨by simp only [go_sem],by first | (rw [aa];decide) | (simp only [go_sem]<;>(try rw [aa])<;>decide)⟩ rfl (by unfold RX TS TX ae;simp only [go_sem]) (by unfold RX TS TX;simp only [go_sem]) ?_
  rintro _ _ ⟨rfl,rfl⟩
  unfold RX TS TX ae
  simp only [go_sem]
  refine ab E [.bx [100] 0,.d (i64 1),.d (.str iJ)] (RX L sb) [100,101] (cm2) rfl rfl ⟨by simp only [go_sem],by first | (rw [aa];decide) | (simp only [go_sem]<;>(try rw [aa])<;>decide)⟩ rfl (by unfold RX TS TX ae;simp only [go_sem]) (by unfold RX TS TX;simp only [go_sem]) ?_
  rintro _ _ ⟨rfl,rfl⟩
  unfold RX TS TX ae
  simp only [go_sem]
  refine ab E [.bx [100] 0] (RX L s2) [100,101] (cx) rfl rfl ⟨by simp only [go_sem],by first | (rw [aa];decide) | (simp only [go_sem]<;>(try rw [aa])<;>decide)⟩ rfl (by unfold RX TS TX ae;simp only [go_sem]) (by unfold RX TS TX;simp only [go_sem]) ?_
  rintro _ _ ⟨rfl,rfl⟩
  unfold RX TS TX ae
  simp only [go_sem]
  refine cL E [104] (some 1) ([.agg [.sl (some 9) (a.map enD)],.agg [.sl (some 9) (b.map enD)],.agg [.sl (some 9) (x.map enD)]]) rfl (by simp only [go_sem];rfl) ?_
  simp only [go_sem]
  generalize av (nd0 9 p) [a,b,x]=J at h4 hR
  unfold ndN exD at h4
  refine ag E h4 rfl rfl (by simp) ?_
  rintro _ rfl
  simp only [go_sem]
  subst hR
  refine ⟨_,_,[100,101],id,⟨rfl,rfl⟩,?_⟩
  simp only [go_sem]
  rfl
 rw [if_neg (by rw [h];decide)] at hR
 rw [bP h]
 unfold yQ at hR
 have ca:=h177 L s hf hl hN
 have ha:=gK hex s
 obtain ⟨a,sa,ea⟩:∃ a sa,sC ex s=(a,sa):=⟨_,_,rfl⟩
 rw [ea] at ha ca
 simp only [ea] at hR
 have hma:SS s sa:=ha.ss
 have hfa:=hf.ss hma
 have ct:=fH (G:=G) hfa hl1
 have c60:=dm (G:=G) hfa hl1 [60]
 have c61:=dm (G:=G) hfa hl1 [61,61]
 have fin:∀ n:Int,(let b:=sC ex sa.next;(av { nd0 10 sa.peek.pos with n:=n } [a,b.1],b.2))=R →
   ∃ b sb J,R=(J,sb)∧HCall Tryz.prog G 177 [.bx [100] 0] (RX L sa.next) [100,101] (fun r hp'=>r=.d (.agg [.sl (some 9) (b.map enD)])∧hp'=RX L sb) ∧
   HP Tryz.prog G 176 [ndN { nd0 10 sa.peek.pos with n:=n },.sl (some 1) ([a,b].map exD)] (fun r=>r=.d (.agg [.sl (some 9) (J.map enD)])):=by
  intro n hk
  have hms:SS s sa.next:=hma.trans (SS.next sa)
  have l4:=hms.len
  have cb:=h177 L sa.next (hf.ss hms) hl (hms.nest.trans hN)
  have hb:=gK hex sa.next
  obtain ⟨b,sb,eb⟩:∃ b sb,sC ex sa.next=(b,sb):=⟨_,_,rfl⟩
  rw [eb] at hb cb
  simp only [eb] at hk
  have za:=ha.sz
  have zb:=hb.sz
  simp only at za zb
  have h4:=eK (G:=G) { nd0 10 sa.peek.pos with n:=n } [a,b] rfl rfl (by simp only [aT,List.map_cons,List.map_nil,List.sum_cons,List.sum_nil];omega)
   (fun l h=>by
    simp only [List.mem_cons,List.mem_singleton,List.not_mem_nil,or_false] at h
    rcases h with rfl | rfl
    ·exact ha.tr.kids.2
    ·exact hb.tr.kids.2)
   (fun l h=>by
    simp only [List.mem_cons,List.mem_singleton,List.not_mem_nil,or_false] at h
    rcases h with rfl | rfl
    ·exact ha.wd.mono (by omega)
    ·exact hb.wd.mono (by omega))
  exact ⟨b,sb,_,hk.symm,cb,h4⟩
 unfold exD at ca
 refine ab E [.bx [100] 0] (RX L s) [100,101] (ca) rfl rfl ⟨by simp only [go_sem],by first | (rw [aa];decide) | (simp only [go_sem]<;>(try rw [aa])<;>decide)⟩ rfl (by unfold RX TS TX ae;simp only [go_sem]) (by unfold RX TS TX;simp only [go_sem]) ?_
 rintro _ _ ⟨rfl,rfl⟩
 unfold RX TS TX ae
 simp only [go_sem]
 refine ab E [.bx [101] 0] (TS L sa) [101] (ct) rfl rfl ⟨by simp only [go_sem],by first | (rw [aa];decide) | (simp only [go_sem]<;>(try rw [aa])<;>decide)⟩ rfl (by unfold TS TX ae;simp only [go_sem]) (by unfold TS TX;simp only [go_sem]) ?_
 rintro _ _ ⟨rfl,rfl⟩
 unfold TS TX ae
 simp only [go_sem]
 refine ab E [.bx [100] 0,.d (.str [60])] (RX L sa) [100,101] (c60) rfl rfl ⟨by simp only [go_sem],by first | (rw [aa];decide) | (simp only [go_sem]<;>(try rw [aa])<;>decide)⟩ rfl (by unfold RX TS TX ae;simp only [go_sem]) (by unfold RX TS TX;simp only [go_sem]) ?_
 rintro _ _ ⟨rfl,rfl⟩
 unfold RX TS TX ae
 simp only [go_sem]
 refine aD E (fun q1=>?_) (fun q1=>?_)<;>simp only [go_sem]
 ·have ho:opS sa dK=some 5:=by unfold dK opS;rw [q1];rfl
  rw [ho] at hR
  obtain ⟨b,sb,J,eR,k2,k3⟩:=fin 5 hR
  subst eR
  rw [br q1]
  refine ak mixed E fun X=>?_
  simp only [go_sem]
  refine aZ X [.bx [100] 0] (RX L sa.next) [100,101] _ _ k2 rfl rfl ⟨by simp only [go_sem],by rw [aa];decide⟩ rfl (by unfold RX TS TX ae;simp only [go_sem]) (by unfold RX TS TX;simp only [go_sem]) (by unfold RX TS TX;simp only [go_sem]) ?_
  unfold RX TS TX ae
  simp only [go_sem]
  unfold ndN nd0 at k3
  refine bw X 121 [121] (some 1) [.agg [.sl (some 9) (a.map enD)],.agg [.sl (some 9) (b.map enD)]] k3 (fun _=>rfl) rfl rfl rfl (by simp) rfl (by simp only [go_sem]) ?_
  simp only [go_sem]
  refine ⟨by decide +kernel,?_⟩
  refine ⟨_,_,[100,101],id,⟨rfl,rfl⟩,?_⟩
  simp only [go_sem]
  rfl
 rw [bP q1]
 refine ab E [.bx [100] 0,.d (.str [61,61])] (RX L sa) [100,101] (c61) rfl rfl ⟨by simp only [go_sem],by first | (rw [aa];decide) | (simp only [go_sem]<;>(try rw [aa])<;>decide)⟩ rfl (by unfold RX TS TX ae;simp only [go_sem]) (by unfold RX TS TX;simp only [go_sem]) ?_
 rintro _ _ ⟨rfl,rfl⟩
 unfold RX TS TX ae
 simp only [go_sem]
 refine aD E (fun q2=>?_) (fun q2=>?_)<;>simp only [go_sem]
 ·have ho:opS sa dK=some 6:=by unfold dK opS opS;rw [q1,q2];rfl
  rw [ho] at hR
  obtain ⟨b,sb,J,eR,k2,k3⟩:=fin 6 hR
  subst eR
  rw [br q2]
  refine ak mixed E fun X=>?_
  simp only [go_sem]
  refine aZ X [.bx [100] 0] (RX L sa.next) [100,101] _ _ k2 rfl rfl ⟨by simp only [go_sem],by rw [aa];decide⟩ rfl (by unfold RX TS TX ae;simp only [go_sem]) (by unfold RX TS TX;simp only [go_sem]) (by unfold RX TS TX;simp only [go_sem]) ?_
  unfold RX TS TX ae
  simp only [go_sem]
  unfold ndN nd0 at k3
  refine bw X 131 [131] (some 1) [.agg [.sl (some 9) (a.map enD)],.agg [.sl (some 9) (b.map enD)]] k3 (fun _=>rfl) rfl rfl rfl (by simp) rfl (by simp only [go_sem]) ?_
  simp only [go_sem]
  refine ⟨by decide +kernel,?_⟩
  refine ⟨_,_,[100,101],id,⟨rfl,rfl⟩,?_⟩
  simp only [go_sem]
  rfl
 rw [bP q2]
 rw [EM q1 q2] at hR
 simp only at hR
 subst hR
 refine ⟨_,_,[100,101],id,⟨rfl,rfl⟩,?_⟩
 simp only [go_sem]
 rfl
end Go.Proofs.YtejpnabbmgpmaaaGreat

namespace Go.Proofs.YtejpnabbmgpmaaaGreat
open Go.Ab
theorem AD {G}:cR 70 G 100 (fR 0):=by
 intro L s hf hl hN
 have hl1:L.length≤1000000:=by omega
 generalize hR:fR 0 s=R
 unfold fR at hR
 unfold RX TS TX ae
 refine ar Tryz.func70 rfl (by decide +kernel) (by simp [Tryz.ntmps70]) (veil fun E=>?_)
 simp only [go_sem]
 refine ah E (fun h=>?_) (fun h=>?_)<;>simp only [go_sem]
 ·rw [cg h] at hR
  have hno:=jO (G:=G)
  generalize noE=J at hno hR
  unfold exD at hno
  refine ag E hno rfl rfl (by simp) ?_
  rintro _ rfl
  simp only [go_sem]
  subst hR
  refine ⟨_,_,[100,101],id,⟨rfl,rfl⟩,?_⟩
  simp only [go_sem]
  all_goals first | rfl | exact ⟨rfl,rfl,rfl⟩
 refine ab E [.bx [101] 0] (TS L s) [101] (fH hf hl1) rfl rfl ⟨by simp only [go_sem],by first | (rw [aa];decide) | (simp only [go_sem]<;>(try rw [aa])<;>decide)⟩ rfl (by unfold TS TX ae;simp only [go_sem]) (by unfold TS TX;simp only [go_sem]) ?_
 rintro _ _ ⟨rfl,rfl⟩
 unfold TS TX ae
 simp only [go_sem]
 refine ah E (fun h2=>?_) (fun h2=>absurd (by omega) h2)<;>simp only [go_sem]
 refine ab E [.bx [100] 0,.d (i64 6),.d (i64 s.peek.pos)] (RX L s) [100,101] (iV L s 6 s.peek.pos) rfl rfl ⟨by simp only [go_sem],by first | (rw [aa];decide) | (simp only [go_sem]<;>(try rw [aa])<;>decide)⟩ rfl (by unfold RX TS TX ae;simp only [go_sem]) (by unfold RX TS TX;simp only [go_sem]) ?_
 rintro _ _ ⟨rfl,rfl⟩
 unfold RX TS TX ae
 simp only [go_sem]
 have hno:=jO (G:=G)
 generalize noE=J at hno hR
 unfold exD at hno
 refine ag E hno rfl rfl (by simp) ?_
 rintro _ rfl
 simp only [go_sem]
 subst hR
 refine ⟨_,_,[100,101],id,⟨rfl,rfl⟩,?_⟩
 simp only [go_sem]
 all_goals first | rfl | exact ⟨rfl,rfl,rfl⟩
theorem vH:∀ (m:Nat) (s:PS),s.err≠0→(fR m s).2=s
 | 0,s,h=>cg h
 | m+1,s,h=>by
   unfold fR
   rw [if_pos h]
def xD (ex:PS→PR) (s:PS):PR:=if s.err≠0 then (noE,s) else ((fX ex { s with nest:=s.nest+1 }).1,{ (fX ex { s with nest:=s.nest+1 }).2 with nest:=s.nest })
theorem A1 {G} {N:Nat} {ex:PS→PR} (hN0:N<100) (hex:∀ s,GP 1 s (ex s)) (hst:∀ s,s.err≠0→(ex s).2=s) (hc:cR 70 G (N+1) ex) :
  cR 70 G N (xD ex):=by
 intro L s hf hl hN
 have hl1:L.length≤1000000:=by omega
 generalize hR:xD ex s=R
 unfold xD at hR
 obtain ⟨s1,hs1⟩:∃ s1:PS,s1={ s with nest:=s.nest+1 }:=⟨_,rfl⟩
 rw [← hs1] at hR
 have hp1:s.peek.pos=s1.peek.pos:=by rw [hs1];rfl
 have hr1:RX L s1=([100],.box [.bx [101] 0,.d (i64 s.err),.d (i64 s.pos),.d (i64 (s.nest+1:Nat))])::TS L s:=by rw [hs1];rfl
 have hf1:Fit L s1:=by rw [hs1];exact hf
 have hn1:s1.nest=N+1:=by rw [hs1];show s.nest+1=_;rw [hN]
 have he1:s1.err=s.err:=by rw [hs1]
 have hb:=Eb hex hst hc L s1 hf1 hl hn1
 have hg:=(pB hex s1).ss.nest
 obtain ⟨b,q,hq⟩:∃ b q,fX ex s1=(b,q):=⟨_,_,rfl⟩
 rw [hq] at hb hg hR
 simp only at hb hg hR
 rw [← hp1,hr1] at hb
 unfold exD at hb
 unfold RX TS TX ae at *
 refine ar Tryz.func70 rfl (by decide +kernel) (by simp [Tryz.ntmps70]) (veil fun E=>?_)
 simp only [go_sem]
 refine ah E (fun h=>?_) (fun h=>?_)<;>simp only [go_sem]
 ·rw [if_pos h] at hR
  have hno:=jO (G:=G)
  generalize noE=J at hno hR
  unfold exD at hno
  refine ag E hno rfl rfl (by simp) ?_
  rintro _ rfl
  simp only [go_sem]
  subst hR
  refine ⟨_,_,[100,101],id,⟨rfl,rfl⟩,?_⟩
  simp only [go_sem]
  all_goals first | rfl | exact ⟨rfl,rfl,rfl⟩
 have h:s.err=0:=by simpa using h
 rw [if_neg (by simpa using h)] at hR
 refine ab E [.bx [101] 0] (TS L s) [101] (fH hf hl1) rfl rfl ⟨by simp only [go_sem],by first | (rw [aa];decide) | (simp only [go_sem]<;>(try rw [aa])<;>decide)⟩ rfl (by unfold TS TX ae;simp only [go_sem]) (by unfold TS TX;simp only [go_sem]) ?_
 rintro _ _ ⟨rfl,rfl⟩
 unfold TS TX ae
 simp only [go_sem]
 refine ah E (fun h2=>absurd h2 (by omega)) (fun h2=>?_)<;>simp only [go_sem]
 rw [ai (n:=(s.nest:Int)+1) ⟨by omega,by omega⟩]
 have hb:=hb (by rw [he1];exact h)
 refine ab E [.bx [100] 0,.d (i64 s.peek.pos)] _ [100,101] hb rfl rfl ⟨by simp only [go_sem],by first | (rw [aa];decide) | (simp only [go_sem]<;>(try rw [aa])<;>decide)⟩ rfl (by simp only [go_sem];simp) (by simp only [go_sem]) ?_
 rintro _ _ ⟨rfl,rfl⟩
 simp only [go_sem]
 rw [ai (n:=(q.nest:Int)-1) ⟨by omega,by omega⟩]
 subst hR
 refine ⟨_,_,[100,101],id,⟨rfl,rfl⟩,?_⟩
 simp only [go_sem]
 have hqn:(q.nest:Int)-1=(s.nest:Int):=by rw [hg,hs1];simp
 rw [hqn]
 exact ⟨rfl,rfl,rfl⟩
theorem z8 {G}:∀ (m N:Nat),N+m=100→cR 70 G N (fR m)
 | 0,N,h=>by
   obtain rfl:N=100:=by omega
   exact AD
 | m+1,N,h=>by
   have e:fR (m+1)=xD (fR m):=by
    funext s
    rw [fR];rfl
   rw [e]
   exact A1 (by omega) (kr m) (vH m) (z8 m (N+1) (by omega))
end Go.Proofs.YtejpnabbmgpmaaaGreat

namespace Go.Proofs.YtejpnabbmgpmaaaGreat
open Go.Ab
def FO (s:PS) (l:List EF):List (Name × Ob):=([103],.arr (some 3) (l.map fD))::RO s
theorem wS {G} (s:PS) (t:Tok) (n:EN) (l:List EF) (hl:l.length≤100000):HCall Tryz.prog G 355 [.bx [100] 0,.d (.agg [i64 t.k,.str t.s,i64 t.n,i64 t.pos]),.agg [.d (i64 n.k),.d (i64 n.a),.d (i64 n.b),.d (i64 n.c),.d (i64 n.n),.d (.str n.name),.d (.str n.s),.vw [103] 0 l.length,.d (i64 n.pos)]] (FO s l) [100,101,103] (fun r hp'=>r=.tup []∧hp'=FO (s.parted t l) l):=by
 generalize hR:s.parted t l=R
 unfold PS.parted at hR
 have c8:=nZ (G:=G) s 8 t.pos
 have c5:=nZ (G:=G) s 5 t.pos
 unfold FO RO TO ae
 refine ar Tryz.func355 rfl (by decide +kernel) (by simp [Tryz.ntmps355]) (veil fun E=>?_)
 simp only [go_sem]
 refine ab E [.bx [100] 0] (RO s) [100,101] (fW s) rfl rfl ⟨by simp only [go_sem],by first | (rw [aa];decide) | (simp only [go_sem]<;>(try rw [aa])<;>decide)⟩ rfl (by unfold RO TO ae;simp only [go_sem]) (by unfold RO TO;simp only [go_sem]) ?_
 rintro _ _ ⟨rfl,rfl⟩
 unfold RO TO ae
 simp only [go_sem]
 refine aD E (fun h1=>?_) (fun h1=>?_)<;>simp only [go_sem]
 ·rw [if_pos (by simpa using h1)] at hR
  rw [← hR]
  refine ⟨_,_,[100,101,103],id,⟨rfl,rfl⟩,?_⟩
  simp only [go_sem]
 rw [if_neg (by simpa using h1)] at hR
 refine ah E (fun h2=>?_) (fun h2=>?_)<;>simp only [go_sem]
 ·rw [if_pos (by omega)] at hR
  refine ab E [.bx [100] 0,.d (i64 8),.d (i64 t.pos)] (RO s) [100,101] (c8) rfl rfl ⟨by simp only [go_sem],by first | (rw [aa];decide) | (simp only [go_sem]<;>(try rw [aa])<;>decide)⟩ rfl (by unfold RO TO ae;simp only [go_sem]) (by unfold RO TO;simp only [go_sem]) ?_
  rintro _ _ ⟨rfl,rfl⟩
  unfold RO TO ae
  simp only [go_sem]
  rw [← hR]
  refine ⟨_,_,[100,101,103],id,⟨rfl,rfl⟩,?_⟩
  simp only [go_sem]
 ·rw [if_neg (by omega)] at hR
  refine CC E [4] (.agg [i64 t.k,.str t.s,i64 t.n,i64 t.pos]) rfl rfl ?_
  simp only [go_sem]
  refine np E [([103],some 3,l.map fD)] (FR l (fun x=>decide (x.nm=t.s)) 371 [.ptr (.agg [i64 t.k,.str t.s,i64 t.n,i64 t.pos])] (by omega) (fun x _=>D0 x t)) (by rintro _ rfl;rfl) (by simp only [go_sem]) rfl (by simp only [go_sem]) (by simp) ?_
  rintro _ rfl
  simp only [go_sem]
  refine aD E (fun h3=>?_) (fun h3=>?_)<;>simp only [go_sem]
  ·rw [if_pos h3] at hR
   refine ab E [.bx [100] 0,.d (i64 5),.d (i64 t.pos)] (RO s) [100,101] (c5) rfl rfl ⟨by simp only [go_sem],by first | (rw [aa];decide) | (simp only [go_sem]<;>(try rw [aa])<;>decide)⟩ rfl (by unfold RO TO ae;simp only [go_sem]) (by unfold RO TO;simp only [go_sem]) ?_
   rintro _ _ ⟨rfl,rfl⟩
   unfold RO TO ae
   simp only [go_sem]
   rw [← hR]
   refine ⟨_,_,[100,101,103],id,⟨rfl,rfl⟩,?_⟩
   simp only [go_sem]
  ·rw [if_neg (by rw [h3];decide)] at hR
   rw [← hR]
   refine ⟨_,_,[100,101,103],id,⟨rfl,rfl⟩,?_⟩
   simp only [go_sem]
end Go.Proofs.YtejpnabbmgpmaaaGreat

namespace Go.Proofs.YtejpnabbmgpmaaaGreat
open Go.Ab
def NO (s:PS) (n:EN) (l:List EF):List (Name × Ob):=([105],.box [.bx [100] 0])::([102],.box [.d (i64 n.k),.d (i64 n.a),.d (i64 n.b),.d (i64 n.c),.d (i64 n.n),.d (.str n.name),.d (.str n.s),.vw [103] 0 l.length,.d (i64 n.pos)])::FO s l
def sE (s:PS) (t:Tok) (l:List EF):EF × PS:=(⟨(s.of 2).1,[],0⟩,(((s.of 2).2.parted t l).must 7 [61]))
def nq (s:PS) (t:Tok) (l:List EF):EF × PS:=(⟨(s.of 3).1,(((s.of 3).2.parted t l).of 2).1,0⟩,(((s.of 3).2.parted t l).of 2).2.must 7 bTo)
theorem tF (s:PS) (t:Tok) (l:List EF):(s.parted t l).l=s.l:=by
 unfold PS.parted
 split
 ·rfl
 split
 ·exact mn _ _ _
 split
 ·exact mn _ _ _
 ·rfl
def A7 (G:List (Nat × Obj)) (f:Nat) (part:PS→Tok→List EF→EF × PS):Prop:=∀ (s:PS) (t:Tok) (n:EN) (l:List EF),s.l.length≤100000→l.length≤100000 →
 HCall Tryz.prog G f [.d (.agg [i64 t.k,.str t.s,i64 t.n,i64 t.pos]),.bx [105] 0,.bx [102] 0] (NO s n l) [100,101,102,103,105] (fun r hp'=>r=.d (fD (part s t l).1)∧hp'=NO (part s t l).2 n l)
theorem DQ {G}:A7 G 354 sE:=by
 intro s t n l hs hl
 generalize hR:sE s t l=R
 unfold sE at hR
 have c1:=mB (G:=G) s 2 (by omega)
 have h1:=SS.of s 2
 obtain ⟨nm,s1,e1⟩:∃ nm s1,s.of 2=(nm,s1):=⟨_,_,rfl⟩
 rw [e1] at c1 h1 hR
 simp only at c1 h1 hR
 have l1:=h1.len
 have c2:=wS (G:=G) s1 t n l hl
 have l2:=tF s1 t l
 generalize s1.parted t l=s2 at c2 l2 hR
 have c3:=fS (G:=G) s2 7 [61] (by rw [l2];omega) (by decide)
 generalize s2.must 7 [61]=s3 at c3 hR
 subst hR
 unfold NO FO RO TO ae
 refine ar Tryz.func354 rfl (by decide +kernel) (by simp [Tryz.ntmps354]) (veil fun E=>?_)
 simp only [go_sem]
 refine ab E [.bx [100] 0,.d (i64 2)] (RO s) [100,101] (c1) rfl rfl ⟨by simp only [go_sem],by first | (rw [aa];decide) | (simp only [go_sem]<;>(try rw [aa])<;>decide)⟩ rfl (by unfold RO TO ae;simp only [go_sem]) (by unfold RO TO;simp only [go_sem]) ?_
 rintro _ _ ⟨rfl,rfl⟩
 unfold RO TO ae
 simp only [go_sem]
 refine ab E [.bx [100] 0,.d (.agg [i64 t.k,.str t.s,i64 t.n,i64 t.pos]),.agg [.d (i64 n.k),.d (i64 n.a),.d (i64 n.b),.d (i64 n.c),.d (i64 n.n),.d (.str n.name),.d (.str n.s),.vw [103] 0 l.length,.d (i64 n.pos)]] (FO s1 l) [100,101,103] (c2) rfl rfl ⟨by simp only [go_sem],by first | (rw [aa];decide) | (simp only [go_sem]<;>(try rw [aa])<;>decide)⟩ rfl (by unfold FO RO TO ae;simp only [go_sem]) (by unfold FO RO TO;simp only [go_sem]) ?_
 rintro _ _ ⟨rfl,rfl⟩
 unfold FO RO TO ae
 simp only [go_sem]
 refine ⟨Nat.le_refl _,?_⟩
 refine ab E [.bx [100] 0,.d (i64 7),.d (.str [61])] (RO s2) [100,101] (c3) rfl rfl ⟨by simp only [go_sem],by first | (rw [aa];decide) | (simp only [go_sem]<;>(try rw [aa])<;>decide)⟩ rfl (by unfold RO TO ae;simp only [go_sem]) (by unfold RO TO;simp only [go_sem]) ?_
 rintro _ _ ⟨rfl,rfl⟩
 unfold RO TO ae
 simp only [go_sem]
 refine ⟨_,_,[100,101,102,103,105],id,⟨rfl,rfl⟩,?_⟩
 simp only [go_sem]
 all_goals rfl
theorem EP {G}:A7 G 356 nq:=by
 intro s t n l hs hl
 generalize hR:nq s t l=R
 unfold nq at hR
 have c1:=mB (G:=G) s 3 (by omega)
 have h1:=SS.of s 3
 obtain ⟨nm,s1,e1⟩:∃ nm s1,s.of 3=(nm,s1):=⟨_,_,rfl⟩
 rw [e1] at c1 h1 hR
 simp only at c1 h1 hR
 have l1:=h1.len
 have c2:=wS (G:=G) s1 t n l hl
 have l2:=tF s1 t l
 generalize s1.parted t l=s2 at c2 l2 hR
 have co:=mB (G:=G) s2 2 (by rw [l2];omega)
 have ho:=SS.of s2 2
 obtain ⟨nv,so,eo⟩:∃ nv so,s2.of 2=(nv,so):=⟨_,_,rfl⟩
 rw [eo] at co ho hR
 simp only at co ho hR
 have lo:=ho.len
 rw [l2] at lo
 have c3:=fS (G:=G) so 7 bTo (by omega) (by decide)
 generalize so.must 7 bTo=s3 at c3 hR
 subst hR
 unfold NO FO RO TO ae
 refine ar Tryz.func356 rfl (by decide +kernel) (by simp [Tryz.ntmps356]) (veil fun E=>?_)
 simp only [go_sem]
 refine ab E [.bx [100] 0,.d (i64 3)] (RO s) [100,101] (c1) rfl rfl ⟨by simp only [go_sem],by first | (rw [aa];decide) | (simp only [go_sem]<;>(try rw [aa])<;>decide)⟩ rfl (by unfold RO TO ae;simp only [go_sem]) (by unfold RO TO;simp only [go_sem]) ?_
 rintro _ _ ⟨rfl,rfl⟩
 unfold RO TO ae
 simp only [go_sem]
 refine ab E [.bx [100] 0,.d (.agg [i64 t.k,.str t.s,i64 t.n,i64 t.pos]),.agg [.d (i64 n.k),.d (i64 n.a),.d (i64 n.b),.d (i64 n.c),.d (i64 n.n),.d (.str n.name),.d (.str n.s),.vw [103] 0 l.length,.d (i64 n.pos)]] (FO s1 l) [100,101,103] (c2) rfl rfl ⟨by simp only [go_sem],by first | (rw [aa];decide) | (simp only [go_sem]<;>(try rw [aa])<;>decide)⟩ rfl (by unfold FO RO TO ae;simp only [go_sem]) (by unfold FO RO TO;simp only [go_sem]) ?_
 rintro _ _ ⟨rfl,rfl⟩
 unfold FO RO TO ae
 simp only [go_sem]
 refine ⟨Nat.le_refl _,?_⟩
 refine ab E [.bx [100] 0,.d (i64 2)] (RO s2) [100,101] (co) rfl rfl ⟨by simp only [go_sem],by first | (rw [aa];decide) | (simp only [go_sem]<;>(try rw [aa])<;>decide)⟩ rfl (by unfold RO TO ae;simp only [go_sem]) (by unfold RO TO;simp only [go_sem]) ?_
 rintro _ _ ⟨rfl,rfl⟩
 unfold RO TO ae
 simp only [go_sem]
 refine ab E [.bx [100] 0,.d (i64 7),.d (.str bTo)] (RO so) [100,101] (c3) rfl rfl ⟨by simp only [go_sem],by first | (rw [aa];decide) | (simp only [go_sem]<;>(try rw [aa])<;>decide)⟩ rfl (by unfold RO TO ae;simp only [go_sem]) (by unfold RO TO;simp only [go_sem]) ?_
 rintro _ _ ⟨rfl,rfl⟩
 unfold RO TO ae
 simp only [go_sem]
 refine ⟨_,_,[100,101,102,103,105],id,⟨rfl,rfl⟩,?_⟩
 simp only [go_sem]
 all_goals rfl
end Go.Proofs.YtejpnabbmgpmaaaGreat

namespace Go.Proofs.YtejpnabbmgpmaaaGreat
open Go.Ab
def NQ (s:PS) (n:EN) (l:List EF) (ks:List (List EN)):List (Name × Ob):=([105],.box [.bx [100] 0])::([102],.box [.d (i64 n.k),.d (i64 n.a),.d (i64 n.b),.d (i64 n.c),.d (i64 n.n),.d (.str n.name),.d (.str n.s),.vw [106] 0 l.length,.d (i64 n.pos)])::([106],.arr (some 3) (l.map fD))::([107],.arr (some 1) (ks.map exD))::RO s
theorem wR {G} {N:Nat} {ex:PS→PR} {f:Nat} {part:PS→Tok→List EF→EF × PS} {b:List UInt8} (hex:∀ s,GP 1 s (ex s)) (hc:Reads 53 G N ex) (hp:A7 G f part) (hps:∀ s l,SS s (part s s.peek l).2)
  (s:PS) (n:EN) (hl:s.l.length≤100000) (hN:s.nest=N) :
  HCall Tryz.prog G 353 [.bx [100] 0,.bx [102] 0,.d (.str b),.clo f [.bx [105] 0,.bx [102] 0]] (NO s n []) [100,101,102,103,105]
   (fun r hp'=>r=.vw [107] 0 (aR ex b (fun s l=>part s s.peek l) s.l.length.succ s [] []).2.1.length∧hp'=NQ (aR ex b (fun s l=>part s s.peek l) s.l.length.succ s [] []).2.2 n (aR ex b (fun s l=>part s s.peek l) s.l.length.succ s [] []).1 (aR ex b (fun s l=>part s s.peek l) s.l.length.succ s [] []).2.1):=by
 generalize hR:aR ex b (fun s l=>part s s.peek l) s.l.length.succ s [] []=R
 unfold NO FO RO TO ae
 refine ar Tryz.func353 rfl (by decide +kernel) (by simp [Tryz.ntmps353]) (veil fun E=>?_)
 simp only [go_sem]
 refine vF E 9 98 (some 1) rfl (by rw [aa];decide) ?_
 simp only [go_sem]
 refine aA E (X:={ x:Nat × PS × List EF × List (List EN) // aR ex b (fun s l=>part s s.peek l) x.1 x.2.1 x.2.2.1 x.2.2.2=R∧(x.2.1.l.length<x.1∧x.2.2.1.length=x.2.2.2.length∧x.2.2.1.length+x.2.1.l.length≤s.l.length∧x.2.1.nest=N) })
  (fun x=>[(0,.bx [100] 0),(1,.bx [102] 0),(2,.d (.str b)),(3,.clo f [.bx [105] 0,.bx [102] 0]),(8,.d .nils),(9,.vw [98] 0 x.1.2.2.2.length)])
  (fun x=>[([105],.box [.bx [100] 0]),([102],.box [.d (i64 n.k),.d (i64 n.a),.d (i64 n.b),.d (i64 n.c),.d (i64 n.n),.d (.str n.name),.d (.str n.s),.vw [97] 0 x.1.2.2.1.length,.d (i64 n.pos)]),([97],.arr (some 3) (x.1.2.2.1.map fD)),([98],.arr (some 1) (x.1.2.2.2.map exD)),([100],.box [.bx [101] 0,.d (i64 x.1.2.1.err),.d (i64 x.1.2.1.pos),.d (i64 x.1.2.1.nest)]),([101],.box [.d (.sl (some 4) (x.1.2.1.l.map ck)),.d (i64 x.1.2.1.fin)])]) [97,98,100,101,102,103,105] (fun x=>x.1.2.1.l.length) ⟨(s.l.length.succ,s,[],[]),hR,Nat.lt_succ_self _,rfl,by simp,hN⟩ (tau [([97],[103])]) ?_ ?_
 ·simp only [go_sem]
  all_goals rfl
 rintro ⟨⟨m,q,l,ks⟩,hb,hm,hlk,hls,hqn⟩ E0
 refine aC E0 fun Q' hQ E'=>?_
 simp only at hb hm hlk hls hqn ⊢
 obtain ⟨m,rfl⟩:∃ k,m=k+1:=⟨m-1,by omega⟩
 rw [aR] at hb
 simp only [go_sem]
 have h1:=hp q q.peek n l (by omega) (by omega)
 have g1:=hps q l
 obtain ⟨fd,s1,e1⟩:∃ fd s1,part q q.peek l=(fd,s1):=⟨_,_,rfl⟩
 rw [e1] at h1 g1 hb
 simp only at h1 g1 hb
 rw [show fD fd=.agg [.str fd.nm,.str fd.var,i64 fd.to] from rfl] at h1
 have n1:=g1.len
 have h2:=hc s1 (by omega) (g1.nest.trans hqn)
 have g2:=hex s1
 obtain ⟨x1,s2,e2⟩:∃ x1 s2,ex s1=(x1,s2):=⟨_,_,rfl⟩
 rw [e2] at h2 g2 hb
 simp only at h2 hb
 have n2:=g2.ss.len
 have z2:=g2.ss.nest
 simp only at n2 z2
 have h3:=jN (G:=G) s2 b (by omega)
 unfold exD at h2
 refine ab E' [.bx [101] 0] (TO q.l q.fin) [101] (eA q.l q.fin (by omega)) rfl rfl ⟨by simp only [go_sem],by first | (rw [aa];decide) | (simp only [go_sem]<;>(try rw [aa])<;>decide)⟩ rfl (by unfold TO ae;simp only [go_sem]) (by unfold TO;simp only [go_sem]) ?_
 rintro _ _ ⟨rfl,rfl⟩
 unfold TO ae
 simp only [go_sem]
 refine aU E' (tau [([103],[97])]) [.d (.agg [i64 q.peek.k,.str q.peek.s,i64 q.peek.n,i64 q.peek.pos]),.bx [105] 0,.bx [102] 0] (NO q n l) [100,101,102,103,105] (h1) rfl (by simp only [go_sem];try rfl) ⟨by simp only [go_sem],by first | (rw [aa];decide) | (simp only [go_sem]<;>(try rw [aa])<;>decide)⟩ rfl (by unfold NO FO RO TO ae;simp only [go_sem]) (by unfold NO FO RO TO;simp only [go_sem]) ?_
 rintro _ _ ⟨rfl,rfl⟩
 unfold NO FO RO TO ae
 simp only [go_sem]
 refine ⟨Nat.le_refl _,?_⟩
 refine ab E' [.bx [100] 0] (RO s1) [100,101] (h2) rfl rfl ⟨by simp only [go_sem],by first | (rw [aa];decide) | (simp only [go_sem]<;>(try rw [aa])<;>decide)⟩ rfl (by unfold RO TO ae;simp only [go_sem]) (by unfold RO TO;simp only [go_sem]) ?_
 rintro _ _ ⟨rfl,rfl⟩
 unfold RO TO ae
 simp only [go_sem]
 refine ⟨by omega,?_⟩
 rw [show List.map exD ks++[.agg [.sl (some 9) (List.map enD x1)]]=(ks++[x1]).map exD by rw [List.map_append];rfl]
 refine ak mixed E' fun X=>?_
 simp only [go_sem]
 refine cz X (d:=27) [102] 0 none [.d (i64 n.k),.d (i64 n.a),.d (i64 n.b),.d (i64 n.c),.d (i64 n.n),.d (.str n.name),.d (.str n.s),.vw [97] 0 l.length,.d (i64 n.pos)] (by simp only [go_sem]) rfl rfl ?_
 simp only [go_sem]
 rw [show List.map fD l++[.agg [.str fd.nm,.str fd.var,i64 fd.to]]=(l++[fd]).map fD by rw [List.map_append];rfl]
 refine ⟨by omega,?_⟩
 refine cz X (d:=33) [102] 0 none [.d (i64 n.k),.d (i64 n.a),.d (i64 n.b),.d (i64 n.c),.d (i64 n.n),.d (.str n.name),.d (.str n.s),.vw [97] 0 l.length,.d (i64 n.pos)] (by simp only [go_sem]) rfl rfl ?_
 simp only [go_sem]
 refine ⟨by decide +kernel,?_⟩
 refine ab E' [.bx [100] 0,.d (.str b)] (RO s2) [100,101] (h3) rfl rfl ⟨by simp only [go_sem],by first | (rw [aa];decide) | (simp only [go_sem]<;>(try rw [aa])<;>decide)⟩ rfl (by unfold RO TO ae;simp only [go_sem]) (by unfold RO TO;simp only [go_sem]) ?_
 rintro _ _ ⟨rfl,rfl⟩
 unfold RO TO ae
 simp only [go_sem]
 refine aD E' (fun h=>?_) (fun h=>?_)<;>simp only [go_sem]
 ·have h':s2.sees 7 b=false:=by simpa using h
  rw [fM h',hQ]
  rw [if_neg (by rw [h'];decide)] at hb
  subst hb
  simp only [go_sem]
  refine ⟨_,_,[100,101,102,103,105,106,107],tau [([106],[32]),([107],[24])],⟨rfl,rfl⟩,?_⟩
  unfold NQ RO TO ae
  simp only [go_sem]
  simp only [List.length_append,List.length_singleton,and_self]
 ·have h':s2.sees 7 b=true:=by simpa using h
  have hsl:=az h'
  rw [dZ h',hQ]
  rw [if_pos h'] at hb
  simp only [go_sem]
  refine ⟨⟨(m,s2.next,l++[fd],ks++[x1]),hb,by show s2.next.l.length<m;omega,by simp [hlk],by show (l++[fd]).length+s2.next.l.length≤_;rw [List.length_append,List.length_singleton];omega,by show s2.next.nest=N;rw [← hqn,← g1.nest,← z2];rfl⟩,by show s2.next.l.length<q.l.length;omega,tau [([97],[32]),([98],[24])],?_,?_,?_,?_,?_⟩<;>simp only [go_sem]
  all_goals simp only [List.length_append,List.length_singleton,and_self]
end Go.Proofs.YtejpnabbmgpmaaaGreat

namespace Go.Proofs.YtejpnabbmgpmaaaGreat
open Go.Ab
theorem Dx {G} {N:Nat} {ex:PS→PR} (hex:∀ s,GP 1 s (ex s)) (hc:Reads 53 G N ex):rk 340 G N (ch ex):=by
 intro s p hl hN
 generalize hR:ch ex s p=R
 unfold ch at hR
 have h0:=jN (G:=G) s [125] (by omega)
 have hg:=dH hex [44] dB SS.field s.l.length.succ s [] [] rfl (fun _ h=>by cases h)
 have hp:=wR (G:=G) (b:=[44]) hex hc (DQ (G:=G)) (fun s l=>SS.field s l) s (nd0 11 p) hl hN
 rw [show (fun s l=>sE s s.peek l)=dB from rfl] at hp
 obtain ⟨F,hF⟩:∃ F,F=aR ex [44] dB s.l.length.succ s [] []:=⟨_,rfl⟩
 rw [← hF] at hg hp
 simp only [← hF] at hR
 obtain ⟨fl,ks,q⟩:=F
 simp only at hp hR
 have g1:=hg.sz
 have g2:=hg.ln
 have g3:=hg.ss.len
 have g4:=hg.eq
 simp only [aT,List.map_nil,List.sum_nil,List.length_nil] at g1 g2 g3 g4
 have hm:=fS (G:=G) q 7 [125] (by omega) (by decide)
 have h4:=sf (G:=G) { nd0 11 p with l:=fl } ks (by simp only;omega) (by omega) (by simp only [aT];omega)
  (fun l h=>(hg.tr l h).kids.2) (fun l h=>(hg.wd (s.l.length+1) (fun _ h=>by cases h) (by simp only;omega) l h).mono (by omega))
 unfold RO TO ae
 refine ar Tryz.func340 rfl (by decide +kernel) (by simp [Tryz.ntmps340]) (veil fun E=>?_)
 simp only [go_sem]
 refine ab E [.bx [100] 0,.d (.str [125])] (RO s) [100,101] (h0) rfl rfl ⟨by simp only [go_sem],by first | (rw [aa];decide) | (simp only [go_sem]<;>(try rw [aa])<;>decide)⟩ rfl (by unfold RO TO ae;simp only [go_sem]) (by unfold RO TO;simp only [go_sem]) ?_
 rintro _ _ ⟨rfl,rfl⟩
 unfold RO TO ae
 simp only [go_sem]
 refine aD E (fun h=>?_) (fun h=>?_)<;>simp only [go_sem]
 ·rw [if_pos h] at hR
  rw [dZ h]
  have hlf:=gy (G:=G) (nd0 11 p) rfl
  generalize bj (nd0 11 p)=L at hlf hR
  unfold exD at hlf
  refine ag E hlf rfl rfl (by simp) ?_
  rintro _ rfl
  simp only [go_sem]
  subst hR
  refine ⟨_,_,[100,101],id,⟨rfl,rfl⟩,?_⟩
  simp only [go_sem]
  rfl
 ·rw [if_neg (by rw [h];decide)] at hR
  rw [fM h]
  refine wL E [5] 7 98 (some 3) [.d (i64 11),.d (i64 0),.d (i64 0),.d (i64 0),.d (i64 0),.d (.str []),.d (.str []),.d .nils,.d (i64 p)] rfl rfl (by rw [aa];decide) rfl ?_
  simp only [go_sem]
  refine aU E (tau [([105],[2]),([102],[5]),([103],[98])]) [.bx [100] 0,.bx [102] 0,.d (.str [44]),.clo 354 [.bx [105] 0,.bx [102] 0]] (NO s (nd0 11 p) []) [100,101,102,103,105] (hp) rfl (by simp only [go_sem];try rfl) ⟨by simp only [go_sem],by first | (rw [aa];decide) | (simp only [go_sem]<;>(try rw [aa])<;>decide)⟩ rfl (by unfold NO FO RO TO ae;simp only [go_sem];try rfl) (by unfold NO FO RO TO;simp only [go_sem]) ?_
  rintro _ _ ⟨rfl,rfl⟩
  unfold NQ NO FO RO TO ae nd0
  simp only [go_sem]
  refine ab E [.bx [100] 0,.d (i64 7),.d (.str [125])] (RO q) [100,101] (hm) rfl rfl ⟨by simp only [go_sem],by first | (rw [aa];decide) | (simp only [go_sem]<;>(try rw [aa])<;>decide)⟩ rfl (by unfold RO TO ae;simp only [go_sem]) (by unfold RO TO;simp only [go_sem]) ?_
  rintro _ _ ⟨rfl,rfl⟩
  unfold RO TO ae
  simp only [go_sem]
  refine cL E [15,107] (some 1) (ks.map exD) rfl (by simp only [go_sem];rfl) ?_
  simp only [go_sem]
  refine cL E [15,106] (some 3) (fl.map fD) rfl (by simp only [go_sem];rfl) ?_
  simp only [go_sem]
  generalize av { nd0 11 p with l:=fl } ks=J at h4 hR
  unfold exD at h4
  refine ag E h4 rfl rfl (by simp) ?_
  rintro _ rfl
  simp only [go_sem]
  subst hR
  refine ⟨_,_,[100,101],id,⟨rfl,rfl⟩,?_⟩
  simp only [go_sem]
  rfl
theorem EU {G} {N:Nat} {ex:PS→PR} (hex:∀ s,GP 1 s (ex s)) (hc:Reads 53 G N ex):rk 341 G N (e9 ex):=by
 intro s p hl hN
 generalize hR:e9 ex s p=R
 unfold e9 at hR
 have ce:=hc s hl hN
 have he:=hex s
 obtain ⟨e,s0,e0⟩:∃ e s0,ex s=(e,s0):=⟨_,_,rfl⟩
 rw [e0] at ce he hR
 simp only at ce hR
 have le:=he.ss.len
 have ne:=he.ss.nest
 have ze:=he.sz
 simp only at le ne ze
 have cm:=fS (G:=G) s0 1 bOf (by omega) (by decide)
 have hm:=SS.must s0 1 bOf
 generalize s0.must 1 bOf=s1 at cm hm hR
 have lm:=hm.len
 have nm:=hm.nest
 have hg:=dH hex [124] bM SS.branch s1.l.length.succ s1 [] [] rfl (fun _ h=>by cases h)
 have hp:=wR (G:=G) (b:=[124]) hex hc (EP (G:=G)) (fun s l=>SS.branch s l) s1 (nd0 14 p) (by omega) (by rw [nm,ne,hN])
 rw [show (fun s l=>nq s s.peek l)=bM from rfl] at hp
 obtain ⟨F,hF⟩:∃ F,F=aR ex [124] bM s1.l.length.succ s1 [] []:=⟨_,rfl⟩
 rw [← hF] at hg hp
 simp only [← hF] at hR
 obtain ⟨fl,ks,q⟩:=F
 simp only at hp hR
 have g1:=hg.sz
 have g2:=hg.ln
 have g3:=hg.ss.len
 have g4:=hg.eq
 simp only [aT,List.map_nil,List.sum_nil,List.length_nil] at g1 g2 g3 g4
 have cx:=fS (G:=G) q 1 vj (by omega) (by decide)
 have h4:=sf (G:=G) { nd0 14 p with l:=fl } (e::ks) (by simp only;omega) (by rw [List.length_cons];omega) (by simp only [aT,List.map_cons,List.sum_cons];omega)
  (fun l h=>by
   rcases List.mem_cons.1 h with rfl | h
   ·exact he.tr.kids.2
   ·exact (hg.tr l h).kids.2)
  (fun l h=>by
   rcases List.mem_cons.1 h with rfl | h
   ·exact he.wd.mono (by omega)
   ·exact (hg.wd (s1.l.length+1) (fun _ h=>by cases h) (by simp only;omega) l h).mono (by omega))
 unfold exD at ce
 unfold RO TO ae
 refine ar Tryz.func341 rfl (by decide +kernel) (by simp [Tryz.ntmps341]) (veil fun E=>?_)
 simp only [go_sem]
 refine ab E [.bx [100] 0] (RO s) [100,101] (ce) rfl rfl ⟨by simp only [go_sem],by first | (rw [aa];decide) | (simp only [go_sem]<;>(try rw [aa])<;>decide)⟩ rfl (by unfold RO TO ae;simp only [go_sem]) (by unfold RO TO;simp only [go_sem]) ?_
 rintro _ _ ⟨rfl,rfl⟩
 unfold RO TO ae
 simp only [go_sem]
 refine ab E [.bx [100] 0,.d (i64 1),.d (.str bOf)] (RO s0) [100,101] (cm) rfl rfl ⟨by simp only [go_sem],by first | (rw [aa];decide) | (simp only [go_sem]<;>(try rw [aa])<;>decide)⟩ rfl (by unfold RO TO ae;simp only [go_sem]) (by unfold RO TO;simp only [go_sem]) ?_
 rintro _ _ ⟨rfl,rfl⟩
 unfold RO TO ae
 simp only [go_sem]
 refine wL E [5] 7 98 (some 3) [.d (i64 14),.d (i64 0),.d (i64 0),.d (i64 0),.d (i64 0),.d (.str []),.d (.str []),.d .nils,.d (i64 p)] rfl rfl (by rw [aa];decide) rfl ?_
 simp only [go_sem]
 refine aU E (tau [([105],[2]),([102],[5]),([103],[98])]) [.bx [100] 0,.bx [102] 0,.d (.str [124]),.clo 356 [.bx [105] 0,.bx [102] 0]] (NO s1 (nd0 14 p) []) [100,101,102,103,105] (hp) rfl (by simp only [go_sem];try rfl) ⟨by simp only [go_sem],by first | (rw [aa];decide) | (simp only [go_sem]<;>(try rw [aa])<;>decide)⟩ rfl (by unfold NO FO RO TO ae;simp only [go_sem];try rfl) (by unfold NO FO RO TO;simp only [go_sem]) ?_
 rintro _ _ ⟨rfl,rfl⟩
 unfold NQ NO FO RO TO ae nd0
 simp only [go_sem]
 refine ab E [.bx [100] 0,.d (i64 1),.d (.str vj)] (RO q) [100,101] (cx) rfl rfl ⟨by simp only [go_sem],by first | (rw [aa];decide) | (simp only [go_sem]<;>(try rw [aa])<;>decide)⟩ rfl (by unfold RO TO ae;simp only [go_sem]) (by unfold RO TO;simp only [go_sem]) ?_
 rintro _ _ ⟨rfl,rfl⟩
 unfold RO TO ae
 simp only [go_sem]
 refine ju E [16,107] (some 1) (ks.map exD) rfl ?_
 simp only [go_sem]
 refine ju E [16,106] (some 3) (fl.map fD) rfl ?_
 simp only [go_sem]
 refine ak mixed E fun X=>?_
 simp only [go_sem]
 refine ⟨by omega,?_⟩
 generalize av { nd0 14 p with l:=fl } (e::ks)=J at h4 hR
 unfold exD at h4
 refine bw X 23 [23] (some 1) (.agg [.sl (some 9) (e.map enD)]::ks.map exD) h4 (fun _=>rfl) rfl rfl rfl (by simp) (by rw [List.drop_zero,List.take_of_length_le (by simp;omega)];rfl) (by simp only [go_sem]) ?_
 simp only [go_sem]
 refine ⟨by decide +kernel,?_⟩
 subst hR
 refine ⟨_,_,[100,101],id,⟨rfl,rfl⟩,?_⟩
 simp only [go_sem]
 rfl
end Go.Proofs.YtejpnabbmgpmaaaGreat

namespace Go.Proofs.YtejpnabbmgpmaaaGreat
open Go.Ab
theorem FG {G} {N:Nat} {ex:PS→PR} (hex:∀ s,GP 1 s (ex s)) (hc:Reads 53 G N ex):Reads 329 G N (cU ex):=by
 intro s hl hN
 generalize hR:cU ex s=R
 unfold cU at hR
 rw [jL] at hR
 have hpk:=eA (G:=G) s.l s.fin (by omega)
 generalize bu s.l s.fin=t at hpk hR
 simp only at hR
 have hnx:s.next.nest=N:=hN
 have hnl:s.next.l.length≤100000:=by have:=(SS.next s).len;omega
 have c1:=kf (G:=G) s eY (by omega)
 have c2:=kf (G:=G) s cX (by omega)
 have c3:=jN (G:=G) s [40] (by omega)
 have c4:=jN (G:=G) s [123] (by omega)
 have c5:=kf (G:=G) s fg (by omega)
 have cr:=Dx (G:=G) hex hc s.next t.pos hnl hnx
 have cc:=EU (G:=G) hex hc s.next t.pos hnl hnx
 have ce:=hc s.next hnl hnx
 have he:=hex s.next
 generalize ch ex s.next t.pos=R1 at hR cr
 generalize e9 ex s.next t.pos=R2 at hR cc
 obtain ⟨e0,s0,h0⟩:∃ e0 s0,ex s.next=(e0,s0):=⟨_,_,rfl⟩
 rw [h0] at ce hR he
 have ln:=he.ss.len
 simp only at hR ce ln
 have cm:=fS (G:=G) s0 7 [41] (by omega) (by decide)
 unfold exD at cr cc ce
 unfold RO TO ae
 refine ar Tryz.func329 rfl (by decide +kernel) (by simp [Tryz.ntmps329]) (veil fun E=>?_)
 simp only [go_sem]
 refine ab E [.bx [101] 0] (TO s.l s.fin) [101] (hpk) rfl rfl ⟨by simp only [go_sem],by first | (rw [aa];decide) | (simp only [go_sem]<;>(try rw [aa])<;>decide)⟩ rfl (by unfold TO ae;simp only [go_sem]) (by unfold TO;simp only [go_sem]) ?_
 rintro _ _ ⟨rfl,rfl⟩
 unfold TO ae
 simp only [go_sem]
 refine ab E [.bx [100] 0] (RO s) [100,101] (fW s) rfl rfl ⟨by simp only [go_sem],by first | (rw [aa];decide) | (simp only [go_sem]<;>(try rw [aa])<;>decide)⟩ rfl (by unfold RO TO ae;simp only [go_sem]) (by unfold RO TO;simp only [go_sem]) ?_
 rintro _ _ ⟨rfl,rfl⟩
 unfold RO TO ae
 simp only [go_sem]
 refine aD E (fun h=>?_) (fun h=>?_)<;>simp only [go_sem]
 ·rw [if_pos (by simpa using h)] at hR
  refine ab E [.bx [100] 0] (RO s) [100,101] (nH s (by omega)) rfl rfl ⟨by simp only [go_sem],by first | (rw [aa];decide) | (simp only [go_sem]<;>(try rw [aa])<;>decide)⟩ rfl (by unfold RO TO ae;simp only [go_sem]) (by unfold RO TO;simp only [go_sem]) ?_
  rintro _ _ ⟨rfl,rfl⟩
  unfold RO TO ae
  simp only [go_sem]
  have hlf:=gy (G:=G) (nd0 1 0) rfl
  unfold noE at hR
  generalize bj (nd0 1 0)=L at hlf hR
  unfold exD at hlf
  refine ag E hlf rfl rfl (by simp) ?_
  rintro _ rfl
  simp only [go_sem]
  subst hR
  refine ⟨_,_,[100,101],id,⟨rfl,rfl⟩,?_⟩
  simp only [go_sem]
  all_goals first | rfl | exact ⟨rfl,rfl,rfl⟩
 rw [if_neg (by simpa using h)] at hR
 refine ah E (fun h=>?_) (fun h=>?_)<;>simp only [go_sem]
 ·rw [if_pos h] at hR
  refine ab E [.bx [101] 0] (TO s.l s.fin) [101] (jH s.l s.fin (by omega)) rfl rfl ⟨by simp only [go_sem],by first | (rw [aa];decide) | (simp only [go_sem]<;>(try rw [aa])<;>decide)⟩ rfl (by unfold TO ae;simp only [go_sem]) (by unfold TO;simp only [go_sem]) ?_
  rintro _ _ ⟨rfl,rfl⟩
  unfold TO ae
  simp only [go_sem]
  have hlf:=gy (G:=G) ({ nd0 1 t.pos with n:=t.n }) rfl
  generalize bj ({ nd0 1 t.pos with n:=t.n })=L at hlf hR
  unfold exD at hlf
  refine ag E hlf rfl rfl (by simp) ?_
  rintro _ rfl
  simp only [go_sem]
  subst hR
  refine ⟨_,_,[100,101],id,⟨rfl,rfl⟩,?_⟩
  simp only [go_sem]
  all_goals first | rfl | exact ⟨rfl,rfl,rfl⟩
 rw [if_neg h] at hR
 refine ah E (fun h=>?_) (fun h=>?_)<;>simp only [go_sem]
 ·rw [if_pos h] at hR
  refine ab E [.bx [101] 0] (TO s.l s.fin) [101] (jH s.l s.fin (by omega)) rfl rfl ⟨by simp only [go_sem],by first | (rw [aa];decide) | (simp only [go_sem]<;>(try rw [aa])<;>decide)⟩ rfl (by unfold TO ae;simp only [go_sem]) (by unfold TO;simp only [go_sem]) ?_
  rintro _ _ ⟨rfl,rfl⟩
  unfold TO ae
  simp only [go_sem]
  have hlf:=gy (G:=G) ({ nd0 3 t.pos with s:=t.s }) rfl
  generalize bj ({ nd0 3 t.pos with s:=t.s })=L at hlf hR
  unfold exD at hlf
  refine ag E hlf rfl rfl (by simp) ?_
  rintro _ rfl
  simp only [go_sem]
  subst hR
  refine ⟨_,_,[100,101],id,⟨rfl,rfl⟩,?_⟩
  simp only [go_sem]
  all_goals first | rfl | exact ⟨rfl,rfl,rfl⟩
 rw [if_neg h] at hR
 refine ah E (fun h=>?_) (fun h=>?_)<;>simp only [go_sem]
 ·rw [if_pos h] at hR
  refine ab E [.bx [101] 0] (TO s.l s.fin) [101] (jH s.l s.fin (by omega)) rfl rfl ⟨by simp only [go_sem],by first | (rw [aa];decide) | (simp only [go_sem]<;>(try rw [aa])<;>decide)⟩ rfl (by unfold TO ae;simp only [go_sem]) (by unfold TO;simp only [go_sem]) ?_
  rintro _ _ ⟨rfl,rfl⟩
  unfold TO ae
  simp only [go_sem]
  have hlf:=gy (G:=G) ({ nd0 4 t.pos with name:=t.s }) rfl
  generalize bj ({ nd0 4 t.pos with name:=t.s })=L at hlf hR
  unfold exD at hlf
  refine ag E hlf rfl rfl (by simp) ?_
  rintro _ rfl
  simp only [go_sem]
  subst hR
  refine ⟨_,_,[100,101],id,⟨rfl,rfl⟩,?_⟩
  simp only [go_sem]
  all_goals first | rfl | exact ⟨rfl,rfl,rfl⟩
 rw [if_neg h] at hR
 refine ab E [.bx [100] 0,.d (.str eY)] (RO s) [100,101] (c1) rfl rfl ⟨by simp only [go_sem],by first | (rw [aa];decide) | (simp only [go_sem]<;>(try rw [aa])<;>decide)⟩ rfl (by unfold RO TO ae;simp only [go_sem]) (by unfold RO TO;simp only [go_sem]) ?_
 rintro _ _ ⟨rfl,rfl⟩
 unfold RO TO ae
 simp only [go_sem]
 refine aD E (fun h=>?_) (fun h=>?_)<;>simp only [go_sem]
 ·rw [if_pos h] at hR
  rw [dZ h]
  have hlf:=gy (G:=G) ({ nd0 2 t.pos with n:=1 }) rfl
  generalize bj ({ nd0 2 t.pos with n:=1 })=L at hlf hR
  unfold exD at hlf
  refine ag E hlf rfl rfl (by simp) ?_
  rintro _ rfl
  simp only [go_sem]
  subst hR
  refine ⟨_,_,[100,101],id,⟨rfl,rfl⟩,?_⟩
  simp only [go_sem]
  all_goals first | rfl | exact ⟨rfl,rfl,rfl⟩
 rw [if_neg (by rw [h];decide)] at hR
 rw [fM h]
 refine ab E [.bx [100] 0,.d (.str cX)] (RO s) [100,101] (c2) rfl rfl ⟨by simp only [go_sem],by first | (rw [aa];decide) | (simp only [go_sem]<;>(try rw [aa])<;>decide)⟩ rfl (by unfold RO TO ae;simp only [go_sem]) (by unfold RO TO;simp only [go_sem]) ?_
 rintro _ _ ⟨rfl,rfl⟩
 unfold RO TO ae
 simp only [go_sem]
 refine aD E (fun h=>?_) (fun h=>?_)<;>simp only [go_sem]
 ·rw [if_pos h] at hR
  rw [dZ h]
  have hlf:=gy (G:=G) (nd0 2 t.pos) rfl
  generalize bj (nd0 2 t.pos)=L at hlf hR
  unfold exD at hlf
  refine ag E hlf rfl rfl (by simp) ?_
  rintro _ rfl
  simp only [go_sem]
  subst hR
  refine ⟨_,_,[100,101],id,⟨rfl,rfl⟩,?_⟩
  simp only [go_sem]
  all_goals first | rfl | exact ⟨rfl,rfl,rfl⟩
 rw [if_neg (by rw [h];decide)] at hR
 rw [fM h]
 refine ab E [.bx [100] 0,.d (.str [40])] (RO s) [100,101] (c3) rfl rfl ⟨by simp only [go_sem],by first | (rw [aa];decide) | (simp only [go_sem]<;>(try rw [aa])<;>decide)⟩ rfl (by unfold RO TO ae;simp only [go_sem]) (by unfold RO TO;simp only [go_sem]) ?_
 rintro _ _ ⟨rfl,rfl⟩
 unfold RO TO ae
 simp only [go_sem]
 refine aD E (fun h=>?_) (fun h=>?_)<;>simp only [go_sem]
 ·rw [if_pos h] at hR
  rw [dZ h]
  refine ab E [.bx [100] 0] (RO s.next) [100,101] (ce) rfl rfl ⟨by simp only [go_sem],by first | (rw [aa];decide) | (simp only [go_sem]<;>(try rw [aa])<;>decide)⟩ rfl (by unfold RO TO ae;simp only [go_sem]) (by unfold RO TO;simp only [go_sem]) ?_
  rintro _ _ ⟨rfl,rfl⟩
  unfold RO TO ae
  simp only [go_sem]
  refine ab E [.bx [100] 0,.d (i64 7),.d (.str [41])] (RO s0) [100,101] (cm) rfl rfl ⟨by simp only [go_sem],by first | (rw [aa];decide) | (simp only [go_sem]<;>(try rw [aa])<;>decide)⟩ rfl (by unfold RO TO ae;simp only [go_sem]) (by unfold RO TO;simp only [go_sem]) ?_
  rintro _ _ ⟨rfl,rfl⟩
  unfold RO TO ae
  simp only [go_sem]
  subst hR
  refine ⟨_,_,[100,101],id,⟨rfl,rfl⟩,?_⟩
  simp only [go_sem]
  all_goals rfl
 rw [if_neg (by rw [h];decide)] at hR
 rw [fM h]
 refine ab E [.bx [100] 0,.d (.str [123])] (RO s) [100,101] (c4) rfl rfl ⟨by simp only [go_sem],by first | (rw [aa];decide) | (simp only [go_sem]<;>(try rw [aa])<;>decide)⟩ rfl (by unfold RO TO ae;simp only [go_sem]) (by unfold RO TO;simp only [go_sem]) ?_
 rintro _ _ ⟨rfl,rfl⟩
 unfold RO TO ae
 simp only [go_sem]
 refine aD E (fun h=>?_) (fun h=>?_)<;>simp only [go_sem]
 ·rw [if_pos h] at hR
  rw [dZ h]
  refine ab E [.bx [100] 0,.d (i64 t.pos)] (RO s.next) [100,101] (cr) rfl rfl ⟨by simp only [go_sem],by first | (rw [aa];decide) | (simp only [go_sem]<;>(try rw [aa])<;>decide)⟩ rfl (by unfold RO TO ae;simp only [go_sem]) (by unfold RO TO;simp only [go_sem]) ?_
  rintro _ _ ⟨rfl,rfl⟩
  unfold RO TO ae
  simp only [go_sem]
  subst hR
  refine ⟨_,_,[100,101],id,⟨rfl,rfl⟩,?_⟩
  simp only [go_sem]
  all_goals rfl
 rw [if_neg (by rw [h];decide)] at hR
 rw [fM h]
 refine ab E [.bx [100] 0,.d (.str fg)] (RO s) [100,101] (c5) rfl rfl ⟨by simp only [go_sem],by first | (rw [aa];decide) | (simp only [go_sem]<;>(try rw [aa])<;>decide)⟩ rfl (by unfold RO TO ae;simp only [go_sem]) (by unfold RO TO;simp only [go_sem]) ?_
 rintro _ _ ⟨rfl,rfl⟩
 unfold RO TO ae
 simp only [go_sem]
 refine aD E (fun h=>?_) (fun h=>?_)<;>simp only [go_sem]
 ·rw [if_pos h] at hR
  rw [dZ h]
  refine ab E [.bx [100] 0,.d (i64 t.pos)] (RO s.next) [100,101] (cc) rfl rfl ⟨by simp only [go_sem],by first | (rw [aa];decide) | (simp only [go_sem]<;>(try rw [aa])<;>decide)⟩ rfl (by unfold RO TO ae;simp only [go_sem]) (by unfold RO TO;simp only [go_sem]) ?_
  rintro _ _ ⟨rfl,rfl⟩
  unfold RO TO ae
  simp only [go_sem]
  subst hR
  refine ⟨_,_,[100,101],id,⟨rfl,rfl⟩,?_⟩
  simp only [go_sem]
  all_goals rfl
 rw [if_neg (by rw [h];decide)] at hR
 rw [fM h]
 refine ab E [.bx [100] 0] (RO s) [100,101] (nH s (by omega)) rfl rfl ⟨by simp only [go_sem],by first | (rw [aa];decide) | (simp only [go_sem]<;>(try rw [aa])<;>decide)⟩ rfl (by unfold RO TO ae;simp only [go_sem]) (by unfold RO TO;simp only [go_sem]) ?_
 rintro _ _ ⟨rfl,rfl⟩
 unfold RO TO ae
 simp only [go_sem]
 have hlf:=gy (G:=G) (nd0 1 0) rfl
 unfold noE at hR
 generalize bj (nd0 1 0)=L at hlf hR
 unfold exD at hlf
 refine ag E hlf rfl rfl (by simp) ?_
 rintro _ rfl
 simp only [go_sem]
 subst hR
 refine ⟨_,_,[100,101],id,⟨rfl,rfl⟩,?_⟩
 simp only [go_sem]
 all_goals first | rfl | exact ⟨rfl,rfl,rfl⟩
end Go.Proofs.YtejpnabbmgpmaaaGreat

namespace Go.Proofs.YtejpnabbmgpmaaaGreat
open Go.Ab
theorem tJ (s:PS) (e p:Int) (he:e≠0):(s.fail e p).err≠0:=by
 unfold PS.fail
 split
 ·exact he
 ·assumption
theorem Ae {G}:Reads 53 G 100 (er 0):=by
 intro s hl hN
 generalize hR:er 0 s=R
 unfold er at hR
 rw [jL] at hR
 have hpk:=eA (G:=G) s.l s.fin (by omega)
 generalize bu s.l s.fin=t at hpk hR
 have hf:=nZ (G:=G) s 6 t.pos
 have hne:=tJ s 6 t.pos (by decide)
 generalize s.fail 6 t.pos=s2 at hf hne hR
 unfold noE at hR
 have hlf:=gy (G:=G) (nd0 1 0) rfl
 generalize bj (nd0 1 0)=L at hlf hR
 subst hR
 unfold exD at hlf
 unfold RO TO ae
 refine wI Tryz.func53 rfl (by decide +kernel) (by simp [Tryz.ntmps53]) fun B0 hB0=>?_
 refine aB (aq fun E=>?_)
 simp only [go_sem]
 refine aB (aq fun E=>?_)
 simp only [go_sem]
 refine ab E [.bx [101] 0] (TO s.l s.fin) [101] (hpk) rfl rfl ⟨by simp only [go_sem],by first | (rw [aa];decide) | (simp only [go_sem]<;>(try rw [aa])<;>decide)⟩ rfl (by unfold TO ae;simp only [go_sem]) (by unfold TO;simp only [go_sem]) ?_
 rintro _ _ ⟨rfl,rfl⟩
 unfold TO ae
 simp only [go_sem]
 refine aB (aq fun E=>?_)
 simp only [go_sem]
 refine ah E (fun h=>?_) (fun h=>absurd (by omega) h)<;>simp only [go_sem]
 refine ab E [.bx [100] 0,.d (i64 6),.d (i64 t.pos)] (RO s) [100,101] (hf) rfl rfl ⟨by simp only [go_sem],by first | (rw [aa];decide) | (simp only [go_sem]<;>(try rw [aa])<;>decide)⟩ rfl (by unfold RO TO ae;simp only [go_sem]) (by unfold RO TO;simp only [go_sem]) ?_
 rintro _ _ ⟨rfl,rfl⟩
 unfold RO TO ae
 simp only [go_sem]
 refine aB (aq fun E=>?_)
 simp only [go_sem]
 refine ab E [.bx [100] 0] (RO s2) [100,101] (fW s2) rfl rfl ⟨by simp only [go_sem],by first | (rw [aa];decide) | (simp only [go_sem]<;>(try rw [aa])<;>decide)⟩ rfl (by unfold RO TO ae;simp only [go_sem]) (by unfold RO TO;simp only [go_sem]) ?_
 rintro _ _ ⟨rfl,rfl⟩
 unfold RO TO ae
 simp only [go_sem]
 refine aD E (fun g=>?_) (fun g=>absurd (by simpa using g) hne)<;>simp only [go_sem]
 refine ag E hlf rfl rfl (by simp) ?_
 rintro _ rfl
 simp only [go_sem]
 refine xA (.inl rfl) hB0 ?_
 simp only [go_sem]
 refine ⟨_,_,[100,101],id,⟨rfl,rfl⟩,?_⟩
 simp only [go_sem]
 rfl
def Dn (ex:PS→PR) (s:PS):PR:=if s.err≠0 then (noE,s) else
 let r:=kS ex { s with nest:=s.nest+1 }
 (r.1,{ r.2 with nest:=s.nest })
set_option maxHeartbeats 1000000 in
theorem Df {G} {N:Nat} {ex:PS→PR} (hN0:N<100) (hex:∀ s,GP 1 s (ex s)) (hc:Reads 53 G (N+1) ex):Reads 53 G N (Dn ex):=by
 intro s hl hN
 generalize hR:Dn ex s=R
 unfold Dn kS at hR
 have hp1:({ s with nest:=s.nest+1 }:PS).peek=bu s.l s.fin:=rfl
 obtain ⟨s1,hs1⟩:∃ s1:PS,s1={ s with nest:=s.nest+1 }:=⟨_,rfl⟩
 rw [← hs1] at hp1
 simp only [← hs1,hp1] at hR
 have hpk:=eA (G:=G) s.l s.fin (by omega)
 generalize bu s.l s.fin=t at hpk hR
 have l1:s1.l.length≤100000:=by rw [hs1];exact hl
 have n1:s1.nest=N+1:=by rw [hs1];show s.nest+1=_;rw [hN]
 have hlf:=gy (G:=G) (nd0 1 0) rfl
 unfold noE at hR
 generalize bj (nd0 1 0)=L at hlf hR
 have c1:=kf (G:=G) s1 zu (by omega)
 have c2:=kf (G:=G) s1 zl (by omega)
 have c3:=kf (G:=G) s1 bIf (by omega)
 have nn:=(SS.next s1).nest
 have ln:=(SS.next s1).len
 have c4:=G5 (G:=G) hex hc s1.next t.pos (by omega) (nn.trans n1)
 have c5:=Hp (G:=G) hex hc s1.next t.pos (by omega) (nn.trans n1)
 have c6:=FZ (G:=G) hex (FC hex (FN hex (Fo hex (DL hex (FG hex hc))))) s1 l1 n1
 have g4:=(oh hex s1.next t.pos).ss.nest
 have g5:=(re hex s1.next t.pos).ss.nest
 have g6:=(sM hex s1).ss.nest
 generalize kW ex s1.next t.pos=R4 at c4 g4 hR
 generalize ifS ex s1.next t.pos=R5 at c5 g5 hR
 generalize pP ex s1=R6 at c6 g6 hR
 have c7:=mB (G:=G) s1.next 2 (by omega)
 have g7:=SS.of s1.next 2
 obtain ⟨nm,s2,e2⟩:∃ nm s2,s1.next.of 2=(nm,s2):=⟨_,_,rfl⟩
 rw [e2] at c7 g7
 simp only [e2] at hR
 simp only at c7 g7
 have l2:=g7.len
 have n2:=g7.nest
 have c8:=fS (G:=G) s2 7 bTo (by omega) (by decide)
 have g8:=SS.must s2 7 bTo
 generalize s2.must 7 bTo=s3 at c8 g8 hR
 have l3:=g8.len
 have n3:=g8.nest
 have c9:=hc s3 (by omega) (by rw [n3,n2,nn,n1])
 have g9:=hex s3
 obtain ⟨b,s4,e4⟩:∃ b s4,ex s3=(b,s4):=⟨_,_,rfl⟩
 rw [e4] at c9 g9
 simp only [e4] at hR
 have n4:=g9.ss.nest
 have z4:=g9.sz
 simp only at n4 z4
 have h4:=j3 (G:=G) { nd0 5 t.pos with name:=nm } [b] rfl (by simp) (by simp only [aT,List.map_cons,List.map_nil,List.sum_cons,List.sum_nil];omega)
  (fun l h=>by rw [List.mem_singleton.1 h];exact g9.tr.kids.2)
  (fun l h=>by rw [List.mem_singleton.1 h];exact g9.wd.mono (by omega))
 generalize av { nd0 5 t.pos with name:=nm } [b]=J at h4 hR
 unfold exD at hlf c4 c5 c6 c9 h4
 unfold RO TO ae
 refine wI Tryz.func53 rfl (by decide +kernel) (by simp [Tryz.ntmps53]) fun B0 hB0=>?_
 refine aB (aq fun E=>?_)
 simp only [go_sem]
 refine aB (aq fun E=>?_)
 simp only [go_sem]
 refine ab E [.bx [101] 0] (TO s.l s.fin) [101] (hpk) rfl rfl ⟨by simp only [go_sem],by first | (rw [aa];decide) | (simp only [go_sem]<;>(try rw [aa])<;>decide)⟩ rfl (by unfold TO ae;simp only [go_sem]) (by unfold TO;simp only [go_sem]) ?_
 rintro _ _ ⟨rfl,rfl⟩
 unfold TO ae
 simp only [go_sem]
 refine aB (aq fun E=>?_)
 simp only [go_sem]
 refine ah E (fun h=>absurd h (by omega)) (fun h=>?_)<;>simp only [go_sem]
 refine aB (aq fun E=>?_)
 simp only [go_sem]
 refine ab E [.bx [100] 0] (RO s) [100,101] (fW s) rfl rfl ⟨by simp only [go_sem],by first | (rw [aa];decide) | (simp only [go_sem]<;>(try rw [aa])<;>decide)⟩ rfl (by unfold RO TO ae;simp only [go_sem]) (by unfold RO TO;simp only [go_sem]) ?_
 rintro _ _ ⟨rfl,rfl⟩
 unfold RO TO ae
 simp only [go_sem]
 refine aD E (fun g=>?_) (fun g=>?_)<;>simp only [go_sem]
 ·rw [if_pos (by simpa using g)] at hR
  refine ag E hlf rfl rfl (by simp) ?_
  rintro _ rfl
  simp only [go_sem]
  subst hR
  refine xA (.inl rfl) hB0 ?_
  simp only [go_sem]
  refine ⟨_,_,[100,101],id,⟨rfl,rfl⟩,?_⟩
  simp only [go_sem]
  all_goals first | rfl | exact ⟨rfl,rfl⟩ | exact ⟨rfl,rfl,rfl⟩
 rw [if_neg (by simpa using g)] at hR
 refine aB (aq fun E=>?_)
 simp only [go_sem]
 rw [ai (n:=(s.nest:Int)+1) ⟨by omega,by omega⟩]
 rw [show s.err=s1.err by rw [hs1],show s.pos=s1.pos by rw [hs1],show s.l=s1.l by rw [hs1],show s.fin=s1.fin by rw [hs1],show (s.nest:Int)+1=(s1.nest:Int) by rw [n1,← hN];rfl]
 refine aB (nK ?_)
 refine tN rfl ?_
 simp only [go_sem]
 refine FP [[1]] rfl rfl (by intro p hp;rw [List.mem_singleton.1 hp];exact ⟨_,rfl⟩) ?_
 refine zO ?_
 refine aB (aq fun E=>?_)
 simp only [go_sem]
 refine ab E [.bx [100] 0,.d (.str zu)] (RO s1) [100,101] (c1) rfl rfl ⟨by simp only [go_sem],by first | (rw [aa];decide) | (simp only [go_sem]<;>(try rw [aa])<;>decide)⟩ rfl (by unfold RO TO ae;simp only [go_sem]) (by unfold RO TO;simp only [go_sem]) ?_
 rintro _ _ ⟨rfl,rfl⟩
 unfold RO TO ae
 simp only [go_sem]
 refine aD E (fun h=>?_) (fun h=>?_)<;>simp only [go_sem]
 ·rw [if_pos h] at hR
  rw [dZ h]
  refine ab E [.bx [100] 0,.d (i64 2)] (RO s1.next) [100,101] (c7) rfl rfl ⟨by simp only [go_sem],by first | (rw [aa];decide) | (simp only [go_sem]<;>(try rw [aa])<;>decide)⟩ rfl (by unfold RO TO ae;simp only [go_sem]) (by unfold RO TO;simp only [go_sem]) ?_
  rintro _ _ ⟨rfl,rfl⟩
  unfold RO TO ae
  simp only [go_sem]
  refine ab E [.bx [100] 0,.d (i64 7),.d (.str bTo)] (RO s2) [100,101] (c8) rfl rfl ⟨by simp only [go_sem],by first | (rw [aa];decide) | (simp only [go_sem]<;>(try rw [aa])<;>decide)⟩ rfl (by unfold RO TO ae;simp only [go_sem]) (by unfold RO TO;simp only [go_sem]) ?_
  rintro _ _ ⟨rfl,rfl⟩
  unfold RO TO ae
  simp only [go_sem]
  refine ak mixed E fun X=>?_
  simp only [go_sem]
  refine aZ X [.bx [100] 0] (RO s3) [100,101] _ _ c9 rfl rfl ⟨by simp only [go_sem],by rw [aa];decide⟩ rfl (by unfold RO TO ae;simp only [go_sem]) (by unfold RO TO;simp only [go_sem]) (by unfold RO TO;simp only [go_sem]) ?_
  unfold RO TO ae
  simp only [go_sem]
  refine bw X 45 [45] (some 1) [.agg [.sl (some 9) (b.map enD)]] h4 (fun _=>rfl) rfl rfl rfl (by simp) rfl (by simp only [go_sem]) ?_
  simp only [go_sem]
  refine ⟨by decide +kernel,?_⟩
  subst hR
  refine sg (ns:=[[1]]) (.inl rfl) hB0 Tryz.func94 rfl (by decide +kernel) (by simp [Tryz.ntmps94]) (by intro p hp;rw [List.mem_singleton.1 hp];simp only [go_sem]) (veil fun E=>?_)
  simp only [go_sem]
  rw [jl]
  simp only [go_sem]
  rw [ai (n:=(s4.nest:Int)-1) ⟨by omega,by omega⟩]
  refine ⟨qw (iz (by simp only [go_sem])),?_⟩
  simp only [jl]
  simp only [go_sem]
  refine ⟨_,_,[100,101],id,⟨rfl,rfl⟩,?_⟩
  simp only [go_sem]
  have hq:(s4.nest:Int)-1=(s.nest:Int):=by omega
  rw [hq]
  exact ⟨rfl,rfl⟩
 rw [if_neg (by rw [h];decide)] at hR
 rw [fM h]
 refine ab E [.bx [100] 0,.d (.str zl)] (RO s1) [100,101] (c2) rfl rfl ⟨by simp only [go_sem],by first | (rw [aa];decide) | (simp only [go_sem]<;>(try rw [aa])<;>decide)⟩ rfl (by unfold RO TO ae;simp only [go_sem]) (by unfold RO TO;simp only [go_sem]) ?_
 rintro _ _ ⟨rfl,rfl⟩
 unfold RO TO ae
 simp only [go_sem]
 refine aD E (fun h=>?_) (fun h=>?_)<;>simp only [go_sem]
 ·rw [if_pos h] at hR
  rw [dZ h]
  refine ab E [.bx [100] 0,.d (i64 t.pos)] (RO s1.next) [100,101] (c4) rfl rfl ⟨by simp only [go_sem],by first | (rw [aa];decide) | (simp only [go_sem]<;>(try rw [aa])<;>decide)⟩ rfl (by unfold RO TO ae;simp only [go_sem]) (by unfold RO TO;simp only [go_sem]) ?_
  rintro _ _ ⟨rfl,rfl⟩
  unfold RO TO ae
  simp only [go_sem]
  subst hR
  refine sg (ns:=[[1]]) (.inl rfl) hB0 Tryz.func94 rfl (by decide +kernel) (by simp [Tryz.ntmps94]) (by intro p hp;rw [List.mem_singleton.1 hp];simp only [go_sem]) (veil fun E=>?_)
  simp only [go_sem]
  rw [jl]
  simp only [go_sem]
  rw [ai (n:=(R4.2.nest:Int)-1) ⟨by omega,by omega⟩]
  refine ⟨qw (iz (by simp only [go_sem])),?_⟩
  simp only [jl]
  simp only [go_sem]
  refine ⟨_,_,[100,101],id,⟨rfl,rfl⟩,?_⟩
  simp only [go_sem]
  have hq:(R4.2.nest:Int)-1=(s.nest:Int):=by omega
  rw [hq]
  exact ⟨rfl,rfl⟩
 rw [if_neg (by rw [h];decide)] at hR
 rw [fM h]
 refine ab E [.bx [100] 0,.d (.str bIf)] (RO s1) [100,101] (c3) rfl rfl ⟨by simp only [go_sem],by first | (rw [aa];decide) | (simp only [go_sem]<;>(try rw [aa])<;>decide)⟩ rfl (by unfold RO TO ae;simp only [go_sem]) (by unfold RO TO;simp only [go_sem]) ?_
 rintro _ _ ⟨rfl,rfl⟩
 unfold RO TO ae
 simp only [go_sem]
 refine aD E (fun h=>?_) (fun h=>?_)<;>simp only [go_sem]
 ·rw [if_pos h] at hR
  rw [dZ h]
  refine ab E [.bx [100] 0,.d (i64 t.pos)] (RO s1.next) [100,101] (c5) rfl rfl ⟨by simp only [go_sem],by first | (rw [aa];decide) | (simp only [go_sem]<;>(try rw [aa])<;>decide)⟩ rfl (by unfold RO TO ae;simp only [go_sem]) (by unfold RO TO;simp only [go_sem]) ?_
  rintro _ _ ⟨rfl,rfl⟩
  unfold RO TO ae
  simp only [go_sem]
  subst hR
  refine sg (ns:=[[1]]) (.inl rfl) hB0 Tryz.func94 rfl (by decide +kernel) (by simp [Tryz.ntmps94]) (by intro p hp;rw [List.mem_singleton.1 hp];simp only [go_sem]) (veil fun E=>?_)
  simp only [go_sem]
  rw [jl]
  simp only [go_sem]
  rw [ai (n:=(R5.2.nest:Int)-1) ⟨by omega,by omega⟩]
  refine ⟨qw (iz (by simp only [go_sem])),?_⟩
  simp only [jl]
  simp only [go_sem]
  refine ⟨_,_,[100,101],id,⟨rfl,rfl⟩,?_⟩
  simp only [go_sem]
  have hq:(R5.2.nest:Int)-1=(s.nest:Int):=by omega
  rw [hq]
  exact ⟨rfl,rfl⟩
 rw [if_neg (by rw [h];decide)] at hR
 rw [fM h]
 refine aq fun E=>?_
 simp only [go_sem]
 refine ab E [.bx [100] 0] (RO s1) [100,101] (c6) rfl rfl ⟨by simp only [go_sem],by first | (rw [aa];decide) | (simp only [go_sem]<;>(try rw [aa])<;>decide)⟩ rfl (by unfold RO TO ae;simp only [go_sem]) (by unfold RO TO;simp only [go_sem]) ?_
 rintro _ _ ⟨rfl,rfl⟩
 unfold RO TO ae
 simp only [go_sem]
 subst hR
 refine sg (ns:=[[1]]) (.inl rfl) hB0 Tryz.func94 rfl (by decide +kernel) (by simp [Tryz.ntmps94]) (by intro p hp;rw [List.mem_singleton.1 hp];simp only [go_sem]) (veil fun E=>?_)
 simp only [go_sem]
 rw [jl]
 simp only [go_sem]
 rw [ai (n:=(R6.2.nest:Int)-1) ⟨by omega,by omega⟩]
 refine ⟨qw (iz (by simp only [go_sem])),?_⟩
 simp only [jl]
 simp only [go_sem]
 refine ⟨_,_,[100,101],id,⟨rfl,rfl⟩,?_⟩
 simp only [go_sem]
 have hq:(R6.2.nest:Int)-1=(s.nest:Int):=by omega
 rw [hq]
 exact ⟨rfl,rfl⟩
theorem CX {G}:∀ (m N:Nat),N+m=100→Reads 53 G N (er m)
 | 0,N,h=>by
   obtain rfl:N=100:=by omega
   exact Ae
 | m+1,N,h=>Df (by omega) (dr m) (CX m (N+1) (by omega))
end Go.Proofs.YtejpnabbmgpmaaaGreat

namespace Go.Proofs.YtejpnabbmgpmaaaGreat
open Go.Ab
def fV (s:PS) (ns:List EN):List EN × Int × Int :=
 if s.err≠0 then ([],s.pos,s.err) else if ns.any (fun n=>decide (1048576<n.pos)) then ([],0,7) else if cH ns≠0 then ([],0,cH ns) else (ns,0,0)
def eC (l:List Tok) (n:Int):PS:=⟨l,n,0,0,0⟩
def jf (s:PS):PS:=if s.l.isEmpty then s else s.wrong
def an (s:List UInt8):List EN × Int × Int :=
 if (bo s).2.2≠0 then ([],(bo s).2.1,(bo s).2.2)
 else fV (jf (er 100 (eC (bo s).1 (bo s).2.1)).2) (er 100 (eC (bo s).1 (bo s).2.1)).1
theorem C8 {s:List UInt8} (_h:(bo s).2.2=0):PSo s.length (eC (bo s).1 (bo s).2.1):=by
 obtain ⟨h1,h2,_,h4⟩:=mc s
 exact ⟨h2,⟨by show 0≤((bo s).2.1:Int);omega,by show ((bo s).2.1:Int)≤_;omega⟩,⟨Int.le_refl 0,by show (0:Int)≤s.length;omega⟩⟩
theorem SS.done (s:PS):SS s (jf s):=by
 unfold jf
 split
 ·exact SS.refl s
 ·exact SS.wrong s
theorem yB {s:List UInt8} (h:(an s).2.2≠0):(an s).1=[]∧0≤(an s).2.1∧(an s).2.1≤s.length:=by
 obtain ⟨h1,h2,_,h4⟩:=mc s
 unfold an at h ⊢
 split
 ·exact ⟨rfl,by simp only;omega,by simp only;omega⟩
 rename_i he
 have he:(bo s).2.2=0:=by simpa using he
 have hp:=((dr 100 (eC (bo s).1 (bo s).2.1)).ss.trans (SS.done _)).pos _ (C8 he)
 rw [if_neg (by simpa using he)] at h
 unfold fV at h ⊢
 split
 ·exact ⟨rfl,hp⟩
 split
 ·exact ⟨rfl,Int.le_refl 0,by simp only;omega⟩
 split
 ·exact ⟨rfl,Int.le_refl 0,by simp only;omega⟩
 ·rename_i g1 g2 g3
  rw [if_neg g1,if_neg g2,if_neg g3] at h
  exact absurd rfl h
theorem gZ {s:List UInt8} (h:(an s).2.2=0):Tr (an s).1∧cH (an s).1=0∧(an s).2.1=0:=by
 unfold an at h ⊢
 split
 ·rename_i g;rw [if_pos g] at h;exact absurd h g
 rename_i he
 rw [if_neg he] at h
 have ht:=(dr 100 (eC (bo s).1 (bo s).2.1)).tr
 unfold fV at h ⊢
 split
 ·rename_i g;rw [if_pos g] at h;exact absurd h g
 rename_i g1
 rw [if_neg g1] at h
 split
 ·rename_i g;rw [if_pos g] at h;exact absurd h (by decide)
 rename_i g2
 rw [if_neg g2] at h
 split
 ·rename_i g;rw [if_pos g] at h;exact absurd h g
 rename_i g3
 exact ⟨ht,by simpa using g3,rfl⟩
end Go.Proofs.YtejpnabbmgpmaaaGreat

namespace Go.Proofs.YtejpnabbmgpmaaaGreat
open Go.Ab
def Fm (B:Nat) (f:EF):Prop:=f.nm.length≤B∧f.var.length≤B
def Nm (B:Nat) (n:EN):Prop:=n.name.length≤B∧n.s.length≤B∧∀ f∈n.l,Fm B f
def Sm (B:Nat) (ns:List EN):Prop:=∀ n∈ns,Nm B n
def Tm (B:Nat) (s:PS):Prop:=∀ t∈s.l,t.s.length≤B
section
variable {B:Nat}
theorem uO (ks:List Int) (o:Nat):∀ (l:List EF) (i:Nat),(∀ f∈l,Fm B f)→∀ f∈aX ks o l i,Fm B f
 | [],_,_,f,hf=>by simp [aX] at hf
 | g::r,i,h,f,hf=>by
   rw [aX] at hf
   rcases List.mem_cons.1 hf with rfl | hf
   ·have:=h g List.mem_cons_self
    split<;>exact this
   ·exact uO ks o r (i+1) (fun x hx=>h x (List.mem_cons_of_mem _ hx)) f hf
theorem Nm.with {n:EN} (h:Nm B n) (ks:List Int):Nm B (bk n ks):=by
 refine ⟨h.1,h.2.1,fun f hf=>?_⟩
 have hf:f∈(if aI n.k then aX ks (aG n.k) n.l 0 else []):=hf
 split at hf
 ·exact uO _ _ _ _ h.2.2 f hf
 ·cases hf
theorem BY:∀ (ls:List (List EN)) (acc:List EN) (rs:List Int),(∀ l∈ls,Sm B l)→Sm B acc→Sm B (cI ls acc rs).1
 | [],_,_,_,h=>h
 | l::r,acc,rs,hl,h=>by
   refine BY r _ _ (fun x hx=>hl x (List.mem_cons_of_mem _ hx)) fun n hn=>?_
   rcases List.mem_append.1 hn with hn | hn
   ·exact h n hn
   ·obtain ⟨m,hm,rfl⟩:=List.mem_map.1 hn
    exact (hl l List.mem_cons_self m hm).with _
theorem dX {n:EN} {ls:List (List EN)} (hn:Nm B n) (hl:∀ l∈ls,Sm B l):Sm B (av n ls):=by
 intro m hm
 rcases List.mem_append.1 hm with hm | hm
 ·exact BY ls [] [] hl (fun _ h=>by cases h) m hm
 ·rw [List.mem_singleton.1 hm];exact hn.with _
theorem nU (k p:Int):Nm B (nd0 k p):=⟨Nat.zero_le _,Nat.zero_le _,fun _ h=>by cases h⟩
theorem ig {n:EN} (hn:Nm B n):Sm B (bj n):=dX hn fun _ h=>by cases h
theorem xX:Sm B noE:=ig (nU 1 0)
theorem Tm.ss {s r:PS} (h:SS s r) (g:Tm B s):Tm B r:=by
 obtain ⟨k,hk⟩:=h.suf
 intro t ht
 rw [hk] at ht
 exact g t (List.mem_of_mem_drop ht)
theorem Tm.peek {s:PS} (g:Tm B s):s.peek.s.length≤B:=by
 unfold PS.peek
 split
 ·exact Nat.zero_le _
 ·rename_i t r e
  exact g t (by rw [e];exact List.mem_cons_self)
theorem Tm.of {s:PS} (g:Tm B s) (k:Int):(s.of k).1.length≤B:=by
 unfold PS.of
 split
 ·exact g.peek
 ·exact Nat.zero_le _
variable {ex:PS→PR} (hex:∀ s,GP 1 s (ex s)) (hx:∀ s,Tm B s→Sm B (ex s).1)
include hex hx
omit hex hx in
theorem Ci {s:PS} (g:Tm B s) (l:List EF):Fm B (dB s l).1:=⟨g.of 2,Nat.zero_le _⟩
omit hex hx in
theorem zC {s:PS} (g:Tm B s) (l:List EF):Fm B (bM s l).1 :=
 ⟨g.of 3,Tm.of (g.ss (SS.partp (s:=s) (SS.of s 3) s.peek l fun _ h=>gq h)) 2⟩
theorem oE (between:List UInt8) (part:PS→List EF→EF × PS) (hp:∀ s l,SS s (part s l).2) (hf:∀ s l,Tm B s→Fm B (part s l).1):∀ (m:Nat) (s:PS) (l:List EF) (ks:List (List EN)),Tm B s→(∀ f∈l,Fm B f)→(∀ k∈ks,Sm B k) →
  (∀ f∈(aR ex between part m s l ks).1,Fm B f)∧(∀ k∈(aR ex between part m s l ks).2.1,Sm B k)
 | 0,s,l,ks,_,h1,h2=>⟨h1,h2⟩
 | m+1,s,l,ks,g,h1,h2=>by
   have g1:=g.ss (hp s l)
   have g2:=g1.ss (hex (part s l).2).ss
   have a1:∀ f∈l++[(part s l).1],Fm B f:=fun f h=>by
    rcases List.mem_append.1 h with h | h
    ·exact h1 f h
    ·rw [List.mem_singleton.1 h];exact hf s l g
   have a2:∀ k∈ks++[(ex (part s l).2).1],Sm B k:=fun k h=>by
    rcases List.mem_append.1 h with h | h
    ·exact h2 k h
    ·rw [List.mem_singleton.1 h];exact hx _ g1
   unfold aR
   simp only
   split
   ·exact oE between part hp hf m _ _ _ (g2.ss (SS.next _)) a1 a2
   ·exact ⟨a1,a2⟩
theorem yI (s:PS) (g:Tm B s) (pos:Int):Sm B (ch ex s pos).1:=by
 unfold ch
 split
 ·exact ig (nU 11 pos)
 ·have h:=oE hex hx [44] dB SS.field (fun s l g=>Ci g l) s.l.length.succ s [] [] g (fun _ h=>by cases h) (fun _ h=>by cases h)
  exact dX ⟨Nat.zero_le _,Nat.zero_le _,h.1⟩ h.2
theorem Dj (s:PS) (g:Tm B s) (pos:Int):Sm B (e9 ex s pos).1:=by
 unfold e9
 have g1:=(g.ss (hex s).ss).ss (SS.must (ex s).2 1 bOf)
 simp only
 have h:=oE hex hx [124] bM SS.branch (fun s l g=>zC g l) ((ex s).2.must 1 bOf).l.length.succ _ [] [] g1 (fun _ h=>by cases h) (fun _ h=>by cases h)
 refine dX ⟨Nat.zero_le _,Nat.zero_le _,h.1⟩ fun l hl=>?_
 rcases List.mem_cons.1 hl with rfl | hl
 ·exact hx s g
 ·exact h.2 l hl
theorem Dy (s:PS) (g:Tm B s):Sm B (cU ex s).1:=by
 have gn:=g.ss (SS.next s)
 unfold cU
 simp only
 repeat' split
 ·exact xX
 ·exact ig ⟨Nat.zero_le _,Nat.zero_le _,fun _ h=>by cases h⟩
 ·exact ig ⟨Nat.zero_le _,g.peek,fun _ h=>by cases h⟩
 ·exact ig ⟨g.peek,Nat.zero_le _,fun _ h=>by cases h⟩
 ·exact ig ⟨Nat.zero_le _,Nat.zero_le _,fun _ h=>by cases h⟩
 ·exact ig (nU _ _)
 ·exact hx _ gn
 ·exact yI hex hx _ gn _
 ·exact Dj hex hx _ gn _
 ·exact xX
omit hex hx in
theorem xS:∀ (m:Nat) (a:List EN) (s:PS),Sm B a→Tm B s→Sm B (cj m a s).1
 | 0,_,_,h,_=>h
 | m+1,a,s,h,g=>by
   unfold cj
   split
   ·exact xS m _ _ (dX ⟨(g.ss (SS.next s)).of 2,Nat.zero_le _,fun _ h=>by cases h⟩ fun l hl=>by rw [List.mem_singleton.1 hl];exact h) ((g.ss (SS.next s)).ss (SS.of _ 2))
   ·exact h
theorem sw (s:PS) (g:Tm B s):Sm B (cO ex s).1:=xS _ _ _ (Dy hex hx s g) (g.ss (lK hex s).1.ss)
theorem wi:∀ (m:Nat) (a:List EN) (s:PS),Sm B a→Tm B s→Sm B (gp ex m a s).1
 | 0,_,_,h,_=>h
 | m+1,a,s,h,g=>by
   unfold gp
   split
   ·refine wi m _ _ (dX (nU _ _) fun l hl=>?_) (g.ss (fE hex s).1.ss)
    rcases List.mem_cons.1 hl with rfl | hl
    ·exact h
    ·rw [List.mem_singleton.1 hl];exact sw hex hx s g
   ·exact h
theorem z5 (s:PS) (g:Tm B s):Sm B (j9 ex s).1:=by
 unfold j9
 simp only
 split
 ·exact dX ⟨g.peek,Nat.zero_le _,fun _ h=>by cases h⟩ fun l hl=>by rw [List.mem_singleton.1 hl];exact sw hex hx _ (g.ss (SS.next s))
 ·exact wi hex hx _ _ _ (sw hex hx s g) (g.ss (fE hex s).1.ss)
omit hex hx in
theorem vg (ops:List (List UInt8 × Int)) (sub:PS→PR) (h1:∀ s,SS s (sub s).2) (h2:∀ s,Tm B s→Sm B (sub s).1):∀ (m:Nat) (a:List EN) (s:PS),Sm B a→Tm B s→Sm B (dW ops sub m a s).1
 | 0,_,_,h,_=>h
 | m+1,a,s,h,g=>by
   unfold dW
   split
   ·have gn:=g.ss (SS.next s)
    refine vg ops sub h1 h2 m _ _ (dX ⟨Nat.zero_le _,Nat.zero_le _,fun _ h=>by cases h⟩ fun l hl=>?_) (gn.ss (h1 _))
    rcases List.mem_cons.1 hl with rfl | hl
    ·exact h
    ·rw [List.mem_singleton.1 hl];exact h2 _ gn
   ·exact h
theorem wv (s:PS) (g:Tm B s):Sm B (iW ex s).1:=vg _ _ (fun s=>(jc hex s).ss) (z5 hex hx) _ _ _ (z5 hex hx s g) (g.ss (jc hex s).ss)
theorem vI (s:PS) (g:Tm B s):Sm B (o5 ex s).1:=vg _ _ (fun s=>(gP hex s).ss) (wv hex hx) _ _ _ (wv hex hx s g) (g.ss (gP hex s).ss)
theorem GJ (s:PS) (g:Tm B s):Sm B (pP ex s).1:=by
 unfold pP
 simp only
 split
 ·refine dX ⟨Nat.zero_le _,Nat.zero_le _,fun _ h=>by cases h⟩ fun l hl=>?_
  rcases List.mem_cons.1 hl with rfl | hl
  ·exact vI hex hx s g
  ·rw [List.mem_singleton.1 hl];exact vI hex hx _ ((g.ss (jm hex s).ss).ss (SS.next _))
 ·exact vI hex hx s g
theorem Gw (s:PS) (g:Tm B s) (pos:Int):Sm B (kW ex s pos).1:=by
 unfold kW
 simp only
 obtain ⟨k,hk⟩:∃ k:Int,k=if s.sees 1 gA=true then 8 else 7:=⟨_,rfl⟩
 rw [← hk]
 have g1:=g.ss (SS.may s 1 gA)
 have g2:=g1.ss (SS.of _ 2)
 have g3:=g2.ss (SS.must _ 7 [61])
 have g4:=g3.ss (hex _).ss
 refine dX ⟨g1.of 2,Nat.zero_le _,fun _ h=>by cases h⟩ fun l hl=>?_
 rcases List.mem_cons.1 hl with rfl | hl
 ·exact hx _ g3
 ·rw [List.mem_singleton.1 hl]
  refine hx _ (Tm.ss (SS.must _ 1 bIn) ?_)
  split
  ·intro t ht
   rw [mn] at ht
   exact g4 t ht
  ·exact g4
theorem Ir (s:PS) (g:Tm B s) (pos:Int):Sm B (ifS ex s pos).1:=by
 unfold ifS
 simp only
 have g1:=(g.ss (hex _).ss).ss (SS.must _ 1 gG)
 have g2:=(g1.ss (hex _).ss).ss (SS.must _ 1 iJ)
 refine dX (nU _ _) fun l hl=>?_
 simp only [List.mem_cons,List.not_mem_nil,or_false] at hl
 rcases hl with rfl | rfl | rfl
 ·exact hx _ g
 ·exact hx _ g1
 ·exact hx _ g2
theorem Et (s:PS) (g:Tm B s):Sm B (kS ex s).1:=by
 have gn:=g.ss (SS.next s)
 unfold kS
 simp only
 repeat' split
 ·exact dX ⟨gn.of 2,Nat.zero_le _,fun _ h=>by cases h⟩ fun l hl=>by rw [List.mem_singleton.1 hl];exact hx _ ((gn.ss (SS.of _ 2)).ss (SS.must _ 7 bTo))
 ·exact Gw hex hx _ gn _
 ·exact Ir hex hx _ gn _
 ·exact GJ hex hx s g
end
theorem m8 {B:Nat}:∀ (m:Nat) (s:PS),Tm B s→Sm B (er m s).1
 | 0,s,_=>xX
 | m+1,s,g=>by
   unfold er
   split
   ·exact xX
   ·exact Et (dr m) (m8 m) _ g
theorem rM:∀ (m:Nat) (r:List UInt8) (i:Nat) (acc:List UInt8),(eu m r i acc).1.length≤200
 | 0,_,_,_=>Nat.zero_le _
 | _+1,[],_,_=>Nat.zero_le _
 | m+1,c::r,i,acc=>by
   unfold eu
   split
   ·split
    ·exact Nat.zero_le _
    ·simp only;omega
   split
   ·split
    ·exact Nat.zero_le _
    ·exact rM m _ _ _
   split
   ·exact rM m _ _ _
   ·exact Nat.zero_le _
theorem F3 (s:List UInt8):(cq s).t.s.length≤200:=by
 unfold cq
 split
 ·unfold kY
  repeat' split
  ·exact Nat.zero_le _
  all_goals (show (s.take _).length≤_;rw [List.length_take];omega)
 split
 ·unfold pI
  repeat' split
  ·exact Nat.zero_le _
  ·exact Nat.zero_le _
  ·show ((s.drop 1).take _).length≤_;rw [List.length_take];omega
 split
 ·exact Nat.zero_le _
 split
 ·unfold oC cK
  repeat' split
  ·exact Nat.zero_le _
  ·exact rM _ _ _ _
  ·exact Nat.zero_le _
 ·unfold iO
  repeat' split
  ·show (s.take _).length≤_;rw [List.length_take];omega
  ·exact Nat.zero_le _
  ·show (s.take _).length≤_;rw [List.length_take];omega
theorem BS:∀ (m:Nat) (s:List UInt8) (a:Nat),∀ q∈eO m s a,q.2.t.s.length≤200
 | 0,_,_,_,h=>by simp [eO] at h
 | m+1,s,a,q,h=>by
   unfold eO at h
   split at h
   ·cases h
   split at h
   ·rw [List.mem_singleton.1 h];exact F3 _
   ·rcases List.mem_cons.1 h with rfl | h
    ·exact F3 _
    ·exact BS m _ _ q h
theorem Dg (s:List UInt8):∀ t∈(bo s).1,t.s.length≤200:=by
 unfold bo
 split
 ·intro _ h;cases h
 ·intro t ht
  obtain ⟨q,hq,rfl⟩:=List.mem_map.1 ht
  exact BS _ _ _ q hq
end Go.Proofs.YtejpnabbmgpmaaaGreat

namespace Go.Proofs.YtejpnabbmgpmaaaGreat
open Go.Ab
def bb (q:List EN × Int × Int):AV:=.tup [.d (if q.2.2=0 then exD q.1 else .agg [.nils]),.d (i64 q.2.1),.d (i64 q.2.2)]
theorem G7 {G} (s:PS) (ns:List EN) (hN:ns.length≤1000000) (hs:∀ n∈ns,dx BIG n):HCall Tryz.prog G 56 [.bx [100] 0,.d (exD ns)] (RO s) [100,101] (fun r hp'=>r=bb (fV s ns)∧hp'=RO s):=by
 generalize hR:fV s ns=R
 unfold fV at hR
 have c1:=Dp (G:=G) ns (fun n=>decide (1048576<n.pos)) 102 [] hN (fun x _=>ER x)
 have c2:=o0 (G:=G) ns hs hN
 generalize (ns.any fun n=>decide (1048576<n.pos))=b at c1 hR
 generalize cH ns=m at c2 hR
 have c3:=HP.clo (args:=[.d (.sl (some 9) (ns.map enD)),.clo 102 []]) rfl (fun i x y hx hy=>by
  rcases i with _ | _ | i
  ·cases hx;cases hy;exact .inl rfl
  ·cases hx;cases hy;exact .inr ⟨102,rfl,rfl⟩
  ·cases hx) c1
 unfold exD at *
 unfold RO TO ae
 refine ar Tryz.func56 rfl (by decide +kernel) (by simp [Tryz.ntmps56]) (veil fun E=>?_)
 simp only [go_sem]
 refine ab E [.bx [100] 0] (RO s) [100,101] (fW s) rfl rfl ⟨by simp only [go_sem],by first | (rw [aa];decide) | (simp only [go_sem]<;>(try rw [aa])<;>decide)⟩ rfl (by unfold RO TO ae;simp only [go_sem]) (by unfold RO TO;simp only [go_sem]) ?_
 rintro _ _ ⟨rfl,rfl⟩
 unfold RO TO ae
 simp only [go_sem]
 refine aD E (fun h=>?_) (fun h=>?_)<;>simp only [go_sem]
 ·have h':¬ s.err=0:=by simpa using h
  rw [if_pos h'] at hR
  refine ak mixed E fun X=>?_
  simp only [go_sem]
  refine cz X (d:=13) [100] 0 none [.bx [101] 0,.d (i64 s.err),.d (i64 s.pos),.d (i64 s.nest)] (by simp only [go_sem]) rfl rfl ?_
  simp only [go_sem]
  refine cz X (d:=17) [100] 0 none [.bx [101] 0,.d (i64 s.err),.d (i64 s.pos),.d (i64 s.nest)] (by simp only [go_sem]) rfl rfl ?_
  simp only [go_sem]
  refine ⟨by decide +kernel,?_⟩
  subst hR
  have he:bb ([],s.pos,s.err)=.tup [.d (.agg [.nils]),.d (i64 s.pos),.d (i64 s.err)]:=by unfold bb;rw [if_neg h']
  rw [he]
  refine ⟨_,_,[100,101],id,⟨rfl,rfl⟩,?_⟩
  simp only [go_sem]
 rw [if_neg (by simpa using h)] at hR
 refine ab E [.d (.sl (some 9) (ns.map enD)),.clo 102 []] [] [] c3 rfl rfl ⟨by simp only [go_sem],by rw [aa];decide⟩ rfl (by simp only [go_sem]) (by simp only [go_sem]) ?_
 rintro _ _ ⟨rfl,_,rfl⟩
 simp only [go_sem]
 refine aD E (fun h=>?_) (fun h=>?_)<;>simp only [go_sem]
 ·rw [if_pos h] at hR
  subst hR
  have he:bb ([],0,7)=.tup [.d (.agg [.nils]),.d (i64 0),.d (i64 7)]:=by unfold bb;rw [if_neg (by decide)]
  rw [he]
  refine ⟨_,_,[100,101],id,⟨rfl,rfl⟩,?_⟩
  simp only [go_sem]
 rw [if_neg (by rw [h];decide)] at hR
 refine ag E c2 rfl rfl (by simp) ?_
 rintro _ rfl
 simp only [go_sem]
 refine aD E (fun h=>?_) (fun h=>?_)<;>simp only [go_sem]
 ·have h':¬ m=0:=by simpa using h
  rw [if_pos h'] at hR
  subst hR
  have he:bb ([],0,m)=.tup [.d (.agg [.nils]),.d (i64 0),.d (i64 m)]:=by unfold bb;rw [if_neg h']
  rw [he]
  refine ⟨_,_,[100,101],id,⟨rfl,rfl⟩,?_⟩
  simp only [go_sem]
 ·have h':m=0:=by simpa using h
  rw [if_neg (by simpa using h')] at hR
  subst hR
  have he:bb (ns,0,0)=.tup [.d (.agg [.sl (some 9) (ns.map enD)]),.d (i64 0),.d (i64 0)]:=by unfold bb;rw [if_pos rfl];rfl
  rw [he]
  refine ⟨_,_,[100,101],id,⟨rfl,rfl⟩,?_⟩
  simp only [go_sem]
theorem DM {G} (l:List Tok) (fin:Int) (hl:l.length≤1000000):HCall Tryz.prog G 52 [.d (ae l),.d (i64 fin)] [] [] (fun r hp'=>r=.bx [101] 0∧hp'=[([101],.box [.vw [102] 0 l.length,.d (i64 fin)]),([102],.arr (some 4) (l.map ck))]):=by
 unfold ae
 refine ar Tryz.func52 rfl (by decide +kernel) (by simp [Tryz.ntmps52]) (veil fun E=>?_)
 simp only [go_sem]
 refine ⟨by omega,?_⟩
 refine ⟨_,_,[101,102],tau [([101],[9]),([102],[6])],⟨rfl,rfl⟩,?_⟩
 simp only [go_sem]
 all_goals rfl
theorem GR {G} (l:List Tok) (fin:Int) (hl:l.length≤1000000):HCall Tryz.prog G 52 [.d (ae l),.d (i64 fin)] [] [] (fun r hp'=>r=.bx [101] 0∧hp'=TO l fin) :=
 HCall.fA (DM l fin hl) [102] (by
  rintro r hp' ⟨rfl,rfl⟩
  refine ⟨some 4,l.map ck,by simp only [go_sem],by simp only [go_sem],?_⟩
  unfold TO ae
  simp only [go_sem])
theorem rN {s:PS} {ns:List EN} {r:PS} (h:GP 1 s (ns,r)) (hl:s.l.length≤100000) (hn:Sm 200 ns):ns.length≤1000000∧∀ n∈ns,dx BIG n:=by
 have h1:=h.sz
 have h2:=h.wd
 simp only at h1
 refine ⟨by omega,fun n hm=>?_⟩
 obtain ⟨a,b,c⟩:=hn n hm
 have:=h2 n hm
 simp only at this
 exact ⟨by unfold BIG;omega,by unfold BIG;omega,by omega,fun f hf=>⟨by have:=(c f hf).1;unfold BIG;omega,by have:=(c f hf).2;unfold BIG;omega⟩⟩
set_option maxHeartbeats 1000000 in
theorem CU {G} (s:List UInt8) (hl:s.length≤100000):HP Tryz.prog G 15 [.str s] (fun r=>r=bb (an s)):=by
 generalize hR:an s=R
 unfold an at hR
 obtain ⟨hl1,hl2,hl3,hl4⟩:=mc s
 have hls:=Dg s
 cases hb:ia (aF s) with
 | some q =>
   obtain ⟨i,e⟩:=q
   have c1:=D5 (G:=G) s (by omega) hb
   have hne:=q8 hb
   have hlx:bo s=([],i,e):=by unfold bo;rw [hb]
   rw [hlx,if_pos hne] at hR
   simp only at hR hne
   have he:bb R=.tup [.d (.agg [.nils]),.d (i64 i),.d (i64 e)]:=by rw [← hR];unfold bb;rw [if_neg hne]
   rw [he]
   refine ax Tryz.func15 rfl (by decide +kernel) (by simp [Tryz.ntmps15]) (veil fun E=>?_)
   simp only [go_sem]
   refine ag E c1 rfl rfl (by simp) ?_
   rintro _ rfl
   simp only [go_sem]
   refine aD E (fun h=>?_) (fun h=>absurd (by simpa using h) hne)<;>simp only [go_sem]
   refine ⟨[],?_⟩
   simp only [go_sem]
 | none =>
   have c1:=HG (G:=G) s (by omega) hb
   have hz:(bo s).2.2=0:=by unfold bo;rw [hb]
   rw [if_neg (by rw [hz];decide)] at hR
   rw [hz] at c1
   generalize bo s=q at c1 hR hl1 hl2 hl3 hls
   obtain ⟨l,n,z⟩:=q
   simp only at c1 hR hl1 hl2 hl3 hls
   have c2:=GR (G:=G) l n (by omega)
   have hst:eC l n=⟨l,n,0,0,0⟩:=rfl
   obtain ⟨st,hs⟩:∃ st,st=eC l n:=⟨_,rfl⟩
   rw [← hs] at hR hst
   have hsl:st.l.length≤100000:=by rw [hst];simp only;omega
   have c3:=CX (G:=G) 100 0 rfl st hsl (by rw [hst])
   have g3:=dr 100 st
   have n3:=m8 (B:=200) 100 st (by rw [hst];exact hls)
   obtain ⟨x,s2,hx⟩:∃ x s2,er 100 st=(x,s2):=⟨_,_,rfl⟩
   rw [hx] at c3 g3 n3 hR
   simp only at c3 n3 hR
   have hl2':=g3.ss.len
   simp only at hl2'
   obtain ⟨hxl,hxs⟩:=rN g3 hsl n3
   have c4:=vM (G:=G) s2.l s2.fin
   have c5:=nH (G:=G) s2 (by omega)
   have c6:=G7 (G:=G) (jf s2) x hxl hxs
   unfold jf at hR c6
   unfold exD at c3 c6
   unfold ae at c2
   refine ax Tryz.func15 rfl (by decide +kernel) (by simp [Tryz.ntmps15]) (veil fun E=>?_)
   simp only [go_sem]
   refine ag E c1 rfl rfl (by simp) ?_
   rintro _ rfl
   simp only [go_sem]
   refine ab E [.d (.sl (some 4) (l.map ck)),.d (i64 n)] [] [] c2 rfl rfl ⟨by simp only [go_sem],by rw [aa];decide⟩ rfl (by simp only [go_sem]) (by simp only [go_sem]) ?_
   rintro _ _ ⟨rfl,rfl⟩
   unfold TO ae
   simp only [go_sem]
   rw [hst] at c3
   refine aU E (tau [([100],[25]),([101],[23,101])]) [.bx [100] 0] (RO ⟨l,n,0,0,0⟩) [100,101] (c3) rfl (by simp only [go_sem];try rfl) ⟨by simp only [go_sem],by first | (rw [aa];decide) | (simp only [go_sem]<;>(try rw [aa])<;>decide)⟩ rfl (by unfold RO TO ae;simp only [go_sem];try rfl) (by unfold RO TO;simp only [go_sem]) ?_
   rintro _ _ ⟨rfl,rfl⟩
   unfold RO TO ae
   simp only [go_sem]
   refine aU E (tau [([101],[23,101])]) [.bx [101] 0] (TO s2.l s2.fin) [101] c4 rfl (by simp only [go_sem];try rfl) ⟨by simp only [go_sem],by rw [aa];decide⟩ rfl (by unfold TO ae;simp only [go_sem];try rfl) (by unfold TO;simp only [go_sem]) ?_
   rintro _ _ ⟨rfl,rfl⟩
   unfold TO ae
   simp only [go_sem]
   refine aD E (fun h=>?_) (fun h=>?_)<;>simp only [go_sem]
   ·have h':s2.l.isEmpty=false:=by simpa using h
    rw [h'] at hR c6
    simp only [Bool.false_eq_true,if_false] at hR c6
    refine aU E (tau [([100],[25]),([101],[23,101])]) [.bx [100] 0] (RO s2) [100,101] (c5) rfl (by simp only [go_sem];try rfl) ⟨by simp only [go_sem],by first | (rw [aa];decide) | (simp only [go_sem]<;>(try rw [aa])<;>decide)⟩ rfl (by unfold RO TO ae;simp only [go_sem];try rfl) (by unfold RO TO;simp only [go_sem]) ?_
    rintro _ _ ⟨rfl,rfl⟩
    unfold RO TO ae
    simp only [go_sem]
    refine aU E (tau [([100],[25]),([101],[23,101])]) [.bx [100] 0,.d (.agg [.sl (some 9) (x.map enD)])] (RO s2.wrong) [100,101] (c6) rfl (by simp only [go_sem];try rfl) ⟨by simp only [go_sem],by first | (rw [aa];decide) | (simp only [go_sem]<;>(try rw [aa])<;>decide)⟩ rfl (by unfold RO TO ae;simp only [go_sem];try rfl) (by unfold RO TO;simp only [go_sem]) ?_
    rintro _ _ ⟨rfl,rfl⟩
    unfold RO TO ae
    simp only [go_sem]
    rw [hR]
    unfold bb exD
    by_cases hz:R.2.2=0
    ·simp only [if_pos hz]
     simp only [go_sem]
     refine ⟨[],?_⟩
     simp only [go_sem]
     unfold bb exD
     rw [if_pos hz]
    ·simp only [if_neg hz]
     simp only [go_sem]
     refine ⟨[],?_⟩
     simp only [go_sem]
     unfold bb
     rw [if_neg hz]
   ·have h':s2.l.isEmpty=true:=by simpa using h
    rw [h'] at hR c6
    simp only [if_true] at hR c6
    refine aU E (tau [([100],[25]),([101],[23,101])]) [.bx [100] 0,.d (.agg [.sl (some 9) (x.map enD)])] (RO s2) [100,101] (c6) rfl (by simp only [go_sem];try rfl) ⟨by simp only [go_sem],by first | (rw [aa];decide) | (simp only [go_sem]<;>(try rw [aa])<;>decide)⟩ rfl (by unfold RO TO ae;simp only [go_sem];try rfl) (by unfold RO TO;simp only [go_sem]) ?_
    rintro _ _ ⟨rfl,rfl⟩
    unfold RO TO ae
    simp only [go_sem]
    rw [hR]
    unfold bb exD
    by_cases hz:R.2.2=0
    ·simp only [if_pos hz]
     simp only [go_sem]
     refine ⟨[],?_⟩
     simp only [go_sem]
     unfold bb exD
     rw [if_pos hz]
    ·simp only [if_neg hz]
     simp only [go_sem]
     refine ⟨[],?_⟩
     simp only [go_sem]
     unfold bb
     rw [if_neg hz]
end Go.Proofs.YtejpnabbmgpmaaaGreat

namespace Go.Proofs.YtejpnabbmgpmaaaGreat
open Go.Ab
set_option maxHeartbeats 1000000 in
theorem Hg {G} (s:List UInt8) (hl:s.length≤100000):HP Tryz.prog G 30 [.str s] (fun r=>r=bb (an s)):=by
 generalize hR:an s=R
 unfold an at hR
 obtain ⟨hl1,hl2,hl3,hl4⟩:=mc s
 have hls:=Dg s
 have c1:=GZ (G:=G) s (by omega)
 unfold FM at c1
 by_cases hz:(bo s).2.2=0
 rotate_left
 ·rw [if_pos hz] at hR
  rw [if_neg hz] at c1
  have hrz:bb R=.tup [.d (.agg [.nils]),.d (i64 (bo s).2.1),.d (i64 (bo s).2.2)]:=by rw [← hR];unfold bb;rw [if_neg hz]
  rw [hrz]
  refine ax Tryz.func30 rfl (by decide +kernel) (by simp [Tryz.ntmps30]) (veil fun E=>?_)
  simp only [go_sem]
  refine ag E c1 rfl rfl (by simp) ?_
  rintro _ rfl
  simp only [go_sem]
  refine ah E (fun h=>?_) (fun h=>absurd hz h)<;>simp only [go_sem]
  refine ⟨[],?_⟩
  simp only [go_sem]
 rw [if_neg (by simpa using hz)] at hR
 rw [if_pos hz,hz] at c1
 generalize bo s=q at c1 hR hl1 hl2 hl3 hls
 obtain ⟨l,n,z⟩:=q
 simp only at c1 hR hl1 hl2 hl3 hls
 obtain ⟨st,hst⟩:∃ st,st=eC l n:=⟨_,rfl⟩
 rw [← hst] at hR
 have hfit:Fit l st:=by rw [hst];exact ⟨0,Nat.zero_le _,rfl⟩
 have hsl:st.l.length≤100000:=by rw [hst];show l.length≤_;omega
 have hat:atN l st=0:=by rw [hst];show l.length-l.length=0;omega
 have c3:=z8 (G:=G) 100 0 rfl l st hfit (by omega) (by rw [hst];rfl)
 have hrel:=tl 100 st
 have g3:=dr 100 st
 have k3:=(kr 100 st).ss
 have n3:=m8 (B:=200) 100 st (by rw [hst];exact hls)
 obtain ⟨y,s2',hy⟩:∃ y s2,er 100 st=(y,s2):=⟨_,_,rfl⟩
 obtain ⟨x,s2,hx⟩:∃ x s2,fR 100 st=(x,s2):=⟨_,_,rfl⟩
 rw [hy] at g3 n3 hR hrel
 rw [hx] at c3 hrel k3
 obtain ⟨hr1,hr2⟩:=hrel
 simp only at hr1 hr2 c3 n3 hR k3
 subst hr1
 have hxy:s2.err=0→x=y∧y.length≤1000000∧∀ n∈y,dx BIG n:=fun h=>⟨(hr2 h).2,rN g3 hsl n3⟩
 have hf2:=hfit.ss k3
 have hle2:=hf2.le
 have hrx:RX l st=[([100],.box [.bx [101] 0,.d (i64 0),.d (i64 0),.d (i64 0)]),([101],.box [.d (.sl (some 4) (l.map ck)),.d (i64 0),.d (i64 n)])]:=by
  unfold RX TS TX ae
  rw [hat,hst];rfl
 rw [hrx] at c3
 have hW:s2.wrong=s2.fail 5 s2.peek.pos:=rfl
 have cw:=iV (G:=G) l s2 5 s2.peek.pos
 rw [← hW] at cw
 have cpk:=fH (G:=G) hf2 (by omega)
 unfold exD at c3
 refine ax Tryz.func30 rfl (by decide +kernel) (by simp [Tryz.ntmps30]) (veil fun E=>?_)
 simp only [go_sem]
 refine ag E c1 rfl rfl (by simp) ?_
 rintro _ rfl
 simp only [go_sem]
 refine aU E (tau [([100],[28]),([101],[26])]) [.bx [100] 0] _ [100,101] c3 rfl (by simp only [go_sem];try rfl) ⟨by simp only [go_sem],by first | (rw [aa];decide) | (simp only [go_sem]<;>(try rw [aa])<;>decide)⟩ rfl (by simp only [go_sem];try rfl) (by simp only [go_sem]) ?_
 rintro _ _ ⟨rfl,rfl⟩
 unfold RX TS TX ae
 simp only [go_sem]
 refine ao E (fun g1=>?_) (fun g1=>?_)<;>simp only [go_sem]
 ·refine ah E (fun g2=>?_) (fun g2=>?_)<;>simp only [go_sem]
  ·have hD:jf s2=s2.wrong:=by
    unfold jf
    rw [if_neg]
    intro h
    have:s2.l.length=0:=by rw [List.isEmpty_iff.1 h];rfl
    unfold atN at g2
    omega
   rw [hD] at hR
   refine aU E (tau [([101],[26])]) [.bx [101] 0] (TS l s2) [101] cpk rfl (by simp only [go_sem];try rfl) ⟨by simp only [go_sem],by rw [aa];decide⟩ rfl (by unfold TS TX ae;simp only [go_sem];try rfl) (by unfold TS TX;simp only [go_sem]) ?_
   rintro _ _ ⟨rfl,rfl⟩
   unfold TS TX ae
   simp only [go_sem]
   refine aU E (tau [([100],[28]),([101],[26])]) [.bx [100] 0,.d (i64 5),.d (i64 s2.peek.pos)] (RX l s2) [100,101] (cw) rfl (by simp only [go_sem];try rfl) ⟨by simp only [go_sem],by first | (rw [aa];decide) | (simp only [go_sem]<;>(try rw [aa])<;>decide)⟩ rfl (by unfold RX TS TX ae;simp only [go_sem];try rfl) (by unfold RX TS TX;simp only [go_sem]) ?_
   rintro _ _ ⟨rfl,rfl⟩
   unfold RX TS TX ae
   simp only [go_sem]
   have hxy:s2.wrong.err=0→x=y∧y.length≤1000000∧∀ n∈y,dx BIG n:=fun h=>absurd h (tJ s2 5 _ (by decide))
   unfold fV at hR
   refine ah E (fun he=>?_) (fun he=>?_)<;>simp only [go_sem]
   ·rw [if_pos he] at hR
    refine ak mixed E fun X=>?_
    simp only [go_sem]
    refine cz X (d:=63) [28] 0 none [.bx [26] 0,.d (i64 (s2.wrong).err),.d (i64 (s2.wrong).pos),.d (i64 (s2.wrong).nest)] (by simp only [go_sem]) rfl rfl ?_
    simp only [go_sem]
    refine cz X (d:=67) [28] 0 none [.bx [26] 0,.d (i64 (s2.wrong).err),.d (i64 (s2.wrong).pos),.d (i64 (s2.wrong).nest)] (by simp only [go_sem]) rfl rfl ?_
    simp only [go_sem]
    refine ⟨by decide +kernel,?_⟩
    have hrz:bb R=.tup [.d (.agg [.nils]),.d (i64 (s2.wrong).pos),.d (i64 (s2.wrong).err)]:=by rw [← hR];unfold bb exD;first | rfl | (rw [if_neg (by simpa using he)])
    rw [hrz]
    refine ⟨[],?_⟩
    simp only [go_sem]
   have he:(s2.wrong).err=0:=by simpa using he
   rw [if_neg (by simpa using he)] at hR
   obtain ⟨hxy,hxl,hxs⟩:=hxy he
   subst hxy
   refine aA E (X:={ i:Nat // i≤x.length∧(x.take i).any (fun n=>decide (1048576<n.pos))=false }) (fun i=>[(2,.bx [2] 0),(3,.d (i64 0)),(4,.d (i64 0)),(9,.bx [9] 0),(10,.d (i64 i.1))])
    (fun i=>[([2],.box [.d .nils]),([9],.box [.d (.sl (some 9) (x.map enD))])]) [2,9] (fun i=>x.length-i.1) ⟨0,Nat.zero_le _,rfl⟩ id ?_ ?_
   ·simp only [go_sem]
    all_goals ((repeat' apply And.intro)<;>first | rfl | trivial)
   rintro ⟨i,hi,hn⟩ E0
   refine aC E0 fun Q' hQ E'=>?_
   simp only at hi hn ⊢
   simp only [go_sem]
   refine ah E' (fun h2=>?_) (fun h2=>?_)<;>simp only [go_sem]
   ·have hi':i<x.length:=by omega
    refine ⟨⟨by omega,by omega⟩,?_⟩
    rw [aP hi']
    have hnd:ndE x i=x[i]:=bG hi'
    simp only [go_sem]
    refine ah E' (fun h3=>?_) (fun h3=>?_)<;>simp only [go_sem]
    ·have hany:x.any (fun n=>decide (1048576<n.pos))=true:=List.any_eq_true.2 ⟨x[i],List.getElem_mem hi',by rw [← hnd];exact decide_eq_true h3⟩
     rw [if_pos hany] at hR
     rw [hQ]
     simp only [go_sem]
     have hrz:bb R=.tup [.d (.agg [.nils]),.d (i64 0),.d (i64 7)]:=by rw [← hR];unfold bb exD;first | rfl | (rw [if_neg (by simpa using he)])
     rw [hrz]
     refine ⟨[],?_⟩
     simp only [go_sem]
    ·rw [hQ]
     simp only [go_sem]
     rw [ai (n:=(i:Int)+1) ⟨by omega,by omega⟩]
     refine ⟨⟨i+1,by omega,?_⟩,by show x.length-(i+1)<x.length-i;omega,id,?_⟩
     ·rw [List.take_succ_eq_append_getElem hi',List.any_append,hn,Bool.false_or,List.any_cons,List.any_nil,Bool.or_false,← hnd]
      exact decide_eq_false h3
     simp only [go_sem]
     all_goals ((repeat' apply And.intro)<;>first | rfl | trivial)
   ·have hi':i=x.length:=by omega
    subst hi'
    rw [List.take_length] at hn
    rw [hn,if_neg (by decide)] at hR
    have c6:=sn (G:=G) x hxs hxl
    generalize cH x=mm at c6 hR
    unfold exD at c6
    rw [hQ]
    simp only [go_sem]
    refine ag E c6 rfl rfl (by simp) ?_
    rintro _ rfl
    simp only [go_sem]
    refine ah E (fun h3=>?_) (fun h3=>?_)<;>simp only [go_sem]
    ·rw [if_pos h3] at hR
     have hrz:bb R=.tup [.d (.agg [.nils]),.d (i64 0),.d (i64 mm)]:=by rw [← hR];unfold bb exD;first | rfl | (rw [if_neg (by simpa using h3)])
     rw [hrz]
     refine ⟨[],?_⟩
     simp only [go_sem]
    ·have h3:mm=0:=by simpa using h3
     rw [if_neg (by simpa using h3)] at hR
     have hrz:bb R=.tup [.d (.agg [.sl (some 9) (x.map enD)]),.d (i64 0),.d (i64 0)]:=by rw [← hR];unfold bb exD;first | rfl | (rw [if_neg (by simpa using h3)])
     rw [hrz]
     refine ⟨[],?_⟩
     simp only [go_sem]
  ·have hD:jf s2=s2:=by
    unfold jf
    rw [if_pos]
    refine List.isEmpty_iff.2 (List.length_eq_zero_iff.1 ?_)
    unfold atN at g2
    omega
   rw [hD] at hR
   unfold fV at hR
   refine ah E (fun he=>?_) (fun he=>?_)<;>simp only [go_sem]
   ·rw [if_pos he] at hR
    refine ak mixed E fun X=>?_
    simp only [go_sem]
    refine cz X (d:=63) [28] 0 none [.bx [26] 0,.d (i64 (s2).err),.d (i64 (s2).pos),.d (i64 (s2).nest)] (by simp only [go_sem]) rfl rfl ?_
    simp only [go_sem]
    refine cz X (d:=67) [28] 0 none [.bx [26] 0,.d (i64 (s2).err),.d (i64 (s2).pos),.d (i64 (s2).nest)] (by simp only [go_sem]) rfl rfl ?_
    simp only [go_sem]
    refine ⟨by decide +kernel,?_⟩
    have hrz:bb R=.tup [.d (.agg [.nils]),.d (i64 (s2).pos),.d (i64 (s2).err)]:=by rw [← hR];unfold bb exD;first | rfl | (rw [if_neg (by simpa using he)])
    rw [hrz]
    refine ⟨[],?_⟩
    simp only [go_sem]
   have he:(s2).err=0:=by simpa using he
   rw [if_neg (by simpa using he)] at hR
   obtain ⟨hxy,hxl,hxs⟩:=hxy he
   subst hxy
   refine aA E (X:={ i:Nat // i≤x.length∧(x.take i).any (fun n=>decide (1048576<n.pos))=false }) (fun i=>[(2,.bx [2] 0),(3,.d (i64 0)),(4,.d (i64 0)),(9,.bx [9] 0),(10,.d (i64 i.1))])
    (fun i=>[([2],.box [.d .nils]),([9],.box [.d (.sl (some 9) (x.map enD))])]) [2,9] (fun i=>x.length-i.1) ⟨0,Nat.zero_le _,rfl⟩ id ?_ ?_
   ·simp only [go_sem]
    all_goals ((repeat' apply And.intro)<;>first | rfl | trivial)
   rintro ⟨i,hi,hn⟩ E0
   refine aC E0 fun Q' hQ E'=>?_
   simp only at hi hn ⊢
   simp only [go_sem]
   refine ah E' (fun h2=>?_) (fun h2=>?_)<;>simp only [go_sem]
   ·have hi':i<x.length:=by omega
    refine ⟨⟨by omega,by omega⟩,?_⟩
    rw [aP hi']
    have hnd:ndE x i=x[i]:=bG hi'
    simp only [go_sem]
    refine ah E' (fun h3=>?_) (fun h3=>?_)<;>simp only [go_sem]
    ·have hany:x.any (fun n=>decide (1048576<n.pos))=true:=List.any_eq_true.2 ⟨x[i],List.getElem_mem hi',by rw [← hnd];exact decide_eq_true h3⟩
     rw [if_pos hany] at hR
     rw [hQ]
     simp only [go_sem]
     have hrz:bb R=.tup [.d (.agg [.nils]),.d (i64 0),.d (i64 7)]:=by rw [← hR];unfold bb exD;first | rfl | (rw [if_neg (by simpa using he)])
     rw [hrz]
     refine ⟨[],?_⟩
     simp only [go_sem]
    ·rw [hQ]
     simp only [go_sem]
     rw [ai (n:=(i:Int)+1) ⟨by omega,by omega⟩]
     refine ⟨⟨i+1,by omega,?_⟩,by show x.length-(i+1)<x.length-i;omega,id,?_⟩
     ·rw [List.take_succ_eq_append_getElem hi',List.any_append,hn,Bool.false_or,List.any_cons,List.any_nil,Bool.or_false,← hnd]
      exact decide_eq_false h3
     simp only [go_sem]
     all_goals ((repeat' apply And.intro)<;>first | rfl | trivial)
   ·have hi':i=x.length:=by omega
    subst hi'
    rw [List.take_length] at hn
    rw [hn,if_neg (by decide)] at hR
    have c6:=sn (G:=G) x hxs hxl
    generalize cH x=mm at c6 hR
    unfold exD at c6
    rw [hQ]
    simp only [go_sem]
    refine ag E c6 rfl rfl (by simp) ?_
    rintro _ rfl
    simp only [go_sem]
    refine ah E (fun h3=>?_) (fun h3=>?_)<;>simp only [go_sem]
    ·rw [if_pos h3] at hR
     have hrz:bb R=.tup [.d (.agg [.nils]),.d (i64 0),.d (i64 mm)]:=by rw [← hR];unfold bb exD;first | rfl | (rw [if_neg (by simpa using h3)])
     rw [hrz]
     refine ⟨[],?_⟩
     simp only [go_sem]
    ·have h3:mm=0:=by simpa using h3
     rw [if_neg (by simpa using h3)] at hR
     have hrz:bb R=.tup [.d (.agg [.sl (some 9) (x.map enD)]),.d (i64 0),.d (i64 0)]:=by rw [← hR];unfold bb exD;first | rfl | (rw [if_neg (by simpa using h3)])
     rw [hrz]
     refine ⟨[],?_⟩
     simp only [go_sem]
 ·have hD:jf s2=s2:=by
   unfold jf
   split
   ·rfl
   ·exact cg g1
  rw [hD] at hR
  unfold fV at hR
  refine ah E (fun he=>?_) (fun he=>?_)<;>simp only [go_sem]
  ·rw [if_pos he] at hR
   refine ak mixed E fun X=>?_
   simp only [go_sem]
   refine cz X (d:=63) [28] 0 none [.bx [26] 0,.d (i64 (s2).err),.d (i64 (s2).pos),.d (i64 (s2).nest)] (by simp only [go_sem]) rfl rfl ?_
   simp only [go_sem]
   refine cz X (d:=67) [28] 0 none [.bx [26] 0,.d (i64 (s2).err),.d (i64 (s2).pos),.d (i64 (s2).nest)] (by simp only [go_sem]) rfl rfl ?_
   simp only [go_sem]
   refine ⟨by decide +kernel,?_⟩
   have hrz:bb R=.tup [.d (.agg [.nils]),.d (i64 (s2).pos),.d (i64 (s2).err)]:=by rw [← hR];unfold bb exD;first | rfl | (rw [if_neg (by simpa using he)])
   rw [hrz]
   refine ⟨[],?_⟩
   simp only [go_sem]
  have he:(s2).err=0:=by simpa using he
  rw [if_neg (by simpa using he)] at hR
  obtain ⟨hxy,hxl,hxs⟩:=hxy he
  subst hxy
  refine aA E (X:={ i:Nat // i≤x.length∧(x.take i).any (fun n=>decide (1048576<n.pos))=false }) (fun i=>[(2,.bx [2] 0),(3,.d (i64 0)),(4,.d (i64 0)),(9,.bx [9] 0),(10,.d (i64 i.1))])
   (fun i=>[([2],.box [.d .nils]),([9],.box [.d (.sl (some 9) (x.map enD))])]) [2,9] (fun i=>x.length-i.1) ⟨0,Nat.zero_le _,rfl⟩ id ?_ ?_
  ·simp only [go_sem]
   all_goals ((repeat' apply And.intro)<;>first | rfl | trivial)
  rintro ⟨i,hi,hn⟩ E0
  refine aC E0 fun Q' hQ E'=>?_
  simp only at hi hn ⊢
  simp only [go_sem]
  refine ah E' (fun h2=>?_) (fun h2=>?_)<;>simp only [go_sem]
  ·have hi':i<x.length:=by omega
   refine ⟨⟨by omega,by omega⟩,?_⟩
   rw [aP hi']
   have hnd:ndE x i=x[i]:=bG hi'
   simp only [go_sem]
   refine ah E' (fun h3=>?_) (fun h3=>?_)<;>simp only [go_sem]
   ·have hany:x.any (fun n=>decide (1048576<n.pos))=true:=List.any_eq_true.2 ⟨x[i],List.getElem_mem hi',by rw [← hnd];exact decide_eq_true h3⟩
    rw [if_pos hany] at hR
    rw [hQ]
    simp only [go_sem]
    have hrz:bb R=.tup [.d (.agg [.nils]),.d (i64 0),.d (i64 7)]:=by rw [← hR];unfold bb exD;first | rfl | (rw [if_neg (by simpa using he)])
    rw [hrz]
    refine ⟨[],?_⟩
    simp only [go_sem]
   ·rw [hQ]
    simp only [go_sem]
    rw [ai (n:=(i:Int)+1) ⟨by omega,by omega⟩]
    refine ⟨⟨i+1,by omega,?_⟩,by show x.length-(i+1)<x.length-i;omega,id,?_⟩
    ·rw [List.take_succ_eq_append_getElem hi',List.any_append,hn,Bool.false_or,List.any_cons,List.any_nil,Bool.or_false,← hnd]
     exact decide_eq_false h3
    simp only [go_sem]
    all_goals ((repeat' apply And.intro)<;>first | rfl | trivial)
  ·have hi':i=x.length:=by omega
   subst hi'
   rw [List.take_length] at hn
   rw [hn,if_neg (by decide)] at hR
   have c6:=sn (G:=G) x hxs hxl
   generalize cH x=mm at c6 hR
   unfold exD at c6
   rw [hQ]
   simp only [go_sem]
   refine ag E c6 rfl rfl (by simp) ?_
   rintro _ rfl
   simp only [go_sem]
   refine ah E (fun h3=>?_) (fun h3=>?_)<;>simp only [go_sem]
   ·rw [if_pos h3] at hR
    have hrz:bb R=.tup [.d (.agg [.nils]),.d (i64 0),.d (i64 mm)]:=by rw [← hR];unfold bb exD;first | rfl | (rw [if_neg (by simpa using h3)])
    rw [hrz]
    refine ⟨[],?_⟩
    simp only [go_sem]
   ·have h3:mm=0:=by simpa using h3
    rw [if_neg (by simpa using h3)] at hR
    have hrz:bb R=.tup [.d (.agg [.sl (some 9) (x.map enD)]),.d (i64 0),.d (i64 0)]:=by rw [← hR];unfold bb exD;first | rfl | (rw [if_neg (by simpa using h3)])
    rw [hrz]
    refine ⟨[],?_⟩
    simp only [go_sem]
end Go.Proofs.YtejpnabbmgpmaaaGreat

namespace Go.Proofs.YtejpnabbmgpmaaaGreat
open Go.Ab
def wsD (ns:List EN) (B:List Bi) (ws:List Int):D:=.agg [.sl (some 9) (ns.map enD),.sl (some 2) (B.map bD),.sl none (ws.map i64)]
theorem D2 {G} {ns:List EN} {B:List Bi} {ws:List Int} {k x:Int} {b:Bool} (h:HP Tryz.prog G 161 [.ptr (wsD ns B ws),i64 k,i64 x] (fun r=>r=.d (.bool b))) :
  HP Tryz.prog G 229 [i64 k,.ptr (.ptr (wsD ns B ws)),.ptr (i64 x)] (fun r=>r=.d (.bool b)):=by
 unfold wsD at *
 refine al Tryz.func229 rfl (by decide +kernel) (by simp [Tryz.ntmps229]) (veil fun E=>?_)
 simp only [go_sem]
 refine ag E h rfl rfl (by simp) ?_
 rintro _ rfl
 simp only [go_sem]
set_option maxHeartbeats 1000000 in
theorem qK {G} (ns:List EN) (B:List Bi) (ws:List Int) (hs:∀ n∈ns,n.l.length≤900000) (hk:∀ i,i<ns.length→(aj (ndE ns i)).all (inB i)=true) (x:Int) :
  ∀ (m i:Nat),i<m→i<ns.length→HP Tryz.prog G 161 [.ptr (wsD ns B ws),i64 (i:Int),i64 x] (fun r=>r=.d (.bool (bp ns m i x)))
 | 0,_,h,_=>absurd h (Nat.not_lt_zero _)
 | m+1,i,him,hi=>by
   have ih:=qK (G:=G) ns B ws hs hk x m
   have hg:=aP hi
   have hsi:=hs _ (by rw [bG hi];exact List.getElem_mem hi:ndE ns i∈ns)
   have hkn:=aM hk hi
   have hw:bp ns (m+1) i x=(decide ((i:Int)=x) || (aj (ndE ns i)).any (fun k=>bp ns m k x)):=rfl
   obtain ⟨n,hne⟩:∃ n,n=ndE ns i:=⟨_,rfl⟩
   rw [← hne] at hg hsi hkn hw
   have hkc:=gL (G:=G) n (by omega)
   have hcf:=BE (G:=G) (aj n) (fun k=>bp ns m k x) 229 [.ptr (.ptr (wsD ns B ws)),.ptr (i64 x)] (by rw [bt];unfold bf;have:=bC n.k;split<;>omega) (fun k hkm=>by
    obtain ⟨h1,h2⟩:=hkn k hkm
    obtain ⟨k,rfl⟩:∃ q:Nat,k=(q:Int):=⟨k.toNat,by omega⟩
    exact D2 (ih k (by omega) (by omega)))
   generalize hR:bp ns (m+1) i x=R at hw ⊢
   obtain ⟨K,hK⟩:∃ K,K=aj n:=⟨_,rfl⟩
   rw [← hK] at hkc hcf hw
   obtain ⟨b,hb⟩:∃ b,b=K.any (fun k=>bp ns m k x):=⟨_,rfl⟩
   rw [← hb] at hcf hw
   unfold wsD at hcf ⊢
   refine ax Tryz.func161 rfl (by decide +kernel) (by simp [Tryz.ntmps161]) (veil fun E=>?_)
   simp only [go_sem]
   refine ah E (fun g1=>?_) (fun g1=>?_)<;>simp only [go_sem]
   ·rw [hw,decide_eq_true g1,Bool.true_or]
    refine ⟨[],?_⟩
    simp only [go_sem]
   rw [decide_eq_false g1,Bool.false_or] at hw
   refine GW E (by simp only [go_sem]) rfl ?_
   simp only [go_sem]
   refine ⟨⟨by omega,by omega⟩,?_⟩
   rw [hg]
   simp only [go_sem]
   refine ab E [.d (enD n)] [] [] hkc rfl rfl ⟨by simp only [go_sem],by rw [aa];decide⟩ rfl (by simp only [go_sem]) (by simp only [go_sem]) ?_
   rintro _ _ ⟨rfl,rfl⟩
   simp only [go_sem]
   refine cL E [18,0] none (K.map i64) rfl (by simp only [go_sem];rfl) ?_
   simp only [go_sem]
   refine CC E [3] (.ptr (.agg [.sl (some 9) (ns.map enD),.sl (some 2) (B.map bD),.sl none (ws.map i64)])) rfl rfl ?_
   simp only [go_sem]
   refine CC E [5] (i64 x) rfl rfl ?_
   simp only [go_sem]
   refine ag E hcf rfl rfl (by simp) ?_
   rintro _ rfl
   simp only [go_sem]
   rw [← hw]
   refine ⟨[],?_⟩
   simp only [go_sem]
end Go.Proofs.YtejpnabbmgpmaaaGreat

namespace Go.Proofs.YtejpnabbmgpmaaaGreat
open Go.Ab
def wdE (ns:List EN):Nat→Int→Int
 | 0,_=>0
 | m+1,i=>min ((aj (ndE ns i.toNat)).foldl (fun n k=>min (n+wdE ns m k) 1000000) (match gi ns i.toNat with
   | some a=>1+wdE ns m a
   | none=>1)) 1000000
def wdK (f:List Int→Int→Int × List Int) (p:Int × List Int) (k:Int):Int × List Int:=(min (p.1+(f p.2 k).1) 1000000,(f p.2 k).2)
def wd0 (ns:List EN) (f:List Int→Int→Int × List Int) (ws:List Int) (i:Nat):Int × List Int:=match gi ns i with
 | some a=>(1+(f ws a).1,(f ws a).2)
 | none=>(1,ws)
def wdM (z:Int) (ns:List EN):Nat→List Int→Int→Int × List Int
 | 0,ws,_=>(0,ws)
 | m+1,ws,i=>if z<ws.getD i.toNat 0 then (ws.getD i.toNat 0,ws) else
   (min ((aj (ndE ns i.toNat)).foldl (wdK (wdM z ns m)) (wd0 ns (wdM z ns m) ws i.toNat)).1 1000000,
    ((aj (ndE ns i.toNat)).foldl (wdK (wdM z ns m)) (wd0 ns (wdM z ns m) ws i.toNat)).2.set i.toNat (min ((aj (ndE ns i.toNat)).foldl (wdK (wdM z ns m)) (wd0 ns (wdM z ns m) ws i.toNat)).1 1000000))
def Wb (ws:List Int):Prop:=∀ x∈ws,-1≤x∧x≤1000000
theorem Wb.get {ws:List Int} (h:Wb ws) (k:Nat):-1≤ws.getD k 0∧ws.getD k 0≤1000000:=by
 rw [List.getD_eq_getElem?_getD]
 cases hc:ws[k]? with
 | none=>simp
 | some x=>exact h x (List.mem_of_getElem? hc)
theorem Wb.set {ws:List Int} (h:Wb ws) (k:Nat) {x:Int} (h0:-1≤x) (h1:x≤1000000):Wb (ws.set k x):=fun y hy=>by
 rcases List.mem_or_eq_of_mem_set hy with h2 | h2
 ·exact h y h2
 ·rw [h2];exact ⟨h0,h1⟩
def WF (n:Nat) (f:List Int→Int→Int × List Int):Prop:=∀ ws k,ws.length=n→Wb ws→0≤(f ws k).1∧(f ws k).1≤1000000∧(f ws k).2.length=n∧Wb (f ws k).2
theorem s7 {n:Nat} {f:List Int→Int→Int × List Int} (hf:WF n f):∀ (l:List Int) (p:Int × List Int),0≤p.1∧p.1≤1000001∧p.2.length=n∧Wb p.2→0≤(l.foldl (wdK f) p).1∧(l.foldl (wdK f) p).1≤1000001∧(l.foldl (wdK f) p).2.length=n∧Wb (l.foldl (wdK f) p).2
 | [],_,h=>h
 | x::r,p,h=>by
   obtain ⟨h1,h2,h3,h4⟩:=hf p.2 x h.2.2.1 h.2.2.2
   refine s7 hf r (wdK f p x) ⟨?_,?_,h3,h4⟩
   ·show 0≤min (p.1+(f p.2 x).1) 1000000
    omega
   ·show min (p.1+(f p.2 x).1) 1000000≤1000001
    omega
theorem vK {n:Nat} {f:List Int→Int→Int × List Int} (hf:WF n f) (ns:List EN) {ws:List Int} (i:Nat) (hl:ws.length=n) (hw:Wb ws):0≤(wd0 ns f ws i).1∧(wd0 ns f ws i).1≤1000001∧(wd0 ns f ws i).2.length=n∧Wb (wd0 ns f ws i).2:=by
 unfold wd0
 cases gi ns i with
 | none=>exact ⟨by show (0:Int)≤1;omega,by show (1:Int)≤1000001;omega,hl,hw⟩
 | some a =>
   obtain ⟨h1,h2,h3,h4⟩:=hf ws a hl hw
   exact ⟨by show 0≤1+(f ws a).1;omega,by show 1+(f ws a).1≤1000001;omega,h3,h4⟩
theorem md {z:Int} (hz:-1≤z) (ns:List EN) (n:Nat):∀ m,WF n (wdM z ns m)
 | 0=>fun ws k hl hw=>⟨by show (0:Int)≤0;omega,by show (0:Int)≤1000000;omega,hl,hw⟩
 | m+1=>fun ws k hl hw=>by
   unfold wdM
   split
   ·have:=hw.get k.toNat
    exact ⟨by show 0≤ws.getD k.toNat 0;omega,this.2,hl,hw⟩
   ·obtain ⟨h1,h2,h3,h4⟩:=s7 (md hz ns n m) (aj (ndE ns k.toNat)) _ (vK (md hz ns n m) ns k.toNat hl hw)
    generalize (aj (ndE ns k.toNat)).foldl (wdK (wdM z ns m)) (wd0 ns (wdM z ns m) ws k.toNat)=p at *
    exact ⟨by show 0≤min p.1 1000000;omega,by show min p.1 1000000≤1000000;omega,by show (p.2.set _ _).length=n;rw [List.length_set,h3],h4.set _ (by omega) (by omega)⟩
theorem lA {α β:Type} {f g:β→α→β}:∀ {l:List α},(∀ a∈l,∀ b,f b a=g b a)→∀ b,l.foldl f b=l.foldl g b
 | [],_,_=>rfl
 | x::r,h,b=>by rw [List.foldl_cons,List.foldl_cons,h x List.mem_cons_self,lA fun a ha=>h a (List.mem_cons_of_mem _ ha)]
theorem wW {ns:List EN} (ht:cW ns):∀ (m m' i:Nat),i<ns.length→rkE ns i<m→rkE ns i<m'→wdE ns m i=wdE ns m' i
 | 0,_,_,_,h,_=>absurd h (Nat.not_lt_zero _)
 | _+1,0,_,_,_,h=>absurd h (Nat.not_lt_zero _)
 | m+1,m'+1,i,hi,h1,h2=>by
   have hd:∀ a:Int,0≤a∧a<(ns.length:Int)∧rkE ns a.toNat<rkE ns i→wdE ns m a=wdE ns m' a:=fun a ⟨g1,g2,g3⟩=>by
    obtain ⟨a,rfl⟩:∃ k:Nat,a=(k:Int):=⟨a.toNat,by omega⟩
    rw [Int.toNat_natCast] at g3
    exact wW ht m m' a (by omega) (by omega) (by omega)
   unfold wdE
   rw [Int.toNat_natCast]
   have e:(match gi ns i with
    | some a=>1+wdE ns m a
    | none=>1)=(match gi ns i with
    | some a=>1+wdE ns m' a
    | none=>1):=by
    cases hda:gi ns i with
    | none=>rfl
    | some a =>
      simp only
      rw [hd a (rh ht hi hda)]
   rw [e,lA (fun k hk b=>?_)]
   obtain ⟨g1,g2⟩:=aM (aO ht) hi k hk
   rw [hd k ⟨g1,by omega,sk ht hi (by rw [Int.toNat_of_nonneg g1];exact hk)⟩]
def wvE (ns:List EN) (i:Nat):Int:=wdE ns (rkE ns i+1) i
theorem qT (ns:List EN):∀ (m:Nat) (i:Int),0≤wdE ns m i∧wdE ns m i≤1000000∧(0<m→1≤wdE ns m i)
 | 0,_=>⟨by show (0:Int)≤0;omega,by show (0:Int)≤1000000;omega,fun h=>absurd h (Nat.not_lt_zero _)⟩
 | m+1,i=>by
   have ih:=qT ns m
   have h0:1≤(match gi ns i.toNat with
    | some a=>1+wdE ns m a
    | none=>1):=by
    cases gi ns i.toNat with
    | none=>exact Int.le_refl _
    | some a=>have:=(ih a).1;show 1≤1+wdE ns m a;omega
   have hf:∀ (l:List Int) (b:Int),1≤b→1≤l.foldl (fun n k=>min (n+wdE ns m k) 1000000) b:=by
    intro l
    induction l with
    | nil=>exact fun b h=>h
    | cons x r ihl =>
      intro b hb
      have:=(ih x).1
      exact ihl _ (by show 1≤min (b+wdE ns m x) 1000000;omega)
   have h1:=hf (aj (ndE ns i.toNat)) _ h0
   unfold wdE
   generalize (aj (ndE ns i.toNat)).foldl (fun n k=>min (n+wdE ns m k) 1000000) _=q at *
   exact ⟨by omega,by omega,fun _=>by omega⟩
def Kn (z:Int) (ns:List EN) (ws:List Int):Prop:=ws.length=ns.length∧∀ j,j<ns.length→ws.getD j 0=z∨ws.getD j 0=wvE ns j
theorem xj {z:Int} {ns:List EN} {m:Nat} {v:Int→Int}:∀ (l:List Int),(∀ k∈l,∀ ws,Kn z ns ws→(wdM z ns m ws k).1=v k∧Kn z ns (wdM z ns m ws k).2)→∀ p:Int × List Int,Kn z ns p.2 →
  (l.foldl (wdK (wdM z ns m)) p).1=l.foldl (fun n k=>min (n+v k) 1000000) p.1∧Kn z ns (l.foldl (wdK (wdM z ns m)) p).2
 | [],_,_,h=>⟨rfl,h⟩
 | x::r,hl,p,h=>by
   obtain ⟨h1,h2⟩:=hl x List.mem_cons_self p.2 h
   have:=xj r (fun k hk=>hl k (List.mem_cons_of_mem _ hk)) (wdK (wdM z ns m) p x) h2
   rw [List.foldl_cons,List.foldl_cons,this.1]
   refine ⟨?_,this.2⟩
   rw [show (wdK (wdM z ns m) p x).1=min (p.1+v x) 1000000 by unfold wdK;rw [h1]]
theorem rP {z:Int} (hz:z<1) {ns:List EN} (ht:cW ns):∀ (m i:Nat),i<ns.length→rkE ns i<m→∀ ws,Kn z ns ws→(wdM z ns m ws i).1=wvE ns i∧Kn z ns (wdM z ns m ws i).2
 | 0,_,_,h,_,_=>absurd h (Nat.not_lt_zero _)
 | m+1,i,hi,hm,ws,hw=>by
   have hd:∀ a:Int,0≤a∧a<(ns.length:Int)∧rkE ns a.toNat<rkE ns i→∀ ws,Kn z ns ws→(wdM z ns m ws a).1=wdE ns (rkE ns i) a∧Kn z ns (wdM z ns m ws a).2:=fun a ⟨g1,g2,g3⟩ ws hw=>by
    obtain ⟨a,rfl⟩:∃ k:Nat,a=(k:Int):=⟨a.toNat,by omega⟩
    rw [Int.toNat_natCast] at g3
    rw [wW ht (rkE ns i) (rkE ns a+1) a (by omega) g3 (by omega)]
    exact rP hz ht m a (by omega) (by omega) ws hw
   unfold wdM
   rw [Int.toNat_natCast]
   by_cases hc:z<ws.getD i 0
   ·rw [if_pos hc]
    refine ⟨?_,hw⟩
    rcases hw.2 i hi with h | h
    ·omega
    ·exact h
   rw [if_neg hc]
   have h0:(wd0 ns (wdM z ns m) ws i).1=(match gi ns i with
    | some a=>1+wdE ns (rkE ns i) a
    | none=>1)∧Kn z ns (wd0 ns (wdM z ns m) ws i).2:=by
    unfold wd0
    cases hda:gi ns i with
    | none=>exact ⟨rfl,hw⟩
    | some a =>
      obtain ⟨h1,h2⟩:=hd a (rh ht hi hda) ws hw
      exact ⟨by show 1+(wdM z ns m ws a).1=1+wdE ns (rkE ns i) a;rw [h1],h2⟩
   obtain ⟨h1,h2⟩:=xj (v:=wdE ns (rkE ns i)) (aj (ndE ns i)) (fun k hk=>by
    obtain ⟨g1,g2⟩:=aM (aO ht) hi k hk
    exact hd k ⟨g1,by omega,sk ht hi (by rw [Int.toNat_of_nonneg g1];exact hk)⟩) _ h0.2
   rw [h0.1] at h1
   have hv:min ((aj (ndE ns i)).foldl (wdK (wdM z ns m)) (wd0 ns (wdM z ns m) ws i)).1 1000000=wvE ns i:=by
    rw [h1]
    unfold wvE
    rw [wdE,Int.toNat_natCast]
   refine ⟨hv,?_⟩
   show Kn z ns (((aj (ndE ns i)).foldl (wdK (wdM z ns m)) (wd0 ns (wdM z ns m) ws i)).2.set i (min ((aj (ndE ns i)).foldl (wdK (wdM z ns m)) (wd0 ns (wdM z ns m) ws i)).1 1000000))
   rw [hv]
   refine ⟨by rw [List.length_set,h2.1],fun j hj=>?_⟩
   by_cases e:j=i
   ·subst e
    exact .inr (by simp [List.getD_eq_getElem?_getD,h2.1,hi])
   ·rw [show (((aj (ndE ns i)).foldl (wdK (wdM z ns m)) (wd0 ns (wdM z ns m) ws i)).2.set i (wvE ns i)).getD j 0=((aj (ndE ns i)).foldl (wdK (wdM z ns m)) (wd0 ns (wdM z ns m) ws i)).2.getD j 0 by
     simp [List.getD_eq_getElem?_getD,List.getElem?_set_ne (fun e':i=j=>e e'.symm)]]
    exact h2.2 j hj
theorem Aq (z:Int) (ns:List EN):Kn z ns (List.replicate ns.length z):=⟨List.length_replicate,fun j hj=>.inl (by simp [List.getD_eq_getElem?_getD,hj])⟩
def cJ (ns:List EN):Int:=if rQ ns=0 then wvE ns (ns.length-1) else 1000000
end Go.Proofs.YtejpnabbmgpmaaaGreat

