/-
  The document's parser: what an expr may be. (with the parts that follow it)
-/
import Derived.Test.YtejpnabbmgpmaaaGreatSEK
import Derived.Test.YtejpnabbmgpmaaaGreatSEI
import Derived.Test.YtejpnabbmgpmaaaGreatSEG
import Derived.Test.YtejpnabbmgpmaaaGreatSEF
import Derived.Test.YtejpnabbmgpmaaaGreatSEH
import Derived.Test.YtejpnabbmgpmaaaGreatSEJ
set_option linter.all false
namespace Go.Proofs.YtejpnabbmgpmaaaGreat
open Go.Ab
def G1 (f:Nat) (G:List (Nat × Obj)) (N:Nat) (sub:PS→PR):Prop:=∀ (L:List Tok) (s:PS),Fit L s→L.length≤100000→s.nest=N→s.err=0→HCall Tryz.prog G f [.bx [100] 0,.d (i64 s.peek.pos)] (RX L s) [100,101] (fun r hp'=>r=.d (exD (sub s).1)∧hp'=RX L (sub s).2)
theorem DL {s:PS} (h1:s.sees 7 [60]=false) (h2:s.sees 7 [61,61]=false):opS s dE=none:=by
 unfold dE opS opS opS
 rw [h1,h2];rfl
set_option maxHeartbeats 2000000 in
theorem Eh {G} {N:Nat} {ex:PS→PR} (hex:∀ s,GP 1 s (ex s)) (hst:∀ s,s.err≠0→(ex s).2=s) (hc:cO 70 G N ex):G1 120 G N (fx ex):=by
 have h177:=EP hex (D5 hex (FJ hex (DN hex (El hex hst hc))))
 intro L s hf hl hN he0
 have hl1:L.length≤1000000:=by omega
 have hfl:=hf.le
 generalize hR:fx ex s=R
 unfold fx at hR
 obtain ⟨p,hp⟩:∃ p,p=s.peek.pos:=⟨_,rfl⟩
 simp only [← hp] at hR ⊢
 have hnx:s.next.nest=N:=hN
 have hfn:=hf.ss (SS.next s)
 have ln:=(SS.next s).len
 have c1:=iB (G:=G) hf hl1 yn
 have c2:=iB (G:=G) hf hl1 yY
 have c3:=iB (G:=G) hf hl1 bIf
 unfold RX TS TX ae
 refine aq Tryz.func120 rfl (by decide +kernel) (by simp [Tryz.ntmps120]) (veil fun E=>?_)
 simp only [go_sem]
 refine ab E [.bx [100] 0,.d (.str yn)] (RX L s) [100,101] (c1) rfl rfl ⟨by simp only [go_sem],by first | (rw [aa];decide) | (simp only [go_sem]<;>(try rw [aa])<;>decide)⟩ rfl (by unfold RX TS TX ae;simp only [go_sem]) (by unfold RX TS TX;simp only [go_sem]) ?_
 rintro _ _ ⟨rfl,rfl⟩
 unfold RX TS TX ae
 simp only [go_sem]
 refine aB E (fun h=>?_) (fun h=>?_)<;>simp only [go_sem]
 ·rw [if_pos h] at hR
  rw [bp h]
  have co:=jG (G:=G) hfn hl1 2
  have ho:=SS.of s.next 2
  obtain ⟨nm,so,eo⟩:∃ nm so,s.next.of 2=(nm,so):=⟨_,_,rfl⟩
  rw [eo] at co ho hR
  simp only at co ho hR
  have cm:=ef (G:=G) (hfn.ss ho) hl1 7 bTo (by decide)
  have hm:=ho.trans (SS.must so 7 bTo)
  generalize so.must 7 bTo=s2 at hR cm hm
  have ca:=hc L s2 (hfn.ss hm) hl (hm.nest.trans hnx)
  have ha:=hex s2
  obtain ⟨a,sa,ea⟩:∃ a sa,ex s2=(a,sa):=⟨_,_,rfl⟩
  rw [ea] at ha ca hR
  have l2:=hm.len
  have za:=ha.sz
  simp only at za hR
  have h4:=eB (G:=G) { nd0 5 p with name:=nm } [a] rfl rfl (by simp only [aT,List.map_cons,List.map_nil,List.sum_cons,List.sum_nil];omega)
   (fun l h=>by rw [List.mem_singleton.1 h];exact ha.tr.kids.2)
   (fun l h=>by rw [List.mem_singleton.1 h];exact ha.wd.mono (by omega))
  unfold exD at ca
  refine ab E [.bx [100] 0,.d (i64 2)] (RX L s.next) [100,101] (co) rfl rfl ⟨by simp only [go_sem],by first | (rw [aa];decide) | (simp only [go_sem]<;>(try rw [aa])<;>decide)⟩ rfl (by unfold RX TS TX ae;simp only [go_sem]) (by unfold RX TS TX;simp only [go_sem]) ?_
  rintro _ _ ⟨rfl,rfl⟩
  unfold RX TS TX ae
  simp only [go_sem]
  refine ab E [.bx [100] 0,.d (i64 7),.d (.str bTo)] (RX L so) [100,101] (cm) rfl rfl ⟨by simp only [go_sem],by first | (rw [aa];decide) | (simp only [go_sem]<;>(try rw [aa])<;>decide)⟩ rfl (by unfold RX TS TX ae;simp only [go_sem]) (by unfold RX TS TX;simp only [go_sem]) ?_
  rintro _ _ ⟨rfl,rfl⟩
  unfold RX TS TX ae
  simp only [go_sem]
  refine ab E [.bx [100] 0] (RX L s2) [100,101] (ca) rfl rfl ⟨by simp only [go_sem],by first | (rw [aa];decide) | (simp only [go_sem]<;>(try rw [aa])<;>decide)⟩ rfl (by unfold RX TS TX ae;simp only [go_sem]) (by unfold RX TS TX;simp only [go_sem]) ?_
  rintro _ _ ⟨rfl,rfl⟩
  unfold RX TS TX ae
  simp only [go_sem]
  refine cJ E [27] (some 1) ([.agg [.sl (some 9) (a.map enD)]]) rfl (by simp only [go_sem];rfl) ?_
  simp only [go_sem]
  generalize au { nd0 5 p with name:=nm } [a]=J at h4 hR
  unfold ndN exD at h4
  refine ag E h4 rfl rfl (by simp) ?_
  rintro _ rfl
  simp only [go_sem]
  subst hR
  refine ⟨_,_,[100,101],id,⟨rfl,rfl⟩,?_⟩
  simp only [go_sem]
  rfl
 rw [if_neg (by rw [h];decide)] at hR
 rw [bS h]
 refine ab E [.bx [100] 0,.d (.str yY)] (RX L s) [100,101] (c2) rfl rfl ⟨by simp only [go_sem],by first | (rw [aa];decide) | (simp only [go_sem]<;>(try rw [aa])<;>decide)⟩ rfl (by unfold RX TS TX ae;simp only [go_sem]) (by unfold RX TS TX;simp only [go_sem]) ?_
 rintro _ _ ⟨rfl,rfl⟩
 unfold RX TS TX ae
 simp only [go_sem]
 refine aB E (fun h=>?_) (fun h=>?_)<;>simp only [go_sem]
 ·rw [if_pos h] at hR
  rw [bp h]
  unfold lz at hR
  have cw:=iB (G:=G) hfn hl1 gy
  have hw:=SS.may s.next 1 gy
  obtain ⟨c,hcc⟩:∃ c,c=s.next.sees 1 gy:=⟨_,rfl⟩
  rw [← hcc] at cw
  simp only [← hcc] at hR
  generalize s.next.may 1 gy=sm at hR cw hw
  have co:=jG (G:=G) (hfn.ss hw) hl1 2
  have ho:=hw.trans (SS.of sm 2)
  obtain ⟨nm,so,eo⟩:∃ nm so,sm.of 2=(nm,so):=⟨_,_,rfl⟩
  rw [eo] at co ho hR
  simp only at co ho hR
  have cm:=ef (G:=G) (hfn.ss ho) hl1 7 [61] (by decide)
  have hm:=ho.trans (SS.must so 7 [61])
  generalize so.must 7 [61]=s2 at hR cm hm
  have cp:=fV (G:=G) (hfn.ss hm) hl1
  have ca:=hc L s2 (hfn.ss hm) hl (hm.nest.trans hnx)
  have ha:=hex s2
  obtain ⟨a,sa,ea⟩:∃ a sa,ex s2=(a,sa):=⟨_,_,rfl⟩
  rw [ea] at ha ca hR
  have hma:=hm.trans ha.ss
  have l2:=hma.len
  have hap:=ha.tr.kids.1
  have za:=ha.sz
  have l3:=hm.len
  simp only at hR l2 hap za
  have cf:=jd (G:=G) L sa 5 s2.peek.pos
  have key:∀ s3:PS,SS s.next s3→∀ k:Int,aF k=2→aH k=false→(au { nd0 k p with name:=nm } [a,(ex (s3.must 1 bIn)).1],(ex (s3.must 1 bIn)).2)=R →
    HCall Tryz.prog G 175 [.bx [100] 0,.d (i64 1),.d (.str bIn)] (RX L s3) [100,101] (fun r hp'=>r=.tup []∧hp'=RX L (s3.must 1 bIn))∧∃ b sb J,R=(J,sb) ∧
    HCall Tryz.prog G 70 [.bx [100] 0] (RX L (s3.must 1 bIn)) [100,101] (fun r hp'=>r=.d (.agg [.sl (some 9) (b.map enD)])∧hp'=RX L sb) ∧
    HP Tryz.prog G 176 [ndN { nd0 k p with name:=nm },.sl (some 1) ([a,b].map exD)] (fun r=>r=.d (.agg [.sl (some 9) (J.map enD)])):=by
   intro s3 h3 k hk1 hk2 hk
   have hm3:=h3
   have cm3:=ef (G:=G) (hfn.ss hm3) hl1 1 bIn (by decide)
   have hm4:=hm3.trans (SS.must s3 1 bIn)
   generalize s3.must 1 bIn=s4 at hk cm3 hm4 ⊢
   have l4:=hm4.len
   have hb:=hex s4
   have cb:=hc L s4 (hfn.ss hm4) hl (hm4.nest.trans hnx)
   obtain ⟨b,sb,eb⟩:∃ b sb,ex s4=(b,sb):=⟨_,_,rfl⟩
   rw [eb] at hb cb hk
   have zb:=hb.sz
   simp only at zb hk
   have h4:=eB (G:=G) { nd0 k p with name:=nm } [a,b] rfl (by show aF k+(if aH k then _ else 0)=_;rw [hk1,hk2];rfl) (by simp only [aT,List.map_cons,List.map_nil,List.sum_cons,List.sum_nil];omega)
    (fun l h=>by
     simp only [List.mem_cons,List.mem_singleton,List.not_mem_nil,or_false] at h
     rcases h with rfl | rfl
     ·exact ha.tr.kids.2
     ·exact hb.tr.kids.2)
    (fun l h=>by
     simp only [List.mem_cons,List.mem_singleton,List.not_mem_nil,or_false] at h
     rcases h with rfl | rfl
     ·exact ha.wd.mono (by omega)
     ·exact hb.wd.mono (by omega))
   exact ⟨cm3,b,sb,_,hk.symm,cb,h4⟩
  unfold exD at ca
  refine ab E [.bx [100] 0,.d (.str gy)] (RX L s.next) [100,101] (cw) rfl rfl ⟨by simp only [go_sem],by first | (rw [aa];decide) | (simp only [go_sem]<;>(try rw [aa])<;>decide)⟩ rfl (by unfold RX TS TX ae;simp only [go_sem]) (by unfold RX TS TX;simp only [go_sem]) ?_
  rintro _ _ ⟨rfl,rfl⟩
  unfold RX TS TX ae
  simp only [go_sem]
  cases c with
  | false =>
    refine ab E [.bx [100] 0,.d (i64 2)] (RX L sm) [100,101] (co) rfl rfl ⟨by simp only [go_sem],by first | (rw [aa];decide) | (simp only [go_sem]<;>(try rw [aa])<;>decide)⟩ rfl (by unfold RX TS TX ae;simp only [go_sem]) (by unfold RX TS TX;simp only [go_sem]) ?_
    rintro _ _ ⟨rfl,rfl⟩
    unfold RX TS TX ae
    simp only [go_sem]
    refine ab E [.bx [100] 0,.d (i64 7),.d (.str [61])] (RX L so) [100,101] (cm) rfl rfl ⟨by simp only [go_sem],by first | (rw [aa];decide) | (simp only [go_sem]<;>(try rw [aa])<;>decide)⟩ rfl (by unfold RX TS TX ae;simp only [go_sem]) (by unfold RX TS TX;simp only [go_sem]) ?_
    rintro _ _ ⟨rfl,rfl⟩
    unfold RX TS TX ae
    simp only [go_sem]
    refine ab E [.bx [101] 0] (TS L s2) [101] (cp) rfl rfl ⟨by simp only [go_sem],by first | (rw [aa];decide) | (simp only [go_sem]<;>(try rw [aa])<;>decide)⟩ rfl (by unfold TS TX ae;simp only [go_sem]) (by unfold TS TX;simp only [go_sem]) ?_
    rintro _ _ ⟨rfl,rfl⟩
    unfold TS TX ae
    simp only [go_sem]
    refine ab E [.bx [100] 0] (RX L s2) [100,101] (ca) rfl rfl ⟨by simp only [go_sem],by first | (rw [aa];decide) | (simp only [go_sem]<;>(try rw [aa])<;>decide)⟩ rfl (by unfold RX TS TX ae;simp only [go_sem]) (by unfold RX TS TX;simp only [go_sem]) ?_
    rintro _ _ ⟨rfl,rfl⟩
    unfold RX TS TX ae
    simp only [go_sem]
    rw [if_neg (by decide),if_neg (fun q=>absurd q.1 (by decide))] at hR
    obtain ⟨k1,b,sb,J,eR,k2,k3⟩:=key sa hma 7 rfl rfl hR
    subst eR
    refine ab E [.bx [100] 0,.d (i64 1),.d (.str bIn)] (RX L sa) [100,101] (k1) rfl rfl ⟨by simp only [go_sem],by first | (rw [aa];decide) | (simp only [go_sem]<;>(try rw [aa])<;>decide)⟩ rfl (by unfold RX TS TX ae;simp only [go_sem]) (by unfold RX TS TX;simp only [go_sem]) ?_
    rintro _ _ ⟨rfl,rfl⟩
    unfold RX TS TX ae
    simp only [go_sem]
    refine ab E [.bx [100] 0] (RX L (sa.must 1 bIn)) [100,101] (k2) rfl rfl ⟨by simp only [go_sem],by first | (rw [aa];decide) | (simp only [go_sem]<;>(try rw [aa])<;>decide)⟩ rfl (by unfold RX TS TX ae;simp only [go_sem]) (by unfold RX TS TX;simp only [go_sem]) ?_
    rintro _ _ ⟨rfl,rfl⟩
    unfold RX TS TX ae
    simp only [go_sem]
    refine cJ E [85] (some 1) [.agg [.sl (some 9) (a.map enD)],.agg [.sl (some 9) (b.map enD)]] rfl (by simp only [go_sem];rfl) ?_
    simp only [go_sem]
    unfold ndN nd0 at k3
    refine ag E k3 rfl rfl (by simp) ?_
    rintro _ rfl
    simp only [go_sem]
    refine ⟨_,_,[100,101],id,⟨rfl,rfl⟩,?_⟩
    simp only [go_sem]
    rfl
  | true =>
    refine ab E [.bx [100] 0,.d (i64 2)] (RX L sm) [100,101] (co) rfl rfl ⟨by simp only [go_sem],by first | (rw [aa];decide) | (simp only [go_sem]<;>(try rw [aa])<;>decide)⟩ rfl (by unfold RX TS TX ae;simp only [go_sem]) (by unfold RX TS TX;simp only [go_sem]) ?_
    rintro _ _ ⟨rfl,rfl⟩
    unfold RX TS TX ae
    simp only [go_sem]
    refine ab E [.bx [100] 0,.d (i64 7),.d (.str [61])] (RX L so) [100,101] (cm) rfl rfl ⟨by simp only [go_sem],by first | (rw [aa];decide) | (simp only [go_sem]<;>(try rw [aa])<;>decide)⟩ rfl (by unfold RX TS TX ae;simp only [go_sem]) (by unfold RX TS TX;simp only [go_sem]) ?_
    rintro _ _ ⟨rfl,rfl⟩
    unfold RX TS TX ae
    simp only [go_sem]
    refine ab E [.bx [101] 0] (TS L s2) [101] (cp) rfl rfl ⟨by simp only [go_sem],by first | (rw [aa];decide) | (simp only [go_sem]<;>(try rw [aa])<;>decide)⟩ rfl (by unfold TS TX ae;simp only [go_sem]) (by unfold TS TX;simp only [go_sem]) ?_
    rintro _ _ ⟨rfl,rfl⟩
    unfold TS TX ae
    simp only [go_sem]
    refine ab E [.bx [100] 0] (RX L s2) [100,101] (ca) rfl rfl ⟨by simp only [go_sem],by first | (rw [aa];decide) | (simp only [go_sem]<;>(try rw [aa])<;>decide)⟩ rfl (by unfold RX TS TX ae;simp only [go_sem]) (by unfold RX TS TX;simp only [go_sem]) ?_
    rintro _ _ ⟨rfl,rfl⟩
    unfold RX TS TX ae
    simp only [go_sem]
    rw [if_pos rfl] at hR
    refine an E (fun g1=>?_) (fun g1=>?_)<;>simp only [go_sem]
    ·rw [ai (n:=(a.length:Int)-1) ⟨by omega,by omega⟩]
     refine ⟨⟨by omega,by omega⟩,?_⟩
     rw [show ((a.length:Int)-1).toNat=a.length-1 by omega,aN (show a.length-1<a.length by omega)]
     have hrt:db a=ndE a (a.length-1):=rfl
     rw [← hrt]
     simp only [go_sem]
     refine ah E (fun h=>?_) (fun h=>?_)<;>simp only [go_sem]
     ·rw [if_pos ⟨rfl,h⟩] at hR
      refine ab E [.bx [100] 0,.d (i64 5),.d (i64 s2.peek.pos)] (RX L sa) [100,101] (cf) rfl rfl ⟨by simp only [go_sem],by first | (rw [aa];decide) | (simp only [go_sem]<;>(try rw [aa])<;>decide)⟩ rfl (by unfold RX TS TX ae;simp only [go_sem]) (by unfold RX TS TX;simp only [go_sem]) ?_
      rintro _ _ ⟨rfl,rfl⟩
      unfold RX TS TX ae
      simp only [go_sem]
      have hfs:SS s.next (sa.fail 5 s2.peek.pos):=by
       refine ⟨by rw [md];exact hma.suf,?_,?_,fun N h=>?_⟩
       ·unfold PS.fail;split<;>exact hma.fin
       ·unfold PS.fail;split<;>exact hma.nest
       ·rw [show (sa.fail 5 s2.peek.pos).pos=if sa.err=0 then s2.peek.pos else sa.pos by unfold PS.fail;split<;>rfl]
        by_cases g:sa.err=0
        ·rw [if_pos g];exact gj (hm.po h)
        ·rw [if_neg g];exact hma.pos N h
      obtain ⟨k1,b,sb,J,eR,k2,k3⟩:=key (sa.fail 5 s2.peek.pos) hfs 8 rfl rfl hR
      subst eR
      refine ab E [.bx [100] 0,.d (i64 1),.d (.str bIn)] (RX L (sa.fail 5 s2.peek.pos)) [100,101] (k1) rfl rfl ⟨by simp only [go_sem],by first | (rw [aa];decide) | (simp only [go_sem]<;>(try rw [aa])<;>decide)⟩ rfl (by unfold RX TS TX ae;simp only [go_sem]) (by unfold RX TS TX;simp only [go_sem]) ?_
      rintro _ _ ⟨rfl,rfl⟩
      unfold RX TS TX ae
      simp only [go_sem]
      refine ab E [.bx [100] 0] (RX L ((sa.fail 5 s2.peek.pos).must 1 bIn)) [100,101] (k2) rfl rfl ⟨by simp only [go_sem],by first | (rw [aa];decide) | (simp only [go_sem]<;>(try rw [aa])<;>decide)⟩ rfl (by unfold RX TS TX ae;simp only [go_sem]) (by unfold RX TS TX;simp only [go_sem]) ?_
      rintro _ _ ⟨rfl,rfl⟩
      unfold RX TS TX ae
      simp only [go_sem]
      refine cJ E [78] (some 1) [.agg [.sl (some 9) (a.map enD)],.agg [.sl (some 9) (b.map enD)]] rfl (by simp only [go_sem];rfl) ?_
      simp only [go_sem]
      unfold ndN nd0 at k3
      refine ag E k3 rfl rfl (by simp) ?_
      rintro _ rfl
      simp only [go_sem]
      refine ⟨_,_,[100,101],id,⟨rfl,rfl⟩,?_⟩
      simp only [go_sem]
      rfl
     ·rw [if_neg (fun q=>h q.2)] at hR
      obtain ⟨k1,b,sb,J,eR,k2,k3⟩:=key sa hma 8 rfl rfl hR
      subst eR
      refine ab E [.bx [100] 0,.d (i64 1),.d (.str bIn)] (RX L sa) [100,101] (k1) rfl rfl ⟨by simp only [go_sem],by first | (rw [aa];decide) | (simp only [go_sem]<;>(try rw [aa])<;>decide)⟩ rfl (by unfold RX TS TX ae;simp only [go_sem]) (by unfold RX TS TX;simp only [go_sem]) ?_
      rintro _ _ ⟨rfl,rfl⟩
      unfold RX TS TX ae
      simp only [go_sem]
      refine ab E [.bx [100] 0] (RX L (sa.must 1 bIn)) [100,101] (k2) rfl rfl ⟨by simp only [go_sem],by first | (rw [aa];decide) | (simp only [go_sem]<;>(try rw [aa])<;>decide)⟩ rfl (by unfold RX TS TX ae;simp only [go_sem]) (by unfold RX TS TX;simp only [go_sem]) ?_
      rintro _ _ ⟨rfl,rfl⟩
      unfold RX TS TX ae
      simp only [go_sem]
      refine cJ E [78] (some 1) [.agg [.sl (some 9) (a.map enD)],.agg [.sl (some 9) (b.map enD)]] rfl (by simp only [go_sem];rfl) ?_
      simp only [go_sem]
      unfold ndN nd0 at k3
      refine ag E k3 rfl rfl (by simp) ?_
      rintro _ rfl
      simp only [go_sem]
      refine ⟨_,_,[100,101],id,⟨rfl,rfl⟩,?_⟩
      simp only [go_sem]
      rfl
    ·have hfs:(if (8:Int)=8∧(db a).k≠5 then sa.fail 5 s2.peek.pos else sa)=sa:=by
      rw [b8 g1]
      split<;>rfl
     rw [hfs] at hR
     obtain ⟨k1,b,sb,J,eR,k2,k3⟩:=key sa hma 8 rfl rfl hR
     subst eR
     refine ab E [.bx [100] 0,.d (i64 1),.d (.str bIn)] (RX L sa) [100,101] (k1) rfl rfl ⟨by simp only [go_sem],by first | (rw [aa];decide) | (simp only [go_sem]<;>(try rw [aa])<;>decide)⟩ rfl (by unfold RX TS TX ae;simp only [go_sem]) (by unfold RX TS TX;simp only [go_sem]) ?_
     rintro _ _ ⟨rfl,rfl⟩
     unfold RX TS TX ae
     simp only [go_sem]
     refine ab E [.bx [100] 0] (RX L (sa.must 1 bIn)) [100,101] (k2) rfl rfl ⟨by simp only [go_sem],by first | (rw [aa];decide) | (simp only [go_sem]<;>(try rw [aa])<;>decide)⟩ rfl (by unfold RX TS TX ae;simp only [go_sem]) (by unfold RX TS TX;simp only [go_sem]) ?_
     rintro _ _ ⟨rfl,rfl⟩
     unfold RX TS TX ae
     simp only [go_sem]
     refine cJ E [78] (some 1) [.agg [.sl (some 9) (a.map enD)],.agg [.sl (some 9) (b.map enD)]] rfl (by simp only [go_sem];rfl) ?_
     simp only [go_sem]
     unfold ndN nd0 at k3
     refine ag E k3 rfl rfl (by simp) ?_
     rintro _ rfl
     simp only [go_sem]
     refine ⟨_,_,[100,101],id,⟨rfl,rfl⟩,?_⟩
     simp only [go_sem]
     rfl
 rw [if_neg (by rw [h];decide)] at hR
 rw [bS h]
 refine ab E [.bx [100] 0,.d (.str bIf)] (RX L s) [100,101] (c3) rfl rfl ⟨by simp only [go_sem],by first | (rw [aa];decide) | (simp only [go_sem]<;>(try rw [aa])<;>decide)⟩ rfl (by unfold RX TS TX ae;simp only [go_sem]) (by unfold RX TS TX;simp only [go_sem]) ?_
 rintro _ _ ⟨rfl,rfl⟩
 unfold RX TS TX ae
 simp only [go_sem]
 refine aB E (fun h=>?_) (fun h=>?_)<;>simp only [go_sem]
 ·rw [if_pos h] at hR
  rw [bp h]
  unfold ifS at hR
  have ca:=hc L s.next hfn hl hnx
  have ha:=hex s.next
  obtain ⟨a,sa,ea⟩:∃ a sa,ex s.next=(a,sa):=⟨_,_,rfl⟩
  rw [ea] at ha ca
  simp only [ea] at hR
  have hma:SS s.next sa:=ha.ss
  have cm1:=ef (G:=G) (hfn.ss hma) hl1 1 gN (by decide)
  have hm1:=hma.trans (SS.must sa 1 gN)
  have lm1:=(SS.must sa 1 gN).len
  generalize sa.must 1 gN=s1 at hR cm1 hm1 lm1
  have cb:=hc L s1 (hfn.ss hm1) hl (hm1.nest.trans hnx)
  have hb:=hex s1
  obtain ⟨b,sb,eb⟩:∃ b sb,ex s1=(b,sb):=⟨_,_,rfl⟩
  rw [eb] at hb cb
  simp only [eb] at hR
  have hmb:SS s.next sb:=hm1.trans hb.ss
  have cm2:=ef (G:=G) (hfn.ss hmb) hl1 1 iF (by decide)
  have hm2:=hmb.trans (SS.must sb 1 iF)
  have lm2:=(SS.must sb 1 iF).len
  generalize sb.must 1 iF=s2 at hR cm2 hm2 lm2
  have cx:=hc L s2 (hfn.ss hm2) hl (hm2.nest.trans hnx)
  have hx:=hex s2
  obtain ⟨x,sx,exx⟩:∃ x sx,ex s2=(x,sx):=⟨_,_,rfl⟩
  rw [exx] at hx cx
  simp only [exx] at hR
  have l1:=hm1.len
  have l2:=hm2.len
  have za:=ha.sz
  have zb:=hb.sz
  have zx:=hx.sz
  simp only at za zb zx
  have h4:=eB (G:=G) (nd0 9 p) [a,b,x] rfl rfl (by simp only [aT,List.map_cons,List.map_nil,List.sum_cons,List.sum_nil];omega)
   (fun l h=>by
    simp only [List.mem_cons,List.mem_singleton,List.not_mem_nil,or_false] at h
    rcases h with rfl | rfl | rfl
    ·exact ha.tr.kids.2
    ·exact hb.tr.kids.2
    ·exact hx.tr.kids.2)
   (fun l h=>by
    simp only [List.mem_cons,List.mem_singleton,List.not_mem_nil,or_false] at h
    rcases h with rfl | rfl | rfl
    ·exact ha.wd.mono (by omega)
    ·exact hb.wd.mono (by omega)
    ·exact hx.wd.mono (by omega))
  unfold exD at ca cb cx
  refine ab E [.bx [100] 0] (RX L s.next) [100,101] (ca) rfl rfl ⟨by simp only [go_sem],by first | (rw [aa];decide) | (simp only [go_sem]<;>(try rw [aa])<;>decide)⟩ rfl (by unfold RX TS TX ae;simp only [go_sem]) (by unfold RX TS TX;simp only [go_sem]) ?_
  rintro _ _ ⟨rfl,rfl⟩
  unfold RX TS TX ae
  simp only [go_sem]
  refine ab E [.bx [100] 0,.d (i64 1),.d (.str gN)] (RX L sa) [100,101] (cm1) rfl rfl ⟨by simp only [go_sem],by first | (rw [aa];decide) | (simp only [go_sem]<;>(try rw [aa])<;>decide)⟩ rfl (by unfold RX TS TX ae;simp only [go_sem]) (by unfold RX TS TX;simp only [go_sem]) ?_
  rintro _ _ ⟨rfl,rfl⟩
  unfold RX TS TX ae
  simp only [go_sem]
  refine ab E [.bx [100] 0] (RX L s1) [100,101] (cb) rfl rfl ⟨by simp only [go_sem],by first | (rw [aa];decide) | (simp only [go_sem]<;>(try rw [aa])<;>decide)⟩ rfl (by unfold RX TS TX ae;simp only [go_sem]) (by unfold RX TS TX;simp only [go_sem]) ?_
  rintro _ _ ⟨rfl,rfl⟩
  unfold RX TS TX ae
  simp only [go_sem]
  refine ab E [.bx [100] 0,.d (i64 1),.d (.str iF)] (RX L sb) [100,101] (cm2) rfl rfl ⟨by simp only [go_sem],by first | (rw [aa];decide) | (simp only [go_sem]<;>(try rw [aa])<;>decide)⟩ rfl (by unfold RX TS TX ae;simp only [go_sem]) (by unfold RX TS TX;simp only [go_sem]) ?_
  rintro _ _ ⟨rfl,rfl⟩
  unfold RX TS TX ae
  simp only [go_sem]
  refine ab E [.bx [100] 0] (RX L s2) [100,101] (cx) rfl rfl ⟨by simp only [go_sem],by first | (rw [aa];decide) | (simp only [go_sem]<;>(try rw [aa])<;>decide)⟩ rfl (by unfold RX TS TX ae;simp only [go_sem]) (by unfold RX TS TX;simp only [go_sem]) ?_
  rintro _ _ ⟨rfl,rfl⟩
  unfold RX TS TX ae
  simp only [go_sem]
  refine cJ E [104] (some 1) ([.agg [.sl (some 9) (a.map enD)],.agg [.sl (some 9) (b.map enD)],.agg [.sl (some 9) (x.map enD)]]) rfl (by simp only [go_sem];rfl) ?_
  simp only [go_sem]
  generalize au (nd0 9 p) [a,b,x]=J at h4 hR
  unfold ndN exD at h4
  refine ag E h4 rfl rfl (by simp) ?_
  rintro _ rfl
  simp only [go_sem]
  subst hR
  refine ⟨_,_,[100,101],id,⟨rfl,rfl⟩,?_⟩
  simp only [go_sem]
  rfl
 rw [if_neg (by rw [h];decide)] at hR
 rw [bS h]
 unfold yj at hR
 have ca:=h177 L s hf hl hN
 have ha:=gS hex s
 obtain ⟨a,sa,ea⟩:∃ a sa,rm ex s=(a,sa):=⟨_,_,rfl⟩
 rw [ea] at ha ca
 simp only [ea] at hR
 have hma:SS s sa:=ha.ss
 have hfa:=hf.ss hma
 have ct:=fV (G:=G) hfa hl1
 have c60:=dj (G:=G) hfa hl1 [60]
 have c61:=dj (G:=G) hfa hl1 [61,61]
 have fin:∀ n:Int,(let b:=rm ex sa.next;(au { nd0 10 sa.peek.pos with n:=n } [a,b.1],b.2))=R →
   ∃ b sb J,R=(J,sb)∧HCall Tryz.prog G 177 [.bx [100] 0] (RX L sa.next) [100,101] (fun r hp'=>r=.d (.agg [.sl (some 9) (b.map enD)])∧hp'=RX L sb) ∧
   HP Tryz.prog G 176 [ndN { nd0 10 sa.peek.pos with n:=n },.sl (some 1) ([a,b].map exD)] (fun r=>r=.d (.agg [.sl (some 9) (J.map enD)])):=by
  intro n hk
  have hms:SS s sa.next:=hma.trans (SS.next sa)
  have l4:=hms.len
  have cb:=h177 L sa.next (hf.ss hms) hl (hms.nest.trans hN)
  have hb:=gS hex sa.next
  obtain ⟨b,sb,eb⟩:∃ b sb,rm ex sa.next=(b,sb):=⟨_,_,rfl⟩
  rw [eb] at hb cb
  simp only [eb] at hk
  have za:=ha.sz
  have zb:=hb.sz
  simp only at za zb
  have h4:=eB (G:=G) { nd0 10 sa.peek.pos with n:=n } [a,b] rfl rfl (by simp only [aT,List.map_cons,List.map_nil,List.sum_cons,List.sum_nil];omega)
   (fun l h=>by
    simp only [List.mem_cons,List.mem_singleton,List.not_mem_nil,or_false] at h
    rcases h with rfl | rfl
    ·exact ha.tr.kids.2
    ·exact hb.tr.kids.2)
   (fun l h=>by
    simp only [List.mem_cons,List.mem_singleton,List.not_mem_nil,or_false] at h
    rcases h with rfl | rfl
    ·exact ha.wd.mono (by omega)
    ·exact hb.wd.mono (by omega))
  exact ⟨b,sb,_,hk.symm,cb,h4⟩
 unfold exD at ca
 refine ab E [.bx [100] 0] (RX L s) [100,101] (ca) rfl rfl ⟨by simp only [go_sem],by first | (rw [aa];decide) | (simp only [go_sem]<;>(try rw [aa])<;>decide)⟩ rfl (by unfold RX TS TX ae;simp only [go_sem]) (by unfold RX TS TX;simp only [go_sem]) ?_
 rintro _ _ ⟨rfl,rfl⟩
 unfold RX TS TX ae
 simp only [go_sem]
 refine ab E [.bx [101] 0] (TS L sa) [101] (ct) rfl rfl ⟨by simp only [go_sem],by first | (rw [aa];decide) | (simp only [go_sem]<;>(try rw [aa])<;>decide)⟩ rfl (by unfold TS TX ae;simp only [go_sem]) (by unfold TS TX;simp only [go_sem]) ?_
 rintro _ _ ⟨rfl,rfl⟩
 unfold TS TX ae
 simp only [go_sem]
 refine ab E [.bx [100] 0,.d (.str [60])] (RX L sa) [100,101] (c60) rfl rfl ⟨by simp only [go_sem],by first | (rw [aa];decide) | (simp only [go_sem]<;>(try rw [aa])<;>decide)⟩ rfl (by unfold RX TS TX ae;simp only [go_sem]) (by unfold RX TS TX;simp only [go_sem]) ?_
 rintro _ _ ⟨rfl,rfl⟩
 unfold RX TS TX ae
 simp only [go_sem]
 refine aB E (fun q1=>?_) (fun q1=>?_)<;>simp only [go_sem]
 ·have ho:opS sa dE=some 5:=by unfold dE opS;rw [q1];rfl
  rw [ho] at hR
  obtain ⟨b,sb,J,eR,k2,k3⟩:=fin 5 hR
  subst eR
  rw [bp q1]
  refine ak mixed E fun X=>?_
  simp only [go_sem]
  refine aZ X [.bx [100] 0] (RX L sa.next) [100,101] _ _ k2 rfl rfl ⟨by simp only [go_sem],by rw [aa];decide⟩ rfl (by unfold RX TS TX ae;simp only [go_sem]) (by unfold RX TS TX;simp only [go_sem]) (by unfold RX TS TX;simp only [go_sem]) ?_
  unfold RX TS TX ae
  simp only [go_sem]
  unfold ndN nd0 at k3
  refine bw X 121 [121] (some 1) [.agg [.sl (some 9) (a.map enD)],.agg [.sl (some 9) (b.map enD)]] k3 (fun _=>rfl) rfl rfl rfl (by simp) rfl (by simp only [go_sem]) ?_
  simp only [go_sem]
  refine ⟨by decide +kernel,?_⟩
  refine ⟨_,_,[100,101],id,⟨rfl,rfl⟩,?_⟩
  simp only [go_sem]
  rfl
 rw [bS q1]
 refine ab E [.bx [100] 0,.d (.str [61,61])] (RX L sa) [100,101] (c61) rfl rfl ⟨by simp only [go_sem],by first | (rw [aa];decide) | (simp only [go_sem]<;>(try rw [aa])<;>decide)⟩ rfl (by unfold RX TS TX ae;simp only [go_sem]) (by unfold RX TS TX;simp only [go_sem]) ?_
 rintro _ _ ⟨rfl,rfl⟩
 unfold RX TS TX ae
 simp only [go_sem]
 refine aB E (fun q2=>?_) (fun q2=>?_)<;>simp only [go_sem]
 ·have ho:opS sa dE=some 6:=by unfold dE opS opS;rw [q1,q2];rfl
  rw [ho] at hR
  obtain ⟨b,sb,J,eR,k2,k3⟩:=fin 6 hR
  subst eR
  rw [bp q2]
  refine ak mixed E fun X=>?_
  simp only [go_sem]
  refine aZ X [.bx [100] 0] (RX L sa.next) [100,101] _ _ k2 rfl rfl ⟨by simp only [go_sem],by rw [aa];decide⟩ rfl (by unfold RX TS TX ae;simp only [go_sem]) (by unfold RX TS TX;simp only [go_sem]) (by unfold RX TS TX;simp only [go_sem]) ?_
  unfold RX TS TX ae
  simp only [go_sem]
  unfold ndN nd0 at k3
  refine bw X 131 [131] (some 1) [.agg [.sl (some 9) (a.map enD)],.agg [.sl (some 9) (b.map enD)]] k3 (fun _=>rfl) rfl rfl rfl (by simp) rfl (by simp only [go_sem]) ?_
  simp only [go_sem]
  refine ⟨by decide +kernel,?_⟩
  refine ⟨_,_,[100,101],id,⟨rfl,rfl⟩,?_⟩
  simp only [go_sem]
  rfl
 rw [bS q2]
 rw [DL q1 q2] at hR
 simp only at hR
 subst hR
 refine ⟨_,_,[100,101],id,⟨rfl,rfl⟩,?_⟩
 simp only [go_sem]
 rfl
end Go.Proofs.YtejpnabbmgpmaaaGreat

namespace Go.Proofs.YtejpnabbmgpmaaaGreat
open Go.Ab
theorem BA {G}:cO 70 G 100 (fJ 0):=by
 intro L s hf hl hN
 have hl1:L.length≤1000000:=by omega
 generalize hR:fJ 0 s=R
 unfold fJ at hR
 unfold RX TS TX ae
 refine aq Tryz.func70 rfl (by decide +kernel) (by simp [Tryz.ntmps70]) (veil fun E=>?_)
 simp only [go_sem]
 refine ah E (fun h=>?_) (fun h=>?_)<;>simp only [go_sem]
 ·rw [b8 h] at hR
  have hno:=jE (G:=G)
  generalize noE=J at hno hR
  unfold exD at hno
  refine ag E hno rfl rfl (by simp) ?_
  rintro _ rfl
  simp only [go_sem]
  subst hR
  refine ⟨_,_,[100,101],id,⟨rfl,rfl⟩,?_⟩
  simp only [go_sem]
  all_goals first | rfl | exact ⟨rfl,rfl,rfl⟩
 refine ab E [.bx [101] 0] (TS L s) [101] (fV hf hl1) rfl rfl ⟨by simp only [go_sem],by first | (rw [aa];decide) | (simp only [go_sem]<;>(try rw [aa])<;>decide)⟩ rfl (by unfold TS TX ae;simp only [go_sem]) (by unfold TS TX;simp only [go_sem]) ?_
 rintro _ _ ⟨rfl,rfl⟩
 unfold TS TX ae
 simp only [go_sem]
 refine ah E (fun h2=>?_) (fun h2=>absurd (by omega) h2)<;>simp only [go_sem]
 refine ab E [.bx [100] 0,.d (i64 6),.d (i64 s.peek.pos)] (RX L s) [100,101] (jd L s 6 s.peek.pos) rfl rfl ⟨by simp only [go_sem],by first | (rw [aa];decide) | (simp only [go_sem]<;>(try rw [aa])<;>decide)⟩ rfl (by unfold RX TS TX ae;simp only [go_sem]) (by unfold RX TS TX;simp only [go_sem]) ?_
 rintro _ _ ⟨rfl,rfl⟩
 unfold RX TS TX ae
 simp only [go_sem]
 have hno:=jE (G:=G)
 generalize noE=J at hno hR
 unfold exD at hno
 refine ag E hno rfl rfl (by simp) ?_
 rintro _ rfl
 simp only [go_sem]
 subst hR
 refine ⟨_,_,[100,101],id,⟨rfl,rfl⟩,?_⟩
 simp only [go_sem]
 all_goals first | rfl | exact ⟨rfl,rfl,rfl⟩
theorem vr:∀ (m:Nat) (s:PS),s.err≠0→(fJ m s).2=s
 | 0,s,h=>b8 h
 | m+1,s,h=>by
   unfold fJ
   rw [if_pos h]
def xg (ex:PS→PR) (s:PS):PR:=if s.err≠0 then (noE,s) else ((fx ex { s with nest:=s.nest+1 }).1,{ (fx ex { s with nest:=s.nest+1 }).2 with nest:=s.nest })
theorem CV {G} {N:Nat} {ex:PS→PR} (hN0:N<100) (hex:∀ s,GP 1 s (ex s)) (hst:∀ s,s.err≠0→(ex s).2=s) (hc:cO 70 G (N+1) ex) :
  cO 70 G N (xg ex):=by
 intro L s hf hl hN
 have hl1:L.length≤1000000:=by omega
 generalize hR:xg ex s=R
 unfold xg at hR
 obtain ⟨s1,hs1⟩:∃ s1:PS,s1={ s with nest:=s.nest+1 }:=⟨_,rfl⟩
 rw [← hs1] at hR
 have hp1:s.peek.pos=s1.peek.pos:=by rw [hs1];rfl
 have hr1:RX L s1=([100],.box [.bx [101] 0,.d (i64 s.err),.d (i64 s.pos),.d (i64 (s.nest+1:Nat))])::TS L s:=by rw [hs1];rfl
 have hf1:Fit L s1:=by rw [hs1];exact hf
 have hn1:s1.nest=N+1:=by rw [hs1];show s.nest+1=_;rw [hN]
 have he1:s1.err=s.err:=by rw [hs1]
 have hb:=Eh hex hst hc L s1 hf1 hl hn1
 have hg:=(ou hex s1).ss.nest
 obtain ⟨b,q,hq⟩:∃ b q,fx ex s1=(b,q):=⟨_,_,rfl⟩
 rw [hq] at hb hg hR
 simp only at hb hg hR
 rw [← hp1,hr1] at hb
 unfold exD at hb
 unfold RX TS TX ae at *
 refine aq Tryz.func70 rfl (by decide +kernel) (by simp [Tryz.ntmps70]) (veil fun E=>?_)
 simp only [go_sem]
 refine ah E (fun h=>?_) (fun h=>?_)<;>simp only [go_sem]
 ·rw [if_pos h] at hR
  have hno:=jE (G:=G)
  generalize noE=J at hno hR
  unfold exD at hno
  refine ag E hno rfl rfl (by simp) ?_
  rintro _ rfl
  simp only [go_sem]
  subst hR
  refine ⟨_,_,[100,101],id,⟨rfl,rfl⟩,?_⟩
  simp only [go_sem]
  all_goals first | rfl | exact ⟨rfl,rfl,rfl⟩
 have h:s.err=0:=by simpa using h
 rw [if_neg (by simpa using h)] at hR
 refine ab E [.bx [101] 0] (TS L s) [101] (fV hf hl1) rfl rfl ⟨by simp only [go_sem],by first | (rw [aa];decide) | (simp only [go_sem]<;>(try rw [aa])<;>decide)⟩ rfl (by unfold TS TX ae;simp only [go_sem]) (by unfold TS TX;simp only [go_sem]) ?_
 rintro _ _ ⟨rfl,rfl⟩
 unfold TS TX ae
 simp only [go_sem]
 refine ah E (fun h2=>absurd h2 (by omega)) (fun h2=>?_)<;>simp only [go_sem]
 rw [ai (n:=(s.nest:Int)+1) ⟨by omega,by omega⟩]
 have hb:=hb (by rw [he1];exact h)
 refine ab E [.bx [100] 0,.d (i64 s.peek.pos)] _ [100,101] hb rfl rfl ⟨by simp only [go_sem],by first | (rw [aa];decide) | (simp only [go_sem]<;>(try rw [aa])<;>decide)⟩ rfl (by simp only [go_sem];simp) (by simp only [go_sem]) ?_
 rintro _ _ ⟨rfl,rfl⟩
 simp only [go_sem]
 rw [ai (n:=(q.nest:Int)-1) ⟨by omega,by omega⟩]
 subst hR
 refine ⟨_,_,[100,101],id,⟨rfl,rfl⟩,?_⟩
 simp only [go_sem]
 have hqn:(q.nest:Int)-1=(s.nest:Int):=by rw [hg,hs1];simp
 rw [hqn]
 exact ⟨rfl,rfl,rfl⟩
theorem Cu {G}:∀ (m N:Nat),N+m=100→cO 70 G N (fJ m)
 | 0,N,h=>by
   obtain rfl:N=100:=by omega
   exact BA
 | m+1,N,h=>by
   have e:fJ (m+1)=xg (fJ m):=by
    funext s
    rw [fJ];rfl
   rw [e]
   exact CV (by omega) (ko m) (vr m) (Cu m (N+1) (by omega))
end Go.Proofs.YtejpnabbmgpmaaaGreat

namespace Go.Proofs.YtejpnabbmgpmaaaGreat
open Go.Ab
def FO (s:PS) (l:List EF):List (Name × Ob):=([103],.arr (some 3) (l.map fD))::RO s
theorem wB {G} (s:PS) (t:Tok) (n:EN) (l:List EF) (hl:l.length≤100000):HCall Tryz.prog G 355 [.bx [100] 0,.d (.agg [i64 t.k,.str t.s,i64 t.n,i64 t.pos]),.agg [.d (i64 n.k),.d (i64 n.a),.d (i64 n.b),.d (i64 n.c),.d (i64 n.n),.d (.str n.name),.d (.str n.s),.vw [103] 0 l.length,.d (i64 n.pos)]] (FO s l) [100,101,103] (fun r hp'=>r=.tup []∧hp'=FO (s.parted t l) l):=by
 generalize hR:s.parted t l=R
 unfold PS.parted at hR
 have c8:=nO (G:=G) s 8 t.pos
 have c5:=nO (G:=G) s 5 t.pos
 unfold FO RO TO ae
 refine aq Tryz.func355 rfl (by decide +kernel) (by simp [Tryz.ntmps355]) (veil fun E=>?_)
 simp only [go_sem]
 refine ab E [.bx [100] 0] (RO s) [100,101] (fy s) rfl rfl ⟨by simp only [go_sem],by first | (rw [aa];decide) | (simp only [go_sem]<;>(try rw [aa])<;>decide)⟩ rfl (by unfold RO TO ae;simp only [go_sem]) (by unfold RO TO;simp only [go_sem]) ?_
 rintro _ _ ⟨rfl,rfl⟩
 unfold RO TO ae
 simp only [go_sem]
 refine aB E (fun h1=>?_) (fun h1=>?_)<;>simp only [go_sem]
 ·rw [if_pos (by simpa using h1)] at hR
  rw [← hR]
  refine ⟨_,_,[100,101,103],id,⟨rfl,rfl⟩,?_⟩
  simp only [go_sem]
 rw [if_neg (by simpa using h1)] at hR
 refine ah E (fun h2=>?_) (fun h2=>?_)<;>simp only [go_sem]
 ·rw [if_pos (by omega)] at hR
  refine ab E [.bx [100] 0,.d (i64 8),.d (i64 t.pos)] (RO s) [100,101] (c8) rfl rfl ⟨by simp only [go_sem],by first | (rw [aa];decide) | (simp only [go_sem]<;>(try rw [aa])<;>decide)⟩ rfl (by unfold RO TO ae;simp only [go_sem]) (by unfold RO TO;simp only [go_sem]) ?_
  rintro _ _ ⟨rfl,rfl⟩
  unfold RO TO ae
  simp only [go_sem]
  rw [← hR]
  refine ⟨_,_,[100,101,103],id,⟨rfl,rfl⟩,?_⟩
  simp only [go_sem]
 ·rw [if_neg (by omega)] at hR
  refine z8 E [4] (.agg [i64 t.k,.str t.s,i64 t.n,i64 t.pos]) rfl rfl ?_
  simp only [go_sem]
  refine mU E [([103],some 3,l.map fD)] (Fo l (fun x=>decide (x.nm=t.s)) 371 [.ptr (.agg [i64 t.k,.str t.s,i64 t.n,i64 t.pos])] (by omega) (fun x _=>DW x t)) (by rintro _ rfl;rfl) (by simp only [go_sem]) rfl (by simp only [go_sem]) (by simp) ?_
  rintro _ rfl
  simp only [go_sem]
  refine aB E (fun h3=>?_) (fun h3=>?_)<;>simp only [go_sem]
  ·rw [if_pos h3] at hR
   refine ab E [.bx [100] 0,.d (i64 5),.d (i64 t.pos)] (RO s) [100,101] (c5) rfl rfl ⟨by simp only [go_sem],by first | (rw [aa];decide) | (simp only [go_sem]<;>(try rw [aa])<;>decide)⟩ rfl (by unfold RO TO ae;simp only [go_sem]) (by unfold RO TO;simp only [go_sem]) ?_
   rintro _ _ ⟨rfl,rfl⟩
   unfold RO TO ae
   simp only [go_sem]
   rw [← hR]
   refine ⟨_,_,[100,101,103],id,⟨rfl,rfl⟩,?_⟩
   simp only [go_sem]
  ·rw [if_neg (by rw [h3];decide)] at hR
   rw [← hR]
   refine ⟨_,_,[100,101,103],id,⟨rfl,rfl⟩,?_⟩
   simp only [go_sem]
end Go.Proofs.YtejpnabbmgpmaaaGreat

namespace Go.Proofs.YtejpnabbmgpmaaaGreat
open Go.Ab
def NO (s:PS) (n:EN) (l:List EF):List (Name × Ob):=([105],.box [.bx [100] 0])::([102],.box [.d (i64 n.k),.d (i64 n.a),.d (i64 n.b),.d (i64 n.c),.d (i64 n.n),.d (.str n.name),.d (.str n.s),.vw [103] 0 l.length,.d (i64 n.pos)])::FO s l
def qz (s:PS) (t:Tok) (l:List EF):EF × PS:=(⟨(s.of 2).1,[],0⟩,(((s.of 2).2.parted t l).must 7 [61]))
def nh (s:PS) (t:Tok) (l:List EF):EF × PS:=(⟨(s.of 3).1,(((s.of 3).2.parted t l).of 2).1,0⟩,(((s.of 3).2.parted t l).of 2).2.must 7 bTo)
theorem tQ (s:PS) (t:Tok) (l:List EF):(s.parted t l).l=s.l:=by
 unfold PS.parted
 split
 ·rfl
 split
 ·exact md _ _ _
 split
 ·exact md _ _ _
 ·rfl
def CE (G:List (Nat × Obj)) (f:Nat) (part:PS→Tok→List EF→EF × PS):Prop:=∀ (s:PS) (t:Tok) (n:EN) (l:List EF),s.l.length≤100000→l.length≤100000 →
 HCall Tryz.prog G f [.d (.agg [i64 t.k,.str t.s,i64 t.n,i64 t.pos]),.bx [105] 0,.bx [102] 0] (NO s n l) [100,101,102,103,105] (fun r hp'=>r=.d (fD (part s t l).1)∧hp'=NO (part s t l).2 n l)
theorem EX {G}:CE G 354 qz:=by
 intro s t n l hs hl
 generalize hR:qz s t l=R
 unfold qz at hR
 have c1:=ml (G:=G) s 2 (by omega)
 have h1:=SS.of s 2
 obtain ⟨nm,s1,e1⟩:∃ nm s1,s.of 2=(nm,s1):=⟨_,_,rfl⟩
 rw [e1] at c1 h1 hR
 simp only at c1 h1 hR
 have l1:=h1.len
 have c2:=wB (G:=G) s1 t n l hl
 have l2:=tQ s1 t l
 generalize s1.parted t l=s2 at c2 l2 hR
 have c3:=fO (G:=G) s2 7 [61] (by rw [l2];omega) (by decide)
 generalize s2.must 7 [61]=s3 at c3 hR
 subst hR
 unfold NO FO RO TO ae
 refine aq Tryz.func354 rfl (by decide +kernel) (by simp [Tryz.ntmps354]) (veil fun E=>?_)
 simp only [go_sem]
 refine ab E [.bx [100] 0,.d (i64 2)] (RO s) [100,101] (c1) rfl rfl ⟨by simp only [go_sem],by first | (rw [aa];decide) | (simp only [go_sem]<;>(try rw [aa])<;>decide)⟩ rfl (by unfold RO TO ae;simp only [go_sem]) (by unfold RO TO;simp only [go_sem]) ?_
 rintro _ _ ⟨rfl,rfl⟩
 unfold RO TO ae
 simp only [go_sem]
 refine ab E [.bx [100] 0,.d (.agg [i64 t.k,.str t.s,i64 t.n,i64 t.pos]),.agg [.d (i64 n.k),.d (i64 n.a),.d (i64 n.b),.d (i64 n.c),.d (i64 n.n),.d (.str n.name),.d (.str n.s),.vw [103] 0 l.length,.d (i64 n.pos)]] (FO s1 l) [100,101,103] (c2) rfl rfl ⟨by simp only [go_sem],by first | (rw [aa];decide) | (simp only [go_sem]<;>(try rw [aa])<;>decide)⟩ rfl (by unfold FO RO TO ae;simp only [go_sem]) (by unfold FO RO TO;simp only [go_sem]) ?_
 rintro _ _ ⟨rfl,rfl⟩
 unfold FO RO TO ae
 simp only [go_sem]
 refine ⟨Nat.le_refl _,?_⟩
 refine ab E [.bx [100] 0,.d (i64 7),.d (.str [61])] (RO s2) [100,101] (c3) rfl rfl ⟨by simp only [go_sem],by first | (rw [aa];decide) | (simp only [go_sem]<;>(try rw [aa])<;>decide)⟩ rfl (by unfold RO TO ae;simp only [go_sem]) (by unfold RO TO;simp only [go_sem]) ?_
 rintro _ _ ⟨rfl,rfl⟩
 unfold RO TO ae
 simp only [go_sem]
 refine ⟨_,_,[100,101,102,103,105],id,⟨rfl,rfl⟩,?_⟩
 simp only [go_sem]
 all_goals rfl
theorem DG {G}:CE G 356 nh:=by
 intro s t n l hs hl
 generalize hR:nh s t l=R
 unfold nh at hR
 have c1:=ml (G:=G) s 3 (by omega)
 have h1:=SS.of s 3
 obtain ⟨nm,s1,e1⟩:∃ nm s1,s.of 3=(nm,s1):=⟨_,_,rfl⟩
 rw [e1] at c1 h1 hR
 simp only at c1 h1 hR
 have l1:=h1.len
 have c2:=wB (G:=G) s1 t n l hl
 have l2:=tQ s1 t l
 generalize s1.parted t l=s2 at c2 l2 hR
 have co:=ml (G:=G) s2 2 (by rw [l2];omega)
 have ho:=SS.of s2 2
 obtain ⟨nv,so,eo⟩:∃ nv so,s2.of 2=(nv,so):=⟨_,_,rfl⟩
 rw [eo] at co ho hR
 simp only at co ho hR
 have lo:=ho.len
 rw [l2] at lo
 have c3:=fO (G:=G) so 7 bTo (by omega) (by decide)
 generalize so.must 7 bTo=s3 at c3 hR
 subst hR
 unfold NO FO RO TO ae
 refine aq Tryz.func356 rfl (by decide +kernel) (by simp [Tryz.ntmps356]) (veil fun E=>?_)
 simp only [go_sem]
 refine ab E [.bx [100] 0,.d (i64 3)] (RO s) [100,101] (c1) rfl rfl ⟨by simp only [go_sem],by first | (rw [aa];decide) | (simp only [go_sem]<;>(try rw [aa])<;>decide)⟩ rfl (by unfold RO TO ae;simp only [go_sem]) (by unfold RO TO;simp only [go_sem]) ?_
 rintro _ _ ⟨rfl,rfl⟩
 unfold RO TO ae
 simp only [go_sem]
 refine ab E [.bx [100] 0,.d (.agg [i64 t.k,.str t.s,i64 t.n,i64 t.pos]),.agg [.d (i64 n.k),.d (i64 n.a),.d (i64 n.b),.d (i64 n.c),.d (i64 n.n),.d (.str n.name),.d (.str n.s),.vw [103] 0 l.length,.d (i64 n.pos)]] (FO s1 l) [100,101,103] (c2) rfl rfl ⟨by simp only [go_sem],by first | (rw [aa];decide) | (simp only [go_sem]<;>(try rw [aa])<;>decide)⟩ rfl (by unfold FO RO TO ae;simp only [go_sem]) (by unfold FO RO TO;simp only [go_sem]) ?_
 rintro _ _ ⟨rfl,rfl⟩
 unfold FO RO TO ae
 simp only [go_sem]
 refine ⟨Nat.le_refl _,?_⟩
 refine ab E [.bx [100] 0,.d (i64 2)] (RO s2) [100,101] (co) rfl rfl ⟨by simp only [go_sem],by first | (rw [aa];decide) | (simp only [go_sem]<;>(try rw [aa])<;>decide)⟩ rfl (by unfold RO TO ae;simp only [go_sem]) (by unfold RO TO;simp only [go_sem]) ?_
 rintro _ _ ⟨rfl,rfl⟩
 unfold RO TO ae
 simp only [go_sem]
 refine ab E [.bx [100] 0,.d (i64 7),.d (.str bTo)] (RO so) [100,101] (c3) rfl rfl ⟨by simp only [go_sem],by first | (rw [aa];decide) | (simp only [go_sem]<;>(try rw [aa])<;>decide)⟩ rfl (by unfold RO TO ae;simp only [go_sem]) (by unfold RO TO;simp only [go_sem]) ?_
 rintro _ _ ⟨rfl,rfl⟩
 unfold RO TO ae
 simp only [go_sem]
 refine ⟨_,_,[100,101,102,103,105],id,⟨rfl,rfl⟩,?_⟩
 simp only [go_sem]
 all_goals rfl
end Go.Proofs.YtejpnabbmgpmaaaGreat

namespace Go.Proofs.YtejpnabbmgpmaaaGreat
open Go.Ab
def NQ (s:PS) (n:EN) (l:List EF) (ks:List (List EN)):List (Name × Ob):=([105],.box [.bx [100] 0])::([102],.box [.d (i64 n.k),.d (i64 n.a),.d (i64 n.b),.d (i64 n.c),.d (i64 n.n),.d (.str n.name),.d (.str n.s),.vw [106] 0 l.length,.d (i64 n.pos)])::([106],.arr (some 3) (l.map fD))::([107],.arr (some 1) (ks.map exD))::RO s
theorem xX {G} {N:Nat} {ex:PS→PR} {f:Nat} {part:PS→Tok→List EF→EF × PS} {b:List UInt8} (hex:∀ s,GP 1 s (ex s)) (hc:Reads 53 G N ex) (hp:CE G f part) (hps:∀ s l,SS s (part s s.peek l).2)
  (s:PS) (n:EN) (hl:s.l.length≤100000) (hN:s.nest=N) :
  HCall Tryz.prog G 353 [.bx [100] 0,.bx [102] 0,.d (.str b),.clo f [.bx [105] 0,.bx [102] 0]] (NO s n []) [100,101,102,103,105]
   (fun r hp'=>r=.vw [107] 0 (aP ex b (fun s l=>part s s.peek l) s.l.length.succ s [] []).2.1.length∧hp'=NQ (aP ex b (fun s l=>part s s.peek l) s.l.length.succ s [] []).2.2 n (aP ex b (fun s l=>part s s.peek l) s.l.length.succ s [] []).1 (aP ex b (fun s l=>part s s.peek l) s.l.length.succ s [] []).2.1):=by
 generalize hR:aP ex b (fun s l=>part s s.peek l) s.l.length.succ s [] []=R
 unfold NO FO RO TO ae
 refine aq Tryz.func353 rfl (by decide +kernel) (by simp [Tryz.ntmps353]) (veil fun E=>?_)
 simp only [go_sem]
 refine vG E 9 98 (some 1) rfl (by rw [aa];decide) ?_
 simp only [go_sem]
 refine az E (X:={ x:Nat × PS × List EF × List (List EN) // aP ex b (fun s l=>part s s.peek l) x.1 x.2.1 x.2.2.1 x.2.2.2=R∧(x.2.1.l.length<x.1∧x.2.2.1.length=x.2.2.2.length∧x.2.2.1.length+x.2.1.l.length≤s.l.length∧x.2.1.nest=N) })
  (fun x=>[(0,.bx [100] 0),(1,.bx [102] 0),(2,.d (.str b)),(3,.clo f [.bx [105] 0,.bx [102] 0]),(8,.d .nils),(9,.vw [98] 0 x.1.2.2.2.length)])
  (fun x=>[([105],.box [.bx [100] 0]),([102],.box [.d (i64 n.k),.d (i64 n.a),.d (i64 n.b),.d (i64 n.c),.d (i64 n.n),.d (.str n.name),.d (.str n.s),.vw [97] 0 x.1.2.2.1.length,.d (i64 n.pos)]),([97],.arr (some 3) (x.1.2.2.1.map fD)),([98],.arr (some 1) (x.1.2.2.2.map exD)),([100],.box [.bx [101] 0,.d (i64 x.1.2.1.err),.d (i64 x.1.2.1.pos),.d (i64 x.1.2.1.nest)]),([101],.box [.d (.sl (some 4) (x.1.2.1.l.map ck)),.d (i64 x.1.2.1.fin)])]) [97,98,100,101,102,103,105] (fun x=>x.1.2.1.l.length) ⟨(s.l.length.succ,s,[],[]),hR,Nat.lt_succ_self _,rfl,by simp,hN⟩ (tau [([97],[103])]) ?_ ?_
 ·simp only [go_sem]
  all_goals rfl
 rintro ⟨⟨m,q,l,ks⟩,hb,hm,hlk,hls,hqn⟩ E0
 refine aC E0 fun Q' hQ E'=>?_
 simp only at hb hm hlk hls hqn ⊢
 obtain ⟨m,rfl⟩:∃ k,m=k+1:=⟨m-1,by omega⟩
 rw [aP] at hb
 simp only [go_sem]
 have h1:=hp q q.peek n l (by omega) (by omega)
 have g1:=hps q l
 obtain ⟨fd,s1,e1⟩:∃ fd s1,part q q.peek l=(fd,s1):=⟨_,_,rfl⟩
 rw [e1] at h1 g1 hb
 simp only at h1 g1 hb
 rw [show fD fd=.agg [.str fd.nm,.str fd.var,i64 fd.to] from rfl] at h1
 have n1:=g1.len
 have h2:=hc s1 (by omega) (g1.nest.trans hqn)
 have g2:=hex s1
 obtain ⟨x1,s2,e2⟩:∃ x1 s2,ex s1=(x1,s2):=⟨_,_,rfl⟩
 rw [e2] at h2 g2 hb
 simp only at h2 hb
 have n2:=g2.ss.len
 have z2:=g2.ss.nest
 simp only at n2 z2
 have h3:=jw (G:=G) s2 b (by omega)
 unfold exD at h2
 refine ab E' [.bx [101] 0] (TO q.l q.fin) [101] (er q.l q.fin (by omega)) rfl rfl ⟨by simp only [go_sem],by first | (rw [aa];decide) | (simp only [go_sem]<;>(try rw [aa])<;>decide)⟩ rfl (by unfold TO ae;simp only [go_sem]) (by unfold TO;simp only [go_sem]) ?_
 rintro _ _ ⟨rfl,rfl⟩
 unfold TO ae
 simp only [go_sem]
 refine aS E' (tau [([103],[97])]) [.d (.agg [i64 q.peek.k,.str q.peek.s,i64 q.peek.n,i64 q.peek.pos]),.bx [105] 0,.bx [102] 0] (NO q n l) [100,101,102,103,105] (h1) rfl (by simp only [go_sem];try rfl) ⟨by simp only [go_sem],by first | (rw [aa];decide) | (simp only [go_sem]<;>(try rw [aa])<;>decide)⟩ rfl (by unfold NO FO RO TO ae;simp only [go_sem]) (by unfold NO FO RO TO;simp only [go_sem]) ?_
 rintro _ _ ⟨rfl,rfl⟩
 unfold NO FO RO TO ae
 simp only [go_sem]
 refine ⟨Nat.le_refl _,?_⟩
 refine ab E' [.bx [100] 0] (RO s1) [100,101] (h2) rfl rfl ⟨by simp only [go_sem],by first | (rw [aa];decide) | (simp only [go_sem]<;>(try rw [aa])<;>decide)⟩ rfl (by unfold RO TO ae;simp only [go_sem]) (by unfold RO TO;simp only [go_sem]) ?_
 rintro _ _ ⟨rfl,rfl⟩
 unfold RO TO ae
 simp only [go_sem]
 refine ⟨by omega,?_⟩
 rw [show List.map exD ks++[.agg [.sl (some 9) (List.map enD x1)]]=(ks++[x1]).map exD by rw [List.map_append];rfl]
 refine ak mixed E' fun X=>?_
 simp only [go_sem]
 refine cD X (d:=27) [102] 0 none [.d (i64 n.k),.d (i64 n.a),.d (i64 n.b),.d (i64 n.c),.d (i64 n.n),.d (.str n.name),.d (.str n.s),.vw [97] 0 l.length,.d (i64 n.pos)] (by simp only [go_sem]) rfl rfl ?_
 simp only [go_sem]
 rw [show List.map fD l++[.agg [.str fd.nm,.str fd.var,i64 fd.to]]=(l++[fd]).map fD by rw [List.map_append];rfl]
 refine ⟨by omega,?_⟩
 refine cD X (d:=33) [102] 0 none [.d (i64 n.k),.d (i64 n.a),.d (i64 n.b),.d (i64 n.c),.d (i64 n.n),.d (.str n.name),.d (.str n.s),.vw [97] 0 l.length,.d (i64 n.pos)] (by simp only [go_sem]) rfl rfl ?_
 simp only [go_sem]
 refine ⟨by decide +kernel,?_⟩
 refine ab E' [.bx [100] 0,.d (.str b)] (RO s2) [100,101] (h3) rfl rfl ⟨by simp only [go_sem],by first | (rw [aa];decide) | (simp only [go_sem]<;>(try rw [aa])<;>decide)⟩ rfl (by unfold RO TO ae;simp only [go_sem]) (by unfold RO TO;simp only [go_sem]) ?_
 rintro _ _ ⟨rfl,rfl⟩
 unfold RO TO ae
 simp only [go_sem]
 refine aB E' (fun h=>?_) (fun h=>?_)<;>simp only [go_sem]
 ·have h':s2.sees 7 b=false:=by simpa using h
  rw [fF h',hQ]
  rw [if_neg (by rw [h'];decide)] at hb
  subst hb
  simp only [go_sem]
  refine ⟨_,_,[100,101,102,103,105,106,107],tau [([106],[32]),([107],[24])],⟨rfl,rfl⟩,?_⟩
  unfold NQ RO TO ae
  simp only [go_sem]
  simp only [List.length_append,List.length_singleton,and_self]
 ·have h':s2.sees 7 b=true:=by simpa using h
  have hsl:=ax h'
  rw [dU h',hQ]
  rw [if_pos h'] at hb
  simp only [go_sem]
  refine ⟨⟨(m,s2.next,l++[fd],ks++[x1]),hb,by show s2.next.l.length<m;omega,by simp [hlk],by show (l++[fd]).length+s2.next.l.length≤_;rw [List.length_append,List.length_singleton];omega,by show s2.next.nest=N;rw [← hqn,← g1.nest,← z2];rfl⟩,by show s2.next.l.length<q.l.length;omega,tau [([97],[32]),([98],[24])],?_,?_,?_,?_,?_⟩<;>simp only [go_sem]
  all_goals simp only [List.length_append,List.length_singleton,and_self]
end Go.Proofs.YtejpnabbmgpmaaaGreat

namespace Go.Proofs.YtejpnabbmgpmaaaGreat
open Go.Ab
theorem Ep {G} {N:Nat} {ex:PS→PR} (hex:∀ s,GP 1 s (ex s)) (hc:Reads 53 G N ex):rS 340 G N (cg ex):=by
 intro s p hl hN
 generalize hR:cg ex s p=R
 unfold cg at hR
 have h0:=jw (G:=G) s [125] (by omega)
 have hg:=dH hex [44] du SS.field s.l.length.succ s [] [] rfl (fun _ h=>by cases h)
 have hp:=xX (G:=G) (b:=[44]) hex hc (EX (G:=G)) (fun s l=>SS.field s l) s (nd0 11 p) hl hN
 rw [show (fun s l=>qz s s.peek l)=du from rfl] at hp
 obtain ⟨F,hF⟩:∃ F,F=aP ex [44] du s.l.length.succ s [] []:=⟨_,rfl⟩
 rw [← hF] at hg hp
 simp only [← hF] at hR
 obtain ⟨fl,ks,q⟩:=F
 simp only at hp hR
 have g1:=hg.sz
 have g2:=hg.ln
 have g3:=hg.ss.len
 have g4:=hg.eq
 simp only [aT,List.map_nil,List.sum_nil,List.length_nil] at g1 g2 g3 g4
 have hm:=fO (G:=G) q 7 [125] (by omega) (by decide)
 have h4:=qL (G:=G) { nd0 11 p with l:=fl } ks (by simp only;omega) (by omega) (by simp only [aT];omega)
  (fun l h=>(hg.tr l h).kids.2) (fun l h=>(hg.wd (s.l.length+1) (fun _ h=>by cases h) (by simp only;omega) l h).mono (by omega))
 unfold RO TO ae
 refine aq Tryz.func340 rfl (by decide +kernel) (by simp [Tryz.ntmps340]) (veil fun E=>?_)
 simp only [go_sem]
 refine ab E [.bx [100] 0,.d (.str [125])] (RO s) [100,101] (h0) rfl rfl ⟨by simp only [go_sem],by first | (rw [aa];decide) | (simp only [go_sem]<;>(try rw [aa])<;>decide)⟩ rfl (by unfold RO TO ae;simp only [go_sem]) (by unfold RO TO;simp only [go_sem]) ?_
 rintro _ _ ⟨rfl,rfl⟩
 unfold RO TO ae
 simp only [go_sem]
 refine aB E (fun h=>?_) (fun h=>?_)<;>simp only [go_sem]
 ·rw [if_pos h] at hR
  rw [dU h]
  have hlf:=gx (G:=G) (nd0 11 p) rfl
  generalize bj (nd0 11 p)=L at hlf hR
  unfold exD at hlf
  refine ag E hlf rfl rfl (by simp) ?_
  rintro _ rfl
  simp only [go_sem]
  subst hR
  refine ⟨_,_,[100,101],id,⟨rfl,rfl⟩,?_⟩
  simp only [go_sem]
  rfl
 ·rw [if_neg (by rw [h];decide)] at hR
  rw [fF h]
  refine xd E [5] 7 98 (some 3) [.d (i64 11),.d (i64 0),.d (i64 0),.d (i64 0),.d (i64 0),.d (.str []),.d (.str []),.d .nils,.d (i64 p)] rfl rfl (by rw [aa];decide) rfl ?_
  simp only [go_sem]
  refine aS E (tau [([105],[2]),([102],[5]),([103],[98])]) [.bx [100] 0,.bx [102] 0,.d (.str [44]),.clo 354 [.bx [105] 0,.bx [102] 0]] (NO s (nd0 11 p) []) [100,101,102,103,105] (hp) rfl (by simp only [go_sem];try rfl) ⟨by simp only [go_sem],by first | (rw [aa];decide) | (simp only [go_sem]<;>(try rw [aa])<;>decide)⟩ rfl (by unfold NO FO RO TO ae;simp only [go_sem];try rfl) (by unfold NO FO RO TO;simp only [go_sem]) ?_
  rintro _ _ ⟨rfl,rfl⟩
  unfold NQ NO FO RO TO ae nd0
  simp only [go_sem]
  refine ab E [.bx [100] 0,.d (i64 7),.d (.str [125])] (RO q) [100,101] (hm) rfl rfl ⟨by simp only [go_sem],by first | (rw [aa];decide) | (simp only [go_sem]<;>(try rw [aa])<;>decide)⟩ rfl (by unfold RO TO ae;simp only [go_sem]) (by unfold RO TO;simp only [go_sem]) ?_
  rintro _ _ ⟨rfl,rfl⟩
  unfold RO TO ae
  simp only [go_sem]
  refine cJ E [15,107] (some 1) (ks.map exD) rfl (by simp only [go_sem];rfl) ?_
  simp only [go_sem]
  refine cJ E [15,106] (some 3) (fl.map fD) rfl (by simp only [go_sem];rfl) ?_
  simp only [go_sem]
  generalize au { nd0 11 p with l:=fl } ks=J at h4 hR
  unfold exD at h4
  refine ag E h4 rfl rfl (by simp) ?_
  rintro _ rfl
  simp only [go_sem]
  subst hR
  refine ⟨_,_,[100,101],id,⟨rfl,rfl⟩,?_⟩
  simp only [go_sem]
  rfl
theorem Dy {G} {N:Nat} {ex:PS→PR} (hex:∀ s,GP 1 s (ex s)) (hc:Reads 53 G N ex):rS 341 G N (eX ex):=by
 intro s p hl hN
 generalize hR:eX ex s p=R
 unfold eX at hR
 have ce:=hc s hl hN
 have he:=hex s
 obtain ⟨e,s0,e0⟩:∃ e s0,ex s=(e,s0):=⟨_,_,rfl⟩
 rw [e0] at ce he hR
 simp only at ce hR
 have le:=he.ss.len
 have ne:=he.ss.nest
 have ze:=he.sz
 simp only at le ne ze
 have cm:=fO (G:=G) s0 1 bOf (by omega) (by decide)
 have hm:=SS.must s0 1 bOf
 generalize s0.must 1 bOf=s1 at cm hm hR
 have lm:=hm.len
 have nm:=hm.nest
 have hg:=dH hex [124] bI SS.branch s1.l.length.succ s1 [] [] rfl (fun _ h=>by cases h)
 have hp:=xX (G:=G) (b:=[124]) hex hc (DG (G:=G)) (fun s l=>SS.branch s l) s1 (nd0 14 p) (by omega) (by rw [nm,ne,hN])
 rw [show (fun s l=>nh s s.peek l)=bI from rfl] at hp
 obtain ⟨F,hF⟩:∃ F,F=aP ex [124] bI s1.l.length.succ s1 [] []:=⟨_,rfl⟩
 rw [← hF] at hg hp
 simp only [← hF] at hR
 obtain ⟨fl,ks,q⟩:=F
 simp only at hp hR
 have g1:=hg.sz
 have g2:=hg.ln
 have g3:=hg.ss.len
 have g4:=hg.eq
 simp only [aT,List.map_nil,List.sum_nil,List.length_nil] at g1 g2 g3 g4
 have cx:=fO (G:=G) q 1 vV (by omega) (by decide)
 have h4:=qL (G:=G) { nd0 14 p with l:=fl } (e::ks) (by simp only;omega) (by rw [List.length_cons];omega) (by simp only [aT,List.map_cons,List.sum_cons];omega)
  (fun l h=>by
   rcases List.mem_cons.1 h with rfl | h
   ·exact he.tr.kids.2
   ·exact (hg.tr l h).kids.2)
  (fun l h=>by
   rcases List.mem_cons.1 h with rfl | h
   ·exact he.wd.mono (by omega)
   ·exact (hg.wd (s1.l.length+1) (fun _ h=>by cases h) (by simp only;omega) l h).mono (by omega))
 unfold exD at ce
 unfold RO TO ae
 refine aq Tryz.func341 rfl (by decide +kernel) (by simp [Tryz.ntmps341]) (veil fun E=>?_)
 simp only [go_sem]
 refine ab E [.bx [100] 0] (RO s) [100,101] (ce) rfl rfl ⟨by simp only [go_sem],by first | (rw [aa];decide) | (simp only [go_sem]<;>(try rw [aa])<;>decide)⟩ rfl (by unfold RO TO ae;simp only [go_sem]) (by unfold RO TO;simp only [go_sem]) ?_
 rintro _ _ ⟨rfl,rfl⟩
 unfold RO TO ae
 simp only [go_sem]
 refine ab E [.bx [100] 0,.d (i64 1),.d (.str bOf)] (RO s0) [100,101] (cm) rfl rfl ⟨by simp only [go_sem],by first | (rw [aa];decide) | (simp only [go_sem]<;>(try rw [aa])<;>decide)⟩ rfl (by unfold RO TO ae;simp only [go_sem]) (by unfold RO TO;simp only [go_sem]) ?_
 rintro _ _ ⟨rfl,rfl⟩
 unfold RO TO ae
 simp only [go_sem]
 refine xd E [5] 7 98 (some 3) [.d (i64 14),.d (i64 0),.d (i64 0),.d (i64 0),.d (i64 0),.d (.str []),.d (.str []),.d .nils,.d (i64 p)] rfl rfl (by rw [aa];decide) rfl ?_
 simp only [go_sem]
 refine aS E (tau [([105],[2]),([102],[5]),([103],[98])]) [.bx [100] 0,.bx [102] 0,.d (.str [124]),.clo 356 [.bx [105] 0,.bx [102] 0]] (NO s1 (nd0 14 p) []) [100,101,102,103,105] (hp) rfl (by simp only [go_sem];try rfl) ⟨by simp only [go_sem],by first | (rw [aa];decide) | (simp only [go_sem]<;>(try rw [aa])<;>decide)⟩ rfl (by unfold NO FO RO TO ae;simp only [go_sem];try rfl) (by unfold NO FO RO TO;simp only [go_sem]) ?_
 rintro _ _ ⟨rfl,rfl⟩
 unfold NQ NO FO RO TO ae nd0
 simp only [go_sem]
 refine ab E [.bx [100] 0,.d (i64 1),.d (.str vV)] (RO q) [100,101] (cx) rfl rfl ⟨by simp only [go_sem],by first | (rw [aa];decide) | (simp only [go_sem]<;>(try rw [aa])<;>decide)⟩ rfl (by unfold RO TO ae;simp only [go_sem]) (by unfold RO TO;simp only [go_sem]) ?_
 rintro _ _ ⟨rfl,rfl⟩
 unfold RO TO ae
 simp only [go_sem]
 refine jb E [16,107] (some 1) (ks.map exD) rfl ?_
 simp only [go_sem]
 refine jb E [16,106] (some 3) (fl.map fD) rfl ?_
 simp only [go_sem]
 refine ak mixed E fun X=>?_
 simp only [go_sem]
 refine ⟨by omega,?_⟩
 generalize au { nd0 14 p with l:=fl } (e::ks)=J at h4 hR
 unfold exD at h4
 refine bw X 23 [23] (some 1) (.agg [.sl (some 9) (e.map enD)]::ks.map exD) h4 (fun _=>rfl) rfl rfl rfl (by simp) (by rw [List.drop_zero,List.take_of_length_le (by simp;omega)];rfl) (by simp only [go_sem]) ?_
 simp only [go_sem]
 refine ⟨by decide +kernel,?_⟩
 subst hR
 refine ⟨_,_,[100,101],id,⟨rfl,rfl⟩,?_⟩
 simp only [go_sem]
 rfl
end Go.Proofs.YtejpnabbmgpmaaaGreat

namespace Go.Proofs.YtejpnabbmgpmaaaGreat
open Go.Ab
theorem Ea {G} {N:Nat} {ex:PS→PR} (hex:∀ s,GP 1 s (ex s)) (hc:Reads 53 G N ex):Reads 329 G N (cR ex):=by
 intro s hl hN
 generalize hR:cR ex s=R
 unfold cR at hR
 rw [jz] at hR
 have hpk:=er (G:=G) s.l s.fin (by omega)
 generalize bt s.l s.fin=t at hpk hR
 simp only at hR
 have hnx:s.next.nest=N:=hN
 have hnl:s.next.l.length≤100000:=by have:=(SS.next s).len;omega
 have c1:=kh (G:=G) s eI (by omega)
 have c2:=kh (G:=G) s cZ (by omega)
 have c3:=jw (G:=G) s [40] (by omega)
 have c4:=jw (G:=G) s [123] (by omega)
 have c5:=kh (G:=G) s e9 (by omega)
 have cr:=Ep (G:=G) hex hc s.next t.pos hnl hnx
 have cc:=Dy (G:=G) hex hc s.next t.pos hnl hnx
 have ce:=hc s.next hnl hnx
 have he:=hex s.next
 generalize cg ex s.next t.pos=R1 at hR cr
 generalize eX ex s.next t.pos=R2 at hR cc
 obtain ⟨e0,s0,h0⟩:∃ e0 s0,ex s.next=(e0,s0):=⟨_,_,rfl⟩
 rw [h0] at ce hR he
 have ln:=he.ss.len
 simp only at hR ce ln
 have cm:=fO (G:=G) s0 7 [41] (by omega) (by decide)
 unfold exD at cr cc ce
 unfold RO TO ae
 refine aq Tryz.func329 rfl (by decide +kernel) (by simp [Tryz.ntmps329]) (veil fun E=>?_)
 simp only [go_sem]
 refine ab E [.bx [101] 0] (TO s.l s.fin) [101] (hpk) rfl rfl ⟨by simp only [go_sem],by first | (rw [aa];decide) | (simp only [go_sem]<;>(try rw [aa])<;>decide)⟩ rfl (by unfold TO ae;simp only [go_sem]) (by unfold TO;simp only [go_sem]) ?_
 rintro _ _ ⟨rfl,rfl⟩
 unfold TO ae
 simp only [go_sem]
 refine ab E [.bx [100] 0] (RO s) [100,101] (fy s) rfl rfl ⟨by simp only [go_sem],by first | (rw [aa];decide) | (simp only [go_sem]<;>(try rw [aa])<;>decide)⟩ rfl (by unfold RO TO ae;simp only [go_sem]) (by unfold RO TO;simp only [go_sem]) ?_
 rintro _ _ ⟨rfl,rfl⟩
 unfold RO TO ae
 simp only [go_sem]
 refine aB E (fun h=>?_) (fun h=>?_)<;>simp only [go_sem]
 ·rw [if_pos (by simpa using h)] at hR
  refine ab E [.bx [100] 0] (RO s) [100,101] (oC s (by omega)) rfl rfl ⟨by simp only [go_sem],by first | (rw [aa];decide) | (simp only [go_sem]<;>(try rw [aa])<;>decide)⟩ rfl (by unfold RO TO ae;simp only [go_sem]) (by unfold RO TO;simp only [go_sem]) ?_
  rintro _ _ ⟨rfl,rfl⟩
  unfold RO TO ae
  simp only [go_sem]
  have hlf:=gx (G:=G) (nd0 1 0) rfl
  unfold noE at hR
  generalize bj (nd0 1 0)=L at hlf hR
  unfold exD at hlf
  refine ag E hlf rfl rfl (by simp) ?_
  rintro _ rfl
  simp only [go_sem]
  subst hR
  refine ⟨_,_,[100,101],id,⟨rfl,rfl⟩,?_⟩
  simp only [go_sem]
  all_goals first | rfl | exact ⟨rfl,rfl,rfl⟩
 rw [if_neg (by simpa using h)] at hR
 refine ah E (fun h=>?_) (fun h=>?_)<;>simp only [go_sem]
 ·rw [if_pos h] at hR
  refine ab E [.bx [101] 0] (TO s.l s.fin) [101] (jR s.l s.fin (by omega)) rfl rfl ⟨by simp only [go_sem],by first | (rw [aa];decide) | (simp only [go_sem]<;>(try rw [aa])<;>decide)⟩ rfl (by unfold TO ae;simp only [go_sem]) (by unfold TO;simp only [go_sem]) ?_
  rintro _ _ ⟨rfl,rfl⟩
  unfold TO ae
  simp only [go_sem]
  have hlf:=gx (G:=G) ({ nd0 1 t.pos with n:=t.n }) rfl
  generalize bj ({ nd0 1 t.pos with n:=t.n })=L at hlf hR
  unfold exD at hlf
  refine ag E hlf rfl rfl (by simp) ?_
  rintro _ rfl
  simp only [go_sem]
  subst hR
  refine ⟨_,_,[100,101],id,⟨rfl,rfl⟩,?_⟩
  simp only [go_sem]
  all_goals first | rfl | exact ⟨rfl,rfl,rfl⟩
 rw [if_neg h] at hR
 refine ah E (fun h=>?_) (fun h=>?_)<;>simp only [go_sem]
 ·rw [if_pos h] at hR
  refine ab E [.bx [101] 0] (TO s.l s.fin) [101] (jR s.l s.fin (by omega)) rfl rfl ⟨by simp only [go_sem],by first | (rw [aa];decide) | (simp only [go_sem]<;>(try rw [aa])<;>decide)⟩ rfl (by unfold TO ae;simp only [go_sem]) (by unfold TO;simp only [go_sem]) ?_
  rintro _ _ ⟨rfl,rfl⟩
  unfold TO ae
  simp only [go_sem]
  have hlf:=gx (G:=G) ({ nd0 3 t.pos with s:=t.s }) rfl
  generalize bj ({ nd0 3 t.pos with s:=t.s })=L at hlf hR
  unfold exD at hlf
  refine ag E hlf rfl rfl (by simp) ?_
  rintro _ rfl
  simp only [go_sem]
  subst hR
  refine ⟨_,_,[100,101],id,⟨rfl,rfl⟩,?_⟩
  simp only [go_sem]
  all_goals first | rfl | exact ⟨rfl,rfl,rfl⟩
 rw [if_neg h] at hR
 refine ah E (fun h=>?_) (fun h=>?_)<;>simp only [go_sem]
 ·rw [if_pos h] at hR
  refine ab E [.bx [101] 0] (TO s.l s.fin) [101] (jR s.l s.fin (by omega)) rfl rfl ⟨by simp only [go_sem],by first | (rw [aa];decide) | (simp only [go_sem]<;>(try rw [aa])<;>decide)⟩ rfl (by unfold TO ae;simp only [go_sem]) (by unfold TO;simp only [go_sem]) ?_
  rintro _ _ ⟨rfl,rfl⟩
  unfold TO ae
  simp only [go_sem]
  have hlf:=gx (G:=G) ({ nd0 4 t.pos with name:=t.s }) rfl
  generalize bj ({ nd0 4 t.pos with name:=t.s })=L at hlf hR
  unfold exD at hlf
  refine ag E hlf rfl rfl (by simp) ?_
  rintro _ rfl
  simp only [go_sem]
  subst hR
  refine ⟨_,_,[100,101],id,⟨rfl,rfl⟩,?_⟩
  simp only [go_sem]
  all_goals first | rfl | exact ⟨rfl,rfl,rfl⟩
 rw [if_neg h] at hR
 refine ab E [.bx [100] 0,.d (.str eI)] (RO s) [100,101] (c1) rfl rfl ⟨by simp only [go_sem],by first | (rw [aa];decide) | (simp only [go_sem]<;>(try rw [aa])<;>decide)⟩ rfl (by unfold RO TO ae;simp only [go_sem]) (by unfold RO TO;simp only [go_sem]) ?_
 rintro _ _ ⟨rfl,rfl⟩
 unfold RO TO ae
 simp only [go_sem]
 refine aB E (fun h=>?_) (fun h=>?_)<;>simp only [go_sem]
 ·rw [if_pos h] at hR
  rw [dU h]
  have hlf:=gx (G:=G) ({ nd0 2 t.pos with n:=1 }) rfl
  generalize bj ({ nd0 2 t.pos with n:=1 })=L at hlf hR
  unfold exD at hlf
  refine ag E hlf rfl rfl (by simp) ?_
  rintro _ rfl
  simp only [go_sem]
  subst hR
  refine ⟨_,_,[100,101],id,⟨rfl,rfl⟩,?_⟩
  simp only [go_sem]
  all_goals first | rfl | exact ⟨rfl,rfl,rfl⟩
 rw [if_neg (by rw [h];decide)] at hR
 rw [fF h]
 refine ab E [.bx [100] 0,.d (.str cZ)] (RO s) [100,101] (c2) rfl rfl ⟨by simp only [go_sem],by first | (rw [aa];decide) | (simp only [go_sem]<;>(try rw [aa])<;>decide)⟩ rfl (by unfold RO TO ae;simp only [go_sem]) (by unfold RO TO;simp only [go_sem]) ?_
 rintro _ _ ⟨rfl,rfl⟩
 unfold RO TO ae
 simp only [go_sem]
 refine aB E (fun h=>?_) (fun h=>?_)<;>simp only [go_sem]
 ·rw [if_pos h] at hR
  rw [dU h]
  have hlf:=gx (G:=G) (nd0 2 t.pos) rfl
  generalize bj (nd0 2 t.pos)=L at hlf hR
  unfold exD at hlf
  refine ag E hlf rfl rfl (by simp) ?_
  rintro _ rfl
  simp only [go_sem]
  subst hR
  refine ⟨_,_,[100,101],id,⟨rfl,rfl⟩,?_⟩
  simp only [go_sem]
  all_goals first | rfl | exact ⟨rfl,rfl,rfl⟩
 rw [if_neg (by rw [h];decide)] at hR
 rw [fF h]
 refine ab E [.bx [100] 0,.d (.str [40])] (RO s) [100,101] (c3) rfl rfl ⟨by simp only [go_sem],by first | (rw [aa];decide) | (simp only [go_sem]<;>(try rw [aa])<;>decide)⟩ rfl (by unfold RO TO ae;simp only [go_sem]) (by unfold RO TO;simp only [go_sem]) ?_
 rintro _ _ ⟨rfl,rfl⟩
 unfold RO TO ae
 simp only [go_sem]
 refine aB E (fun h=>?_) (fun h=>?_)<;>simp only [go_sem]
 ·rw [if_pos h] at hR
  rw [dU h]
  refine ab E [.bx [100] 0] (RO s.next) [100,101] (ce) rfl rfl ⟨by simp only [go_sem],by first | (rw [aa];decide) | (simp only [go_sem]<;>(try rw [aa])<;>decide)⟩ rfl (by unfold RO TO ae;simp only [go_sem]) (by unfold RO TO;simp only [go_sem]) ?_
  rintro _ _ ⟨rfl,rfl⟩
  unfold RO TO ae
  simp only [go_sem]
  refine ab E [.bx [100] 0,.d (i64 7),.d (.str [41])] (RO s0) [100,101] (cm) rfl rfl ⟨by simp only [go_sem],by first | (rw [aa];decide) | (simp only [go_sem]<;>(try rw [aa])<;>decide)⟩ rfl (by unfold RO TO ae;simp only [go_sem]) (by unfold RO TO;simp only [go_sem]) ?_
  rintro _ _ ⟨rfl,rfl⟩
  unfold RO TO ae
  simp only [go_sem]
  subst hR
  refine ⟨_,_,[100,101],id,⟨rfl,rfl⟩,?_⟩
  simp only [go_sem]
  all_goals rfl
 rw [if_neg (by rw [h];decide)] at hR
 rw [fF h]
 refine ab E [.bx [100] 0,.d (.str [123])] (RO s) [100,101] (c4) rfl rfl ⟨by simp only [go_sem],by first | (rw [aa];decide) | (simp only [go_sem]<;>(try rw [aa])<;>decide)⟩ rfl (by unfold RO TO ae;simp only [go_sem]) (by unfold RO TO;simp only [go_sem]) ?_
 rintro _ _ ⟨rfl,rfl⟩
 unfold RO TO ae
 simp only [go_sem]
 refine aB E (fun h=>?_) (fun h=>?_)<;>simp only [go_sem]
 ·rw [if_pos h] at hR
  rw [dU h]
  refine ab E [.bx [100] 0,.d (i64 t.pos)] (RO s.next) [100,101] (cr) rfl rfl ⟨by simp only [go_sem],by first | (rw [aa];decide) | (simp only [go_sem]<;>(try rw [aa])<;>decide)⟩ rfl (by unfold RO TO ae;simp only [go_sem]) (by unfold RO TO;simp only [go_sem]) ?_
  rintro _ _ ⟨rfl,rfl⟩
  unfold RO TO ae
  simp only [go_sem]
  subst hR
  refine ⟨_,_,[100,101],id,⟨rfl,rfl⟩,?_⟩
  simp only [go_sem]
  all_goals rfl
 rw [if_neg (by rw [h];decide)] at hR
 rw [fF h]
 refine ab E [.bx [100] 0,.d (.str e9)] (RO s) [100,101] (c5) rfl rfl ⟨by simp only [go_sem],by first | (rw [aa];decide) | (simp only [go_sem]<;>(try rw [aa])<;>decide)⟩ rfl (by unfold RO TO ae;simp only [go_sem]) (by unfold RO TO;simp only [go_sem]) ?_
 rintro _ _ ⟨rfl,rfl⟩
 unfold RO TO ae
 simp only [go_sem]
 refine aB E (fun h=>?_) (fun h=>?_)<;>simp only [go_sem]
 ·rw [if_pos h] at hR
  rw [dU h]
  refine ab E [.bx [100] 0,.d (i64 t.pos)] (RO s.next) [100,101] (cc) rfl rfl ⟨by simp only [go_sem],by first | (rw [aa];decide) | (simp only [go_sem]<;>(try rw [aa])<;>decide)⟩ rfl (by unfold RO TO ae;simp only [go_sem]) (by unfold RO TO;simp only [go_sem]) ?_
  rintro _ _ ⟨rfl,rfl⟩
  unfold RO TO ae
  simp only [go_sem]
  subst hR
  refine ⟨_,_,[100,101],id,⟨rfl,rfl⟩,?_⟩
  simp only [go_sem]
  all_goals rfl
 rw [if_neg (by rw [h];decide)] at hR
 rw [fF h]
 refine ab E [.bx [100] 0] (RO s) [100,101] (oC s (by omega)) rfl rfl ⟨by simp only [go_sem],by first | (rw [aa];decide) | (simp only [go_sem]<;>(try rw [aa])<;>decide)⟩ rfl (by unfold RO TO ae;simp only [go_sem]) (by unfold RO TO;simp only [go_sem]) ?_
 rintro _ _ ⟨rfl,rfl⟩
 unfold RO TO ae
 simp only [go_sem]
 have hlf:=gx (G:=G) (nd0 1 0) rfl
 unfold noE at hR
 generalize bj (nd0 1 0)=L at hlf hR
 unfold exD at hlf
 refine ag E hlf rfl rfl (by simp) ?_
 rintro _ rfl
 simp only [go_sem]
 subst hR
 refine ⟨_,_,[100,101],id,⟨rfl,rfl⟩,?_⟩
 simp only [go_sem]
 all_goals first | rfl | exact ⟨rfl,rfl,rfl⟩
end Go.Proofs.YtejpnabbmgpmaaaGreat

namespace Go.Proofs.YtejpnabbmgpmaaaGreat
open Go.Ab
theorem uf (s:PS) (e p:Int) (he:e≠0):(s.fail e p).err≠0:=by
 unfold PS.fail
 split
 ·exact he
 ·assumption
theorem BR {G}:Reads 53 G 100 (ei 0):=by
 intro s hl hN
 generalize hR:ei 0 s=R
 unfold ei at hR
 rw [jz] at hR
 have hpk:=er (G:=G) s.l s.fin (by omega)
 generalize bt s.l s.fin=t at hpk hR
 have hf:=nO (G:=G) s 6 t.pos
 have hne:=uf s 6 t.pos (by decide)
 generalize s.fail 6 t.pos=s2 at hf hne hR
 unfold noE at hR
 have hlf:=gx (G:=G) (nd0 1 0) rfl
 generalize bj (nd0 1 0)=L at hlf hR
 subst hR
 unfold exD at hlf
 unfold RO TO ae
 refine wy Tryz.func53 rfl (by decide +kernel) (by simp [Tryz.ntmps53]) fun B0 hB0=>?_
 refine aA (ao fun E=>?_)
 simp only [go_sem]
 refine aA (ao fun E=>?_)
 simp only [go_sem]
 refine ab E [.bx [101] 0] (TO s.l s.fin) [101] (hpk) rfl rfl ⟨by simp only [go_sem],by first | (rw [aa];decide) | (simp only [go_sem]<;>(try rw [aa])<;>decide)⟩ rfl (by unfold TO ae;simp only [go_sem]) (by unfold TO;simp only [go_sem]) ?_
 rintro _ _ ⟨rfl,rfl⟩
 unfold TO ae
 simp only [go_sem]
 refine aA (ao fun E=>?_)
 simp only [go_sem]
 refine ah E (fun h=>?_) (fun h=>absurd (by omega) h)<;>simp only [go_sem]
 refine ab E [.bx [100] 0,.d (i64 6),.d (i64 t.pos)] (RO s) [100,101] (hf) rfl rfl ⟨by simp only [go_sem],by first | (rw [aa];decide) | (simp only [go_sem]<;>(try rw [aa])<;>decide)⟩ rfl (by unfold RO TO ae;simp only [go_sem]) (by unfold RO TO;simp only [go_sem]) ?_
 rintro _ _ ⟨rfl,rfl⟩
 unfold RO TO ae
 simp only [go_sem]
 refine aA (ao fun E=>?_)
 simp only [go_sem]
 refine ab E [.bx [100] 0] (RO s2) [100,101] (fy s2) rfl rfl ⟨by simp only [go_sem],by first | (rw [aa];decide) | (simp only [go_sem]<;>(try rw [aa])<;>decide)⟩ rfl (by unfold RO TO ae;simp only [go_sem]) (by unfold RO TO;simp only [go_sem]) ?_
 rintro _ _ ⟨rfl,rfl⟩
 unfold RO TO ae
 simp only [go_sem]
 refine aB E (fun g=>?_) (fun g=>absurd (by simpa using g) hne)<;>simp only [go_sem]
 refine ag E hlf rfl rfl (by simp) ?_
 rintro _ rfl
 simp only [go_sem]
 refine xK (.inl rfl) hB0 ?_
 simp only [go_sem]
 refine ⟨_,_,[100,101],id,⟨rfl,rfl⟩,?_⟩
 simp only [go_sem]
 rfl
def Cv (ex:PS→PR) (s:PS):PR:=if s.err≠0 then (noE,s) else
 let r:=lA ex { s with nest:=s.nest+1 }
 (r.1,{ r.2 with nest:=s.nest })
set_option maxHeartbeats 1000000 in
theorem A4 {G} {N:Nat} {ex:PS→PR} (hN0:N<100) (hex:∀ s,GP 1 s (ex s)) (hc:Reads 53 G (N+1) ex):Reads 53 G N (Cv ex):=by
 intro s hl hN
 generalize hR:Cv ex s=R
 unfold Cv lA at hR
 have hp1:({ s with nest:=s.nest+1 }:PS).peek=bt s.l s.fin:=rfl
 obtain ⟨s1,hs1⟩:∃ s1:PS,s1={ s with nest:=s.nest+1 }:=⟨_,rfl⟩
 rw [← hs1] at hp1
 simp only [← hs1,hp1] at hR
 have hpk:=er (G:=G) s.l s.fin (by omega)
 generalize bt s.l s.fin=t at hpk hR
 have l1:s1.l.length≤100000:=by rw [hs1];exact hl
 have n1:s1.nest=N+1:=by rw [hs1];show s.nest+1=_;rw [hN]
 have hlf:=gx (G:=G) (nd0 1 0) rfl
 unfold noE at hR
 generalize bj (nd0 1 0)=L at hlf hR
 have c1:=kh (G:=G) s1 yn (by omega)
 have c2:=kh (G:=G) s1 yY (by omega)
 have c3:=kh (G:=G) s1 bIf (by omega)
 have nn:=(SS.next s1).nest
 have ln:=(SS.next s1).len
 have c4:=GA (G:=G) hex hc s1.next t.pos (by omega) (nn.trans n1)
 have c5:=Hy (G:=G) hex hc s1.next t.pos (by omega) (nn.trans n1)
 have c6:=ED (G:=G) hex (Fy hex (Fj hex (Dn hex (Eo hex (Ea hex hc))))) s1 l1 n1
 have g4:=(oE hex s1.next t.pos).ss.nest
 have g5:=(r9 hex s1.next t.pos).ss.nest
 have g6:=(sZ hex s1).ss.nest
 generalize lz ex s1.next t.pos=R4 at c4 g4 hR
 generalize ifS ex s1.next t.pos=R5 at c5 g5 hR
 generalize pD ex s1=R6 at c6 g6 hR
 have c7:=ml (G:=G) s1.next 2 (by omega)
 have g7:=SS.of s1.next 2
 obtain ⟨nm,s2,e2⟩:∃ nm s2,s1.next.of 2=(nm,s2):=⟨_,_,rfl⟩
 rw [e2] at c7 g7
 simp only [e2] at hR
 simp only at c7 g7
 have l2:=g7.len
 have n2:=g7.nest
 have c8:=fO (G:=G) s2 7 bTo (by omega) (by decide)
 have g8:=SS.must s2 7 bTo
 generalize s2.must 7 bTo=s3 at c8 g8 hR
 have l3:=g8.len
 have n3:=g8.nest
 have c9:=hc s3 (by omega) (by rw [n3,n2,nn,n1])
 have g9:=hex s3
 obtain ⟨b,s4,e4⟩:∃ b s4,ex s3=(b,s4):=⟨_,_,rfl⟩
 rw [e4] at c9 g9
 simp only [e4] at hR
 have n4:=g9.ss.nest
 have z4:=g9.sz
 simp only at n4 z4
 have h4:=j2 (G:=G) { nd0 5 t.pos with name:=nm } [b] rfl (by simp) (by simp only [aT,List.map_cons,List.map_nil,List.sum_cons,List.sum_nil];omega)
  (fun l h=>by rw [List.mem_singleton.1 h];exact g9.tr.kids.2)
  (fun l h=>by rw [List.mem_singleton.1 h];exact g9.wd.mono (by omega))
 generalize au { nd0 5 t.pos with name:=nm } [b]=J at h4 hR
 unfold exD at hlf c4 c5 c6 c9 h4
 unfold RO TO ae
 refine wy Tryz.func53 rfl (by decide +kernel) (by simp [Tryz.ntmps53]) fun B0 hB0=>?_
 refine aA (ao fun E=>?_)
 simp only [go_sem]
 refine aA (ao fun E=>?_)
 simp only [go_sem]
 refine ab E [.bx [101] 0] (TO s.l s.fin) [101] (hpk) rfl rfl ⟨by simp only [go_sem],by first | (rw [aa];decide) | (simp only [go_sem]<;>(try rw [aa])<;>decide)⟩ rfl (by unfold TO ae;simp only [go_sem]) (by unfold TO;simp only [go_sem]) ?_
 rintro _ _ ⟨rfl,rfl⟩
 unfold TO ae
 simp only [go_sem]
 refine aA (ao fun E=>?_)
 simp only [go_sem]
 refine ah E (fun h=>absurd h (by omega)) (fun h=>?_)<;>simp only [go_sem]
 refine aA (ao fun E=>?_)
 simp only [go_sem]
 refine ab E [.bx [100] 0] (RO s) [100,101] (fy s) rfl rfl ⟨by simp only [go_sem],by first | (rw [aa];decide) | (simp only [go_sem]<;>(try rw [aa])<;>decide)⟩ rfl (by unfold RO TO ae;simp only [go_sem]) (by unfold RO TO;simp only [go_sem]) ?_
 rintro _ _ ⟨rfl,rfl⟩
 unfold RO TO ae
 simp only [go_sem]
 refine aB E (fun g=>?_) (fun g=>?_)<;>simp only [go_sem]
 ·rw [if_pos (by simpa using g)] at hR
  refine ag E hlf rfl rfl (by simp) ?_
  rintro _ rfl
  simp only [go_sem]
  subst hR
  refine xK (.inl rfl) hB0 ?_
  simp only [go_sem]
  refine ⟨_,_,[100,101],id,⟨rfl,rfl⟩,?_⟩
  simp only [go_sem]
  all_goals first | rfl | exact ⟨rfl,rfl⟩ | exact ⟨rfl,rfl,rfl⟩
 rw [if_neg (by simpa using g)] at hR
 refine aA (ao fun E=>?_)
 simp only [go_sem]
 rw [ai (n:=(s.nest:Int)+1) ⟨by omega,by omega⟩]
 rw [show s.err=s1.err by rw [hs1],show s.pos=s1.pos by rw [hs1],show s.l=s1.l by rw [hs1],show s.fin=s1.fin by rw [hs1],show (s.nest:Int)+1=(s1.nest:Int) by rw [n1,← hN];rfl]
 refine aA (nV ?_)
 refine ub rfl ?_
 simp only [go_sem]
 refine Dj [[1]] rfl rfl (by intro p hp;rw [List.mem_singleton.1 hp];exact ⟨_,rfl⟩) ?_
 refine zL ?_
 refine aA (ao fun E=>?_)
 simp only [go_sem]
 refine ab E [.bx [100] 0,.d (.str yn)] (RO s1) [100,101] (c1) rfl rfl ⟨by simp only [go_sem],by first | (rw [aa];decide) | (simp only [go_sem]<;>(try rw [aa])<;>decide)⟩ rfl (by unfold RO TO ae;simp only [go_sem]) (by unfold RO TO;simp only [go_sem]) ?_
 rintro _ _ ⟨rfl,rfl⟩
 unfold RO TO ae
 simp only [go_sem]
 refine aB E (fun h=>?_) (fun h=>?_)<;>simp only [go_sem]
 ·rw [if_pos h] at hR
  rw [dU h]
  refine ab E [.bx [100] 0,.d (i64 2)] (RO s1.next) [100,101] (c7) rfl rfl ⟨by simp only [go_sem],by first | (rw [aa];decide) | (simp only [go_sem]<;>(try rw [aa])<;>decide)⟩ rfl (by unfold RO TO ae;simp only [go_sem]) (by unfold RO TO;simp only [go_sem]) ?_
  rintro _ _ ⟨rfl,rfl⟩
  unfold RO TO ae
  simp only [go_sem]
  refine ab E [.bx [100] 0,.d (i64 7),.d (.str bTo)] (RO s2) [100,101] (c8) rfl rfl ⟨by simp only [go_sem],by first | (rw [aa];decide) | (simp only [go_sem]<;>(try rw [aa])<;>decide)⟩ rfl (by unfold RO TO ae;simp only [go_sem]) (by unfold RO TO;simp only [go_sem]) ?_
  rintro _ _ ⟨rfl,rfl⟩
  unfold RO TO ae
  simp only [go_sem]
  refine ak mixed E fun X=>?_
  simp only [go_sem]
  refine aZ X [.bx [100] 0] (RO s3) [100,101] _ _ c9 rfl rfl ⟨by simp only [go_sem],by rw [aa];decide⟩ rfl (by unfold RO TO ae;simp only [go_sem]) (by unfold RO TO;simp only [go_sem]) (by unfold RO TO;simp only [go_sem]) ?_
  unfold RO TO ae
  simp only [go_sem]
  refine bw X 45 [45] (some 1) [.agg [.sl (some 9) (b.map enD)]] h4 (fun _=>rfl) rfl rfl rfl (by simp) rfl (by simp only [go_sem]) ?_
  simp only [go_sem]
  refine ⟨by decide +kernel,?_⟩
  subst hR
  refine rn (ns:=[[1]]) (.inl rfl) hB0 Tryz.func94 rfl (by decide +kernel) (by simp [Tryz.ntmps94]) (by intro p hp;rw [List.mem_singleton.1 hp];simp only [go_sem]) (veil fun E=>?_)
  simp only [go_sem]
  rw [jr]
  simp only [go_sem]
  rw [ai (n:=(s4.nest:Int)-1) ⟨by omega,by omega⟩]
  refine ⟨qs (gY (by simp only [go_sem])),?_⟩
  simp only [jr]
  simp only [go_sem]
  refine ⟨_,_,[100,101],id,⟨rfl,rfl⟩,?_⟩
  simp only [go_sem]
  have hq:(s4.nest:Int)-1=(s.nest:Int):=by omega
  rw [hq]
  exact ⟨rfl,rfl⟩
 rw [if_neg (by rw [h];decide)] at hR
 rw [fF h]
 refine ab E [.bx [100] 0,.d (.str yY)] (RO s1) [100,101] (c2) rfl rfl ⟨by simp only [go_sem],by first | (rw [aa];decide) | (simp only [go_sem]<;>(try rw [aa])<;>decide)⟩ rfl (by unfold RO TO ae;simp only [go_sem]) (by unfold RO TO;simp only [go_sem]) ?_
 rintro _ _ ⟨rfl,rfl⟩
 unfold RO TO ae
 simp only [go_sem]
 refine aB E (fun h=>?_) (fun h=>?_)<;>simp only [go_sem]
 ·rw [if_pos h] at hR
  rw [dU h]
  refine ab E [.bx [100] 0,.d (i64 t.pos)] (RO s1.next) [100,101] (c4) rfl rfl ⟨by simp only [go_sem],by first | (rw [aa];decide) | (simp only [go_sem]<;>(try rw [aa])<;>decide)⟩ rfl (by unfold RO TO ae;simp only [go_sem]) (by unfold RO TO;simp only [go_sem]) ?_
  rintro _ _ ⟨rfl,rfl⟩
  unfold RO TO ae
  simp only [go_sem]
  subst hR
  refine rn (ns:=[[1]]) (.inl rfl) hB0 Tryz.func94 rfl (by decide +kernel) (by simp [Tryz.ntmps94]) (by intro p hp;rw [List.mem_singleton.1 hp];simp only [go_sem]) (veil fun E=>?_)
  simp only [go_sem]
  rw [jr]
  simp only [go_sem]
  rw [ai (n:=(R4.2.nest:Int)-1) ⟨by omega,by omega⟩]
  refine ⟨qs (gY (by simp only [go_sem])),?_⟩
  simp only [jr]
  simp only [go_sem]
  refine ⟨_,_,[100,101],id,⟨rfl,rfl⟩,?_⟩
  simp only [go_sem]
  have hq:(R4.2.nest:Int)-1=(s.nest:Int):=by omega
  rw [hq]
  exact ⟨rfl,rfl⟩
 rw [if_neg (by rw [h];decide)] at hR
 rw [fF h]
 refine ab E [.bx [100] 0,.d (.str bIf)] (RO s1) [100,101] (c3) rfl rfl ⟨by simp only [go_sem],by first | (rw [aa];decide) | (simp only [go_sem]<;>(try rw [aa])<;>decide)⟩ rfl (by unfold RO TO ae;simp only [go_sem]) (by unfold RO TO;simp only [go_sem]) ?_
 rintro _ _ ⟨rfl,rfl⟩
 unfold RO TO ae
 simp only [go_sem]
 refine aB E (fun h=>?_) (fun h=>?_)<;>simp only [go_sem]
 ·rw [if_pos h] at hR
  rw [dU h]
  refine ab E [.bx [100] 0,.d (i64 t.pos)] (RO s1.next) [100,101] (c5) rfl rfl ⟨by simp only [go_sem],by first | (rw [aa];decide) | (simp only [go_sem]<;>(try rw [aa])<;>decide)⟩ rfl (by unfold RO TO ae;simp only [go_sem]) (by unfold RO TO;simp only [go_sem]) ?_
  rintro _ _ ⟨rfl,rfl⟩
  unfold RO TO ae
  simp only [go_sem]
  subst hR
  refine rn (ns:=[[1]]) (.inl rfl) hB0 Tryz.func94 rfl (by decide +kernel) (by simp [Tryz.ntmps94]) (by intro p hp;rw [List.mem_singleton.1 hp];simp only [go_sem]) (veil fun E=>?_)
  simp only [go_sem]
  rw [jr]
  simp only [go_sem]
  rw [ai (n:=(R5.2.nest:Int)-1) ⟨by omega,by omega⟩]
  refine ⟨qs (gY (by simp only [go_sem])),?_⟩
  simp only [jr]
  simp only [go_sem]
  refine ⟨_,_,[100,101],id,⟨rfl,rfl⟩,?_⟩
  simp only [go_sem]
  have hq:(R5.2.nest:Int)-1=(s.nest:Int):=by omega
  rw [hq]
  exact ⟨rfl,rfl⟩
 rw [if_neg (by rw [h];decide)] at hR
 rw [fF h]
 refine ao fun E=>?_
 simp only [go_sem]
 refine ab E [.bx [100] 0] (RO s1) [100,101] (c6) rfl rfl ⟨by simp only [go_sem],by first | (rw [aa];decide) | (simp only [go_sem]<;>(try rw [aa])<;>decide)⟩ rfl (by unfold RO TO ae;simp only [go_sem]) (by unfold RO TO;simp only [go_sem]) ?_
 rintro _ _ ⟨rfl,rfl⟩
 unfold RO TO ae
 simp only [go_sem]
 subst hR
 refine rn (ns:=[[1]]) (.inl rfl) hB0 Tryz.func94 rfl (by decide +kernel) (by simp [Tryz.ntmps94]) (by intro p hp;rw [List.mem_singleton.1 hp];simp only [go_sem]) (veil fun E=>?_)
 simp only [go_sem]
 rw [jr]
 simp only [go_sem]
 rw [ai (n:=(R6.2.nest:Int)-1) ⟨by omega,by omega⟩]
 refine ⟨qs (gY (by simp only [go_sem])),?_⟩
 simp only [jr]
 simp only [go_sem]
 refine ⟨_,_,[100,101],id,⟨rfl,rfl⟩,?_⟩
 simp only [go_sem]
 have hq:(R6.2.nest:Int)-1=(s.nest:Int):=by omega
 rw [hq]
 exact ⟨rfl,rfl⟩
theorem Cx {G}:∀ (m N:Nat),N+m=100→Reads 53 G N (ei m)
 | 0,N,h=>by
   obtain rfl:N=100:=by omega
   exact BR
 | m+1,N,h=>A4 (by omega) (dK m) (Cx m (N+1) (by omega))
end Go.Proofs.YtejpnabbmgpmaaaGreat

namespace Go.Proofs.YtejpnabbmgpmaaaGreat
open Go.Ab
def gp (s:PS) (ns:List EN):List EN × Int × Int :=
 if s.err≠0 then ([],s.pos,s.err) else if ns.any (fun n=>decide (1048576<n.pos)) then ([],0,7) else if cA ns≠0 then ([],0,cA ns) else (ns,0,0)
def fC (l:List Tok) (n:Int):PS:=⟨l,n,0,0,0⟩
def iT (s:PS):PS:=if s.l.isEmpty then s else s.wrong
def aV (s:List UInt8):List EN × Int × Int :=
 if (bM s).2.2≠0 then ([],(bM s).2.1,(bM s).2.2)
 else gp (iT (ei 100 (fC (bM s).1 (bM s).2.1)).2) (ei 100 (fC (bM s).1 (bM s).2.1)).1
theorem SS.done (s:PS):SS s (iT s):=by
 unfold iT
 split
 ·exact SS.refl s
 ·exact SS.wrong s
theorem tL {s:List UInt8} (h:(aV s).2.2=0):Tr (aV s).1∧cA (aV s).1=0∧(aV s).2.1=0:=by
 unfold aV at h ⊢
 split
 ·rename_i g;rw [if_pos g] at h;exact absurd h g
 rename_i he
 rw [if_neg he] at h
 have ht:=(dK 100 (fC (bM s).1 (bM s).2.1)).tr
 unfold gp at h ⊢
 split
 ·rename_i g;rw [if_pos g] at h;exact absurd h g
 rename_i g1
 rw [if_neg g1] at h
 split
 ·rename_i g;rw [if_pos g] at h;exact absurd h (by decide)
 rename_i g2
 rw [if_neg g2] at h
 split
 ·rename_i g;rw [if_pos g] at h;exact absurd h g
 rename_i g3
 exact ⟨ht,by simpa using g3,rfl⟩
end Go.Proofs.YtejpnabbmgpmaaaGreat

namespace Go.Proofs.YtejpnabbmgpmaaaGreat
open Go.Ab
def Fm (B:Nat) (f:EF):Prop:=f.nm.length≤B∧f.var.length≤B
def Nm (B:Nat) (n:EN):Prop:=n.name.length≤B∧n.s.length≤B∧∀ f∈n.l,Fm B f
def Sm (B:Nat) (ns:List EN):Prop:=∀ n∈ns,Nm B n
def Tm (B:Nat) (s:PS):Prop:=∀ t∈s.l,t.s.length≤B
section
variable {B:Nat}
theorem tw (ks:List Int) (o:Nat):∀ (l:List EF) (i:Nat),(∀ f∈l,Fm B f)→∀ f∈aX ks o l i,Fm B f
 | [],_,_,f,hf=>by simp [aX] at hf
 | g::r,i,h,f,hf=>by
   rw [aX] at hf
   rcases List.mem_cons.1 hf with rfl | hf
   ·have:=h g List.mem_cons_self
    split<;>exact this
   ·exact tw ks o r (i+1) (fun x hx=>h x (List.mem_cons_of_mem _ hx)) f hf
theorem Nm.with {n:EN} (h:Nm B n) (ks:List Int):Nm B (bk n ks):=by
 refine ⟨h.1,h.2.1,fun f hf=>?_⟩
 have hf:f∈(if aH n.k then aX ks (aF n.k) n.l 0 else []):=hf
 split at hf
 ·exact tw _ _ _ _ h.2.2 f hf
 ·cases hf
theorem BS:∀ (ls:List (List EN)) (acc:List EN) (rs:List Int),(∀ l∈ls,Sm B l)→Sm B acc→Sm B (cH ls acc rs).1
 | [],_,_,_,h=>h
 | l::r,acc,rs,hl,h=>by
   refine BS r _ _ (fun x hx=>hl x (List.mem_cons_of_mem _ hx)) fun n hn=>?_
   rcases List.mem_append.1 hn with hn | hn
   ·exact h n hn
   ·obtain ⟨m,hm,rfl⟩:=List.mem_map.1 hn
    exact (hl l List.mem_cons_self m hm).with _
theorem eg {n:EN} {ls:List (List EN)} (hn:Nm B n) (hl:∀ l∈ls,Sm B l):Sm B (au n ls):=by
 intro m hm
 rcases List.mem_append.1 hm with hm | hm
 ·exact BS ls [] [] hl (fun _ h=>by cases h) m hm
 ·rw [List.mem_singleton.1 hm];exact hn.with _
theorem oL (k p:Int):Nm B (nd0 k p):=⟨Nat.zero_le _,Nat.zero_le _,fun _ h=>by cases h⟩
theorem ia {n:EN} (hn:Nm B n):Sm B (bj n):=eg hn fun _ h=>by cases h
theorem w7:Sm B noE:=ia (oL 1 0)
theorem Tm.ss {s r:PS} (h:SS s r) (g:Tm B s):Tm B r:=by
 obtain ⟨k,hk⟩:=h.suf
 intro t ht
 rw [hk] at ht
 exact g t (List.mem_of_mem_drop ht)
theorem Tm.peek {s:PS} (g:Tm B s):s.peek.s.length≤B:=by
 unfold PS.peek
 split
 ·exact Nat.zero_le _
 ·rename_i t r e
  exact g t (by rw [e];exact List.mem_cons_self)
theorem Tm.of {s:PS} (g:Tm B s) (k:Int):(s.of k).1.length≤B:=by
 unfold PS.of
 split
 ·exact g.peek
 ·exact Nat.zero_le _
variable {ex:PS→PR} (hex:∀ s,GP 1 s (ex s)) (hx:∀ s,Tm B s→Sm B (ex s).1)
include hex hx
omit hex hx in
theorem CZ {s:PS} (g:Tm B s) (l:List EF):Fm B (du s l).1:=⟨g.of 2,Nat.zero_le _⟩
omit hex hx in
theorem yz {s:PS} (g:Tm B s) (l:List EF):Fm B (bI s l).1 :=
 ⟨g.of 3,Tm.of (g.ss (SS.partp (s:=s) (SS.of s 3) s.peek l fun _ h=>gj h)) 2⟩
theorem nN (between:List UInt8) (part:PS→List EF→EF × PS) (hp:∀ s l,SS s (part s l).2) (hf:∀ s l,Tm B s→Fm B (part s l).1):∀ (m:Nat) (s:PS) (l:List EF) (ks:List (List EN)),Tm B s→(∀ f∈l,Fm B f)→(∀ k∈ks,Sm B k) →
  (∀ f∈(aP ex between part m s l ks).1,Fm B f)∧(∀ k∈(aP ex between part m s l ks).2.1,Sm B k)
 | 0,s,l,ks,_,h1,h2=>⟨h1,h2⟩
 | m+1,s,l,ks,g,h1,h2=>by
   have g1:=g.ss (hp s l)
   have g2:=g1.ss (hex (part s l).2).ss
   have a1:∀ f∈l++[(part s l).1],Fm B f:=fun f h=>by
    rcases List.mem_append.1 h with h | h
    ·exact h1 f h
    ·rw [List.mem_singleton.1 h];exact hf s l g
   have a2:∀ k∈ks++[(ex (part s l).2).1],Sm B k:=fun k h=>by
    rcases List.mem_append.1 h with h | h
    ·exact h2 k h
    ·rw [List.mem_singleton.1 h];exact hx _ g1
   unfold aP
   simp only
   split
   ·exact nN between part hp hf m _ _ _ (g2.ss (SS.next _)) a1 a2
   ·exact ⟨a1,a2⟩
theorem y9 (s:PS) (g:Tm B s) (pos:Int):Sm B (cg ex s pos).1:=by
 unfold cg
 split
 ·exact ia (oL 11 pos)
 ·have h:=nN hex hx [44] du SS.field (fun s l g=>CZ g l) s.l.length.succ s [] [] g (fun _ h=>by cases h) (fun _ h=>by cases h)
  exact eg ⟨Nat.zero_le _,Nat.zero_le _,h.1⟩ h.2
theorem CA (s:PS) (g:Tm B s) (pos:Int):Sm B (eX ex s pos).1:=by
 unfold eX
 have g1:=(g.ss (hex s).ss).ss (SS.must (ex s).2 1 bOf)
 simp only
 have h:=nN hex hx [124] bI SS.branch (fun s l g=>yz g l) ((ex s).2.must 1 bOf).l.length.succ _ [] [] g1 (fun _ h=>by cases h) (fun _ h=>by cases h)
 refine eg ⟨Nat.zero_le _,Nat.zero_le _,h.1⟩ fun l hl=>?_
 rcases List.mem_cons.1 hl with rfl | hl
 ·exact hx s g
 ·exact h.2 l hl
theorem FB (s:PS) (g:Tm B s):Sm B (cR ex s).1:=by
 have gn:=g.ss (SS.next s)
 unfold cR
 simp only
 repeat' split
 ·exact w7
 ·exact ia ⟨Nat.zero_le _,Nat.zero_le _,fun _ h=>by cases h⟩
 ·exact ia ⟨Nat.zero_le _,g.peek,fun _ h=>by cases h⟩
 ·exact ia ⟨g.peek,Nat.zero_le _,fun _ h=>by cases h⟩
 ·exact ia ⟨Nat.zero_le _,Nat.zero_le _,fun _ h=>by cases h⟩
 ·exact ia (oL _ _)
 ·exact hx _ gn
 ·exact y9 hex hx _ gn _
 ·exact CA hex hx _ gn _
 ·exact w7
omit hex hx in
theorem wZ:∀ (m:Nat) (a:List EN) (s:PS),Sm B a→Tm B s→Sm B (ch m a s).1
 | 0,_,_,h,_=>h
 | m+1,a,s,h,g=>by
   unfold ch
   split
   ·exact wZ m _ _ (eg ⟨(g.ss (SS.next s)).of 2,Nat.zero_le _,fun _ h=>by cases h⟩ fun l hl=>by rw [List.mem_singleton.1 hl];exact h) ((g.ss (SS.next s)).ss (SS.of _ 2))
   ·exact h
theorem rH (s:PS) (g:Tm B s):Sm B (cK ex s).1:=wZ _ _ _ (FB hex hx s g) (g.ss (lO hex s).1.ss)
theorem xe:∀ (m:Nat) (a:List EN) (s:PS),Sm B a→Tm B s→Sm B (gh ex m a s).1
 | 0,_,_,h,_=>h
 | m+1,a,s,h,g=>by
   unfold gh
   split
   ·refine xe m _ _ (eg (oL _ _) fun l hl=>?_) (g.ss (fm hex s).1.ss)
    rcases List.mem_cons.1 hl with rfl | hl
    ·exact h
    ·rw [List.mem_singleton.1 hl];exact rH hex hx s g
   ·exact h
theorem Bo (s:PS) (g:Tm B s):Sm B (kq ex s).1:=by
 unfold kq
 simp only
 split
 ·exact eg ⟨g.peek,Nat.zero_le _,fun _ h=>by cases h⟩ fun l hl=>by rw [List.mem_singleton.1 hl];exact rH hex hx _ (g.ss (SS.next s))
 ·exact xe hex hx _ _ _ (rH hex hx s g) (g.ss (fm hex s).1.ss)
omit hex hx in
theorem vQ (ops:List (List UInt8 × Int)) (sub:PS→PR) (h1:∀ s,SS s (sub s).2) (h2:∀ s,Tm B s→Sm B (sub s).1):∀ (m:Nat) (a:List EN) (s:PS),Sm B a→Tm B s→Sm B (dS ops sub m a s).1
 | 0,_,_,h,_=>h
 | m+1,a,s,h,g=>by
   unfold dS
   split
   ·have gn:=g.ss (SS.next s)
    refine vQ ops sub h1 h2 m _ _ (eg ⟨Nat.zero_le _,Nat.zero_le _,fun _ h=>by cases h⟩ fun l hl=>?_) (gn.ss (h1 _))
    rcases List.mem_cons.1 hl with rfl | hl
    ·exact h
    ·rw [List.mem_singleton.1 hl];exact h2 _ gn
   ·exact h
theorem vY (s:PS) (g:Tm B s):Sm B (iW ex s).1:=vQ _ _ (fun s=>(iP hex s).ss) (Bo hex hx) _ _ _ (Bo hex hx s g) (g.ss (iP hex s).ss)
theorem u3 (s:PS) (g:Tm B s):Sm B (nW ex s).1:=vQ _ _ (fun s=>(gO hex s).ss) (vY hex hx) _ _ _ (vY hex hx s g) (g.ss (gO hex s).ss)
theorem Hm (s:PS) (g:Tm B s):Sm B (pD ex s).1:=by
 unfold pD
 simp only
 split
 ·refine eg ⟨Nat.zero_le _,Nat.zero_le _,fun _ h=>by cases h⟩ fun l hl=>?_
  rcases List.mem_cons.1 hl with rfl | hl
  ·exact u3 hex hx s g
  ·rw [List.mem_singleton.1 hl];exact u3 hex hx _ ((g.ss (iU hex s).ss).ss (SS.next _))
 ·exact u3 hex hx s g
theorem GX (s:PS) (g:Tm B s) (pos:Int):Sm B (lz ex s pos).1:=by
 unfold lz
 simp only
 obtain ⟨k,hk⟩:∃ k:Int,k=if s.sees 1 gy=true then 8 else 7:=⟨_,rfl⟩
 rw [← hk]
 have g1:=g.ss (SS.may s 1 gy)
 have g2:=g1.ss (SS.of _ 2)
 have g3:=g2.ss (SS.must _ 7 [61])
 have g4:=g3.ss (hex _).ss
 refine eg ⟨g1.of 2,Nat.zero_le _,fun _ h=>by cases h⟩ fun l hl=>?_
 rcases List.mem_cons.1 hl with rfl | hl
 ·exact hx _ g3
 ·rw [List.mem_singleton.1 hl]
  refine hx _ (Tm.ss (SS.must _ 1 bIn) ?_)
  split
  ·intro t ht
   rw [md] at ht
   exact g4 t ht
  ·exact g4
theorem Ih (s:PS) (g:Tm B s) (pos:Int):Sm B (ifS ex s pos).1:=by
 unfold ifS
 simp only
 have g1:=(g.ss (hex _).ss).ss (SS.must _ 1 gN)
 have g2:=(g1.ss (hex _).ss).ss (SS.must _ 1 iF)
 refine eg (oL _ _) fun l hl=>?_
 simp only [List.mem_cons,List.not_mem_nil,or_false] at hl
 rcases hl with rfl | rfl | rfl
 ·exact hx _ g
 ·exact hx _ g1
 ·exact hx _ g2
theorem Ex (s:PS) (g:Tm B s):Sm B (lA ex s).1:=by
 have gn:=g.ss (SS.next s)
 unfold lA
 simp only
 repeat' split
 ·exact eg ⟨gn.of 2,Nat.zero_le _,fun _ h=>by cases h⟩ fun l hl=>by rw [List.mem_singleton.1 hl];exact hx _ ((gn.ss (SS.of _ 2)).ss (SS.must _ 7 bTo))
 ·exact GX hex hx _ gn _
 ·exact Ih hex hx _ gn _
 ·exact Hm hex hx s g
end
theorem nq {B:Nat}:∀ (m:Nat) (s:PS),Tm B s→Sm B (ei m s).1
 | 0,s,_=>w7
 | m+1,s,g=>by
   unfold ei
   split
   ·exact w7
   ·exact Ex (dK m) (nq m) _ g
theorem sj:∀ (m:Nat) (r:List UInt8) (i:Nat) (acc:List UInt8),(eh m r i acc).1.length≤200
 | 0,_,_,_=>Nat.zero_le _
 | _+1,[],_,_=>Nat.zero_le _
 | m+1,c::r,i,acc=>by
   unfold eh
   split
   ·split
    ·exact Nat.zero_le _
    ·simp only;omega
   split
   ·split
    ·exact Nat.zero_le _
    ·exact sj m _ _ _
   split
   ·exact sj m _ _ _
   ·exact Nat.zero_le _
theorem FU (s:List UInt8):(cn s).t.s.length≤200:=by
 unfold cn
 split
 ·unfold kJ
  repeat' split
  ·exact Nat.zero_le _
  all_goals (show (s.take _).length≤_;rw [List.length_take];omega)
 split
 ·unfold o7
  repeat' split
  ·exact Nat.zero_le _
  ·exact Nat.zero_le _
  ·show ((s.drop 1).take _).length≤_;rw [List.length_take];omega
 split
 ·exact Nat.zero_le _
 split
 ·unfold nP cI
  repeat' split
  ·exact Nat.zero_le _
  ·exact sj _ _ _ _
  ·exact Nat.zero_le _
 ·unfold ja
  repeat' split
  ·show (s.take _).length≤_;rw [List.length_take];omega
  ·exact Nat.zero_le _
  ·show (s.take _).length≤_;rw [List.length_take];omega
theorem Cy:∀ (m:Nat) (s:List UInt8) (a:Nat),∀ q∈eO m s a,q.2.t.s.length≤200
 | 0,_,_,_,h=>by simp [eO] at h
 | m+1,s,a,q,h=>by
   unfold eO at h
   split at h
   ·cases h
   split at h
   ·rw [List.mem_singleton.1 h];exact FU _
   ·rcases List.mem_cons.1 h with rfl | h
    ·exact FU _
    ·exact Cy m _ _ q h
theorem C8 (s:List UInt8):∀ t∈(bM s).1,t.s.length≤200:=by
 unfold bM
 split
 ·intro _ h;cases h
 ·intro t ht
  obtain ⟨q,hq,rfl⟩:=List.mem_map.1 ht
  exact Cy _ _ _ q hq
end Go.Proofs.YtejpnabbmgpmaaaGreat

namespace Go.Proofs.YtejpnabbmgpmaaaGreat
open Go.Ab
def bd (q:List EN × Int × Int):AV:=.tup [.d (if q.2.2=0 then exD q.1 else .agg [.nils]),.d (i64 q.2.1),.d (i64 q.2.2)]
theorem Hp {G} (s:PS) (ns:List EN) (hN:ns.length≤1000000) (hs:∀ n∈ns,dc BIG n):HCall Tryz.prog G 56 [.bx [100] 0,.d (exD ns)] (RO s) [100,101] (fun r hp'=>r=bd (gp s ns)∧hp'=RO s):=by
 generalize hR:gp s ns=R
 unfold gp at hR
 have c1:=Ft (G:=G) ns (fun n=>decide (1048576<n.pos)) 102 [] hN (fun x _=>Fx x)
 have c2:=og (G:=G) ns hs hN
 generalize (ns.any fun n=>decide (1048576<n.pos))=b at c1 hR
 generalize cA ns=m at c2 hR
 have c3:=HP.clo (args:=[.d (.sl (some 9) (ns.map enD)),.clo 102 []]) rfl (fun i x y hx hy=>by
  rcases i with _ | _ | i
  ·cases hx;cases hy;exact .inl rfl
  ·cases hx;cases hy;exact .inr ⟨102,rfl,rfl⟩
  ·cases hx) c1
 unfold exD at *
 unfold RO TO ae
 refine aq Tryz.func56 rfl (by decide +kernel) (by simp [Tryz.ntmps56]) (veil fun E=>?_)
 simp only [go_sem]
 refine ab E [.bx [100] 0] (RO s) [100,101] (fy s) rfl rfl ⟨by simp only [go_sem],by first | (rw [aa];decide) | (simp only [go_sem]<;>(try rw [aa])<;>decide)⟩ rfl (by unfold RO TO ae;simp only [go_sem]) (by unfold RO TO;simp only [go_sem]) ?_
 rintro _ _ ⟨rfl,rfl⟩
 unfold RO TO ae
 simp only [go_sem]
 refine aB E (fun h=>?_) (fun h=>?_)<;>simp only [go_sem]
 ·have h':¬ s.err=0:=by simpa using h
  rw [if_pos h'] at hR
  refine ak mixed E fun X=>?_
  simp only [go_sem]
  refine cD X (d:=13) [100] 0 none [.bx [101] 0,.d (i64 s.err),.d (i64 s.pos),.d (i64 s.nest)] (by simp only [go_sem]) rfl rfl ?_
  simp only [go_sem]
  refine cD X (d:=17) [100] 0 none [.bx [101] 0,.d (i64 s.err),.d (i64 s.pos),.d (i64 s.nest)] (by simp only [go_sem]) rfl rfl ?_
  simp only [go_sem]
  refine ⟨by decide +kernel,?_⟩
  subst hR
  have he:bd ([],s.pos,s.err)=.tup [.d (.agg [.nils]),.d (i64 s.pos),.d (i64 s.err)]:=by unfold bd;rw [if_neg h']
  rw [he]
  refine ⟨_,_,[100,101],id,⟨rfl,rfl⟩,?_⟩
  simp only [go_sem]
 rw [if_neg (by simpa using h)] at hR
 refine ab E [.d (.sl (some 9) (ns.map enD)),.clo 102 []] [] [] c3 rfl rfl ⟨by simp only [go_sem],by rw [aa];decide⟩ rfl (by simp only [go_sem]) (by simp only [go_sem]) ?_
 rintro _ _ ⟨rfl,_,rfl⟩
 simp only [go_sem]
 refine aB E (fun h=>?_) (fun h=>?_)<;>simp only [go_sem]
 ·rw [if_pos h] at hR
  subst hR
  have he:bd ([],0,7)=.tup [.d (.agg [.nils]),.d (i64 0),.d (i64 7)]:=by unfold bd;rw [if_neg (by decide)]
  rw [he]
  refine ⟨_,_,[100,101],id,⟨rfl,rfl⟩,?_⟩
  simp only [go_sem]
 rw [if_neg (by rw [h];decide)] at hR
 refine ag E c2 rfl rfl (by simp) ?_
 rintro _ rfl
 simp only [go_sem]
 refine aB E (fun h=>?_) (fun h=>?_)<;>simp only [go_sem]
 ·have h':¬ m=0:=by simpa using h
  rw [if_pos h'] at hR
  subst hR
  have he:bd ([],0,m)=.tup [.d (.agg [.nils]),.d (i64 0),.d (i64 m)]:=by unfold bd;rw [if_neg h']
  rw [he]
  refine ⟨_,_,[100,101],id,⟨rfl,rfl⟩,?_⟩
  simp only [go_sem]
 ·have h':m=0:=by simpa using h
  rw [if_neg (by simpa using h')] at hR
  subst hR
  have he:bd (ns,0,0)=.tup [.d (.agg [.sl (some 9) (ns.map enD)]),.d (i64 0),.d (i64 0)]:=by unfold bd;rw [if_pos rfl];rfl
  rw [he]
  refine ⟨_,_,[100,101],id,⟨rfl,rfl⟩,?_⟩
  simp only [go_sem]
theorem DD {G} (l:List Tok) (fin:Int) (hl:l.length≤1000000):HCall Tryz.prog G 52 [.d (ae l),.d (i64 fin)] [] [] (fun r hp'=>r=.bx [101] 0∧hp'=[([101],.box [.vw [102] 0 l.length,.d (i64 fin)]),([102],.arr (some 4) (l.map ck))]):=by
 unfold ae
 refine aq Tryz.func52 rfl (by decide +kernel) (by simp [Tryz.ntmps52]) (veil fun E=>?_)
 simp only [go_sem]
 refine ⟨by omega,?_⟩
 refine ⟨_,_,[101,102],tau [([101],[9]),([102],[6])],⟨rfl,rfl⟩,?_⟩
 simp only [go_sem]
 all_goals rfl
theorem Hf {G} (l:List Tok) (fin:Int) (hl:l.length≤1000000):HCall Tryz.prog G 52 [.d (ae l),.d (i64 fin)] [] [] (fun r hp'=>r=.bx [101] 0∧hp'=TO l fin) :=
 HCall.fA (DD l fin hl) [102] (by
  rintro r hp' ⟨rfl,rfl⟩
  refine ⟨some 4,l.map ck,by simp only [go_sem],by simp only [go_sem],?_⟩
  unfold TO ae
  simp only [go_sem])
theorem qV {s:PS} {ns:List EN} {r:PS} (h:GP 1 s (ns,r)) (hl:s.l.length≤100000) (hn:Sm 200 ns):ns.length≤1000000∧∀ n∈ns,dc BIG n:=by
 have h1:=h.sz
 have h2:=h.wd
 simp only at h1
 refine ⟨by omega,fun n hm=>?_⟩
 obtain ⟨a,b,c⟩:=hn n hm
 have:=h2 n hm
 simp only at this
 exact ⟨by unfold BIG;omega,by unfold BIG;omega,by omega,fun f hf=>⟨by have:=(c f hf).1;unfold BIG;omega,by have:=(c f hf).2;unfold BIG;omega⟩⟩
set_option maxHeartbeats 1000000 in
theorem F5 {G} (s:List UInt8) (hl:s.length≤100000):HP Tryz.prog G 15 [.str s] (fun r=>r=bd (aV s)):=by
 generalize hR:aV s=R
 unfold aV at hR
 obtain ⟨hl1,hl2,hl3,hl4⟩:=rQ s
 have hls:=C8 s
 cases hb:gD (aE s) with
 | some q =>
   obtain ⟨i,e⟩:=q
   have c1:=EG (G:=G) s (by omega) hb
   have hne:=rK hb
   have hlx:bM s=([],i,e):=by unfold bM;rw [hb]
   rw [hlx,if_pos hne] at hR
   simp only at hR hne
   have he:bd R=.tup [.d (.agg [.nils]),.d (i64 i),.d (i64 e)]:=by rw [← hR];unfold bd;rw [if_neg hne]
   rw [he]
   refine aw Tryz.func15 rfl (by decide +kernel) (by simp [Tryz.ntmps15]) (veil fun E=>?_)
   simp only [go_sem]
   refine ag E c1 rfl rfl (by simp) ?_
   rintro _ rfl
   simp only [go_sem]
   refine aB E (fun h=>?_) (fun h=>absurd (by simpa using h) hne)<;>simp only [go_sem]
   refine ⟨[],?_⟩
   simp only [go_sem]
 | none =>
   have c1:=Ho (G:=G) s (by omega) hb
   have hz:(bM s).2.2=0:=by unfold bM;rw [hb]
   rw [if_neg (by rw [hz];decide)] at hR
   rw [hz] at c1
   generalize bM s=q at c1 hR hl1 hl2 hl3 hls
   obtain ⟨l,n,z⟩:=q
   simp only at c1 hR hl1 hl2 hl3 hls
   have c2:=Hf (G:=G) l n (by omega)
   have hst:fC l n=⟨l,n,0,0,0⟩:=rfl
   obtain ⟨st,hs⟩:∃ st,st=fC l n:=⟨_,rfl⟩
   rw [← hs] at hR hst
   have hsl:st.l.length≤100000:=by rw [hst];simp only;omega
   have c3:=Cx (G:=G) 100 0 rfl st hsl (by rw [hst])
   have g3:=dK 100 st
   have n3:=nq (B:=200) 100 st (by rw [hst];exact hls)
   obtain ⟨x,s2,hx⟩:∃ x s2,ei 100 st=(x,s2):=⟨_,_,rfl⟩
   rw [hx] at c3 g3 n3 hR
   simp only at c3 n3 hR
   have hl2':=g3.ss.len
   simp only at hl2'
   obtain ⟨hxl,hxs⟩:=qV g3 hsl n3
   have c4:=vU (G:=G) s2.l s2.fin
   have c5:=oC (G:=G) s2 (by omega)
   have c6:=Hp (G:=G) (iT s2) x hxl hxs
   unfold iT at hR c6
   unfold exD at c3 c6
   unfold ae at c2
   refine aw Tryz.func15 rfl (by decide +kernel) (by simp [Tryz.ntmps15]) (veil fun E=>?_)
   simp only [go_sem]
   refine ag E c1 rfl rfl (by simp) ?_
   rintro _ rfl
   simp only [go_sem]
   refine ab E [.d (.sl (some 4) (l.map ck)),.d (i64 n)] [] [] c2 rfl rfl ⟨by simp only [go_sem],by rw [aa];decide⟩ rfl (by simp only [go_sem]) (by simp only [go_sem]) ?_
   rintro _ _ ⟨rfl,rfl⟩
   unfold TO ae
   simp only [go_sem]
   rw [hst] at c3
   refine aS E (tau [([100],[25]),([101],[23,101])]) [.bx [100] 0] (RO ⟨l,n,0,0,0⟩) [100,101] (c3) rfl (by simp only [go_sem];try rfl) ⟨by simp only [go_sem],by first | (rw [aa];decide) | (simp only [go_sem]<;>(try rw [aa])<;>decide)⟩ rfl (by unfold RO TO ae;simp only [go_sem];try rfl) (by unfold RO TO;simp only [go_sem]) ?_
   rintro _ _ ⟨rfl,rfl⟩
   unfold RO TO ae
   simp only [go_sem]
   refine aS E (tau [([101],[23,101])]) [.bx [101] 0] (TO s2.l s2.fin) [101] c4 rfl (by simp only [go_sem];try rfl) ⟨by simp only [go_sem],by rw [aa];decide⟩ rfl (by unfold TO ae;simp only [go_sem];try rfl) (by unfold TO;simp only [go_sem]) ?_
   rintro _ _ ⟨rfl,rfl⟩
   unfold TO ae
   simp only [go_sem]
   refine aB E (fun h=>?_) (fun h=>?_)<;>simp only [go_sem]
   ·have h':s2.l.isEmpty=false:=by simpa using h
    rw [h'] at hR c6
    simp only [Bool.false_eq_true,if_false] at hR c6
    refine aS E (tau [([100],[25]),([101],[23,101])]) [.bx [100] 0] (RO s2) [100,101] (c5) rfl (by simp only [go_sem];try rfl) ⟨by simp only [go_sem],by first | (rw [aa];decide) | (simp only [go_sem]<;>(try rw [aa])<;>decide)⟩ rfl (by unfold RO TO ae;simp only [go_sem];try rfl) (by unfold RO TO;simp only [go_sem]) ?_
    rintro _ _ ⟨rfl,rfl⟩
    unfold RO TO ae
    simp only [go_sem]
    refine aS E (tau [([100],[25]),([101],[23,101])]) [.bx [100] 0,.d (.agg [.sl (some 9) (x.map enD)])] (RO s2.wrong) [100,101] (c6) rfl (by simp only [go_sem];try rfl) ⟨by simp only [go_sem],by first | (rw [aa];decide) | (simp only [go_sem]<;>(try rw [aa])<;>decide)⟩ rfl (by unfold RO TO ae;simp only [go_sem];try rfl) (by unfold RO TO;simp only [go_sem]) ?_
    rintro _ _ ⟨rfl,rfl⟩
    unfold RO TO ae
    simp only [go_sem]
    rw [hR]
    unfold bd exD
    by_cases hz:R.2.2=0
    ·simp only [if_pos hz]
     simp only [go_sem]
     refine ⟨[],?_⟩
     simp only [go_sem]
     unfold bd exD
     rw [if_pos hz]
    ·simp only [if_neg hz]
     simp only [go_sem]
     refine ⟨[],?_⟩
     simp only [go_sem]
     unfold bd
     rw [if_neg hz]
   ·have h':s2.l.isEmpty=true:=by simpa using h
    rw [h'] at hR c6
    simp only [if_true] at hR c6
    refine aS E (tau [([100],[25]),([101],[23,101])]) [.bx [100] 0,.d (.agg [.sl (some 9) (x.map enD)])] (RO s2) [100,101] (c6) rfl (by simp only [go_sem];try rfl) ⟨by simp only [go_sem],by first | (rw [aa];decide) | (simp only [go_sem]<;>(try rw [aa])<;>decide)⟩ rfl (by unfold RO TO ae;simp only [go_sem];try rfl) (by unfold RO TO;simp only [go_sem]) ?_
    rintro _ _ ⟨rfl,rfl⟩
    unfold RO TO ae
    simp only [go_sem]
    rw [hR]
    unfold bd exD
    by_cases hz:R.2.2=0
    ·simp only [if_pos hz]
     simp only [go_sem]
     refine ⟨[],?_⟩
     simp only [go_sem]
     unfold bd exD
     rw [if_pos hz]
    ·simp only [if_neg hz]
     simp only [go_sem]
     refine ⟨[],?_⟩
     simp only [go_sem]
     unfold bd
     rw [if_neg hz]
end Go.Proofs.YtejpnabbmgpmaaaGreat

namespace Go.Proofs.YtejpnabbmgpmaaaGreat
open Go.Ab
set_option maxHeartbeats 1000000 in
theorem GB {G} (s:List UInt8) (hl:s.length≤100000):HP Tryz.prog G 30 [.str s] (fun r=>r=bd (aV s)):=by
 generalize hR:aV s=R
 unfold aV at hR
 obtain ⟨hl1,hl2,hl3,hl4⟩:=rQ s
 have hls:=C8 s
 have c1:=GW (G:=G) s (by omega)
 unfold Ei at c1
 by_cases hz:(bM s).2.2=0
 rotate_left
 ·rw [if_pos hz] at hR
  rw [if_neg hz] at c1
  have hrz:bd R=.tup [.d (.agg [.nils]),.d (i64 (bM s).2.1),.d (i64 (bM s).2.2)]:=by rw [← hR];unfold bd;rw [if_neg hz]
  rw [hrz]
  refine aw Tryz.func30 rfl (by decide +kernel) (by simp [Tryz.ntmps30]) (veil fun E=>?_)
  simp only [go_sem]
  refine ag E c1 rfl rfl (by simp) ?_
  rintro _ rfl
  simp only [go_sem]
  refine ah E (fun h=>?_) (fun h=>absurd hz h)<;>simp only [go_sem]
  refine ⟨[],?_⟩
  simp only [go_sem]
 rw [if_neg (by simpa using hz)] at hR
 rw [if_pos hz,hz] at c1
 generalize bM s=q at c1 hR hl1 hl2 hl3 hls
 obtain ⟨l,n,z⟩:=q
 simp only at c1 hR hl1 hl2 hl3 hls
 obtain ⟨st,hst⟩:∃ st,st=fC l n:=⟨_,rfl⟩
 rw [← hst] at hR
 have hfit:Fit l st:=by rw [hst];exact ⟨0,Nat.zero_le _,rfl⟩
 have hsl:st.l.length≤100000:=by rw [hst];show l.length≤_;omega
 have hat:atN l st=0:=by rw [hst];show l.length-l.length=0;omega
 have c3:=Cu (G:=G) 100 0 rfl l st hfit (by omega) (by rw [hst];rfl)
 have hrel:=sU 100 st
 have g3:=dK 100 st
 have k3:=(ko 100 st).ss
 have n3:=nq (B:=200) 100 st (by rw [hst];exact hls)
 obtain ⟨y,s2',hy⟩:∃ y s2,ei 100 st=(y,s2):=⟨_,_,rfl⟩
 obtain ⟨x,s2,hx⟩:∃ x s2,fJ 100 st=(x,s2):=⟨_,_,rfl⟩
 rw [hy] at g3 n3 hR hrel
 rw [hx] at c3 hrel k3
 obtain ⟨hr1,hr2⟩:=hrel
 simp only at hr1 hr2 c3 n3 hR k3
 subst hr1
 have hxy:s2.err=0→x=y∧y.length≤1000000∧∀ n∈y,dc BIG n:=fun h=>⟨(hr2 h).2,qV g3 hsl n3⟩
 have hf2:=hfit.ss k3
 have hle2:=hf2.le
 have hrx:RX l st=[([100],.box [.bx [101] 0,.d (i64 0),.d (i64 0),.d (i64 0)]),([101],.box [.d (.sl (some 4) (l.map ck)),.d (i64 0),.d (i64 n)])]:=by
  unfold RX TS TX ae
  rw [hat,hst];rfl
 rw [hrx] at c3
 have hW:s2.wrong=s2.fail 5 s2.peek.pos:=rfl
 have cw:=jd (G:=G) l s2 5 s2.peek.pos
 rw [← hW] at cw
 have cpk:=fV (G:=G) hf2 (by omega)
 unfold exD at c3
 refine aw Tryz.func30 rfl (by decide +kernel) (by simp [Tryz.ntmps30]) (veil fun E=>?_)
 simp only [go_sem]
 refine ag E c1 rfl rfl (by simp) ?_
 rintro _ rfl
 simp only [go_sem]
 refine aS E (tau [([100],[28]),([101],[26])]) [.bx [100] 0] _ [100,101] c3 rfl (by simp only [go_sem];try rfl) ⟨by simp only [go_sem],by first | (rw [aa];decide) | (simp only [go_sem]<;>(try rw [aa])<;>decide)⟩ rfl (by simp only [go_sem];try rfl) (by simp only [go_sem]) ?_
 rintro _ _ ⟨rfl,rfl⟩
 unfold RX TS TX ae
 simp only [go_sem]
 refine an E (fun g1=>?_) (fun g1=>?_)<;>simp only [go_sem]
 ·refine ah E (fun g2=>?_) (fun g2=>?_)<;>simp only [go_sem]
  ·have hD:iT s2=s2.wrong:=by
    unfold iT
    rw [if_neg]
    intro h
    have:s2.l.length=0:=by rw [List.isEmpty_iff.1 h];rfl
    unfold atN at g2
    omega
   rw [hD] at hR
   refine aS E (tau [([101],[26])]) [.bx [101] 0] (TS l s2) [101] cpk rfl (by simp only [go_sem];try rfl) ⟨by simp only [go_sem],by rw [aa];decide⟩ rfl (by unfold TS TX ae;simp only [go_sem];try rfl) (by unfold TS TX;simp only [go_sem]) ?_
   rintro _ _ ⟨rfl,rfl⟩
   unfold TS TX ae
   simp only [go_sem]
   refine aS E (tau [([100],[28]),([101],[26])]) [.bx [100] 0,.d (i64 5),.d (i64 s2.peek.pos)] (RX l s2) [100,101] (cw) rfl (by simp only [go_sem];try rfl) ⟨by simp only [go_sem],by first | (rw [aa];decide) | (simp only [go_sem]<;>(try rw [aa])<;>decide)⟩ rfl (by unfold RX TS TX ae;simp only [go_sem];try rfl) (by unfold RX TS TX;simp only [go_sem]) ?_
   rintro _ _ ⟨rfl,rfl⟩
   unfold RX TS TX ae
   simp only [go_sem]
   have hxy:s2.wrong.err=0→x=y∧y.length≤1000000∧∀ n∈y,dc BIG n:=fun h=>absurd h (uf s2 5 _ (by decide))
   unfold gp at hR
   refine ah E (fun he=>?_) (fun he=>?_)<;>simp only [go_sem]
   ·rw [if_pos he] at hR
    refine ak mixed E fun X=>?_
    simp only [go_sem]
    refine cD X (d:=63) [28] 0 none [.bx [26] 0,.d (i64 (s2.wrong).err),.d (i64 (s2.wrong).pos),.d (i64 (s2.wrong).nest)] (by simp only [go_sem]) rfl rfl ?_
    simp only [go_sem]
    refine cD X (d:=67) [28] 0 none [.bx [26] 0,.d (i64 (s2.wrong).err),.d (i64 (s2.wrong).pos),.d (i64 (s2.wrong).nest)] (by simp only [go_sem]) rfl rfl ?_
    simp only [go_sem]
    refine ⟨by decide +kernel,?_⟩
    have hrz:bd R=.tup [.d (.agg [.nils]),.d (i64 (s2.wrong).pos),.d (i64 (s2.wrong).err)]:=by rw [← hR];unfold bd exD;first | rfl | (rw [if_neg (by simpa using he)])
    rw [hrz]
    refine ⟨[],?_⟩
    simp only [go_sem]
   have he:(s2.wrong).err=0:=by simpa using he
   rw [if_neg (by simpa using he)] at hR
   obtain ⟨hxy,hxl,hxs⟩:=hxy he
   subst hxy
   refine az E (X:={ i:Nat // i≤x.length∧(x.take i).any (fun n=>decide (1048576<n.pos))=false }) (fun i=>[(2,.bx [2] 0),(3,.d (i64 0)),(4,.d (i64 0)),(9,.bx [9] 0),(10,.d (i64 i.1))])
    (fun i=>[([2],.box [.d .nils]),([9],.box [.d (.sl (some 9) (x.map enD))])]) [2,9] (fun i=>x.length-i.1) ⟨0,Nat.zero_le _,rfl⟩ id ?_ ?_
   ·simp only [go_sem]
    all_goals ((repeat' apply And.intro)<;>first | rfl | trivial)
   rintro ⟨i,hi,hn⟩ E0
   refine aC E0 fun Q' hQ E'=>?_
   simp only at hi hn ⊢
   simp only [go_sem]
   refine ah E' (fun h2=>?_) (fun h2=>?_)<;>simp only [go_sem]
   ·have hi':i<x.length:=by omega
    refine ⟨⟨by omega,by omega⟩,?_⟩
    rw [aN hi']
    have hnd:ndE x i=x[i]:=bG hi'
    simp only [go_sem]
    refine ah E' (fun h3=>?_) (fun h3=>?_)<;>simp only [go_sem]
    ·have hany:x.any (fun n=>decide (1048576<n.pos))=true:=List.any_eq_true.2 ⟨x[i],List.getElem_mem hi',by rw [← hnd];exact decide_eq_true h3⟩
     rw [if_pos hany] at hR
     rw [hQ]
     simp only [go_sem]
     have hrz:bd R=.tup [.d (.agg [.nils]),.d (i64 0),.d (i64 7)]:=by rw [← hR];unfold bd exD;first | rfl | (rw [if_neg (by simpa using he)])
     rw [hrz]
     refine ⟨[],?_⟩
     simp only [go_sem]
    ·rw [hQ]
     simp only [go_sem]
     rw [ai (n:=(i:Int)+1) ⟨by omega,by omega⟩]
     refine ⟨⟨i+1,by omega,?_⟩,by show x.length-(i+1)<x.length-i;omega,id,?_⟩
     ·rw [List.take_succ_eq_append_getElem hi',List.any_append,hn,Bool.false_or,List.any_cons,List.any_nil,Bool.or_false,← hnd]
      exact decide_eq_false h3
     simp only [go_sem]
     all_goals ((repeat' apply And.intro)<;>first | rfl | trivial)
   ·have hi':i=x.length:=by omega
    subst hi'
    rw [List.take_length] at hn
    rw [hn,if_neg (by decide)] at hR
    have c6:=nX (G:=G) x hxs hxl
    generalize cA x=mm at c6 hR
    unfold exD at c6
    rw [hQ]
    simp only [go_sem]
    refine ag E c6 rfl rfl (by simp) ?_
    rintro _ rfl
    simp only [go_sem]
    refine ah E (fun h3=>?_) (fun h3=>?_)<;>simp only [go_sem]
    ·rw [if_pos h3] at hR
     have hrz:bd R=.tup [.d (.agg [.nils]),.d (i64 0),.d (i64 mm)]:=by rw [← hR];unfold bd exD;first | rfl | (rw [if_neg (by simpa using h3)])
     rw [hrz]
     refine ⟨[],?_⟩
     simp only [go_sem]
    ·have h3:mm=0:=by simpa using h3
     rw [if_neg (by simpa using h3)] at hR
     have hrz:bd R=.tup [.d (.agg [.sl (some 9) (x.map enD)]),.d (i64 0),.d (i64 0)]:=by rw [← hR];unfold bd exD;first | rfl | (rw [if_neg (by simpa using h3)])
     rw [hrz]
     refine ⟨[],?_⟩
     simp only [go_sem]
  ·have hD:iT s2=s2:=by
    unfold iT
    rw [if_pos]
    refine List.isEmpty_iff.2 (List.length_eq_zero_iff.1 ?_)
    unfold atN at g2
    omega
   rw [hD] at hR
   unfold gp at hR
   refine ah E (fun he=>?_) (fun he=>?_)<;>simp only [go_sem]
   ·rw [if_pos he] at hR
    refine ak mixed E fun X=>?_
    simp only [go_sem]
    refine cD X (d:=63) [28] 0 none [.bx [26] 0,.d (i64 (s2).err),.d (i64 (s2).pos),.d (i64 (s2).nest)] (by simp only [go_sem]) rfl rfl ?_
    simp only [go_sem]
    refine cD X (d:=67) [28] 0 none [.bx [26] 0,.d (i64 (s2).err),.d (i64 (s2).pos),.d (i64 (s2).nest)] (by simp only [go_sem]) rfl rfl ?_
    simp only [go_sem]
    refine ⟨by decide +kernel,?_⟩
    have hrz:bd R=.tup [.d (.agg [.nils]),.d (i64 (s2).pos),.d (i64 (s2).err)]:=by rw [← hR];unfold bd exD;first | rfl | (rw [if_neg (by simpa using he)])
    rw [hrz]
    refine ⟨[],?_⟩
    simp only [go_sem]
   have he:(s2).err=0:=by simpa using he
   rw [if_neg (by simpa using he)] at hR
   obtain ⟨hxy,hxl,hxs⟩:=hxy he
   subst hxy
   refine az E (X:={ i:Nat // i≤x.length∧(x.take i).any (fun n=>decide (1048576<n.pos))=false }) (fun i=>[(2,.bx [2] 0),(3,.d (i64 0)),(4,.d (i64 0)),(9,.bx [9] 0),(10,.d (i64 i.1))])
    (fun i=>[([2],.box [.d .nils]),([9],.box [.d (.sl (some 9) (x.map enD))])]) [2,9] (fun i=>x.length-i.1) ⟨0,Nat.zero_le _,rfl⟩ id ?_ ?_
   ·simp only [go_sem]
    all_goals ((repeat' apply And.intro)<;>first | rfl | trivial)
   rintro ⟨i,hi,hn⟩ E0
   refine aC E0 fun Q' hQ E'=>?_
   simp only at hi hn ⊢
   simp only [go_sem]
   refine ah E' (fun h2=>?_) (fun h2=>?_)<;>simp only [go_sem]
   ·have hi':i<x.length:=by omega
    refine ⟨⟨by omega,by omega⟩,?_⟩
    rw [aN hi']
    have hnd:ndE x i=x[i]:=bG hi'
    simp only [go_sem]
    refine ah E' (fun h3=>?_) (fun h3=>?_)<;>simp only [go_sem]
    ·have hany:x.any (fun n=>decide (1048576<n.pos))=true:=List.any_eq_true.2 ⟨x[i],List.getElem_mem hi',by rw [← hnd];exact decide_eq_true h3⟩
     rw [if_pos hany] at hR
     rw [hQ]
     simp only [go_sem]
     have hrz:bd R=.tup [.d (.agg [.nils]),.d (i64 0),.d (i64 7)]:=by rw [← hR];unfold bd exD;first | rfl | (rw [if_neg (by simpa using he)])
     rw [hrz]
     refine ⟨[],?_⟩
     simp only [go_sem]
    ·rw [hQ]
     simp only [go_sem]
     rw [ai (n:=(i:Int)+1) ⟨by omega,by omega⟩]
     refine ⟨⟨i+1,by omega,?_⟩,by show x.length-(i+1)<x.length-i;omega,id,?_⟩
     ·rw [List.take_succ_eq_append_getElem hi',List.any_append,hn,Bool.false_or,List.any_cons,List.any_nil,Bool.or_false,← hnd]
      exact decide_eq_false h3
     simp only [go_sem]
     all_goals ((repeat' apply And.intro)<;>first | rfl | trivial)
   ·have hi':i=x.length:=by omega
    subst hi'
    rw [List.take_length] at hn
    rw [hn,if_neg (by decide)] at hR
    have c6:=nX (G:=G) x hxs hxl
    generalize cA x=mm at c6 hR
    unfold exD at c6
    rw [hQ]
    simp only [go_sem]
    refine ag E c6 rfl rfl (by simp) ?_
    rintro _ rfl
    simp only [go_sem]
    refine ah E (fun h3=>?_) (fun h3=>?_)<;>simp only [go_sem]
    ·rw [if_pos h3] at hR
     have hrz:bd R=.tup [.d (.agg [.nils]),.d (i64 0),.d (i64 mm)]:=by rw [← hR];unfold bd exD;first | rfl | (rw [if_neg (by simpa using h3)])
     rw [hrz]
     refine ⟨[],?_⟩
     simp only [go_sem]
    ·have h3:mm=0:=by simpa using h3
     rw [if_neg (by simpa using h3)] at hR
     have hrz:bd R=.tup [.d (.agg [.sl (some 9) (x.map enD)]),.d (i64 0),.d (i64 0)]:=by rw [← hR];unfold bd exD;first | rfl | (rw [if_neg (by simpa using h3)])
     rw [hrz]
     refine ⟨[],?_⟩
     simp only [go_sem]
 ·have hD:iT s2=s2:=by
   unfold iT
   split
   ·rfl
   ·exact b8 g1
  rw [hD] at hR
  unfold gp at hR
  refine ah E (fun he=>?_) (fun he=>?_)<;>simp only [go_sem]
  ·rw [if_pos he] at hR
   refine ak mixed E fun X=>?_
   simp only [go_sem]
   refine cD X (d:=63) [28] 0 none [.bx [26] 0,.d (i64 (s2).err),.d (i64 (s2).pos),.d (i64 (s2).nest)] (by simp only [go_sem]) rfl rfl ?_
   simp only [go_sem]
   refine cD X (d:=67) [28] 0 none [.bx [26] 0,.d (i64 (s2).err),.d (i64 (s2).pos),.d (i64 (s2).nest)] (by simp only [go_sem]) rfl rfl ?_
   simp only [go_sem]
   refine ⟨by decide +kernel,?_⟩
   have hrz:bd R=.tup [.d (.agg [.nils]),.d (i64 (s2).pos),.d (i64 (s2).err)]:=by rw [← hR];unfold bd exD;first | rfl | (rw [if_neg (by simpa using he)])
   rw [hrz]
   refine ⟨[],?_⟩
   simp only [go_sem]
  have he:(s2).err=0:=by simpa using he
  rw [if_neg (by simpa using he)] at hR
  obtain ⟨hxy,hxl,hxs⟩:=hxy he
  subst hxy
  refine az E (X:={ i:Nat // i≤x.length∧(x.take i).any (fun n=>decide (1048576<n.pos))=false }) (fun i=>[(2,.bx [2] 0),(3,.d (i64 0)),(4,.d (i64 0)),(9,.bx [9] 0),(10,.d (i64 i.1))])
   (fun i=>[([2],.box [.d .nils]),([9],.box [.d (.sl (some 9) (x.map enD))])]) [2,9] (fun i=>x.length-i.1) ⟨0,Nat.zero_le _,rfl⟩ id ?_ ?_
  ·simp only [go_sem]
   all_goals ((repeat' apply And.intro)<;>first | rfl | trivial)
  rintro ⟨i,hi,hn⟩ E0
  refine aC E0 fun Q' hQ E'=>?_
  simp only at hi hn ⊢
  simp only [go_sem]
  refine ah E' (fun h2=>?_) (fun h2=>?_)<;>simp only [go_sem]
  ·have hi':i<x.length:=by omega
   refine ⟨⟨by omega,by omega⟩,?_⟩
   rw [aN hi']
   have hnd:ndE x i=x[i]:=bG hi'
   simp only [go_sem]
   refine ah E' (fun h3=>?_) (fun h3=>?_)<;>simp only [go_sem]
   ·have hany:x.any (fun n=>decide (1048576<n.pos))=true:=List.any_eq_true.2 ⟨x[i],List.getElem_mem hi',by rw [← hnd];exact decide_eq_true h3⟩
    rw [if_pos hany] at hR
    rw [hQ]
    simp only [go_sem]
    have hrz:bd R=.tup [.d (.agg [.nils]),.d (i64 0),.d (i64 7)]:=by rw [← hR];unfold bd exD;first | rfl | (rw [if_neg (by simpa using he)])
    rw [hrz]
    refine ⟨[],?_⟩
    simp only [go_sem]
   ·rw [hQ]
    simp only [go_sem]
    rw [ai (n:=(i:Int)+1) ⟨by omega,by omega⟩]
    refine ⟨⟨i+1,by omega,?_⟩,by show x.length-(i+1)<x.length-i;omega,id,?_⟩
    ·rw [List.take_succ_eq_append_getElem hi',List.any_append,hn,Bool.false_or,List.any_cons,List.any_nil,Bool.or_false,← hnd]
     exact decide_eq_false h3
    simp only [go_sem]
    all_goals ((repeat' apply And.intro)<;>first | rfl | trivial)
  ·have hi':i=x.length:=by omega
   subst hi'
   rw [List.take_length] at hn
   rw [hn,if_neg (by decide)] at hR
   have c6:=nX (G:=G) x hxs hxl
   generalize cA x=mm at c6 hR
   unfold exD at c6
   rw [hQ]
   simp only [go_sem]
   refine ag E c6 rfl rfl (by simp) ?_
   rintro _ rfl
   simp only [go_sem]
   refine ah E (fun h3=>?_) (fun h3=>?_)<;>simp only [go_sem]
   ·rw [if_pos h3] at hR
    have hrz:bd R=.tup [.d (.agg [.nils]),.d (i64 0),.d (i64 mm)]:=by rw [← hR];unfold bd exD;first | rfl | (rw [if_neg (by simpa using h3)])
    rw [hrz]
    refine ⟨[],?_⟩
    simp only [go_sem]
   ·have h3:mm=0:=by simpa using h3
    rw [if_neg (by simpa using h3)] at hR
    have hrz:bd R=.tup [.d (.agg [.sl (some 9) (x.map enD)]),.d (i64 0),.d (i64 0)]:=by rw [← hR];unfold bd exD;first | rfl | (rw [if_neg (by simpa using h3)])
    rw [hrz]
    refine ⟨[],?_⟩
    simp only [go_sem]
end Go.Proofs.YtejpnabbmgpmaaaGreat

namespace Go.Proofs.YtejpnabbmgpmaaaGreat
open Go.Ab
def wsD (ns:List EN) (B:List Bi) (ws:List Int):D:=.agg [.sl (some 9) (ns.map enD),.sl (some 2) (B.map bD),.sl none (ws.map i64)]
theorem D7 {G} {ns:List EN} {B:List Bi} {ws:List Int} {k x:Int} {b:Bool} (h:HP Tryz.prog G 161 [.ptr (wsD ns B ws),i64 k,i64 x] (fun r=>r=.d (.bool b))) :
  HP Tryz.prog G 229 [i64 k,.ptr (.ptr (wsD ns B ws)),.ptr (i64 x)] (fun r=>r=.d (.bool b)):=by
 unfold wsD at *
 refine al Tryz.func229 rfl (by decide +kernel) (by simp [Tryz.ntmps229]) (veil fun E=>?_)
 simp only [go_sem]
 refine ag E h rfl rfl (by simp) ?_
 rintro _ rfl
 simp only [go_sem]
set_option maxHeartbeats 1000000 in
theorem rM {G} (ns:List EN) (B:List Bi) (ws:List Int) (hs:∀ n∈ns,n.l.length≤900000) (hk:∀ i,i<ns.length→(aj (ndE ns i)).all (inB i)=true) (x:Int) :
  ∀ (m i:Nat),i<m→i<ns.length→HP Tryz.prog G 161 [.ptr (wsD ns B ws),i64 (i:Int),i64 x] (fun r=>r=.d (.bool (bo ns m i x)))
 | 0,_,h,_=>absurd h (Nat.not_lt_zero _)
 | m+1,i,him,hi=>by
   have ih:=rM (G:=G) ns B ws hs hk x m
   have hg:=aN hi
   have hsi:=hs _ (by rw [bG hi];exact List.getElem_mem hi:ndE ns i∈ns)
   have hkn:=aL hk hi
   have hw:bo ns (m+1) i x=(decide ((i:Int)=x) || (aj (ndE ns i)).any (fun k=>bo ns m k x)):=rfl
   obtain ⟨n,hne⟩:∃ n,n=ndE ns i:=⟨_,rfl⟩
   rw [← hne] at hg hsi hkn hw
   have hkc:=gQ (G:=G) n (by omega)
   have hcf:=AX (G:=G) (aj n) (fun k=>bo ns m k x) 229 [.ptr (.ptr (wsD ns B ws)),.ptr (i64 x)] (by rw [br];unfold bf;have:=bB n.k;split<;>omega) (fun k hkm=>by
    obtain ⟨h1,h2⟩:=hkn k hkm
    obtain ⟨k,rfl⟩:∃ q:Nat,k=(q:Int):=⟨k.toNat,by omega⟩
    exact D7 (ih k (by omega) (by omega)))
   generalize hR:bo ns (m+1) i x=R at hw ⊢
   obtain ⟨K,hK⟩:∃ K,K=aj n:=⟨_,rfl⟩
   rw [← hK] at hkc hcf hw
   obtain ⟨b,hb⟩:∃ b,b=K.any (fun k=>bo ns m k x):=⟨_,rfl⟩
   rw [← hb] at hcf hw
   unfold wsD at hcf ⊢
   refine aw Tryz.func161 rfl (by decide +kernel) (by simp [Tryz.ntmps161]) (veil fun E=>?_)
   simp only [go_sem]
   refine ah E (fun g1=>?_) (fun g1=>?_)<;>simp only [go_sem]
   ·rw [hw,decide_eq_true g1,Bool.true_or]
    refine ⟨[],?_⟩
    simp only [go_sem]
   rw [decide_eq_false g1,Bool.false_or] at hw
   refine GH E (by simp only [go_sem]) rfl ?_
   simp only [go_sem]
   refine ⟨⟨by omega,by omega⟩,?_⟩
   rw [hg]
   simp only [go_sem]
   refine ab E [.d (enD n)] [] [] hkc rfl rfl ⟨by simp only [go_sem],by rw [aa];decide⟩ rfl (by simp only [go_sem]) (by simp only [go_sem]) ?_
   rintro _ _ ⟨rfl,rfl⟩
   simp only [go_sem]
   refine cJ E [18,0] none (K.map i64) rfl (by simp only [go_sem];rfl) ?_
   simp only [go_sem]
   refine z8 E [3] (.ptr (.agg [.sl (some 9) (ns.map enD),.sl (some 2) (B.map bD),.sl none (ws.map i64)])) rfl rfl ?_
   simp only [go_sem]
   refine z8 E [5] (i64 x) rfl rfl ?_
   simp only [go_sem]
   refine ag E hcf rfl rfl (by simp) ?_
   rintro _ rfl
   simp only [go_sem]
   rw [← hw]
   refine ⟨[],?_⟩
   simp only [go_sem]
end Go.Proofs.YtejpnabbmgpmaaaGreat

namespace Go.Proofs.YtejpnabbmgpmaaaGreat
open Go.Ab
def wdE (ns:List EN):Nat→Int→Int
 | 0,_=>0
 | m+1,i=>min ((aj (ndE ns i.toNat)).foldl (fun n k=>min (n+wdE ns m k) 1000000) (match fY ns i.toNat with
   | some a=>1+wdE ns m a
   | none=>1)) 1000000
def wdK (f:List Int→Int→Int × List Int) (p:Int × List Int) (k:Int):Int × List Int:=(min (p.1+(f p.2 k).1) 1000000,(f p.2 k).2)
def wd0 (ns:List EN) (f:List Int→Int→Int × List Int) (ws:List Int) (i:Nat):Int × List Int:=match fY ns i with
 | some a=>(1+(f ws a).1,(f ws a).2)
 | none=>(1,ws)
def wdM (z:Int) (ns:List EN):Nat→List Int→Int→Int × List Int
 | 0,ws,_=>(0,ws)
 | m+1,ws,i=>if z<ws.getD i.toNat 0 then (ws.getD i.toNat 0,ws) else
   (min ((aj (ndE ns i.toNat)).foldl (wdK (wdM z ns m)) (wd0 ns (wdM z ns m) ws i.toNat)).1 1000000,
    ((aj (ndE ns i.toNat)).foldl (wdK (wdM z ns m)) (wd0 ns (wdM z ns m) ws i.toNat)).2.set i.toNat (min ((aj (ndE ns i.toNat)).foldl (wdK (wdM z ns m)) (wd0 ns (wdM z ns m) ws i.toNat)).1 1000000))
def Wb (ws:List Int):Prop:=∀ x∈ws,-1≤x∧x≤1000000
theorem Wb.get {ws:List Int} (h:Wb ws) (k:Nat):-1≤ws.getD k 0∧ws.getD k 0≤1000000:=by
 rw [List.getD_eq_getElem?_getD]
 cases hc:ws[k]? with
 | none=>simp
 | some x=>exact h x (List.mem_of_getElem? hc)
theorem Wb.set {ws:List Int} (h:Wb ws) (k:Nat) {x:Int} (h0:-1≤x) (h1:x≤1000000):Wb (ws.set k x):=fun y hy=>by
 rcases List.mem_or_eq_of_mem_set hy with h2 | h2
 ·exact h y h2
 ·rw [h2];exact ⟨h0,h1⟩
def WF (n:Nat) (f:List Int→Int→Int × List Int):Prop:=∀ ws k,ws.length=n→Wb ws→0≤(f ws k).1∧(f ws k).1≤1000000∧(f ws k).2.length=n∧Wb (f ws k).2
theorem tG {n:Nat} {f:List Int→Int→Int × List Int} (hf:WF n f):∀ (l:List Int) (p:Int × List Int),0≤p.1∧p.1≤1000001∧p.2.length=n∧Wb p.2→0≤(l.foldl (wdK f) p).1∧(l.foldl (wdK f) p).1≤1000001∧(l.foldl (wdK f) p).2.length=n∧Wb (l.foldl (wdK f) p).2
 | [],_,h=>h
 | x::r,p,h=>by
   obtain ⟨h1,h2,h3,h4⟩:=hf p.2 x h.2.2.1 h.2.2.2
   refine tG hf r (wdK f p x) ⟨?_,?_,h3,h4⟩
   ·show 0≤min (p.1+(f p.2 x).1) 1000000
    omega
   ·show min (p.1+(f p.2 x).1) 1000000≤1000001
    omega
theorem vm {n:Nat} {f:List Int→Int→Int × List Int} (hf:WF n f) (ns:List EN) {ws:List Int} (i:Nat) (hl:ws.length=n) (hw:Wb ws):0≤(wd0 ns f ws i).1∧(wd0 ns f ws i).1≤1000001∧(wd0 ns f ws i).2.length=n∧Wb (wd0 ns f ws i).2:=by
 unfold wd0
 cases fY ns i with
 | none=>exact ⟨by show (0:Int)≤1;omega,by show (1:Int)≤1000001;omega,hl,hw⟩
 | some a =>
   obtain ⟨h1,h2,h3,h4⟩:=hf ws a hl hw
   exact ⟨by show 0≤1+(f ws a).1;omega,by show 1+(f ws a).1≤1000001;omega,h3,h4⟩
theorem lR {z:Int} (hz:-1≤z) (ns:List EN) (n:Nat):∀ m,WF n (wdM z ns m)
 | 0=>fun ws k hl hw=>⟨by show (0:Int)≤0;omega,by show (0:Int)≤1000000;omega,hl,hw⟩
 | m+1=>fun ws k hl hw=>by
   unfold wdM
   split
   ·have:=hw.get k.toNat
    exact ⟨by show 0≤ws.getD k.toNat 0;omega,this.2,hl,hw⟩
   ·obtain ⟨h1,h2,h3,h4⟩:=tG (lR hz ns n m) (aj (ndE ns k.toNat)) _ (vm (lR hz ns n m) ns k.toNat hl hw)
    generalize (aj (ndE ns k.toNat)).foldl (wdK (wdM z ns m)) (wd0 ns (wdM z ns m) ws k.toNat)=p at *
    exact ⟨by show 0≤min p.1 1000000;omega,by show min p.1 1000000≤1000000;omega,by show (p.2.set _ _).length=n;rw [List.length_set,h3],h4.set _ (by omega) (by omega)⟩
theorem kB {α β:Type} {f g:β→α→β}:∀ {l:List α},(∀ a∈l,∀ b,f b a=g b a)→∀ b,l.foldl f b=l.foldl g b
 | [],_,_=>rfl
 | x::r,h,b=>by rw [List.foldl_cons,List.foldl_cons,h x List.mem_cons_self,kB fun a ha=>h a (List.mem_cons_of_mem _ ha)]
theorem xb {ns:List EN} (ht:cV ns):∀ (m m' i:Nat),i<ns.length→rkE ns i<m→rkE ns i<m'→wdE ns m i=wdE ns m' i
 | 0,_,_,_,h,_=>absurd h (Nat.not_lt_zero _)
 | _+1,0,_,_,_,h=>absurd h (Nat.not_lt_zero _)
 | m+1,m'+1,i,hi,h1,h2=>by
   have hd:∀ a:Int,0≤a∧a<(ns.length:Int)∧rkE ns a.toNat<rkE ns i→wdE ns m a=wdE ns m' a:=fun a ⟨g1,g2,g3⟩=>by
    obtain ⟨a,rfl⟩:∃ k:Nat,a=(k:Int):=⟨a.toNat,by omega⟩
    rw [Int.toNat_natCast] at g3
    exact xb ht m m' a (by omega) (by omega) (by omega)
   unfold wdE
   rw [Int.toNat_natCast]
   have e:(match fY ns i with
    | some a=>1+wdE ns m a
    | none=>1)=(match fY ns i with
    | some a=>1+wdE ns m' a
    | none=>1):=by
    cases hda:fY ns i with
    | none=>rfl
    | some a =>
      simp only
      rw [hd a (sk ht hi hda)]
   rw [e,kB (fun k hk b=>?_)]
   obtain ⟨g1,g2⟩:=aL (aQ ht) hi k hk
   rw [hd k ⟨g1,by omega,si ht hi (by rw [Int.toNat_of_nonneg g1];exact hk)⟩]
def wvE (ns:List EN) (i:Nat):Int:=wdE ns (rkE ns i+1) i
theorem uS (ns:List EN):∀ (m:Nat) (i:Int),0≤wdE ns m i∧wdE ns m i≤1000000∧(0<m→1≤wdE ns m i)
 | 0,_=>⟨by show (0:Int)≤0;omega,by show (0:Int)≤1000000;omega,fun h=>absurd h (Nat.not_lt_zero _)⟩
 | m+1,i=>by
   have ih:=uS ns m
   have h0:1≤(match fY ns i.toNat with
    | some a=>1+wdE ns m a
    | none=>1):=by
    cases fY ns i.toNat with
    | none=>exact Int.le_refl _
    | some a=>have:=(ih a).1;show 1≤1+wdE ns m a;omega
   have hf:∀ (l:List Int) (b:Int),1≤b→1≤l.foldl (fun n k=>min (n+wdE ns m k) 1000000) b:=by
    intro l
    induction l with
    | nil=>exact fun b h=>h
    | cons x r ihl =>
      intro b hb
      have:=(ih x).1
      exact ihl _ (by show 1≤min (b+wdE ns m x) 1000000;omega)
   have h1:=hf (aj (ndE ns i.toNat)) _ h0
   unfold wdE
   generalize (aj (ndE ns i.toNat)).foldl (fun n k=>min (n+wdE ns m k) 1000000) _=q at *
   exact ⟨by omega,by omega,fun _=>by omega⟩
def Kn (z:Int) (ns:List EN) (ws:List Int):Prop:=ws.length=ns.length∧∀ j,j<ns.length→ws.getD j 0=z∨ws.getD j 0=wvE ns j
theorem xM {z:Int} {ns:List EN} {m:Nat} {v:Int→Int}:∀ (l:List Int),(∀ k∈l,∀ ws,Kn z ns ws→(wdM z ns m ws k).1=v k∧Kn z ns (wdM z ns m ws k).2)→∀ p:Int × List Int,Kn z ns p.2 →
  (l.foldl (wdK (wdM z ns m)) p).1=l.foldl (fun n k=>min (n+v k) 1000000) p.1∧Kn z ns (l.foldl (wdK (wdM z ns m)) p).2
 | [],_,_,h=>⟨rfl,h⟩
 | x::r,hl,p,h=>by
   obtain ⟨h1,h2⟩:=hl x List.mem_cons_self p.2 h
   have:=xM r (fun k hk=>hl k (List.mem_cons_of_mem _ hk)) (wdK (wdM z ns m) p x) h2
   rw [List.foldl_cons,List.foldl_cons,this.1]
   refine ⟨?_,this.2⟩
   rw [show (wdK (wdM z ns m) p x).1=min (p.1+v x) 1000000 by unfold wdK;rw [h1]]
theorem rL {z:Int} (hz:z<1) {ns:List EN} (ht:cV ns):∀ (m i:Nat),i<ns.length→rkE ns i<m→∀ ws,Kn z ns ws→(wdM z ns m ws i).1=wvE ns i∧Kn z ns (wdM z ns m ws i).2
 | 0,_,_,h,_,_=>absurd h (Nat.not_lt_zero _)
 | m+1,i,hi,hm,ws,hw=>by
   have hd:∀ a:Int,0≤a∧a<(ns.length:Int)∧rkE ns a.toNat<rkE ns i→∀ ws,Kn z ns ws→(wdM z ns m ws a).1=wdE ns (rkE ns i) a∧Kn z ns (wdM z ns m ws a).2:=fun a ⟨g1,g2,g3⟩ ws hw=>by
    obtain ⟨a,rfl⟩:∃ k:Nat,a=(k:Int):=⟨a.toNat,by omega⟩
    rw [Int.toNat_natCast] at g3
    rw [xb ht (rkE ns i) (rkE ns a+1) a (by omega) g3 (by omega)]
    exact rL hz ht m a (by omega) (by omega) ws hw
   unfold wdM
   rw [Int.toNat_natCast]
   by_cases hc:z<ws.getD i 0
   ·rw [if_pos hc]
    refine ⟨?_,hw⟩
    rcases hw.2 i hi with h | h
    ·omega
    ·exact h
   rw [if_neg hc]
   have h0:(wd0 ns (wdM z ns m) ws i).1=(match fY ns i with
    | some a=>1+wdE ns (rkE ns i) a
    | none=>1)∧Kn z ns (wd0 ns (wdM z ns m) ws i).2:=by
    unfold wd0
    cases hda:fY ns i with
    | none=>exact ⟨rfl,hw⟩
    | some a =>
      obtain ⟨h1,h2⟩:=hd a (sk ht hi hda) ws hw
      exact ⟨by show 1+(wdM z ns m ws a).1=1+wdE ns (rkE ns i) a;rw [h1],h2⟩
   obtain ⟨h1,h2⟩:=xM (v:=wdE ns (rkE ns i)) (aj (ndE ns i)) (fun k hk=>by
    obtain ⟨g1,g2⟩:=aL (aQ ht) hi k hk
    exact hd k ⟨g1,by omega,si ht hi (by rw [Int.toNat_of_nonneg g1];exact hk)⟩) _ h0.2
   rw [h0.1] at h1
   have hv:min ((aj (ndE ns i)).foldl (wdK (wdM z ns m)) (wd0 ns (wdM z ns m) ws i)).1 1000000=wvE ns i:=by
    rw [h1]
    unfold wvE
    rw [wdE,Int.toNat_natCast]
   refine ⟨hv,?_⟩
   show Kn z ns (((aj (ndE ns i)).foldl (wdK (wdM z ns m)) (wd0 ns (wdM z ns m) ws i)).2.set i (min ((aj (ndE ns i)).foldl (wdK (wdM z ns m)) (wd0 ns (wdM z ns m) ws i)).1 1000000))
   rw [hv]
   refine ⟨by rw [List.length_set,h2.1],fun j hj=>?_⟩
   by_cases e:j=i
   ·subst e
    exact .inr (by simp [List.getD_eq_getElem?_getD,h2.1,hi])
   ·rw [show (((aj (ndE ns i)).foldl (wdK (wdM z ns m)) (wd0 ns (wdM z ns m) ws i)).2.set i (wvE ns i)).getD j 0=((aj (ndE ns i)).foldl (wdK (wdM z ns m)) (wd0 ns (wdM z ns m) ws i)).2.getD j 0 by
     simp [List.getD_eq_getElem?_getD,List.getElem?_set_ne (fun e':i=j=>e e'.symm)]]
    exact h2.2 j hj
theorem Aj (z:Int) (ns:List EN):Kn z ns (List.replicate ns.length z):=⟨List.length_replicate,fun j hj=>.inl (by simp [List.getD_eq_getElem?_getD,hj])⟩
def lu (ns:List EN):Int:=if rG ns=0 then wvE ns (ns.length-1) else 1000000
end Go.Proofs.YtejpnabbmgpmaaaGreat

