/-
  Choices and names, read. (with the parts that follow it)
-/
import Derived.Test.YtejpnabbmgpmaaaGreatDoorWSH
import Derived.Test.YtejpnabbmgpmaaaGreatDoorWSG
import Derived.Test.YtejpnabbmgpmaaaGreatDoorWSF
set_option linter.all false
namespace Go.Proofs.YtejpnabbmgpmaaaGreatDoor
open Go.Ab
def qM (f:Nat) (G:List (Nat × Obj)) (N:Nat) (sub:PS→Int→PR):Prop:=∀ (s:PS) (p:Int),s.l.length≤100000→s.nest=N→HCall Tryz.prog G f [.bx [100] 0,.d (i64 p)] (RO s) [100,101] (fun r hp'=>r=.d (exD (sub s p).1)∧hp'=RO (sub s p).2)
theorem I9 {G} {N:Nat} {ex:PS→PR} (hex:∀ s,GP 1 s (ex s)) (hc:Reads 34 G N ex):qM 79 G N (ifS ex):=by
 intro s p hl hN
 generalize hR:ifS ex s p=R
 unfold ifS at hR
 have ha:=hex s
 have ca:=hc s hl hN
 obtain ⟨a,sa,ea⟩:∃ a sa,ex s=(a,sa):=⟨_,_,rfl⟩
 rw [ea] at ha ca hR
 have la:=ha.ss.len
 have na:=ha.ss.nest
 have cm:=fG (G:=G) sa 1 jQ (by simp only at la;omega) (by decide)
 have hm:=SS.must sa 1 jQ
 simp only at hR la na
 generalize sa.must 1 jQ=s2 at hR cm hm
 have l2:=hm.len
 have n2:=hm.nest
 have hb:=hex s2
 have cb:=hc s2 (by omega) (by rw [n2,na,hN])
 obtain ⟨b,sb,eb⟩:∃ b sb,ex s2=(b,sb):=⟨_,_,rfl⟩
 rw [eb] at hb cb hR
 have lb:=hb.ss.len
 have nb:=hb.ss.nest
 simp only at hR lb nb
 have cm2:=fG (G:=G) sb 1 jU (by omega) (by decide)
 have hm2:=SS.must sb 1 jU
 generalize sb.must 1 jU=s3 at hR cm2 hm2
 have l3:=hm2.len
 have n3:=hm2.nest
 have hd:=hex s3
 have cd:=hc s3 (by omega) (by rw [n3,nb,n2,na,hN])
 obtain ⟨d,sd,ed⟩:∃ d sd,ex s3=(d,sd):=⟨_,_,rfl⟩
 rw [ed] at hd cd hR
 simp only at hR
 have za:=ha.sz
 have zb:=hb.sz
 have zd:=hd.sz
 simp only at za zb zd
 have h4:=jT (G:=G) (nd0 9 p) [a,b,d] rfl (by simp) (by simp only [bA,List.map_cons,List.map_nil,List.sum_cons,List.sum_nil];omega)
  (fun l h=>by
   simp only [List.mem_cons,List.mem_singleton,List.not_mem_nil,or_false] at h
   rcases h with rfl | rfl | rfl
   ·exact ha.tr.kids.2
   ·exact hb.tr.kids.2
   ·exact hd.tr.kids.2)
  (fun l h=>by
   simp only [List.mem_cons,List.mem_singleton,List.not_mem_nil,or_false] at h
   rcases h with rfl | rfl | rfl
   ·exact ha.wd.mono (by omega)
   ·exact hb.wd.mono (by omega)
   ·exact hd.wd.mono (by omega))
 generalize az (nd0 9 p) [a,b,d]=J at h4 hR
 unfold exD at h4 ca cb cd
 subst hR
 unfold RO TO ag
 refine ao Tryz.func79 rfl (by decide +kernel) (by simp [Tryz.ntmps79]) (veil fun E=>?_)
 simp only [go_sem]
 refine ab E [.bx [100] 0] (RO s) [100,101] (ca) rfl rfl ⟨by simp only [go_sem],by first | (rw [aa];decide) | (simp only [go_sem]<;>(try rw [aa])<;>decide)⟩ rfl (by unfold RO TO ag;simp only [go_sem]) (by unfold RO TO;simp only [go_sem]) ?_
 rintro _ _ ⟨rfl,rfl⟩
 unfold RO TO ag
 simp only [go_sem]
 refine ab E [.bx [100] 0,.d (i64 1),.d (.str jQ)] (RO sa) [100,101] (cm) rfl rfl ⟨by simp only [go_sem],by first | (rw [aa];decide) | (simp only [go_sem]<;>(try rw [aa])<;>decide)⟩ rfl (by unfold RO TO ag;simp only [go_sem]) (by unfold RO TO;simp only [go_sem]) ?_
 rintro _ _ ⟨rfl,rfl⟩
 unfold RO TO ag
 simp only [go_sem]
 refine ab E [.bx [100] 0] (RO s2) [100,101] (cb) rfl rfl ⟨by simp only [go_sem],by first | (rw [aa];decide) | (simp only [go_sem]<;>(try rw [aa])<;>decide)⟩ rfl (by unfold RO TO ag;simp only [go_sem]) (by unfold RO TO;simp only [go_sem]) ?_
 rintro _ _ ⟨rfl,rfl⟩
 unfold RO TO ag
 simp only [go_sem]
 refine ab E [.bx [100] 0,.d (i64 1),.d (.str jU)] (RO sb) [100,101] (cm2) rfl rfl ⟨by simp only [go_sem],by first | (rw [aa];decide) | (simp only [go_sem]<;>(try rw [aa])<;>decide)⟩ rfl (by unfold RO TO ag;simp only [go_sem]) (by unfold RO TO;simp only [go_sem]) ?_
 rintro _ _ ⟨rfl,rfl⟩
 unfold RO TO ag
 simp only [go_sem]
 refine au mixed E fun X=>?_
 simp only [go_sem]
 refine dr X [.bx [100] 0] (RO s3) [100,101] _ _ cd rfl rfl ⟨by simp only [go_sem],by rw [aa];decide⟩ rfl (by unfold RO TO ag;simp only [go_sem]) (by unfold RO TO;simp only [go_sem]) (by unfold RO TO;simp only [go_sem]) ?_
 unfold RO TO ag
 simp only [go_sem]
 refine cU X 21 [21] (some 1) [.agg [.sl (some 9) (a.map enD)],.agg [.sl (some 9) (b.map enD)],.agg [.sl (some 9) (d.map enD)]] h4 (fun _=>rfl) rfl rfl rfl (by simp) rfl (by simp only [go_sem]) ?_
 simp only [go_sem]
 refine ⟨by decide +kernel,?_⟩
 refine ⟨_,_,[100,101],id,⟨rfl,rfl⟩,?_⟩
 simp only [go_sem]
 rfl
end Go.Proofs.YtejpnabbmgpmaaaGreatDoor

namespace Go.Proofs.YtejpnabbmgpmaaaGreatDoor
open Go.Ab
theorem IA {G} {N:Nat} {ex:PS→PR} (hex:∀ s,GP 1 s (ex s)) (hc:Reads 34 G N ex):qM 78 G N (jY ex):=by
 intro s p hl hN
 generalize hR:jY ex s p=R
 unfold jY at hR
 have cw:=j1 (G:=G) s gh (by omega)
 have hw:=SS.may s 1 gh
 obtain ⟨c,hcc⟩:∃ c,c=s.sees 1 gh:=⟨_,rfl⟩
 rw [← hcc] at cw
 simp only [← hcc] at hR
 generalize s.may 1 gh=s1 at hR cw hw
 have l1:=hw.len
 have n1:=hw.nest
 have co:=lx (G:=G) s1 2 (by omega)
 have ho:=SS.of s1 2
 obtain ⟨nm,so,eo⟩:∃ nm so,s1.of 2=(nm,so):=⟨_,_,rfl⟩
 rw [eo] at co ho hR
 simp only at co ho hR
 have lo:=ho.len
 have no:=ho.nest
 have cm:=fG (G:=G) so 7 [61] (by omega) (by decide)
 have hm:=SS.must so 7 [61]
 generalize so.must 7 [61]=s2 at hR cm hm
 have l2:=hm.len
 have n2:=hm.nest
 have cp:=ee (G:=G) s2.l s2.fin (by omega)
 rw [jD] at hR
 generalize cy s2.l s2.fin=t at hR cp
 have ha:=hex s2
 have ca:=hc s2 (by omega) (by rw [n2,no,n1,hN])
 obtain ⟨a,sa,ea⟩:∃ a sa,ex s2=(a,sa):=⟨_,_,rfl⟩
 rw [ea] at ha ca hR
 have la:=ha.ss.len
 have na:=ha.ss.nest
 simp only at hR la na
 have hap:=ha.tr.kids.1
 have za:=ha.sz
 simp only at hap za
 have cf:=nX (G:=G) sa 5 t.pos
 have key:∀ s3:PS,s3.l=sa.l→s3.nest=sa.nest→∀ k:Int,(az { nd0 k p with name:=nm } [a,(ex (s3.must 1 bIn)).1],(ex (s3.must 1 bIn)).2)=R →
   HCall Tryz.prog G 76 [.bx [100] 0,.d (i64 1),.d (.str bIn)] (RO s3) [100,101] (fun r hp'=>r=.tup []∧hp'=RO (s3.must 1 bIn))∧∃ b sb J,R=(J,sb) ∧
   HCall Tryz.prog G 34 [.bx [100] 0] (RO (s3.must 1 bIn)) [100,101] (fun r hp'=>r=.d (.agg [.sl (some 9) (b.map enD)])∧hp'=RO sb) ∧
   HP Tryz.prog G 77 [ndN { nd0 k p with name:=nm },.sl (some 1) ([a,b].map exD)] (fun r=>r=.d (.agg [.sl (some 9) (J.map enD)])):=by
  intro s3 e1 e2 k hk
  have cm3:=fG (G:=G) s3 1 bIn (by rw [e1];omega) (by decide)
  have hm3:=SS.must s3 1 bIn
  generalize s3.must 1 bIn=s4 at hk cm3 hm3 ⊢
  have l4:=hm3.len
  have n4:=hm3.nest
  rw [e1] at l4
  have hb:=hex s4
  have cb:=hc s4 (by omega) (by rw [n4,e2,na,n2,no,n1,hN])
  obtain ⟨b,sb,eb⟩:∃ b sb,ex s4=(b,sb):=⟨_,_,rfl⟩
  rw [eb] at hb cb hk
  have zb:=hb.sz
  simp only at zb hk
  have h4:=jT (G:=G) { nd0 k p with name:=nm } [a,b] rfl (by simp) (by simp only [bA,List.map_cons,List.map_nil,List.sum_cons,List.sum_nil];omega)
   (fun l h=>by
    simp only [List.mem_cons,List.mem_singleton,List.not_mem_nil,or_false] at h
    rcases h with rfl | rfl
    ·exact ha.tr.kids.2
    ·exact hb.tr.kids.2)
   (fun l h=>by
    simp only [List.mem_cons,List.mem_singleton,List.not_mem_nil,or_false] at h
    rcases h with rfl | rfl
    ·exact ha.wd.mono (by omega)
    ·exact hb.wd.mono (by omega))
  exact ⟨cm3,b,sb,_,hk.symm,cb,h4⟩
 unfold exD at ca
 unfold RO TO ag
 refine ao Tryz.func78 rfl (by decide +kernel) (by simp [Tryz.ntmps78]) (veil fun E=>?_)
 simp only [go_sem]
 refine ab E [.bx [100] 0,.d (.str gh)] (RO s) [100,101] (cw) rfl rfl ⟨by simp only [go_sem],by first | (rw [aa];decide) | (simp only [go_sem]<;>(try rw [aa])<;>decide)⟩ rfl (by unfold RO TO ag;simp only [go_sem]) (by unfold RO TO;simp only [go_sem]) ?_
 rintro _ _ ⟨rfl,rfl⟩
 unfold RO TO ag
 simp only [go_sem]
 refine aV E (fun g=>?_) (fun g=>?_)<;>simp only [go_sem]
 ·rw [if_pos g] at hR
  refine ab E [.bx [100] 0,.d (i64 2)] (RO s1) [100,101] (co) rfl rfl ⟨by simp only [go_sem],by first | (rw [aa];decide) | (simp only [go_sem]<;>(try rw [aa])<;>decide)⟩ rfl (by unfold RO TO ag;simp only [go_sem]) (by unfold RO TO;simp only [go_sem]) ?_
  rintro _ _ ⟨rfl,rfl⟩
  unfold RO TO ag
  simp only [go_sem]
  refine ab E [.bx [100] 0,.d (i64 7),.d (.str [61])] (RO so) [100,101] (cm) rfl rfl ⟨by simp only [go_sem],by first | (rw [aa];decide) | (simp only [go_sem]<;>(try rw [aa])<;>decide)⟩ rfl (by unfold RO TO ag;simp only [go_sem]) (by unfold RO TO;simp only [go_sem]) ?_
  rintro _ _ ⟨rfl,rfl⟩
  unfold RO TO ag
  simp only [go_sem]
  refine ab E [.bx [101] 0] (TO s2.l s2.fin) [101] (cp) rfl rfl ⟨by simp only [go_sem],by first | (rw [aa];decide) | (simp only [go_sem]<;>(try rw [aa])<;>decide)⟩ rfl (by unfold TO ag;simp only [go_sem]) (by unfold TO;simp only [go_sem]) ?_
  rintro _ _ ⟨rfl,rfl⟩
  unfold TO ag
  simp only [go_sem]
  refine ab E [.bx [100] 0] (RO s2) [100,101] (ca) rfl rfl ⟨by simp only [go_sem],by first | (rw [aa];decide) | (simp only [go_sem]<;>(try rw [aa])<;>decide)⟩ rfl (by unfold RO TO ag;simp only [go_sem]) (by unfold RO TO;simp only [go_sem]) ?_
  rintro _ _ ⟨rfl,rfl⟩
  unfold RO TO ag
  simp only [go_sem]
  rw [al (n:=(a.length:Int)-1) ⟨by omega,by omega⟩]
  refine ⟨by omega,?_⟩
  rw [show ((a.length:Int)-1).toNat=a.length-1 by omega,bO (show a.length-1<a.length by omega)]
  have hrt:dU a=ndE a (a.length-1):=rfl
  rw [← hrt]
  simp only [go_sem]
  refine ai E (fun h=>?_) (fun h=>?_)<;>simp only [go_sem]
  ·rw [if_pos ⟨rfl,h⟩] at hR
   refine ab E [.bx [100] 0,.d (i64 5),.d (i64 t.pos)] (RO sa) [100,101] (cf) rfl rfl ⟨by simp only [go_sem],by first | (rw [aa];decide) | (simp only [go_sem]<;>(try rw [aa])<;>decide)⟩ rfl (by unfold RO TO ag;simp only [go_sem]) (by unfold RO TO;simp only [go_sem]) ?_
   rintro _ _ ⟨rfl,rfl⟩
   unfold RO TO ag
   simp only [go_sem]
   obtain ⟨k1,b,sb,J,eR,k2,k3⟩:=key (sa.fail 5 t.pos) (nE _ _ _) (by unfold PS.fail;split<;>rfl) 8 hR
   subst eR
   refine ab E [.bx [100] 0,.d (i64 1),.d (.str bIn)] (RO (sa.fail 5 t.pos)) [100,101] (k1) rfl rfl ⟨by simp only [go_sem],by first | (rw [aa];decide) | (simp only [go_sem]<;>(try rw [aa])<;>decide)⟩ rfl (by unfold RO TO ag;simp only [go_sem]) (by unfold RO TO;simp only [go_sem]) ?_
   rintro _ _ ⟨rfl,rfl⟩
   unfold RO TO ag
   simp only [go_sem]
   refine au mixed E fun X=>?_
   simp only [go_sem]
   refine dr X [.bx [100] 0] (RO ((sa.fail 5 t.pos).must 1 bIn)) [100,101] _ _ k2 rfl rfl ⟨by simp only [go_sem],by rw [aa];decide⟩ rfl (by unfold RO TO ag;simp only [go_sem]) (by unfold RO TO;simp only [go_sem]) (by unfold RO TO;simp only [go_sem]) ?_
   unfold RO TO ag
   simp only [go_sem]
   refine cU X 50 [50] (some 1) [.agg [.sl (some 9) (a.map enD)],.agg [.sl (some 9) (b.map enD)]] k3 (fun _=>rfl) rfl rfl rfl (by simp) rfl (by simp only [go_sem]) ?_
   simp only [go_sem]
   refine ⟨by decide +kernel,?_⟩
   refine ⟨_,_,[100,101],id,⟨rfl,rfl⟩,?_⟩
   simp only [go_sem]
   rfl
  ·rw [if_neg (fun q=>h q.2)] at hR
   obtain ⟨k1,b,sb,J,eR,k2,k3⟩:=key sa rfl rfl 8 hR
   subst eR
   refine ab E [.bx [100] 0,.d (i64 1),.d (.str bIn)] (RO sa) [100,101] (k1) rfl rfl ⟨by simp only [go_sem],by first | (rw [aa];decide) | (simp only [go_sem]<;>(try rw [aa])<;>decide)⟩ rfl (by unfold RO TO ag;simp only [go_sem]) (by unfold RO TO;simp only [go_sem]) ?_
   rintro _ _ ⟨rfl,rfl⟩
   unfold RO TO ag
   simp only [go_sem]
   refine au mixed E fun X=>?_
   simp only [go_sem]
   refine dr X [.bx [100] 0] (RO (sa.must 1 bIn)) [100,101] _ _ k2 rfl rfl ⟨by simp only [go_sem],by rw [aa];decide⟩ rfl (by unfold RO TO ag;simp only [go_sem]) (by unfold RO TO;simp only [go_sem]) (by unfold RO TO;simp only [go_sem]) ?_
   unfold RO TO ag
   simp only [go_sem]
   refine cU X 50 [50] (some 1) [.agg [.sl (some 9) (a.map enD)],.agg [.sl (some 9) (b.map enD)]] k3 (fun _=>rfl) rfl rfl rfl (by simp) rfl (by simp only [go_sem]) ?_
   simp only [go_sem]
   refine ⟨by decide +kernel,?_⟩
   refine ⟨_,_,[100,101],id,⟨rfl,rfl⟩,?_⟩
   simp only [go_sem]
   rfl
 ·rw [if_neg (by rw [g];decide)] at hR
  refine ab E [.bx [100] 0,.d (i64 2)] (RO s1) [100,101] (co) rfl rfl ⟨by simp only [go_sem],by first | (rw [aa];decide) | (simp only [go_sem]<;>(try rw [aa])<;>decide)⟩ rfl (by unfold RO TO ag;simp only [go_sem]) (by unfold RO TO;simp only [go_sem]) ?_
  rintro _ _ ⟨rfl,rfl⟩
  unfold RO TO ag
  simp only [go_sem]
  refine ab E [.bx [100] 0,.d (i64 7),.d (.str [61])] (RO so) [100,101] (cm) rfl rfl ⟨by simp only [go_sem],by first | (rw [aa];decide) | (simp only [go_sem]<;>(try rw [aa])<;>decide)⟩ rfl (by unfold RO TO ag;simp only [go_sem]) (by unfold RO TO;simp only [go_sem]) ?_
  rintro _ _ ⟨rfl,rfl⟩
  unfold RO TO ag
  simp only [go_sem]
  refine ab E [.bx [101] 0] (TO s2.l s2.fin) [101] (cp) rfl rfl ⟨by simp only [go_sem],by first | (rw [aa];decide) | (simp only [go_sem]<;>(try rw [aa])<;>decide)⟩ rfl (by unfold TO ag;simp only [go_sem]) (by unfold TO;simp only [go_sem]) ?_
  rintro _ _ ⟨rfl,rfl⟩
  unfold TO ag
  simp only [go_sem]
  refine ab E [.bx [100] 0] (RO s2) [100,101] (ca) rfl rfl ⟨by simp only [go_sem],by first | (rw [aa];decide) | (simp only [go_sem]<;>(try rw [aa])<;>decide)⟩ rfl (by unfold RO TO ag;simp only [go_sem]) (by unfold RO TO;simp only [go_sem]) ?_
  rintro _ _ ⟨rfl,rfl⟩
  unfold RO TO ag
  simp only [go_sem]
  rw [if_neg (fun q=>absurd q.1 (by decide))] at hR
  obtain ⟨k1,b,sb,J,eR,k2,k3⟩:=key sa rfl rfl 7 hR
  subst eR
  refine ab E [.bx [100] 0,.d (i64 1),.d (.str bIn)] (RO sa) [100,101] (k1) rfl rfl ⟨by simp only [go_sem],by first | (rw [aa];decide) | (simp only [go_sem]<;>(try rw [aa])<;>decide)⟩ rfl (by unfold RO TO ag;simp only [go_sem]) (by unfold RO TO;simp only [go_sem]) ?_
  rintro _ _ ⟨rfl,rfl⟩
  unfold RO TO ag
  simp only [go_sem]
  refine au mixed E fun X=>?_
  simp only [go_sem]
  refine dr X [.bx [100] 0] (RO (sa.must 1 bIn)) [100,101] _ _ k2 rfl rfl ⟨by simp only [go_sem],by rw [aa];decide⟩ rfl (by unfold RO TO ag;simp only [go_sem]) (by unfold RO TO;simp only [go_sem]) (by unfold RO TO;simp only [go_sem]) ?_
  unfold RO TO ag
  simp only [go_sem]
  refine cU X 50 [50] (some 1) [.agg [.sl (some 9) (a.map enD)],.agg [.sl (some 9) (b.map enD)]] k3 (fun _=>rfl) rfl rfl rfl (by simp) rfl (by simp only [go_sem]) ?_
  simp only [go_sem]
  refine ⟨by decide +kernel,?_⟩
  refine ⟨_,_,[100,101],id,⟨rfl,rfl⟩,?_⟩
  simp only [go_sem]
  rfl
end Go.Proofs.YtejpnabbmgpmaaaGreatDoor

namespace Go.Proofs.YtejpnabbmgpmaaaGreatDoor
open Go.Ab
theorem jt {α:Type} {l:List α} {p:α→Bool} {i:Nat} (h:i<l.length) (ha:(l.take i).any p=false) (hb:p l[i]=false):(l.take (i+1)).any p=false:=by
 rw [List.take_succ_eq_append_getElem h,List.any_append,ha]
 simp [hb]
theorem J1 {l:List EF} {i:Nat} (h:i<l.length):(l.map fD).getD i .nilp=.agg [.str l[i].nm,.str l[i].var,i64 l[i].to]:=by simp [h,fD]
theorem Fk {G} (l:List EF) (p:EF→Bool) (f:Nat) (caps:List D) (hl:l.length≤1000000) (hc:∀ x∈l,HP Tryz.prog G f (fD x::caps) (fun r=>r=.d (.bool (p x)))) :
  HP Tryz.prog G 148 [.sl (some 3) (l.map fD),.clo f caps] (fun r=>∃ z:Int,r=.d (i64 z)∧decide (0≤z)=l.any p):=by
 have hget:∀ {i:Nat} (h:i<l.length),(l.map fD).getD i .nilp=.agg [.str l[i].nm,.str l[i].var,i64 l[i].to]:=fun h=>J1 h
 refine an Tryz.func148 rfl (by decide +kernel) (by simp [Tryz.ntmps148]) (veil fun E=>?_)
 simp only [go_sem]
 refine dm E (X:={ i:Nat // i≤l.length∧(l.take i).any p=false }) (fun x=>[(0,.d (.sl (some 3) (l.map fD))),(1,.d (.clo f caps)),(6,.d (.sl (some 3) (l.map fD))),(7,.d (i64 l.length)),(8,.d (i64 x.1))]) (fun x=>l.length-x.1) rfl ⟨0,Nat.zero_le _,by simp⟩ ?_ ?_
 ·simp only [go_sem]
  all_goals rfl
 rintro ⟨i,hi,hab⟩ E'
 simp only [go_sem]
 refine ai E' (fun h1=>?_) (fun h1=>?_)<;>simp only [go_sem]
 ·have h1':i<l.length:=by omega
  refine ⟨by omega,?_⟩
  rw [hget h1']
  simp only [go_sem]
  refine sR E' (hc l[i] (List.getElem_mem h1')) rfl rfl (by simp) ?_
  rintro _ rfl
  simp only [go_sem]
  refine aV E' (fun h2=>?_) (fun h2=>?_)<;>simp only [go_sem]
  ·refine ⟨_,rfl,?_⟩
   have:l.any p=true:=List.any_eq_true.2 ⟨l[i],List.getElem_mem h1',h2⟩
   rw [this]
   exact decide_eq_true (Int.natCast_nonneg _)
  ·refine ⟨⟨i+1,by omega,jt h1' hab h2⟩,by show l.length-(i+1)<_;omega,?_⟩
   rw [al ⟨by omega,by omega⟩];rfl
 ·have h3:i=l.length:=by omega
  subst h3
  rw [List.take_length] at hab
  refine ⟨_,rfl,?_⟩
  rw [hab]
  decide
theorem FJ {G} (l:List EF) (p:EF→Bool) (f:Nat) (caps:List D) (hl:l.length≤1000000) (hc:∀ x∈l,HP Tryz.prog G f (fD x::caps) (fun r=>r=.d (.bool (p x)))) :
  HP Tryz.prog G 120 [.sl (some 3) (l.map fD),.clo f caps] (fun r=>r=.d (.bool (l.any p))):=by
 refine an Tryz.func120 rfl (by decide +kernel) (by simp [Tryz.ntmps120]) (veil fun E=>?_)
 simp only [go_sem]
 refine ae E (Fk l p f caps hl hc) rfl rfl (by simp) ?_
 rintro _ ⟨z,rfl,hz⟩
 simp only [go_sem]
 rw [hz]
theorem G4 {G} (x:EF) (t:Tok):HP Tryz.prog G 187 [fD x,.ptr (gR t)] (fun r=>r=.d (.bool (decide (x.nm=t.s)))):=by
 unfold fD
 rw [show gR t=.agg [i64 t.k,.str t.s,i64 t.n,i64 t.pos] from rfl]
 refine bR Tryz.func187 rfl (by decide +kernel) (by simp [Tryz.ntmps187]) (veil fun E=>?_)
 simp only [go_sem]
 refine ⟨[],?_⟩
 simp only [go_sem]
 by_cases h:x.nm=t.s<;>simp [h]
end Go.Proofs.YtejpnabbmgpmaaaGreatDoor

namespace Go.Proofs.YtejpnabbmgpmaaaGreatDoor
open Go.Ab
theorem Gb {G} (l:List Int) (p:Int→Bool) (f:Nat) (caps:List D) (hl:l.length≤1000000) (hc:∀ x∈l,HP Tryz.prog G f (i64 x::caps) (fun r=>r=.d (.bool (p x)))) :
  HP Tryz.prog G 107 [.sl none (l.map i64),.clo f caps] (fun r=>∃ z:Int,r=.d (i64 z)∧decide (0≤z)=l.any p):=by
 have hget:∀ {i:Nat} (h:i<l.length),(l.map i64).getD i .nilp=i64 l[i]:=fun h=>by simp [h]
 refine an Tryz.func107 rfl (by decide +kernel) (by simp [Tryz.ntmps107]) (veil fun E=>?_)
 simp only [go_sem]
 refine dm E (X:={ i:Nat // i≤l.length∧(l.take i).any p=false }) (fun x=>[(0,.d (.sl none (l.map i64))),(1,.d (.clo f caps)),(6,.d (.sl none (l.map i64))),(7,.d (i64 l.length)),(8,.d (i64 x.1))]) (fun x=>l.length-x.1) rfl ⟨0,Nat.zero_le _,by simp⟩ ?_ ?_
 ·simp only [go_sem]
  all_goals rfl
 rintro ⟨i,hi,hab⟩ E'
 simp only [go_sem]
 refine ai E' (fun h1=>?_) (fun h1=>?_)<;>simp only [go_sem]
 ·have h1':i<l.length:=by omega
  refine ⟨by omega,?_⟩
  rw [hget h1']
  simp only [go_sem]
  refine sR E' (hc l[i] (List.getElem_mem h1')) rfl rfl (by simp) ?_
  rintro _ rfl
  simp only [go_sem]
  refine aV E' (fun h2=>?_) (fun h2=>?_)<;>simp only [go_sem]
  ·refine ⟨_,rfl,?_⟩
   have:l.any p=true:=List.any_eq_true.2 ⟨l[i],List.getElem_mem h1',h2⟩
   rw [this]
   exact decide_eq_true (Int.natCast_nonneg _)
  ·refine ⟨⟨i+1,by omega,jt h1' hab h2⟩,by show l.length-(i+1)<_;omega,?_⟩
   rw [al ⟨by omega,by omega⟩];rfl
 ·have h3:i=l.length:=by omega
  subst h3
  rw [List.take_length] at hab
  refine ⟨_,rfl,?_⟩
  rw [hab]
  decide
theorem IL {G} (l:List Int) (p:Int→Bool) (f:Nat) (caps:List D) (hl:l.length≤1000000) (hc:∀ x∈l,HP Tryz.prog G f (i64 x::caps) (fun r=>r=.d (.bool (p x)))) :
  HP Tryz.prog G 56 [.sl none (l.map i64),.clo f caps] (fun r=>r=.d (.bool (l.any p))):=by
 refine an Tryz.func56 rfl (by decide +kernel) (by simp [Tryz.ntmps56]) (veil fun E=>?_)
 simp only [go_sem]
 refine ae E (Gb l p f caps hl hc) rfl rfl (by simp) ?_
 rintro _ ⟨z,rfl,hz⟩
 simp only [go_sem]
 rw [hz]
theorem JO {G} (k:Int):HP Tryz.prog G 57 [i64 k] (fun r=>r=.d (.bool (!decide (k=1)))):=by
 refine an Tryz.func57 rfl (by decide +kernel) (by simp [Tryz.ntmps57]) (veil fun E=>?_)
 simp only [go_sem]
 by_cases h:k=1<;>simp [h]
theorem GC {G} (l:List EN) (p:EN→Bool) (f:Nat) (caps:List D) (hl:l.length≤1000000) (hc:∀ x∈l,HP Tryz.prog G f (enD x::caps) (fun r=>r=.d (.bool (p x)))) :
  HP Tryz.prog G 118 [.sl (some 9) (l.map enD),.clo f caps] (fun r=>∃ z:Int,r=.d (i64 z)∧decide (0≤z)=l.any p):=by
 have hget:∀ {i:Nat} (h:i<l.length),(l.map enD).getD i .nilp=.agg [i64 l[i].k,i64 l[i].a,i64 l[i].b,i64 l[i].c,i64 l[i].n,.str l[i].name,.str l[i].s,.sl (some 3) (l[i].l.map fD),i64 l[i].pos]:=fun h=>by simp [h,enD,efD]
 refine an Tryz.func118 rfl (by decide +kernel) (by simp [Tryz.ntmps118]) (veil fun E=>?_)
 simp only [go_sem]
 refine dm E (X:={ i:Nat // i≤l.length∧(l.take i).any p=false }) (fun x=>[(0,.d (.sl (some 9) (l.map enD))),(1,.d (.clo f caps)),(6,.d (.sl (some 9) (l.map enD))),(7,.d (i64 l.length)),(8,.d (i64 x.1))]) (fun x=>l.length-x.1) rfl ⟨0,Nat.zero_le _,by simp⟩ ?_ ?_
 ·simp only [go_sem]
  all_goals rfl
 rintro ⟨i,hi,hab⟩ E'
 simp only [go_sem]
 refine ai E' (fun h1=>?_) (fun h1=>?_)<;>simp only [go_sem]
 ·have h1':i<l.length:=by omega
  refine ⟨by omega,?_⟩
  rw [hget h1']
  simp only [go_sem]
  refine sR E' (hc l[i] (List.getElem_mem h1')) rfl rfl (by simp) ?_
  rintro _ rfl
  simp only [go_sem]
  refine aV E' (fun h2=>?_) (fun h2=>?_)<;>simp only [go_sem]
  ·refine ⟨_,rfl,?_⟩
   have:l.any p=true:=List.any_eq_true.2 ⟨l[i],List.getElem_mem h1',h2⟩
   rw [this]
   exact decide_eq_true (Int.natCast_nonneg _)
  ·refine ⟨⟨i+1,by omega,jt h1' hab h2⟩,by show l.length-(i+1)<_;omega,?_⟩
   rw [al ⟨by omega,by omega⟩];rfl
 ·have h3:i=l.length:=by omega
  subst h3
  rw [List.take_length] at hab
  refine ⟨_,rfl,?_⟩
  rw [hab]
  decide
theorem J0 {G} (l:List EN) (p:EN→Bool) (f:Nat) (caps:List D) (hl:l.length≤1000000) (hc:∀ x∈l,HP Tryz.prog G f (enD x::caps) (fun r=>r=.d (.bool (p x)))) :
  HP Tryz.prog G 81 [.sl (some 9) (l.map enD),.clo f caps] (fun r=>r=.d (.bool (l.any p))):=by
 refine an Tryz.func81 rfl (by decide +kernel) (by simp [Tryz.ntmps81]) (veil fun E=>?_)
 simp only [go_sem]
 refine ae E (GC l p f caps hl hc) rfl rfl (by simp) ?_
 rintro _ ⟨z,rfl,hz⟩
 simp only [go_sem]
 rw [hz]
theorem Jj {G} (n:EN):HP Tryz.prog G 82 [enD n] (fun r=>r=.d (.bool (decide (1048576<n.pos)))):=by
 unfold enD efD
 refine an Tryz.func82 rfl (by decide +kernel) (by simp [Tryz.ntmps82]) (veil fun E=>?_)
 simp only [go_sem]
def bK (ns:List EN) (i:Nat):List Int:=bw (ns.take i) []
theorem pF (n:EN):∀ (a:List EN) (d:List Int),bw (a++[n]) d=bw a d++[vQ (bw a d) n]
 | [],_=>rfl
 | _::r,_=>pF n r _
theorem gD {ns:List EN} {i:Nat} (h:i<ns.length):bK ns (i+1)=bK ns i++[vQ (bK ns i) (ndE ns i)]:=by
 unfold bK
 rw [List.take_succ_eq_append_getElem h,pF,bh h]
def mx (d:List Int) (ks:List Int):Int:=ks.foldl (fun m k=>max m (d.getD k.toNat 0)) 0
theorem yC (d ks:List Int) (k:Int):mx d (ks++[k])=max (mx d ks) (d.getD k.toNat 0):=by simp [mx]
theorem mr (d:List Int) (n:EN):vQ d n=mx d (aj n)+1:=rfl
theorem DS {d:List Int} {M:Nat} (h:Bd M d) (ks:List Int):0≤mx d ks∧mx d ks≤(M:Int):=by
 suffices g:∀ (ks:List Int) (m:Int),0≤m∧m≤(M:Int)→0≤ks.foldl (fun m k=>max m (d.getD k.toNat 0)) m∧ks.foldl (fun m k=>max m (d.getD k.toNat 0)) m≤(M:Int) from g ks 0 ⟨Int.le_refl 0,by omega⟩
 intro ks
 induction ks with
 | nil=>exact fun m h=>h
 | cons k r ih =>
   intro m hm
   have:=h.get k.toNat
   exact ih (max m (d.getD k.toNat 0)) ⟨by omega,by omega⟩
theorem dp {ns:List EN}:∀ {i:Nat},i≤ns.length→(bK ns i).length=i∧Bd i (bK ns i)
 | 0,_=>by simp [bK,bw,Bd]
 | i+1,h=>by
   obtain ⟨h1,h2⟩:=dp (ns:=ns) (i:=i) (by omega)
   rw [gD (by omega)]
   refine ⟨by simp [h1],fun c hc=>?_⟩
   rcases List.mem_append.1 hc with hc | hc
   ·have:=h2 c hc;omega
   ·rw [List.mem_singleton.1 hc,mr]
    have:=DS h2 (aj (ndE ns i))
    omega
def dZ (ns:List EN) (i:Nat) (m:Int):List Int:=bK ns i++m::List.replicate (ns.length-i-1) 0
theorem kH {ns:List EN} {i:Nat} (hi:i<ns.length) (m:Int):(dZ ns i m).getD i 0=m:=by
 have:=(dp (ns:=ns) (i:=i) (by omega)).1
 unfold dZ
 rw [List.getD_eq_getElem?_getD,List.getElem?_append_right (by omega),this,Nat.sub_self]
 rfl
theorem tx {ns:List EN} {i k:Nat} (hi:i≤ns.length) (m:Int) (hk:k<i):(dZ ns i m).getD k 0=(bK ns i).getD k 0:=by
 have:=(dp (ns:=ns) (i:=i) hi).1
 unfold dZ
 rw [List.getD_eq_getElem?_getD,List.getD_eq_getElem?_getD,List.getElem?_append_left (by omega)]
theorem kN {ns:List EN} {i:Nat} (hi:i<ns.length) (m x:Int):(dZ ns i m).set i x=dZ ns i x:=by
 have:=(dp (ns:=ns) (i:=i) (by omega)).1
 unfold dZ
 rw [List.set_append_right _ _ (by omega),this,Nat.sub_self]
 rfl
theorem uf {ns:List EN} {i:Nat} (hi:i<ns.length) (m:Int):(dZ ns i m).length=ns.length:=by
 have:=(dp (ns:=ns) (i:=i) (by omega)).1
 unfold dZ
 simp only [List.length_append,List.length_cons,List.length_replicate]
 omega
theorem zF {ns:List EN} {i:Nat} (hi:i+1<ns.length):dZ ns i (vQ (bK ns i) (ndE ns i))=dZ ns (i+1) 0:=by
 unfold dZ
 rw [gD (by omega),List.append_assoc,show ns.length-i-1=ns.length-(i+1)-1+1 by omega,List.replicate_succ]
 rfl
theorem De {ns:List EN} {i:Nat} (hi:i+1=ns.length):dZ ns i (vQ (bK ns i) (ndE ns i))=bw ns []:=by
 have h1:=gD (ns:=ns) (i:=i) (by omega)
 have h2:bK ns (i+1)=bw ns []:=by unfold bK;rw [hi,List.take_length]
 rw [← h2,h1]
 unfold dZ
 rw [show ns.length-i-1=0 by omega]
 rfl
def iP (ns:List EN) (i:Nat):List Int:=if i<ns.length then dZ ns i 0 else bw ns []
theorem qj (ns:List EN):iP ns 0=List.replicate ns.length 0:=by
 unfold iP
 split
 ·rename_i h
  unfold dZ bK
  rw [List.take_zero,show ns.length=(ns.length-0-1)+1 by omega,List.replicate_succ]
  simp [bw]
 ·rename_i h
  have:ns=[]:=List.length_eq_zero_iff.1 (by omega)
  subst this
  rfl
theorem qb {ns:List EN} {i:Nat} (hi:i<ns.length):dZ ns i (vQ (bK ns i) (ndE ns i))=iP ns (i+1):=by
 unfold iP
 split
 ·rename_i h;exact zF h
 ·exact De (by omega)
theorem DW (a b:Int):(if a > b then a else b)=max b a:=by split<;>omega
theorem Iq {G} (ns:List EN) (hn:ns.length≤1000000) (hs:∀ n∈ns,n.l.length≤1000000) (hk:∀ i,i<ns.length→(aj (ndE ns i)).all (inB i)=true) :
  HP Tryz.prog G 58 [exD ns] (fun r=>r=.d (.sl none ((bw ns []).map i64))):=by
 unfold exD
 refine bR Tryz.func58 rfl (by decide +kernel) (by simp [Tryz.ntmps58]) (veil fun E=>?_)
 simp only [go_sem]
 refine ⟨⟨by omega,by omega,by omega,by omega⟩,?_⟩
 refine dN E (X:={ i:Nat // i≤ns.length }) (fun x=>[(1,.bx [1] 0),(2,.d .nils),(3,.vw [11] 0 ns.length),(13,.d (.sl (some 9) (ns.map enD))),(14,.d (i64 ns.length)),(15,.d (i64 x.1))])
  (fun x=>[([1],.box [.d (.sl (some 9) (ns.map enD))]),([11],.arr none ((iP ns x.1).map i64))]) [11,1] (fun x=>ns.length-x.1) ⟨0,Nat.zero_le _⟩ ?_ ?_
 ·rw [qj,List.map_replicate]
  simp only [go_sem]
  all_goals rfl
 rintro ⟨i,hi⟩ E0
 refine bk E0 fun Q' hQ E'=>?_
 simp only at hi ⊢
 simp only [go_sem]
 refine ai E' (fun g1=>?_) (fun g1=>?_)<;>simp only [go_sem]
 ·have hi':i<ns.length:=by omega
  refine ⟨by omega,?_⟩
  have hg:=bO hi'
  have hst:=qb hi'
  rw [mr] at hst
  have hki:=hk i hi'
  have hsi:=hs _ (by rw [bh hi'];exact List.getElem_mem hi':ndE ns i∈ns)
  obtain ⟨n,hne⟩:∃ n,n=ndE ns i:=⟨_,rfl⟩
  rw [← hne] at hg hst hki hsi
  rw [show iP ns i=dZ ns i 0 by unfold iP;rw [if_pos hi'],hg]
  obtain ⟨hd1,hd2⟩:=dp (ns:=ns) (i:=i) hi
  have hkc:=ov (G:=G) n hsi
  obtain ⟨K,hK⟩:∃ K,K=aj n:=⟨_,rfl⟩
  have hKl:K.length≤1000003:=by rw [hK,bd];unfold aF;have:=cI n.k;split<;>omega
  rw [← hK] at hkc hki hst
  simp only [go_sem]
  refine ab E' [.d (enD n)] [] [] hkc rfl rfl ⟨by simp only [go_sem],by rw [aa];decide⟩ rfl (by simp only [go_sem]) (by simp only [go_sem]) ?_
  rintro _ _ ⟨rfl,rfl⟩
  simp only [go_sem]
  refine lL E' [21,0] none (K.map i64) rfl ?_
  simp only [go_sem]
  refine dN E' (X:={ q:Nat // q≤K.length }) (fun x=>[(1,.bx [1] 0),(2,.d .nils),(3,.vw [11] 0 ns.length),(4,.d (i64 i)),(5,.bx [5] 0),(13,.d (.sl (some 9) (ns.map enD))),(14,.d (i64 ns.length)),(15,.d (i64 i)),(21,.d (.sl none (K.map i64))),(22,.d (i64 K.length)),(23,.d (i64 x.1))])
   (fun x=>[([1],.box [.d (.sl (some 9) (ns.map enD))]),([11],.arr none ((dZ ns i (mx (bK ns i) (K.take x.1))).map i64)),([5],.box [.d (i64 n.k),.d (i64 n.a),.d (i64 n.b),.d (i64 n.c),.d (i64 n.n),.d (.str n.name),.d (.str n.s),.d (.sl (some 3) (n.l.map fD)),.d (i64 n.pos)])]) [5,11,1] (fun x=>K.length-x.1) ⟨0,Nat.zero_le _⟩ ?_ ?_
  ·simp only [go_sem]
   all_goals rfl
  rintro ⟨q,hq⟩ E2
  refine bk E2 fun Q2 hQ2 E3=>?_
  simp only at hq ⊢
  have hal:=uf hi' (mx (bK ns i) (K.take q))
  have hmb:=DS hd2 (K.take q)
  simp only [go_sem]
  refine ai E3 (fun g2=>?_) (fun g2=>?_)<;>simp only [go_sem]
  ·have hq':q<K.length:=by omega
   have hkq:0≤K[q]∧K[q]<(i:Int):=by
    have:=List.all_eq_true.1 hki K[q] (List.getElem_mem hq')
    simpa [inB] using this
   refine ⟨by omega,?_⟩
   rw [aR hq',show K.getD q 0=K[q] by simp [hq']]
   simp only [go_sem]
   refine au mixed E3 fun X=>?_
   simp only [go_sem]
   refine ⟨by omega,?_⟩
   rw [aR (by omega),kH hi']
   simp only [go_sem]
   refine ⟨by omega,?_⟩
   rw [aR (by omega),tx hi _ (show K[q].toNat<i by omega)]
   simp only [go_sem]
   refine ⟨⟨by omega,by omega⟩,by decide +kernel,?_⟩
   rw [al (n:=(q:Int)+1) ⟨by omega,by omega⟩]
   rw [show (List.map i64 (dZ ns i (mx (bK ns i) (K.take q)))).set i (.int .i64 (if (bK ns i).getD K[q].toNat 0 > mx (bK ns i) (K.take q) then (bK ns i).getD K[q].toNat 0 else mx (bK ns i) (K.take q)))=(dZ ns i (mx (bK ns i) (K.take (q+1)))).map i64 by
    rw [List.take_succ_eq_append_getElem hq',yC,DW,← List.map_set,kN hi']]
   rw [hQ2]
   simp only [go_sem]
   refine ⟨⟨q+1,by omega⟩,by show K.length-(q+1)<_;omega,?_⟩
   first | rfl | exact ⟨rfl,rfl⟩
  ·rw [hQ2]
   have h3:q=K.length:=by omega
   subst h3
   rw [List.take_length] at *
   simp only [go_sem]
   refine ⟨by omega,?_⟩
   rw [aR (by omega),kH hi']
   simp only [go_sem]
   refine ⟨by omega,?_⟩
   rw [al (n:=mx (bK ns i) K+1) ⟨by omega,by omega⟩,al (n:=(i:Int)+1) ⟨by omega,by omega⟩]
   rw [show (List.map i64 (dZ ns i (mx (bK ns i) K))).set i (.int .i64 (mx (bK ns i) K+1))=(iP ns (i+1)).map i64 by
    rw [← hst,← List.map_set,kN hi']]
   rw [hQ]
   simp only [go_sem]
   refine ⟨⟨i+1,by omega⟩,by show ns.length-(i+1)<_;omega,?_⟩
   first | rfl | exact ⟨rfl,rfl⟩
 ·rw [hQ]
  have h3:i=ns.length:=by omega
  subst h3
  simp only [go_sem]
  refine ⟨[([11],none,(iP ns ns.length).map i64)],?_⟩
  rw [show iP ns ns.length=bw ns [] by unfold iP;rw [if_neg (Nat.lt_irrefl _)]]
  simp only [go_sem]
  have hdl:=(dp (ns:=ns) (Nat.le_refl _)).1
  unfold bK at hdl
  rw [List.take_length] at hdl
  rw [List.take_of_length_le (by rw [List.length_map,hdl];exact Nat.le_refl _)]
end Go.Proofs.YtejpnabbmgpmaaaGreatDoor

namespace Go.Proofs.YtejpnabbmgpmaaaGreatDoor
open Go.Ab
theorem DE {cs:List Int} {k:Int} {j:Nat} (hj:j<cs.length) (hk:0≤k):(bump cs k).getD j 0=cs.getD j 0+(if k=(j:Int) then 1 else 0):=by
 unfold bump
 rw [List.getD_eq_getElem?_getD,List.getElem?_set]
 by_cases h:k.toNat=j
 ·rw [if_pos h,if_pos (by omega)]
  have:k=(j:Int):=by omega
  subst this
  simp [hj]
 ·rw [if_neg h,if_neg (by omega)]
  simp
theorem pZ {j:Nat}:∀ (ks cs:List Int),j<cs.length→(∀ k∈ks,0≤k)→(bumps cs ks).getD j 0=cs.getD j 0+(ks.countP (fun x=>decide (x=(j:Int))):Nat)
 | [],cs,_,_=>by simp [bumps]
 | k::r,cs,hj,hk=>by
   show (bumps (bump cs k) r).getD j 0=_
   rw [pZ r _ (by rw [tz];exact hj) (fun x hx=>hk x (List.mem_cons_of_mem _ hx)),DE hj (hk k List.mem_cons_self),List.countP_cons]
   by_cases h:k=(j:Int)<;>simp [h]<;>omega
theorem AR (cs a b:List Int):bumps cs (a++b)=bumps (bumps cs a) b:=by simp [bumps]
def cnts (ns:List EN) (i:Nat):List Int:=bumps (List.replicate ns.length 0) ((ns.take i).flatMap aj)
theorem gE (ns:List EN) (i:Nat):(cnts ns i).length=ns.length:=by unfold cnts;rw [fb,List.length_replicate]
theorem lu {ns:List EN} {i:Nat} (h:i<ns.length):cnts ns (i+1)=bumps (cnts ns i) (aj (ndE ns i)):=by
 unfold cnts
 rw [List.take_succ_eq_append_getElem h,List.flatMap_append,AR,bh h]
 simp
theorem sk {ns:List EN} (hs:∀ n∈ns,n.l.length≤1000000):∀ {i:Nat},i≤ns.length→Bd (i*1000003) (cnts ns i)
 | 0,_=>by
   intro c hc
   rw [show cnts ns 0=List.replicate ns.length 0 by simp [cnts,bumps],List.mem_replicate] at hc
   omega
 | i+1,h=>by
   have ih:=sk hs (i:=i) (by omega)
   rw [lu (by omega)]
   intro c hc
   have:=ih.bumps (ks:=aj (ndE ns i)) c hc
   have hl:(aj (ndE ns i)).length≤1000003:=by
    rw [bd];unfold aF
    have:=cI (ndE ns i).k
    have h2:(ndE ns i).l.length≤1000000:=by rw [bh (by omega)];exact hs _ (List.getElem_mem _)
    split<;>omega
   omega
theorem uQ {ns:List EN} (hk:∀ i,i<ns.length→(aj (ndE ns i)).all (inB i)=true):((cnts ns ns.length).take (ns.length-1)).any (fun c=>!decide (c=1))=!gO ns:=by
 have hnn:∀ k∈ns.flatMap aj,0≤k:=fun k hkm=>by
  obtain ⟨n,hn,hkn⟩:=List.mem_flatMap.1 hkm
  obtain ⟨i,hi,rfl⟩:=List.mem_iff_getElem.1 hn
  have h1:=hk i hi
  rw [bh hi] at h1
  have:=List.all_eq_true.1 h1 k hkn
  simp only [inB,Bool.and_eq_true,decide_eq_true_eq] at this
  exact this.1
 have hget:∀ j,j<ns.length→(cnts ns ns.length).getD j 0=(ox ns j:Int):=fun j hj=>by
  unfold cnts ox
  rw [List.take_length,pZ _ _ (by simpa using hj) hnn]
  simp [hj]
 have hl:=gE ns ns.length
 unfold gO
 rw [Bool.eq_iff_iff]
 simp only [List.any_eq_true,Bool.not_eq_true',decide_eq_false_iff_not,List.all_eq_false,List.mem_range,decide_eq_true_eq]
 constructor
 ·rintro ⟨c,hc,h1⟩
  obtain ⟨j,hj,rfl⟩:=List.mem_iff_getElem.1 hc
  rw [List.length_take] at hj
  refine ⟨j,by omega,fun h=>h1 ?_⟩
  have:=hget j (by omega)
  rw [h] at this
  rw [List.getElem_take]
  rw [List.getD_eq_getElem?_getD,List.getElem?_eq_getElem (by omega)] at this
  simpa using this
 ·rintro ⟨j,hj,h1⟩
  refine ⟨(cnts ns ns.length)[j],List.mem_iff_getElem.2 ⟨j,by rw [List.length_take];omega,by rw [List.getElem_take]⟩,fun h=>h1 ?_⟩
  have:=hget j (by omega)
  rw [List.getD_eq_getElem?_getD,List.getElem?_eq_getElem (by omega)] at this
  simp only [Option.getD_some,h] at this
  omega
theorem HP.clo {P:Program} {G:List (Nat × Obj)} {f:FuncId} {args:List AV} {ds:List D} {Q:AV→Prop} (hl:args.length=ds.length)
  (hr:∀ (i:Nat) x y,args[i]?=some x→ds[i]?=some y→x=.d y∨∃ g,x=.clo g []∧y=.clo g []) (h:HP P G f ds Q):HCall P G f args [] [] (fun r hp'=>Q r∧r.inU []=true∧hp'=[]):=by
 refine ⟨h.1,fun B β vs w h1 h2 h3 h4 h5=>h.2 B β vs w (h1.trans (by simpa using hl)) h2 h3 h4 { tms:=h5.tms,io:=h5.io,size:=h5.size,frame:=h5.frame,slots:=fun t=>?_,objs:=h5.objs,blocks:=h5.blocks,inj:=h5.inj,us:=h5.us,stay:=h5.stay }⟩
 have hv:=h5.slots t
 rw [eC,aY,if_pos (Nat.zero_le _),Nat.sub_zero] at hv ⊢
 show VR w.heap ((mk (aJ 0 (ds.map .d)) [] []).own B.A β) [] _ β _ _
 rw [List.getElem?_map]
 cases hx:args[t]? with
 | none =>
   rw [List.getElem?_eq_none (by rw [← hl];exact List.getElem?_eq_none_iff.1 hx)]
   exact .un _
 | some x =>
   have hlt:=(List.getElem?_eq_some_iff.1 hx).1
   have hy:ds[t]?=some ds[t]:=List.getElem?_eq_getElem (by omega)
   rw [hx] at hv
   rw [hy]
   simp only [Option.map_some,Option.getD_some] at hv ⊢
   rcases hr t _ _ hx hy with e | ⟨g,e1,e2⟩
   ·rw [← e];exact hv
   ·rw [e1] at hv
    rw [e2]
    generalize vs.getD t undef=v at hv ⊢
    cases hv with
    | clo _ vs' _ hs hc=>exact .d _ _ (.clo _ _ _ hs (fun i d hd=>by simp at hd))
def okI (ns:List EN) (i:Nat):Bool:=ar (ndE ns i) && b7 ns i
theorem qB {ns:List EN} {i:Nat} (h:b7 ns i=true):(aj (ndE ns i)).all (inB i)=true:=by
 unfold b7 at h
 rw [Bool.and_eq_true] at h
 exact h.1
set_option maxHeartbeats 1000000 in
theorem vZ {G} (ns:List EN) (hs:∀ n∈ns,eY BIG n) (hN:ns.length≤1000000):HP Tryz.prog G 27 [exD ns] (fun r=>r=.d (i64 (dt ns))):=by
 generalize hb:dt ns=b
 unfold dt at hb
 unfold exD
 refine an Tryz.func27 rfl (by decide +kernel) (by simp [Tryz.ntmps27]) (veil fun E=>?_)
 simp only [go_sem]
 repeat (first
  | (apply cq E;(· simp only [go_sem]);(· intro h;(try simp only [bq] at h);simp only [↓h,go_sem];rfl);simp only [go_sem])
  | (apply bl E;(· simp only [go_sem]);(· intro h;(try simp only [bq] at h);simp only [↓h,go_sem];rfl);(· intro h;(try simp only [bq] at h);simp only [↓h,go_sem];rfl);simp only [go_sem])
  | (apply bj E;(· simp only [go_sem]);(· rfl);(· intro h h';(try simp only [bq] at h h');simp only [↓h,↓h',go_sem];rfl);simp only [go_sem])
  | (apply aQ E;(· simp only [go_sem]);(· rfl);(· intro h h';(try simp only [bq] at h h');simp only [↓h,↓h',go_sem];rfl);(· intro h h';(try simp only [bq] at h h');simp only [↓h,↓h',go_sem];rfl);simp only [go_sem])
  | (apply b9 E;(· decide);simp only [go_sem]))
 refine aV E (fun g=>?_) (fun g=>?_)<;>simp only [go_sem]
 ·simp only [Bool.or_eq_true,decide_eq_true_eq] at g
  rw [if_pos (by omega)] at hb
  rw [hb]
 have g':0<ns.length∧ns.length≤600:=by
  simp only [Bool.or_eq_false_iff,decide_eq_false_iff_not] at g
  omega
 rw [if_neg (by omega)] at hb
 refine ⟨⟨by omega,by omega,by omega,by omega⟩,?_⟩
 have hs':∀ n∈ns,n.l.length≤1000000:=fun n hn=>(hs n hn).l
 refine dN E (X:={ i:Nat // i≤ns.length∧∀ j,j<i→okI ns j=true }) (fun x=>[(1,.bx [1] 0),(2,.d (i64 0)),(3,.vw [19] 0 ns.length),(21,.d (.sl (some 9) (ns.map enD))),(22,.d (i64 ns.length)),(23,.d (i64 x.1))])
  (fun x=>[([1],.box [.d (.sl (some 9) (ns.map enD))]),([19],.arr none ((cnts ns x.1).map i64))]) [19,1] (fun x=>ns.length-x.1) ⟨0,Nat.zero_le _,fun j h=>absurd h (Nat.not_lt_zero _)⟩ ?_ ?_
 ·rw [show cnts ns 0=List.replicate ns.length 0 by simp [cnts,bumps],List.map_replicate]
  simp only [go_sem]
  all_goals rfl
 rintro ⟨i,hi,hok⟩ E0
 refine bk E0 fun Q' hQ E'=>?_
 simp only at hi hok ⊢
 simp only [go_sem]
 refine ai E' (fun g1=>?_) (fun g1=>?_)<;>simp only [go_sem]
 ·have hi':i<ns.length:=by omega
  refine ⟨by omega,?_⟩
  have hg:=bO hi'
  have hsn:=hs _ (by rw [bh hi'];exact List.getElem_mem hi':ndE ns i∈ns)
  have hc1:=JZ (G:=G) _ hsn
  have hc2:=Kd (G:=G) ns i (cnts ns i) (i*1000003) hi' hN (gE ns i) hsn.l (sk hs' hi) (by omega)
  have hok1:okI ns i=(ar (ndE ns i) && b7 ns i):=rfl
  have hcs:=lu hi'
  rw [← hcs] at hc2
  have bad:okI ns i=false→okE ns=false:=fun h=>List.all_eq_false.2 ⟨i,List.mem_range.2 hi',by
   show ¬ okI ns i=true
   rw [h];decide⟩
  have good:okI ns i=true→∀ j,j<i+1→okI ns j=true:=fun h j hj=>by
   by_cases e:j=i
   ·rw [e];exact h
   ·exact hok j (by omega)
  generalize ndE ns i=n at hg hc1 hok1
  generalize ar n=x at hc1 hok1
  generalize b7 ns i=y at hc2 hok1
  rw [hg]
  simp only [go_sem]
  refine ae E' hc1 rfl rfl (by simp) ?_
  rintro _ rfl
  simp only [go_sem]
  refine ct E' (fun h1=>?_) (fun h1=>?_)<;>simp only [go_sem]
  ·have hx:x=false:=by simpa using h1
   rw [hQ]
   simp only [go_sem]
   rw [bad (by rw [hok1,hx];rfl),Bool.false_and] at hb
   rw [← hb]
   rfl
  ·have hx:x=true:=by simpa using h1
   rw [ir]
   simp only [go_sem]
   refine ah E' (tau [([100],[19])]) [.d (exD ns),.d (i64 i),.vw [100] 0 ns.length] [([100],.arr none ((cnts ns i).map i64))] [100] hc2 rfl (by simp only [go_sem];try rfl) ⟨by simp only [go_sem],by rw [aa];decide⟩ rfl (by simp only [go_sem]) (by simp only [go_sem]) ?_
   rintro _ _ ⟨cs',hl',hcs',rfl,rfl⟩
   simp only [go_sem]
   refine ⟨by rw [gE,hl'];exact Nat.le_refl _,?_⟩
   refine aV E' (fun h2=>?_) (fun h2=>?_)<;>simp only [go_sem]
   ·rw [hQ]
    simp only [go_sem]
    rw [bad (by rw [hok1,show y=false by simpa using h2,Bool.and_false]),Bool.false_and] at hb
    rw [← hb]
    rfl
   ·have hy:y=true:=by simpa using h2
    rw [hQ,hcs' hy,al (n:=(i:Int)+1) ⟨by omega,by omega⟩]
    simp only [go_sem]
    refine ⟨⟨i+1,by omega,good (by rw [hok1,hx,hy];rfl)⟩,by show ns.length-(i+1)<_;omega,?_⟩
    first | rfl | exact ⟨rfl,rfl⟩
 ·rw [hQ]
  have h3:i=ns.length:=by omega
  subst h3
  simp only [go_sem]
  rw [al (n:=(ns.length:Int)-1) ⟨by omega,by omega⟩]
  refine ⟨by omega,?_⟩
  rw [show ((ns.length:Int)-1).toNat-0=ns.length-1 by omega]
  have hkk:∀ i,i<ns.length→(aj (ndE ns i)).all (inB i)=true:=fun i hi=>by
   have:=hok i hi
   unfold okI at this
   rw [Bool.and_eq_true] at this
   exact qB this.2
  have hokE:okE ns=true:=List.all_eq_true.2 fun j hj=>hok j (List.mem_range.1 hj)
  have hcl:=gE ns ns.length
  have hc3:=IL (G:=G) ((cnts ns ns.length).take (ns.length-1)) (fun c=>!decide (c=1)) 57 [] (by rw [List.length_take];omega) (fun x _=>JO x)
  rw [uQ hkk,List.map_take] at hc3
  have hc4:=HP.clo (args:=[.d (.sl none (((cnts ns ns.length).map i64).take (ns.length-1))),.clo 57 []]) rfl (fun i x y hx hy=>by
   rcases i with _ | _ | i
   ·cases hx;cases hy;exact .inl rfl
   ·cases hx;cases hy;exact .inr ⟨57,rfl,rfl⟩
   ·cases hx) hc3
  refine D0 E [([19],none,(cnts ns ns.length).map i64)] [.d (.sl none (((cnts ns ns.length).map i64).take (ns.length-1))),.clo 57 []] [] [] hc4 (by rintro _ _ ⟨rfl,_,rfl⟩;exact ⟨rfl,rfl⟩) (by simp only [go_sem]) rfl (by simp only [go_sem];try rfl) ⟨by simp only [go_sem],by rw [aa];decide⟩ rfl (by simp only [go_sem]) (by simp only [go_sem]) ?_
  rintro _ _ ⟨rfl,_,rfl⟩
  simp only [go_sem]
  rw [hokE,Bool.true_and] at hb
  have hdl:=(dp (ns:=ns) (Nat.le_refl _)).1
  unfold bK at hdl
  rw [List.take_length] at hdl
  refine aV E (fun k1=>?_) (fun k1=>?_)<;>simp only [go_sem]
  ·have:gO ns=false:=by simpa using k1
   rw [this] at hb
   rw [← hb]
   rfl
  ·have:gO ns=true:=by simpa using k1
   rw [this,if_pos rfl] at hb
   unfold fw at hb
   have hc5:=Iq (G:=G) ns hN hs' hkk
   unfold exD at hc5
   refine au mixed E fun X=>?_
   simp only [go_sem]
   refine dX X hc5 rfl rfl (by simp) ?_
   simp only [go_sem]
   rw [al (n:=(ns.length:Int)-1) ⟨by omega,by omega⟩]
   refine ⟨⟨by omega,by rw [hdl];omega⟩,?_⟩
   rw [aR (by omega),show ((ns.length:Int)-1).toNat=ns.length-1 by omega]
   simp only [go_sem]
   refine ⟨by decide +kernel,?_⟩
   refine ai E (fun k2=>?_) (fun k2=>?_)<;>simp only [go_sem]
   ·rw [if_pos k2] at hb
    rw [← hb]
   ·rw [if_neg k2] at hb
    rw [← hb]
end Go.Proofs.YtejpnabbmgpmaaaGreatDoor

namespace Go.Proofs.YtejpnabbmgpmaaaGreatDoor
open Go.Ab
def Seg (N:Nat) (xs:Nat→List D) (n:Nat) (L:List Int):Prop:=n+L.length≤N∧∀ j,j<L.length→xs (n+j)=[i64 (L.getD j 0)]
theorem Seg.left {N:Nat} {xs:Nat→List D} {n:Nat} {a b:List Int} (h:Seg N xs n (a++b)):Seg N xs n a :=
 ⟨by have:=h.1;rw [List.length_append] at this;omega,fun j hj=>by
  rw [h.2 j (by rw [List.length_append];omega),List.getD_eq_getElem?_getD,List.getD_eq_getElem?_getD,List.getElem?_append_left hj]⟩
theorem Seg.right {N:Nat} {xs:Nat→List D} {n:Nat} {a b:List Int} (h:Seg N xs n (a++b)):Seg N xs (n+a.length) b :=
 ⟨by have:=h.1;rw [List.length_append] at this;omega,fun j hj=>by
  have:=h.2 (a.length+j) (by rw [List.length_append];omega)
  rw [← Nat.add_assoc] at this
  rw [this,List.getD_eq_getElem?_getD,List.getD_eq_getElem?_getD,List.getElem?_append_right (by omega)]
  simp⟩
end Go.Proofs.YtejpnabbmgpmaaaGreatDoor

namespace Go.Proofs.YtejpnabbmgpmaaaGreatDoor
open Go.Ab
structure Walk (ns:List EN) (its:List Int):Prop where
 nd:its.Nodup
 inn:∀ x∈its,0≤x∧x<(ns.length:Int)
 pre:∀ n (h:n<its.length),∀ k∈aj (ndE ns its[n].toNat),k∈its.take n
def og (ns:List EN) (its:List Int) (x:Int):EN:=aM (ndE ns x.toNat) ((aj (ndE ns x.toNat)).map fun k=>(its.idxOf k:Int))
def KM (ns:List EN) (its:List Int) (n:Nat):List EN:=(its.take n).map (og ns its)
end Go.Proofs.YtejpnabbmgpmaaaGreatDoor

namespace Go.Proofs.YtejpnabbmgpmaaaGreatDoor
open Go.Ab
structure bx (ns:List EN):Prop where
 pos:0<ns.length
 few:ns.length≤600
 right:∀ i,i<ns.length→ar (ndE ns i)=true
 link:∀ i,i<ns.length→b7 ns i=true
 once:gO ns=true
 deep:fw ns≤100
theorem tW {ns:List EN} (h:dt ns=0):bx ns:=by
 unfold dt at h
 split at h
 ·exact absurd h (by decide)
 rename_i h1
 split at h
 ·rename_i h2
  split at h
  ·exact absurd h (by decide)
  ·rename_i h3
   rw [Bool.and_eq_true] at h2
   have h4:∀ i,i<ns.length→ar (ndE ns i)=true∧b7 ns i=true:=fun i hi=>by
    have:=List.all_eq_true.1 h2.1 i (List.mem_range.2 hi)
    simpa [Bool.and_eq_true] using this
   exact ⟨by omega,by omega,fun i hi=>(h4 i hi).1,fun i hi=>(h4 i hi).2,h2.2,by omega⟩
 ·exact absurd h (by decide)
theorem bx.kids {ns:List EN} (h:bx ns):∀ i,i<ns.length→(aj (ndE ns i)).all (inB i)=true:=fun i hi=>qB (h.link i hi)
theorem ju {n:EN} (h:ar n=true):n.l.length≤30:=by
 unfold ar bm at h
 simp only [Bool.and_eq_true] at h
 have h1:=h.2.1.2
 split at h1
 ·simp only [Bool.and_eq_true,decide_eq_true_eq] at h1
  exact h1.2.1.2
 ·have:n.l=[]:=by simpa using h1
  rw [this];decide
theorem bx.l {ns:List EN} (h:bx ns):∀ n∈ns,n.l.length≤30:=fun n hn=>by
 obtain ⟨i,hi,rfl⟩:=List.mem_iff_getElem.1 hn
 have:=h.right i hi
 rw [bh hi] at this
 exact ju this
theorem Tr.sub {ns:List EN} (h:Tr ns):KM ns (bT ns ns.length ((ns.length:Int)-1)) (bT ns ns.length ((ns.length:Int)-1)).length=ns:=by
 have h1:=h.norm
 have h0:=h.kids.1
 unfold Jq at h1
 rw [show ((ns.length:Int)-1).toNat+1=ns.length by omega] at h1
 unfold KM og
 rw [List.take_length]
 exact h1
end Go.Proofs.YtejpnabbmgpmaaaGreatDoor

namespace Go.Proofs.YtejpnabbmgpmaaaGreatDoor
open Go.Ab
theorem FE {ns:List EN} {i:Nat} {k:Int} (hk:k∈aj (ndE ns i)) (h:inB i k=false):b7 ns i=false:=by
 have:(aj (ndE ns i)).all (inB i)=false:=List.all_eq_false.2 ⟨k,hk,by rw [h];decide⟩
 unfold b7
 rw [show ((aj (ndE ns i)).all fun k=>decide (0≤k) && decide (k<(i:Int)))=false from this,Bool.false_and]
theorem DH {ns:List EN} {i:Nat} (h:(aj (ndE ns i)).all (inB i)=true):b7 ns i=(decide ((ndE ns i).k≠8) || decide ((ndE ns (ndE ns i).a.toNat).k=5)):=by
 unfold b7
 rw [show ((aj (ndE ns i)).all fun k=>decide (0≤k) && decide (k<(i:Int)))=true from h,Bool.true_and]
set_option maxHeartbeats 4000000 in
theorem wJ {G} (ns:List EN) (hs:∀ n∈ns,eY BIG n) (hN:ns.length≤1000000):HP Tryz.prog G 10 [exD ns] (fun r=>r=.d (i64 (dt ns))):=by
 generalize hb:dt ns=b
 unfold dt at hb
 unfold exD
 refine an Tryz.func10 rfl (by decide +kernel) (by simp [Tryz.ntmps10]) (veil fun E=>?_)
 simp only [go_sem]
 repeat (first
  | (apply cq E;(· simp only [go_sem]);(· intro h;(try simp only [bq] at h);simp only [↓h,go_sem];rfl);simp only [go_sem])
  | (apply bl E;(· simp only [go_sem]);(· intro h;(try simp only [bq] at h);simp only [↓h,go_sem];rfl);(· intro h;(try simp only [bq] at h);simp only [↓h,go_sem];rfl);simp only [go_sem])
  | (apply bj E;(· simp only [go_sem]);(· rfl);(· intro h h';(try simp only [bq] at h h');simp only [↓h,↓h',go_sem];rfl);simp only [go_sem])
  | (apply aQ E;(· simp only [go_sem]);(· rfl);(· intro h h';(try simp only [bq] at h h');simp only [↓h,↓h',go_sem];rfl);(· intro h h';(try simp only [bq] at h h');simp only [↓h,↓h',go_sem];rfl);simp only [go_sem])
  | (apply b9 E;(· decide);simp only [go_sem]))
 refine aV E (fun g=>?_) (fun g=>?_)
 ·simp only [go_sem]
  simp only [Bool.or_eq_true,decide_eq_true_eq] at g
  rw [if_pos (by omega)] at hb
  rw [← hb]
 have g':0<ns.length∧ns.length≤600:=by
  simp only [Bool.or_eq_false_iff,decide_eq_false_iff_not] at g
  omega
 rw [if_neg (by omega)] at hb
 simp only [go_sem]
 refine au mixed E fun X=>?_
 simp only [go_sem]
 refine H2 X (d:=22) (t:=58) (e:=3) (n:=ns.length) (z:=i64 0) (by rw [Gs]) (by rw [ti3];rfl) (by rw [ti3];rfl) rfl rfl (by rw [ti3];exact ⟨by simp only;omega,by omega⟩) ⟨by simp only [go_sem],by rw [aa];decide⟩ ?_
 simp only [go_sem]
 refine H2 X (d:=26) (t:=58) (e:=3) (n:=ns.length) (z:=i64 0) (by rw [Gs]) (by rw [ti3];rfl) (by rw [ti3];rfl) rfl rfl (by rw [ti3];exact ⟨by simp only;omega,by omega⟩) ⟨by simp only [go_sem],by rw [aa];decide⟩ ?_
 simp only [go_sem]
 refine ⟨by decide +kernel,?_⟩
 have hs':∀ n∈ns,n.l.length≤1000000:=fun n hn=>(hs n hn).l
 refine dN E (X:={ i:Nat // i≤ns.length∧∀ j,j<i→okI ns j=true }) (fun x=>[(1,.bx [1] 0),(2,.d (i64 0)),(3,.vw [22] 0 ns.length),(4,.vw [26] 0 ns.length),(5,.d (i64 x.1))])
  (fun x=>[([1],.box [.d (.sl (some 9) (ns.map enD))]),([22],.arr none ((cnts ns x.1).map i64)),([26],.arr none ((iP ns x.1).map i64))]) [1,22,26] (fun x=>ns.length-x.1) ⟨0,Nat.zero_le _,fun j h=>absurd h (Nat.not_lt_zero _)⟩ ?_ ?_
 ·rw [show cnts ns 0=List.replicate ns.length 0 by simp [cnts,bumps],qj,List.map_replicate]
  simp only [go_sem]
  all_goals first | rfl | exact ⟨rfl,rfl⟩ | exact ⟨rfl,rfl,rfl⟩
 rintro ⟨i,hi,hok⟩ E0
 refine bk E0 fun Q' hQ E'=>?_
 simp only at hi hok ⊢
 simp only [go_sem]
 refine ai E' (fun g1=>?_) (fun g1=>?_)<;>simp only [go_sem]
 ·have hi':i<ns.length:=by omega
  have hg:=bO hi'
  have hsn:=hs _ (by rw [bh hi'];exact List.getElem_mem hi':ndE ns i∈ns)
  have hc1:=IU (G:=G) _ hsn
  have hc2:=vI (G:=G) _ hsn.l
  have hok1:okI ns i=(ar (ndE ns i) && b7 ns i):=rfl
  have hcs:=lu hi'
  have hdt:=qb hi'
  rw [mr] at hdt
  have hlno:∀ k∈aj (ndE ns i),inB i k=false→b7 ns i=false:=fun k h1 h2=>FE h1 h2
  have hlrec:=DH (ns:=ns) (i:=i)
  have bad:okI ns i=false→okE ns=false:=fun h=>List.all_eq_false.2 ⟨i,List.mem_range.2 hi',by
   show ¬ okI ns i=true
   rw [h];decide⟩
  have good:okI ns i=true→∀ j,j<i+1→okI ns j=true:=fun h j hj=>by
   by_cases e:j=i
   ·rw [e];exact h
   ·exact hok j (by omega)
  obtain ⟨n,hne⟩:∃ n,n=ndE ns i:=⟨_,rfl⟩
  rw [← hne] at hg hsn hc1 hc2 hok1 hcs hdt hlno hlrec
  generalize ar n=x at hc1 hok1
  generalize b7 ns i=y at hlno hlrec hok1
  obtain ⟨K,hK⟩:∃ K,K=aj n:=⟨_,rfl⟩
  have hKl:K.length≤1000003:=by rw [hK,bd];unfold aF;have:=cI n.k;have:=hsn.l;split<;>omega
  rw [← hK] at hc2 hcs hdt hlno hlrec
  obtain ⟨hd1,hd2⟩:=dp (ns:=ns) (i:=i) hi
  have hcb:=sk hs' hi
  have hcl:=gE ns i
  rw [show iP ns i=dZ ns i 0 by unfold iP;rw [if_pos hi']]
  refine ⟨by omega,?_⟩
  rw [hg]
  simp only [go_sem]
  refine ae E' hc1 rfl rfl (by simp) ?_
  rintro _ rfl
  simp only [go_sem]
  refine aV E' (fun h1=>?_) (fun h1=>?_)<;>simp only [go_sem]
  ·have hx:x=false:=by simpa using h1
   rw [hQ]
   simp only [go_sem]
   rw [bad (by rw [hok1,hx];rfl),Bool.false_and] at hb
   rw [← hb]
   rfl
  have hx:x=true:=by simpa using h1
  refine ⟨by omega,?_⟩
  rw [hg]
  simp only [go_sem]
  refine ae E' hc2 rfl rfl (by simp) ?_
  rintro _ rfl
  simp only [go_sem]
  refine dN E' (X:={ q:Nat // q≤K.length∧(K.take q).all (inB i)=true }) (fun x=>[(1,.bx [1] 0),(2,.d (i64 0)),(3,.vw [22] 0 ns.length),(4,.vw [26] 0 ns.length),(5,.d (i64 i)),(6,.d (.sl none (K.map i64))),(7,.d (i64 x.1))])
   (fun x=>[([1],.box [.d (.sl (some 9) (ns.map enD))]),([22],.arr none ((bumps (cnts ns i) (K.take x.1)).map i64)),([26],.arr none ((dZ ns i (mx (bK ns i) (K.take x.1))).map i64))]) [1,22,26] (fun x=>K.length-x.1) ⟨0,Nat.zero_le _,by simp⟩ ?_ ?_
  ·simp only [go_sem]
   all_goals first | rfl | exact ⟨rfl,rfl⟩ | exact ⟨rfl,rfl,rfl⟩
  rintro ⟨q,hq,hall⟩ E2
  refine bk E2 fun Q2 hQ2 E3=>?_
  simp only at hq hall ⊢
  have hal:=uf hi' (mx (bK ns i) (K.take q))
  have hmb:=DS hd2 (K.take q)
  have hbl:=fb (K.take q) (cnts ns i)
  have htl:(K.take q).length≤1000003:=by rw [List.length_take];omega
  simp only [go_sem]
  refine ai E3 (fun g2=>?_) (fun g2=>?_)<;>simp only [go_sem]
  ·have hq':q<K.length:=by omega
   have hkm:K[q]∈K:=List.getElem_mem hq'
   have hbd:=(hcb.bumps (ks:=K.take q)).get K[q].toNat
   refine ⟨by omega,?_⟩
   rw [aR hq',show K.getD q 0=K[q] by simp [hq']]
   simp only [go_sem]
   refine aK E3 (fun g3=>?_) (fun g3=>?_)
   ·simp only [go_sem]
    have g5:inB i K[q]=false:=by
     rw [Bool.eq_false_iff]
     intro hc
     simp only [inB,Bool.and_eq_true,decide_eq_true_eq] at hc
     omega
    rw [hQ2]
    simp only [go_sem]
    rw [hQ]
    simp only [go_sem]
    rw [bad (by rw [hok1,hlno _ hkm g5,Bool.and_false]),Bool.false_and] at hb
    rw [← hb]
    try rfl
   ·simp only [go_sem]
    refine ⟨by omega,?_⟩
    rw [aR hq',show K.getD q 0=K[q] by simp [hq']]
    simp only [go_sem]
    refine ai E3 (fun g4=>?_) (fun g4=>?_)<;>simp only [go_sem]
    ·have g5:inB i K[q]=false:=by
      rw [Bool.eq_false_iff]
      intro hc
      simp only [inB,Bool.and_eq_true,decide_eq_true_eq] at hc
      omega
     rw [hQ2]
     simp only [go_sem]
     rw [hQ]
     simp only [go_sem]
     rw [bad (by rw [hok1,hlno _ hkm g5,Bool.and_false]),Bool.false_and] at hb
     rw [← hb]
     try rfl
    have g5:inB i K[q]=true:=by
     unfold inB
     rw [decide_eq_true (show 0≤K[q] by omega),decide_eq_true (show K[q]<(i:Int) by omega)]
     rfl
    refine ⟨by omega,?_⟩
    rw [aR hq',show K.getD q 0=K[q] by simp [hq']]
    simp only [go_sem]
    refine ⟨by omega,?_⟩
    rw [aR (by omega)]
    simp only [go_sem]
    refine ⟨by omega,?_⟩
    rw [al (n:=(bumps (cnts ns i) (K.take q)).getD K[q].toNat 0+1) ⟨by omega,by omega⟩]
    rw [show (List.map i64 (bumps (cnts ns i) (K.take q))).set K[q].toNat (.int .i64 ((bumps (cnts ns i) (K.take q)).getD K[q].toNat 0+1))=(bumps (cnts ns i) (K.take (q+1))).map i64 by
     rw [List.take_succ_eq_append_getElem hq',nM];unfold bump;rw [List.map_set]]
    refine au mixed E3 fun X=>?_
    simp only [go_sem]
    refine ⟨by omega,?_⟩
    rw [aR (by omega),kH hi']
    simp only [go_sem]
    refine ⟨by omega,?_⟩
    rw [aR hq',show K.getD q 0=K[q] by simp [hq']]
    simp only [go_sem]
    refine ⟨by omega,?_⟩
    rw [aR (by omega),tx hi _ (show K[q].toNat<i by omega)]
    simp only [go_sem]
    refine ⟨by omega,?_⟩
    refine ⟨by decide +kernel,?_⟩
    rw [al (n:=(q:Int)+1) ⟨by omega,by omega⟩]
    rw [show (List.map i64 (dZ ns i (mx (bK ns i) (K.take q)))).set i (.int .i64 (if (bK ns i).getD K[q].toNat 0 > mx (bK ns i) (K.take q) then (bK ns i).getD K[q].toNat 0 else mx (bK ns i) (K.take q)))=(dZ ns i (mx (bK ns i) (K.take (q+1)))).map i64 by
     rw [List.take_succ_eq_append_getElem hq',yC,DW,← List.map_set,kN hi']]
    rw [hQ2]
    simp only [go_sem]
    refine ⟨⟨q+1,by omega,by rw [List.take_succ_eq_append_getElem hq',List.all_append,hall];simpa using g5⟩,by show K.length-(q+1)<_;omega,?_⟩
    first | rfl | exact ⟨rfl,rfl⟩ | exact ⟨rfl,rfl,rfl⟩
  ·rw [hQ2]
   have h3:q=K.length:=by omega
   subst h3
   rw [List.take_length] at *
   simp only [go_sem]
   refine ⟨by omega,?_⟩
   rw [aR (by omega),kH hi']
   simp only [go_sem]
   refine ⟨by omega,?_⟩
   rw [al (n:=mx (bK ns i) K+1) ⟨by omega,by omega⟩]
   rw [show (List.map i64 (dZ ns i (mx (bK ns i) K))).set i (.int .i64 (mx (bK ns i) K+1))=(iP ns (i+1)).map i64 by
    rw [← hdt,← List.map_set,kN hi'],← hcs]
   have hy:=hlrec hall
   refine au mixed E' fun X=>?_
   simp only [go_sem]
   refine ⟨by omega,?_⟩
   rw [hg]
   simp only [go_sem]
   refine Bx X (fun k8=>?_) (fun k8=>?_)<;>simp only [go_sem]
   ·have hka:K=[n.a,n.b]:=by rw [hK];unfold aj;rw [k8];rfl
    have ha:0≤n.a∧n.a<(i:Int):=by
     rw [hka] at hall
     simp only [List.all_cons,inB,Bool.and_eq_true,decide_eq_true_eq] at hall
     exact hall.1
    rw [ir]
    simp only [go_sem]
    refine ⟨by omega,?_⟩
    rw [hg]
    simp only [go_sem]
    refine ⟨by omega,?_⟩
    rw [bO (show n.a.toNat<ns.length by omega)]
    simp only [go_sem]
    refine ⟨by decide +kernel,?_⟩
    rw [decide_eq_false (show ¬ n.k≠8 from fun h=>h k8),Bool.false_or] at hy
    refine ai E' (fun g6=>?_) (fun g6=>?_)<;>simp only [go_sem]
    ·rw [hQ]
     simp only [go_sem]
     rw [bad (by rw [hok1,hy,decide_eq_false g6,Bool.and_false]),Bool.false_and] at hb
     rw [← hb]
     try rfl
    ·rw [hQ]
     simp only [go_sem]
     rw [al (n:=(i:Int)+1) ⟨by omega,by omega⟩]
     refine ⟨⟨i+1,by omega,good (by rw [hok1,hx,hy,decide_eq_true (by simpa using g6)];rfl)⟩,by show ns.length-(i+1)<_;omega,?_⟩
     first | rfl | exact ⟨rfl,rfl⟩ | exact ⟨rfl,rfl,rfl⟩
   ·rw [decide_eq_true (show n.k≠8 from k8),Bool.true_or] at hy
    refine ⟨by decide +kernel,?_⟩
    rw [hQ]
    simp only [go_sem]
    rw [al (n:=(i:Int)+1) ⟨by omega,by omega⟩]
    refine ⟨⟨i+1,by omega,good (by rw [hok1,hx,hy];rfl)⟩,by show ns.length-(i+1)<_;omega,?_⟩
    first | rfl | exact ⟨rfl,rfl⟩ | exact ⟨rfl,rfl,rfl⟩
 ·rw [hQ]
  have h3:i=ns.length:=by omega
  subst h3
  simp only [go_sem]
  have hokE:okE ns=true:=List.all_eq_true.2 fun j hj=>hok j (List.mem_range.1 hj)
  have hkk:∀ i,i<ns.length→(aj (ndE ns i)).all (inB i)=true:=fun i hi=>by
   have:=hok i hi
   unfold okI at this
   rw [Bool.and_eq_true] at this
   exact qB this.2
  have hoa:=uQ hkk
  have hcl:=gE ns ns.length
  have hdl:=(dp (ns:=ns) (Nat.le_refl _)).1
  unfold bK at hdl
  rw [List.take_length] at hdl
  rw [hokE,Bool.true_and] at hb
  rw [show iP ns ns.length=bw ns [] by unfold iP;rw [if_neg (Nat.lt_irrefl _)]]
  generalize cnts ns ns.length=C at hoa hcl ⊢
  refine dN E (X:={ j:Nat // j≤ns.length-1∧(C.take j).any (fun c=>!decide (c=1))=false }) (fun x=>[(1,.bx [1] 0),(2,.d (i64 0)),(3,.vw [22] 0 ns.length),(4,.vw [26] 0 ns.length),(8,.d (i64 x.1))])
   (fun _=>[([1],.box [.d (.sl (some 9) (ns.map enD))]),([22],.arr none (C.map i64)),([26],.arr none ((bw ns []).map i64))]) [1,22,26] (fun x=>ns.length-x.1) ⟨0,Nat.zero_le _,by simp⟩ ?_ ?_
  ·simp only [go_sem]
   all_goals first | rfl | exact ⟨rfl,rfl⟩
  rintro ⟨j,hj,hone⟩ E2
  refine bk E2 fun Q2 hQ2 E3=>?_
  simp only at hj hone ⊢
  simp only [go_sem]
  rw [al (n:=(ns.length:Int)-1) ⟨by omega,by omega⟩]
  refine ai E3 (fun g2=>?_) (fun g2=>?_)<;>simp only [go_sem]
  ·have hjc:j<C.length:=by omega
   refine ⟨by omega,?_⟩
   rw [aR hjc,show C.getD j 0=C[j] by simp [hjc]]
   simp only [go_sem]
   refine ai E3 (fun g3=>?_) (fun g3=>?_)<;>simp only [go_sem]
   ·rw [hQ2]
    simp only [go_sem]
    have hm:C[j]∈C.take (ns.length-1):=List.mem_iff_getElem.2 ⟨j,by rw [List.length_take];omega,by rw [List.getElem_take]⟩
    have:(C.take (ns.length-1)).any (fun c=>!decide (c=1))=true:=List.any_eq_true.2 ⟨_,hm,by simpa using g3⟩
    rw [this] at hoa
    rw [show gO ns=false by simpa using hoa.symm] at hb
    rw [← hb]
    rfl
   ·rw [hQ2]
    simp only [go_sem]
    rw [al (n:=(j:Int)+1) ⟨by omega,by omega⟩]
    refine ⟨⟨j+1,by omega,jt hjc hone (by simpa using g3)⟩,by show ns.length-(j+1)<_;omega,?_⟩
    first | rfl | exact ⟨rfl,rfl⟩ | exact ⟨rfl,rfl,rfl⟩
  ·rw [hQ2]
   have h4:j=ns.length-1:=by omega
   subst h4
   rw [hone] at hoa
   rw [show gO ns=true by simpa using hoa.symm,if_pos rfl] at hb
   unfold fw at hb
   simp only [go_sem]
   rw [al (n:=(ns.length:Int)-1) ⟨by omega,by omega⟩]
   refine ⟨by omega,?_⟩
   rw [show ((ns.length:Int)-1).toNat=ns.length-1 by omega,aR (by omega)]
   simp only [go_sem]
   refine ai E (fun k2=>?_) (fun k2=>?_)<;>simp only [go_sem]
   ·rw [if_pos k2] at hb
    rw [← hb]
    try rfl
   ·rw [if_neg k2] at hb
    rw [← hb]
    try rfl
end Go.Proofs.YtejpnabbmgpmaaaGreatDoor

namespace Go.Proofs.YtejpnabbmgpmaaaGreatDoor
open Go.Ab
def wA (n:EN):EN:={ n with l:=n.l.take 60 }
def wy (ns:List EN):List EN:=(ns.take 700).map wA
theorem Lb {G} (ns:List EN) (hl:ns.length≤9223372036854775807) (hll:∀ n∈ns,n.l.length≤9223372036854775807):HP Tryz.prog G 8 [exD ns] (fun r=>r=.d (exD (wy ns))):=by
 unfold exD
 refine bR Tryz.func8 rfl (by decide +kernel) (by simp [Tryz.ntmps8]) (veil fun E=>?_)
 simp only [go_sem]
 refine xO E [3] 0 99 (some 9) [.d .nils] rfl rfl (by rw [aa];decide) ?_
 simp only [go_sem]
 refine aU E (X:={ i:Nat // i≤ns.length∧i≤700 }) (fun x=>[(1,.bx [1] 0),(2,.bx [2] 0),(3,.bx [3] 0),(4,.d (i64 x.1))])
  (fun x=>[([1],.box [.d (.sl (some 9) (ns.map enD))]),([2],.box [.d .nils]),([3],.box [.vw [99] 0 x.1]),([99],.arr (some 9) (((ns.take x.1).map wA).map enD))]) [1,2,3,99] (fun x=>ns.length-x.1) ⟨0,by simp⟩ id ?_ ?_
 ·simp only [go_sem]
  all_goals first | rfl | exact ⟨rfl,rfl⟩
 rintro ⟨i,hi,hi7⟩ E0
 refine bk E0 fun Q' hQ E'=>?_
 simp only at hi hi7 ⊢
 simp only [go_sem]
 repeat (first
  | (apply cq E';(· simp only [go_sem]);(· intro h;(try simp only [bq] at h);simp only [↓h,go_sem];rfl);simp only [go_sem])
  | (apply bl E';(· simp only [go_sem]);(· intro h;(try simp only [bq] at h);simp only [↓h,go_sem];rfl);(· intro h;(try simp only [bq] at h);simp only [↓h,go_sem];rfl);simp only [go_sem])
  | (apply bj E';(· simp only [go_sem]);(· rfl);(· intro h h';(try simp only [bq] at h h');simp only [↓h,↓h',go_sem];rfl);simp only [go_sem])
  | (apply aQ E';(· simp only [go_sem]);(· rfl);(· intro h h';(try simp only [bq] at h h');simp only [↓h,↓h',go_sem];rfl);(· intro h h';(try simp only [bq] at h h');simp only [↓h,↓h',go_sem];rfl);simp only [go_sem])
  | (apply b9 E';(· decide);simp only [go_sem]))
 refine aV E' (fun g1=>?_) (fun g1=>?_)<;>simp only [go_sem]
 ·have g2:i<ns.length∧i<700:=by
   simp only [Bool.and_eq_true,decide_eq_true_eq] at g1
   omega
  refine ⟨by omega,?_⟩
  have hg:=bO g2.1
  have hmn:=hll _ (by rw [bh g2.1];exact List.getElem_mem g2.1:ndE ns i∈ns)
  obtain ⟨n,hne⟩:∃ n,n=ndE ns i:=⟨_,rfl⟩
  rw [← hne] at hg hmn
  rw [hg]
  simp only [go_sem]
  have h60:((0≤if (60:Int)<(n.l.length:Int) then 60 else (n.l.length:Int))∧(if (60:Int)<(n.l.length:Int) then 60 else (n.l.length:Int))≤(n.l.length:Int)):=by split<;>omega
  have ht:List.take ((if (60:Int)<(n.l.length:Int) then 60 else (n.l.length:Int)).toNat-0) (List.map fD n.l)=(n.l.take 60).map fD:=by
   rw [← List.map_take]
   split
   ·rfl
   ·rw [List.take_of_length_le (by omega),List.take_of_length_le (by omega)]
  refine ⟨h60,?_⟩
  rw [ht]
  refine ⟨by rw [List.length_map,List.length_take];omega,?_⟩
  refine aA E' [31] (some 3) ((n.l.take 60).map fD) rfl (by simp only [go_sem];rfl) ?_
  simp only [go_sem]
  refine ⟨by omega,?_⟩
  rw [al ⟨by omega,by omega⟩]
  rw [show List.take i (List.map enD (List.map wA (List.take i ns)))++[.agg [i64 n.k,i64 n.a,i64 n.b,i64 n.c,i64 n.n,.str n.name,.str n.s,.sl (some 3) ((n.l.take 60).map fD),i64 n.pos]]=((ns.take (i+1)).map wA).map enD by
   rw [List.take_of_length_le (by simp;omega),List.take_succ_eq_append_getElem g2.1,List.map_append,List.map_append,← bh g2.1,← hne];rfl]
  rw [hQ]
  simp only [go_sem]
  refine ⟨⟨i+1,by omega,by omega⟩,by show ns.length-(i+1)<_;omega,tau [([99],[37])],?_⟩
  simp only [go_sem]
  all_goals first | rfl | exact ⟨rfl,rfl⟩
 ·rw [hQ]
  simp only [go_sem]
  refine ⟨[([99],some 9,((ns.take i).map wA).map enD)],?_⟩
  simp only [go_sem]
  have g2:¬ (i<ns.length∧i<700):=by
   rw [Bool.eq_false_iff] at g1
   intro h
   apply g1
   simp only [Bool.and_eq_true,decide_eq_true_eq]
   omega
  rw [List.take_of_length_le (l:=List.map enD _) (by simp;omega)]
  have:ns.take i=ns.take 700:=by
   by_cases h:i=700
   ·rw [h]
   ·rw [List.take_of_length_le (by omega),List.take_of_length_le (by omega)]
  rw [this]
  rfl
theorem kx {ns:List EN} {k:Nat}:∀ {i:Nat},i≤ns.length→k<i→(bK ns i).getD k 0=(bK ns (k+1)).getD k 0
 | 0,_,h=>absurd h (Nat.not_lt_zero _)
 | i+1,hi,hk=>by
   by_cases h:k=i
   ·rw [h]
   ·have ih:=kx (ns:=ns) (k:=k) (i:=i) (by omega) (by omega)
    have hl:=(dp (ns:=ns) (i:=i) (by omega)).1
    rw [gD (by omega),List.getD_eq_getElem?_getD,List.getElem?_append_left (by omega),← List.getD_eq_getElem?_getD,ih]
theorem G5 {ns:List EN} {i:Nat} (hi:i<ns.length):(bw ns []).getD i 0=mx (bK ns i) (aj (ndE ns i))+1:=by
 have h1:bw ns []=bK ns ns.length:=by unfold bK;rw [List.take_length]
 have hl:=(dp (ns:=ns) (i:=i) (by omega)).1
 rw [h1,kx (Nat.le_refl _) hi,gD hi,List.getD_eq_getElem?_getD,List.getElem?_append_right (by omega),hl,Nat.sub_self,mr]
 rfl
theorem Bu {ns:List EN} {i k:Nat} (hi:i≤ns.length) (hk:k<i):(bw ns []).getD k 0=(bK ns i).getD k 0:=by
 have h1:bw ns []=bK ns ns.length:=by unfold bK;rw [List.take_length]
 rw [h1,kx (Nat.le_refl _) (by omega),kx hi hk]
end Go.Proofs.YtejpnabbmgpmaaaGreatDoor

namespace Go.Proofs.YtejpnabbmgpmaaaGreatDoor
open Go.Ab
theorem aN {ns:List EN} (h:bx ns):∀ i,i<ns.length→(aj (ndE ns i)).all (inB i)=true:=fun i hi=>by
 have:=h.link i hi
 unfold b7 at this
 exact (Bool.and_eq_true_iff.1 this).1
end Go.Proofs.YtejpnabbmgpmaaaGreatDoor

namespace Go.Proofs.YtejpnabbmgpmaaaGreatDoor
open Go.Ab
def As (ks:List Int) (j:Nat) (p:List Int):List Int:=ks.foldl (fun p k=>p.set k.toNat (j:Int)) p
def pA (ns:List EN):Nat→List Int
 | 0=>List.replicate ns.length 0
 | j+1=>As (aj (ndE ns j)) j (pA ns j)
def C1 (ns:List EN):List Int:=(pA ns ns.length).set (ns.length-1) (-1)
theorem BC (ks:List Int) (j:Nat):∀ p:List Int,(As ks j p).length=p.length:=by
 unfold As
 induction ks with
 | nil=>intro p;rfl
 | cons k r ih=>intro p;rw [List.foldl_cons,ih,List.length_set]
theorem nU (ns:List EN):∀ j,(pA ns j).length=ns.length
 | 0=>by simp [pA]
 | j+1=>by rw [pA,BC,nU ns j]
end Go.Proofs.YtejpnabbmgpmaaaGreatDoor

namespace Go.Proofs.YtejpnabbmgpmaaaGreatDoor
open Go.Ab
theorem vv {j k:Nat}:∀ {ks p:List Int},k<p.length→(∀ x∈ks,0≤x)→(As ks j p).getD k 0=if (k:Int)∈ks then (j:Int) else p.getD k 0
 | [],p,_,_=>by simp [As]
 | x::r,p,hk,hx=>by
   show (As r j (p.set x.toNat j)).getD k 0=_
   rw [vv (by rw [List.length_set];exact hk) (fun y hy=>hx y (List.mem_cons_of_mem _ hy))]
   have hx0:=hx x List.mem_cons_self
   by_cases h1:(k:Int)∈r
   ·rw [if_pos h1,if_pos (List.mem_cons_of_mem _ h1)]
   rw [if_neg h1]
   by_cases h2:(k:Int)=x
   ·rw [if_pos (by rw [h2];exact List.mem_cons_self)]
    have:x.toNat=k:=by omega
    rw [this]
    simp [hk]
   ·rw [if_neg (by simp [h1,h2])]
    have:x.toNat≠k:=by omega
    simp [List.getD_eq_getElem?_getD,List.getElem?_set_ne this]
theorem aE {ns:List EN} (hk:∀ i,i<ns.length→(aj (ndE ns i)).all (inB i)=true) {i:Nat} (hi:i<ns.length):∀ x∈aj (ndE ns i),0≤x∧x<(i:Int):=fun x hx=>by
 have:=List.all_eq_true.1 (hk i hi) x hx
 simpa [inB] using this
theorem uL {ns:List EN} (hk:∀ i,i<ns.length→(aj (ndE ns i)).all (inB i)=true) {k:Nat} (h:k<ns.length):∀ i,i≤ns.length→(∀ j,j<i→(k:Int) ∉ aj (ndE ns j))∨∃ j:Nat,j<i∧(k:Int)∈aj (ndE ns j)∧(pA ns i).getD k 0=(j:Int)
 | 0,_=>.inl fun j hj=>absurd hj (Nat.not_lt_zero _)
 | i+1,hi=>by
   have hg:(pA ns (i+1)).getD k 0=if (k:Int)∈aj (ndE ns i) then (i:Int) else (pA ns i).getD k 0:=vv (by rw [nU];exact h) (fun x hx=>(aE hk (by omega) x hx).1)
   by_cases h1:(k:Int)∈aj (ndE ns i)
   ·rw [if_pos h1] at hg
    exact .inr ⟨i,by omega,h1,hg⟩
   ·rw [if_neg h1] at hg
    rcases uL hk h i (by omega) with h2 | ⟨j,h2,h3,h4⟩
    ·refine .inl fun j hj=>?_
     rcases Nat.lt_or_ge j i with h3 | h3
     ·exact h2 j h3
     ·rw [show j=i by omega];exact h1
    ·exact .inr ⟨j,by omega,h3,hg.trans h4⟩
theorem sL {ns:List EN} (ht:bx ns) {k:Nat} (h:k<ns.length):(k=ns.length-1∧(C1 ns).getD k 0 = -1)∨∃ j:Nat,k<j∧j<ns.length∧(k:Int)∈aj (ndE ns j)∧(C1 ns).getD k 0=(j:Int):=by
 have hk:=aN ht
 unfold C1
 by_cases hl:k=ns.length-1
 ·refine .inl ⟨hl,?_⟩
  rw [← hl]
  simp [List.getD_eq_getElem?_getD,nU,h]
 refine .inr ?_
 have hne:ns.length-1≠k:=fun e=>hl e.symm
 rw [show ((pA ns ns.length).set (ns.length-1) (-1)).getD k 0=(pA ns ns.length).getD k 0 by
  simp [List.getD_eq_getElem?_getD,List.getElem?_set_ne hne]]
 rcases uL hk h ns.length (Nat.le_refl _) with h2 | ⟨j,h2,h3,h4⟩
 ·exfalso
  have hc:=List.all_eq_true.1 ht.once k (by simp;omega)
  have hc2:ox ns k=1:=by simpa using hc
  unfold ox at hc2
  obtain ⟨x,hx,hxk⟩:=List.countP_pos_iff.1 (by omega:0<List.countP (fun x=>decide (x=(k:Int))) (ns.flatMap aj))
  obtain ⟨n,hn,hxn⟩:=List.mem_flatMap.1 hx
  obtain ⟨j,hj,hjn⟩:=List.getElem_of_mem hn
  have hxk2:x=(k:Int):=by simpa using hxk
  refine h2 j hj ?_
  rw [bh hj,hjn,← hxk2]
  exact hxn
 ·exact ⟨j,by have:=(aE hk h2 _ h3).2;omega,h2,h3,h4⟩
end Go.Proofs.YtejpnabbmgpmaaaGreatDoor

namespace Go.Proofs.YtejpnabbmgpmaaaGreatDoor
open Go.Ab
theorem l5 {α:Type} {l:List α} {f:α→List Int} {p:Int→Bool} {j:Nat} (hj:j<l.length):(l.flatMap f).countP p=((l.take j).flatMap f).countP p+((f l[j]).countP p+((l.drop (j+1)).flatMap f).countP p):=by
 have:l.flatMap f=(l.take j).flatMap f++(f l[j]++(l.drop (j+1)).flatMap f):=by
  rw [← List.flatMap_cons,← List.drop_eq_getElem_cons hj,← List.flatMap_append,List.take_append_drop]
 rw [this,List.countP_append,List.countP_append]
theorem xr {ns:List EN} (ht:bx ns) {k:Nat} (h:k<ns.length-1):ox ns k=1:=by
 have hc:=List.all_eq_true.1 ht.once k (by simp;omega)
 simpa using hc
theorem BI {ns:List EN} (ht:bx ns) {i k:Nat} (hi:i<ns.length) (h:k<ns.length-1):(aj (ndE ns i)).countP (fun x=>decide (x=(k:Int)))≤1:=by
 have h1:=xr ht h
 unfold ox at h1
 rw [l5 hi,← bh hi] at h1
 omega
theorem xa {ns:List EN} (ht:bx ns) {i j k:Nat} (hi:i<j) (hj:j<ns.length) (h1:(k:Int)∈aj (ndE ns i)) (h2:(k:Int)∈aj (ndE ns j)):False:=by
 have hk:=(aE (aN ht) (show i<ns.length by omega) _ h1).2
 have h3:=xr ht (k:=k) (by omega)
 unfold ox at h3
 rw [l5 hj,← bh hj] at h3
 have h4:0<((ns.take j).flatMap aj).countP (fun x=>decide (x=(k:Int))):=by
  refine List.countP_pos_iff.2 ⟨k,List.mem_flatMap.2 ⟨ndE ns i,?_,h1⟩,by simp⟩
  rw [bh (show i<ns.length by omega)]
  exact List.mem_take_iff_getElem.2 ⟨i,by omega,rfl⟩
 have h5:0<(aj (ndE ns j)).countP (fun x=>decide (x=(k:Int))):=List.countP_pos_iff.2 ⟨k,h2,by simp⟩
 omega
theorem sQ {ns:List EN} (ht:bx ns) {i k:Nat} (hi:i<ns.length) (h:(k:Int)∈aj (ndE ns i)):(C1 ns).getD k 0=(i:Int):=by
 have hk:=(aE (aN ht) hi _ h).2
 rcases sL ht (k:=k) (by omega) with ⟨h1,_⟩ | ⟨j,_,h2,h3,h4⟩
 ·omega
 ·rw [h4]
  rcases Nat.lt_trichotomy i j with h5 | h5 | h5
  ·exact (xa ht h5 h2 h h3).elim
  ·rw [h5]
  ·exact (xa ht h5 hi h3 h).elim
theorem jF {ns:List EN} {m:Nat} {i x:Int}:x∈bT ns (m+1) i↔(∃ k∈aj (ndE ns i.toNat),x∈bT ns m k)∨x=i:=by
 show x∈(aj (ndE ns i.toNat)).flatMap (bT ns m)++[i]↔_
 rw [List.mem_append,List.mem_flatMap,List.mem_singleton]
theorem E8 {L:List Int} {x:Int} (h:L.countP (fun y=>decide (y=x))≤1) {j j':Nat} (hjj:j<j') (h1:L[j]?=some x) (h2:L[j']?=some x):False:=by
 have h3:L.countP (fun y=>decide (y=x))=(L.take j').countP (fun y=>decide (y=x))+(L.drop j').countP (fun y=>decide (y=x)):=by
  rw [← List.countP_append,List.take_append_drop]
 obtain ⟨hl2,he2⟩:=List.getElem?_eq_some_iff.1 h2
 obtain ⟨hl1,he1⟩:=List.getElem?_eq_some_iff.1 h1
 have h4:0<(L.take j').countP (fun y=>decide (y=x)):=List.countP_pos_iff.2 ⟨x,List.mem_take_iff_getElem.2 ⟨j,by omega,he1⟩,by simp⟩
 have h5:0<(L.drop j').countP (fun y=>decide (y=x)):=List.countP_pos_iff.2 ⟨x,by rw [List.drop_eq_getElem_cons hl2,he2];exact List.mem_cons_self,by simp⟩
 omega
theorem tF {ns:List EN} (hk:∀ i,i<ns.length→(aj (ndE ns i)).all (inB i)=true) {j:Nat} {x:Int} (hx:x∈aj (ndE ns j)):∀ (m i:Nat),i<m→i<ns.length→(j:Int)∈bT ns m i→x∈bT ns m i
 | 0,_,h,_,_=>absurd h (Nat.not_lt_zero _)
 | m+1,i,him,hi,hj=>by
   rw [jF] at hj ⊢
   simp only [Int.toNat_natCast] at hj ⊢
   rcases hj with ⟨c,hc,hjc⟩ | hj
   ·obtain ⟨h1,h2⟩:=aE hk hi c hc
    obtain ⟨c,rfl⟩:∃ k:Nat,c=(k:Int):=⟨c.toNat,by omega⟩
    exact .inl ⟨_,hc,tF hk hx m c (by omega) (by omega) hjc⟩
   ·have:j=i:=by omega
    subst this
    refine .inl ⟨x,hx,?_⟩
    obtain ⟨h1,h2⟩:=aE hk hi x hx
    cases m with
    | zero=>omega
    | succ m=>exact jF.2 (.inr rfl)
end Go.Proofs.YtejpnabbmgpmaaaGreatDoor

namespace Go.Proofs.YtejpnabbmgpmaaaGreatDoor
open Go.Ab
end Go.Proofs.YtejpnabbmgpmaaaGreatDoor

namespace Go.Proofs.YtejpnabbmgpmaaaGreatDoor
open Go.Ab
theorem gW {ns:List EN} (hk:∀ i,i<ns.length→(aj (ndE ns i)).all (inB i)=true):∀ (m i:Nat),i<ns.length→∀ x∈bT ns m i,0≤x∧x≤(i:Int)
 | 0,_,_,_,h=>by cases h
 | m+1,i,hi,x,h=>by
   rw [jF] at h
   simp only [Int.toNat_natCast] at h
   rcases h with ⟨c,hc,h⟩ | h
   ·obtain ⟨h1,h2⟩:=aE hk hi c hc
    obtain ⟨c,rfl⟩:∃ k:Nat,c=(k:Int):=⟨c.toNat,by omega⟩
    have:=gW hk m c (by omega) x h
    omega
   ·omega
theorem kT {ns:List EN} (ht:bx ns):∀ (m i:Nat),i<ns.length→∀ x:Nat,(x:Int)∈bT ns m i→x≠i→(C1 ns).getD x 0∈bT ns m i
 | 0,_,_,_,h,_=>by cases h
 | m+1,i,hi,x,h,hne=>by
   rw [jF] at h ⊢
   simp only [Int.toNat_natCast] at h ⊢
   rcases h with ⟨c,hc,h⟩ | h
   ·obtain ⟨h1,h2⟩:=aE (aN ht) hi c hc
    obtain ⟨c,rfl⟩:∃ k:Nat,c=(k:Int):=⟨c.toNat,by omega⟩
    by_cases hxc:x=c
    ·subst hxc
     exact .inr (sQ ht hi hc)
    ·exact .inl ⟨_,hc,kT ht m c (by omega) x h hxc⟩
   ·omega
theorem qa {ns:List EN} (ht:bx ns) {m i c d:Nat} (hi:i<ns.length) (hc:(c:Int)∈aj (ndE ns i)) (hd:(d:Int)∈aj (ndE ns i)) (hcd:c≠d):∀ (f x:Nat),i≤x+f→(x:Int)∈bT ns m c→(x:Int)∈bT ns m d→False
 | f,x,hf,h1,h2=>by
   have hk:=aN ht
   have hci:=(aE hk hi _ hc).2
   have hdi:=(aE hk hi _ hd).2
   have hxc:=(gW hk m c (by omega) _ h1).2
   have hxd:=(gW hk m d (by omega) _ h2).2
   by_cases e1:x=c
   ·subst e1
    have:=kT ht m d (by omega) x h2 hcd
    rw [sQ ht hi hc] at this
    have:=(gW hk m d (by omega) _ this).2
    omega
   by_cases e2:x=d
   ·subst e2
    have:=kT ht m c (by omega) x h1 (fun e=>hcd e.symm)
    rw [sQ ht hi hd] at this
    have:=(gW hk m c (by omega) _ this).2
    omega
   have p1:=kT ht m c (by omega) x h1 e1
   have p2:=kT ht m d (by omega) x h2 e2
   rcases sL ht (k:=x) (by omega) with ⟨h3,_⟩ | ⟨j,h3,_,_,h4⟩
   ·omega
   ·rw [h4] at p1 p2
    cases f with
    | zero=>omega
    | succ f=>exact qa ht hi hc hd hcd f j (by omega) p1 p2
theorem wM {ns:List EN} (ht:bx ns) {i:Nat} (hi:i<ns.length):(aj (ndE ns i)).Nodup:=by
 refine List.pairwise_iff_getElem.2 fun a b ha hb hab e=>?_
 have hm:=List.getElem_mem ha
 obtain ⟨h1,h2⟩:=aE (aN ht) hi _ hm
 have hon:=BI ht (k:=((aj (ndE ns i))[a]).toNat) hi (by omega)
 rw [Int.toNat_of_nonneg h1] at hon
 exact E8 hon hab (List.getElem?_eq_getElem ha) (by rw [List.getElem?_eq_getElem hb,e])
theorem qu {ns:List EN} (ht:bx ns):∀ (m i:Nat),i<ns.length→(bT ns m i).Nodup
 | 0,_,_=>List.Pairwise.nil
 | m+1,i,hi=>by
   have hk:=aN ht
   show (((aj (ndE ns (i:Int).toNat)).flatMap (bT ns m))++[(i:Int)]).Nodup
   rw [Int.toNat_natCast]
   refine List.pairwise_append.2 ⟨List.pairwise_flatMap.2 ⟨fun c hc=>?_,?_⟩,List.pairwise_singleton _ _,?_⟩
   ·obtain ⟨h1,h2⟩:=aE hk hi c hc
    obtain ⟨c,rfl⟩:∃ k:Nat,c=(k:Int):=⟨c.toNat,by omega⟩
    exact qu ht m c (by omega)
   ·refine (wM ht hi).imp_of_mem fun {c d} hc hd hcd x hx y hy e=>?_
    subst e
    obtain ⟨h1,h2⟩:=aE hk hi c hc
    obtain ⟨h3,h4⟩:=aE hk hi d hd
    obtain ⟨c,rfl⟩:∃ k:Nat,c=(k:Int):=⟨c.toNat,by omega⟩
    obtain ⟨d,rfl⟩:∃ k:Nat,d=(k:Int):=⟨d.toNat,by omega⟩
    have hx0:=(gW hk m c (by omega) _ hx).1
    obtain ⟨x,rfl⟩:∃ k:Nat,x=(k:Int):=⟨x.toNat,by omega⟩
    exact qa ht hi hc hd (by omega) i x (by omega) hx hy
   ·intro x hx y hy e
    rw [List.mem_singleton] at hy
    obtain ⟨c,hc,hxc⟩:=List.mem_flatMap.1 hx
    obtain ⟨h1,h2⟩:=aE hk hi c hc
    obtain ⟨c,rfl⟩:∃ k:Nat,c=(k:Int):=⟨c.toNat,by omega⟩
    have:=(gW hk m c (by omega) _ hxc).2
    omega
end Go.Proofs.YtejpnabbmgpmaaaGreatDoor

namespace Go.Proofs.YtejpnabbmgpmaaaGreatDoor
open Go.Ab
theorem kW {α β:Type} {f g:α→List β}:∀ {l:List α},(∀ a∈l,f a=g a)→l.flatMap f=l.flatMap g
 | [],_=>rfl
 | x::r,h=>by rw [List.flatMap_cons,List.flatMap_cons,h x List.mem_cons_self,kW (fun a ha=>h a (List.mem_cons_of_mem _ ha))]
theorem oY {ns:List EN} (hk:∀ i,i<ns.length→(aj (ndE ns i)).all (inB i)=true):∀ (m m' i:Nat),i<m→i<m'→i<ns.length→bT ns m i=bT ns m' i
 | 0,_,_,h,_,_=>absurd h (Nat.not_lt_zero _)
 | _+1,0,_,_,h,_=>absurd h (Nat.not_lt_zero _)
 | m+1,m'+1,i,h1,h2,hi=>by
   show (aj (ndE ns (i:Int).toNat)).flatMap (bT ns m)++[(i:Int)]=(aj (ndE ns (i:Int).toNat)).flatMap (bT ns m')++[(i:Int)]
   rw [Int.toNat_natCast,kW (fun c hc=>?_)]
   obtain ⟨h3,h4⟩:=aE hk hi c hc
   obtain ⟨c,rfl⟩:∃ k:Nat,c=(k:Int):=⟨c.toNat,by omega⟩
   exact oY hk m m' c (by omega) (by omega) (by omega)
theorem uv {ns:List EN} (hk:∀ i,i<ns.length→(aj (ndE ns i)).all (inB i)=true):∀ (m i:Nat),i<m→i<ns.length→∀ j:Nat,(j:Int)∈bT ns m i→∃ p s,bT ns m i=p++(bT ns m j++s)
 | 0,_,h,_,_,_=>absurd h (Nat.not_lt_zero _)
 | m+1,i,him,hi,j,hj=>by
   by_cases hij:j=i
   ·subst hij
    exact ⟨[],[],by simp⟩
   rw [jF] at hj
   simp only [Int.toNat_natCast] at hj
   rcases hj with ⟨c,hc,hjc⟩ | hj
   ·obtain ⟨h1,h2⟩:=aE hk hi c hc
    obtain ⟨c,rfl⟩:∃ k:Nat,c=(k:Int):=⟨c.toNat,by omega⟩
    have hjl:=(gW hk m c (by omega) _ hjc).2
    obtain ⟨p,s,hps⟩:=uv hk m c (by omega) (by omega) j hjc
    obtain ⟨K1,K2,hK⟩:=List.append_of_mem hc
    refine ⟨K1.flatMap (bT ns m)++p,s++(K2.flatMap (bT ns m)++[(i:Int)]),?_⟩
    show (aj (ndE ns (i:Int).toNat)).flatMap (bT ns m)++[(i:Int)]=_
    rw [Int.toNat_natCast,hK,List.flatMap_append,List.flatMap_cons,hps,oY hk (m+1) m j (by omega) (by omega) (by omega)]
    simp only [List.append_assoc]
   ·omega
theorem JY {l P Q:List Int} {u v:Int} (hl:l=P++Q) (hn:l.Nodup) (hu:u∈P) (hv:v∈Q):l.idxOf u<l.idxOf v:=by
 subst hl
 have hvP:v ∉ P:=fun h=>(List.nodup_append.1 hn).2.2 v h v hv rfl
 rw [List.idxOf_append,List.idxOf_append,if_pos hu,if_neg hvP]
 have:=List.idxOf_lt_length_of_mem hu
 omega
end Go.Proofs.YtejpnabbmgpmaaaGreatDoor

namespace Go.Proofs.YtejpnabbmgpmaaaGreatDoor
open Go.Ab
def bf (ns:List EN) (i:Nat):List Int:=bT ns ns.length (i:Int)
def sbE (ns:List EN) (i:Nat):List EN:=(bf ns i).map (og ns (bf ns i))
theorem gN {ns:List EN} (ht:bx ns) {i:Nat} (hi:i<ns.length):bf ns i=(aj (ndE ns i)).flatMap (bT ns ns.length)++[(i:Int)]:=by
 have hk:=aN ht
 obtain ⟨m,hm⟩:∃ m,ns.length=m+1:=⟨ns.length-1,by omega⟩
 unfold bf
 rw [hm]
 show (aj (ndE ns (i:Int).toNat)).flatMap (bT ns m)++[(i:Int)]=_
 rw [Int.toNat_natCast,kW (fun c hc=>?_)]
 obtain ⟨h1,h2⟩:=aE hk hi c hc
 obtain ⟨c,rfl⟩:∃ k:Nat,c=(k:Int):=⟨c.toNat,by omega⟩
 exact oY hk m (m+1) c (by omega) (by omega) (by omega)
theorem j3 {ns:List EN} (ht:bx ns) {i:Nat} (hi:i<ns.length):(bf ns i).Nodup:=qu ht _ _ hi
theorem s8 {ns:List EN} {i:Nat} (hi:i<ns.length):(i:Int)∈bf ns i:=by
 obtain ⟨m,hm⟩:∃ m,ns.length=m+1:=⟨ns.length-1,by omega⟩
 unfold bf
 rw [hm]
 exact jF.2 (.inr rfl)
theorem mV {ns:List EN} (ht:bx ns) {i:Nat} (hi:i<ns.length) {x:Int} (hx:x∈bf ns i):0≤x∧x≤(i:Int):=gW (aN ht) _ _ hi x hx
theorem kc {ns:List EN} (ht:bx ns) {i x:Nat} (hi:i<ns.length) (hx:(x:Int)∈bf ns i) {k:Int} (hk:k∈aj (ndE ns x)):k∈bf ns i:=tF (aN ht) hk _ _ hi hi hx
theorem y6 {ns:List EN} (ht:bx ns) {i x:Nat} (hi:i<ns.length) (hx:(x:Int)∈bf ns i) {k:Nat} (hk:(k:Int)∈aj (ndE ns x)):(bf ns i).idxOf (k:Int)<(bf ns i).idxOf (x:Int):=by
 have hkk:=aN ht
 have hxl:=(mV ht hi hx).2
 obtain ⟨p,s,h⟩:=uv hkk ns.length i hi hi x hx
 have hb:=gN ht (i:=x) (by omega)
 unfold bf at hb
 refine JY (P:=p++(aj (ndE ns x)).flatMap (bT ns ns.length)) (Q:=[(x:Int)]++s) (by unfold bf;rw [h,hb];simp only [List.append_assoc]) (j3 ht hi) (List.mem_append_right _ (List.mem_flatMap.2 ⟨_,hk,?_⟩)) (List.mem_append_left _ (List.mem_singleton_self _))
 obtain ⟨h1,h2⟩:=aE hkk (by omega) _ hk
 exact s8 (by omega)
theorem oL {n:EN} {ks:List Int} (p:Nat) (h:ks.length=aF n):ax p (aM n ks)=aM n (ks.map fun x:Int=>x+p):=by
 unfold ax
 rw [cV h,gy (by rw [List.length_map,h];exact Nat.le_refl _)]
theorem Cw {ns:List EN} (ht:bx ns):∀ (ks P Q W rs:List Int),W=P++(ks.flatMap (bT ns ns.length)++Q)→W.Nodup→(∀ k∈ks,0≤k∧k<(ns.length:Int)) →
  br (ks.map fun k=>sbE ns k.toNat) (P.map (og ns W)) rs=((P++ks.flatMap (bT ns ns.length)).map (og ns W),rs++ks.map (fun k=>(W.idxOf k:Int)))
 | [],P,Q,W,rs,_,_,_=>by simp [br]
 | k::r,P,Q,W,rs,hW,hnd,hk=>by
   obtain ⟨h1,h2⟩:=hk k List.mem_cons_self
   obtain ⟨k,rfl⟩:∃ q:Nat,k=(q:Int):=⟨k.toNat,by omega⟩
   have hkl:k<ns.length:=by omega
   have hW2:W=P++(bf ns k++(r.flatMap (bT ns ns.length)++Q)):=by
    rw [hW,List.flatMap_cons]
    unfold bf
    simp only [List.append_assoc]
   have hnP:∀ c∈bf ns k,c ∉ P:=fun c hc hp=>by
    rw [hW2] at hnd
    exact (List.nodup_append.1 hnd).2.2 c hp c (List.mem_append_left _ hc) rfl
   have hix:∀ c∈bf ns k,W.idxOf c=P.length+(bf ns k).idxOf c:=fun c hc=>by
    rw [hW2,List.idxOf_append,if_neg (hnP c hc),List.idxOf_append,if_pos hc,Nat.add_comm]
   have key1:(sbE ns k).map (ax (P.map (og ns W)).length)=(bf ns k).map (og ns W):=by
    unfold sbE
    rw [List.map_map,List.length_map]
    refine List.map_congr_left fun x hx=>?_
    have hxi:=mV ht hkl hx
    obtain ⟨x,rfl⟩:∃ q:Nat,x=(q:Int):=⟨x.toNat,by omega⟩
    show ax P.length (aM (ndE ns (x:Int).toNat) _)=aM (ndE ns (x:Int).toNat) _
    rw [oL _ (by rw [List.length_map,bd]),List.map_map]
    congr 1
    refine List.map_congr_left fun c hc=>?_
    rw [Int.toNat_natCast] at hc
    show ((bf ns k).idxOf c:Int)+(P.length:Int)=(W.idxOf c:Int)
    rw [hix c (kc ht hkl hx hc)]
    omega
   have key2:((((P.map (og ns W)).length+(sbE ns k).length:Nat):Int)-1)=(W.idxOf (k:Int):Int):=by
    have hb:=gN ht hkl
    have hno:(k:Int) ∉ (aj (ndE ns k)).flatMap (bT ns ns.length):=fun hm=>by
     have:=j3 ht hkl
     rw [hb] at this
     exact (List.nodup_append.1 this).2.2 _ hm _ (List.mem_singleton_self _) rfl
    rw [hix _ (s8 hkl)]
    have h3:(bf ns k).idxOf (k:Int)=((aj (ndE ns k)).flatMap (bT ns ns.length)).length:=by
     rw [hb,List.idxOf_append,if_neg hno]
     simp
    have h4:(sbE ns k).length=((aj (ndE ns k)).flatMap (bT ns ns.length)).length+1:=by
     unfold sbE
     rw [List.length_map,hb,List.length_append]
     rfl
    rw [h3,h4,List.length_map]
    omega
   rw [List.map_cons,br,Int.toNat_natCast,key1,← List.map_append,key2]
   rw [Cw ht r (P++bf ns k) Q W _ (by rw [hW2];simp only [List.append_assoc]) hnd (fun c hc=>hk c (List.mem_cons_of_mem _ hc))]
   rw [List.flatMap_cons,List.map_cons]
   unfold bf
   simp only [List.append_assoc,List.singleton_append]
theorem Ht {ns:List EN} (ht:bx ns) {i:Nat} (hi:i<ns.length):sbE ns i=az (ndE ns i) ((aj (ndE ns i)).map fun k=>sbE ns k.toNat):=by
 have hb:=gN ht hi
 have hc:=Cw ht (aj (ndE ns i)) [] [(i:Int)] (bf ns i) [] (by rw [hb];rfl) (j3 ht hi) (fun k hk=>by have:=aE (aN ht) hi k hk;exact ⟨this.1,by omega⟩)
 rw [List.map_nil] at hc
 unfold az
 rw [hc]
 show (bf ns i).map (og ns (bf ns i))=_
 conv=>lhs;rw [hb]
 rw [List.map_append,← hb]
 rfl
inductive RT where
 | mk (n:EN) (ts:List RT)
mutual
def RT.enc:RT→List EN
 | .mk n ts=>az n (RT.encs ts)
def RT.encs:List RT→List (List EN)
 | []=>[]
 | t::r=>t.enc::RT.encs r
end
theorem gK:∀ ts:List RT,RT.encs ts=ts.map RT.enc
 | []=>rfl
 | t::r=>by rw [RT.encs,gK r];rfl
def can (n:EN):EN:=aM n (List.replicate (aF n) 0)
theorem nY {n:EN} {ks:List Int}:can (aM n ks)=can n:=by
 unfold can
 rw [oW,gy (by rw [List.length_replicate];exact Nat.le_refl _)]
theorem FA (n:EN):can (can n)=can n:=nY
theorem B3 (n:EN):aF (can n)=aF n:=oW _ _
theorem BL {n:EN} {ks:List Int} (h:aF n≤ks.length):aM (can n) ks=aM n ks:=gy h
theorem uO (ls:List (List EN)):(br ls [] []).2.length=ls.length:=by
 obtain ⟨X,Y,e,h⟩:=fS ls [] []
 rw [e]
 simpa using h
theorem oV {n:EN} {ls:List (List EN)} (h:aF n≤ls.length):az (can n) ls=az n ls:=by
 unfold az
 rw [BL (by rw [uO];exact h)]
def rtE (ns:List EN):Nat→Int→RT
 | 0,_=>.mk (can (ndE [] 0)) []
 | m+1,i=>.mk (can (ndE ns i.toNat)) ((aj (ndE ns i.toNat)).map (rtE ns m))
theorem Dc {ns:List EN} (ht:bx ns):∀ (m i:Nat),i<m→i<ns.length→(rtE ns m i).enc=sbE ns i
 | 0,_,h,_=>absurd h (Nat.not_lt_zero _)
 | m+1,i,him,hi=>by
   rw [rtE,RT.enc,Int.toNat_natCast,gK,List.map_map,oV (by rw [List.length_map,bd];exact Nat.le_refl _),Ht ht hi]
   congr 1
   refine List.map_congr_left fun k hk=>?_
   obtain ⟨h1,h2⟩:=aE (aN ht) hi k hk
   obtain ⟨k,rfl⟩:∃ q:Nat,k=(q:Int):=⟨k.toNat,by omega⟩
   show (rtE ns m k).enc=_
   rw [Int.toNat_natCast]
   exact Dc ht m k (by omega) (by omega)
theorem xb {ns:List EN} (hk:∀ i,i<ns.length→(aj (ndE ns i)).all (inB i)=true):∀ (m m' i:Nat),i<m→i<m'→i<ns.length→rtE ns m i=rtE ns m' i
 | 0,_,_,h,_,_=>absurd h (Nat.not_lt_zero _)
 | _+1,0,_,_,h,_=>absurd h (Nat.not_lt_zero _)
 | m+1,m'+1,i,h1,h2,hi=>by
   rw [rtE,rtE,Int.toNat_natCast]
   congr 1
   refine List.map_congr_left fun k hkk=>?_
   obtain ⟨h3,h4⟩:=aE hk hi k hkk
   obtain ⟨k,rfl⟩:∃ q:Nat,k=(q:Int):=⟨k.toNat,by omega⟩
   exact xb hk m m' k (by omega) (by omega) (by omega)
def trE (ns:List EN) (i:Nat):RT:=rtE ns ns.length i
theorem Es {ns:List EN} (hk:∀ i,i<ns.length→(aj (ndE ns i)).all (inB i)=true) {i:Nat} (hi:i<ns.length):trE ns i=.mk (can (ndE ns i)) ((aj (ndE ns i)).map fun k=>trE ns k.toNat):=by
 unfold trE
 obtain ⟨m,hm⟩:∃ m,ns.length=m+1:=⟨ns.length-1,by omega⟩
 conv=>lhs;rw [hm]
 rw [rtE,Int.toNat_natCast]
 congr 1
 refine List.map_congr_left fun k hkk=>?_
 obtain ⟨h3,h4⟩:=aE hk hi k hkk
 obtain ⟨k,rfl⟩:∃ q:Nat,k=(q:Int):=⟨k.toNat,by omega⟩
 rw [Int.toNat_natCast]
 exact xb hk m ns.length k (by omega) (by omega) (by omega)
theorem qT {ns:List EN} (ht:bx ns) {i:Nat} (hi:i<ns.length):(trE ns i).enc=sbE ns i:=Dc ht _ _ hi hi
end Go.Proofs.YtejpnabbmgpmaaaGreatDoor

namespace Go.Proofs.YtejpnabbmgpmaaaGreatDoor
open Go.Ab
mutual
def RT.ok:RT→Prop
 | .mk n ts=>(aF n=ts.length∧can n=n)∧RT.oks ts
def RT.oks:List RT→Prop
 | []=>True
 | t::r=>t.ok∧RT.oks r
end
theorem mU:∀ ts:List RT,RT.oks ts↔∀ t∈ts,t.ok
 | []=>by simp [RT.oks]
 | t::r=>by rw [RT.oks,mU r];simp
theorem uc (ts:List RT):(RT.encs ts).length=ts.length:=by rw [gK,List.length_map]
mutual
theorem vY:∀ t:RT,t.ok→Tr t.enc
 | .mk n ts,h=>by
   rw [RT.ok] at h
   rw [RT.enc]
   exact .join n _ (by rw [uc];exact h.1.1) (yS ts h.2)
theorem yS:∀ ts:List RT,RT.oks ts→∀ l∈RT.encs ts,Tr l
 | [],_,l,h=>by rw [RT.encs] at h;cases h
 | t::r,h,l,hl=>by
   rw [RT.oks] at h
   rw [RT.encs] at hl
   rcases List.mem_cons.1 hl with rfl | hl
   ·exact vY t h.1
   ·exact yS r h.2 l hl
end
mutual
theorem yD:∀ t:RT,t.ok→∀ (M:List EN) (off m:Nat),Lies M t.enc off→off+t.enc.length≤m→rtE M m (((off+t.enc.length:Nat):Int)-1)=t
 | .mk n ts,h,M,off,m,hM,hm=>by
   rw [RT.ok] at h
   obtain ⟨X,Y,e,hY⟩:=fS (RT.encs ts) [] []
   have hj:az n (RT.encs ts)=X++[aM n Y]:=by unfold az;rw [e];simp
   rw [RT.enc,hj] at hM hm ⊢
   rw [List.length_append] at hm ⊢
   simp only [List.length_singleton] at hm ⊢
   have hroot:ndE M (off+X.length)=ax off (aM n Y):=by
    have:=hM X.length (by simp)
    rw [this]
    congr 1
    simp [ndE]
   have hyl:Y.length=aF n:=by rw [hY,uc];exact h.1.1.symm
   cases m with
   | zero=>omega
   | succ m =>
     have hi:(((off+(X.length+1):Nat):Int)-1).toNat=off+X.length:=by omega
     rw [rtE,hi,hroot,iz,cV hyl]
     have:=uB ts h.2 [] [] Y X (by simpa using e) M off m (fun j hj=>?_) (by simp;omega)
     ·rw [this]
      unfold ax
      rw [nY,nY,h.1.2]
     ·simp only [List.nil_append] at hj ⊢
      rw [hM j (by simp;omega)]
      congr 1
      simp [ndE,List.getElem?_append_left hj]
theorem uB:∀ ts:List RT,RT.oks ts→∀ (acc:List EN) (rs Y:List Int) (X:List EN),br (RT.encs ts) acc rs=(acc++X,rs++Y)→∀ (M:List EN) (off m:Nat),Lies M (acc++X) off→off+(acc++X).length≤m →
  (Y.map fun x:Int=>x+off).map (rtE M m)=ts
 | [],_,acc,rs,Y,X,e,M,off,m,_,_=>by
   simp only [RT.encs,br,Prod.mk.injEq] at e
   have h2:Y=[]:=by have:=congrArg List.length e.2;simp at this;exact this
   subst h2;simp
 | t::r,h,acc,rs,Y,X,e,M,off,m,hM,hm=>by
   rw [RT.oks] at h
   obtain ⟨X',Y',e',_⟩:=fS (RT.encs r) (acc++t.enc.map (ax acc.length)) (rs++[((acc.length+t.enc.length:Nat):Int)-1])
   rw [RT.encs,br,e'] at e
   simp only [Prod.mk.injEq,List.append_assoc,List.append_cancel_left_eq] at e
   obtain ⟨rfl,rfl⟩:=e
   have hlen:(acc++(t.enc.map (ax acc.length)++X')).length=acc.length+t.enc.length+X'.length:=by simp [Nat.add_assoc]
   have ih:=uB r h.2 (acc++t.enc.map (ax acc.length)) (rs++[((acc.length+t.enc.length:Nat):Int)-1]) Y' X' e' M off m (by rw [List.append_assoc];exact hM) (by rw [List.append_assoc];exact hm)
   have h1:rtE M m ((((acc.length+t.enc.length:Nat):Int)-1)+off)=t:=by
    have:=yD t h.1 M (off+acc.length) m (fun j hj=>?_) (by omega)
    ·rw [← this]
     congr 1
     rw [this]
     omega
    ·have hj2:=hM (acc.length+j) (by rw [hlen];omega)
     rw [← Nat.add_assoc] at hj2
     rw [hj2]
     have:ndE (acc++(t.enc.map (ax acc.length)++X')) (acc.length+j)=ax acc.length (ndE t.enc j):=by
      unfold ndE
      rw [List.getD_eq_getElem?_getD,List.getElem?_append_right (by omega),List.getElem?_append_left (by simp;omega)]
      simp [hj]
     rw [this,fQ]
   simp only [List.singleton_append,List.map_cons]
   rw [h1,ih]
end
theorem zY {t:RT} (h:t.ok):trE t.enc (t.enc.length-1)=t:=by
 have ht:=vY t h
 obtain ⟨h0,_⟩:=ht.kids
 have:=yD t h t.enc 0 t.enc.length (fun j hj=>by
  rw [Nat.zero_add]
  refine (ht.self _ ?_).symm
  have:ndE t.enc j=t.enc[j]:=by simp [ndE,hj]
  rw [this];exact List.getElem_mem hj) (by omega)
 unfold trE
 rw [show ((t.enc.length-1:Nat):Int)=((0+t.enc.length:Nat):Int)-1 by omega]
 exact this
theorem HD {ns:List EN} (hk:∀ i,i<ns.length→(aj (ndE ns i)).all (inB i)=true):∀ (m i:Nat),i<m→i<ns.length→(rtE ns m i).ok
 | 0,_,h,_=>absurd h (Nat.not_lt_zero _)
 | m+1,i,him,hi=>by
   rw [rtE,RT.ok,Int.toNat_natCast,mU]
   refine ⟨⟨by rw [B3,List.length_map,bd],FA _⟩,fun t ht=>?_⟩
   obtain ⟨k,hkk,rfl⟩:=List.mem_map.1 ht
   obtain ⟨h3,h4⟩:=aE hk hi k hkk
   obtain ⟨k,rfl⟩:∃ q:Nat,k=(q:Int):=⟨k.toNat,by omega⟩
   exact HD hk m k (by omega) (by omega)
theorem HF {ns:List EN} (hk:∀ i,i<ns.length→(aj (ndE ns i)).all (inB i)=true) {i:Nat} (hi:i<ns.length):(trE ns i).ok:=HD hk _ _ hi hi
end Go.Proofs.YtejpnabbmgpmaaaGreatDoor

namespace Go.Proofs.YtejpnabbmgpmaaaGreatDoor
open Go.Ab
theorem jK {β:Type} (g:EF→β) (hg:∀ (f:EF) (v:Int),g { f with to:=v }=g f) (ks:List Int) (o:Nat):∀ (l:List EF) (i:Nat),(aT ks o l i).map g=l.map g
 | [],_=>rfl
 | f::r,i=>by
   rw [aT,List.map_cons,List.map_cons,jK g hg ks o r (i+1)]
   split
   ·rw [hg]
   ·rfl
theorem all_map' {α:Type} (p:α→Bool):∀ l:List α,l.all p=(l.map p).all id
 | []=>rfl
 | x::r=>by rw [List.all_cons,List.map_cons,List.all_cons,all_map' p r];rfl
theorem oS {n:EN} {ks:List Int} (h:ar n=true):ar (aM n ks)=true:=by
 unfold ar at h ⊢
 simp only [Bool.and_eq_true] at h
 obtain ⟨h1,⟨⟨h2,h3⟩,h4⟩,_⟩:=h
 have e1:da (aM n ks)=da n:=rfl
 have e2:bH (aM n ks)=bH n:=rfl
 have e3:bm (aM n ks)=true:=by
  unfold bm at h4 ⊢
  rw [fT]
  by_cases hp:aw n.k=true
  ·rw [if_pos hp] at h4 ⊢
   have hl:(aM n ks).l=aT ks (aG n.k) n.l 0:=by show (if aw n.k then _ else [])=_;rw [if_pos hp]
   rw [hl,all_map',jK (dG n.k) (fun f v=>by unfold dG;rfl),← all_map',cD,jK (·.nm) (fun _ _=>rfl)]
   exact h4
  ·rw [if_neg hp]
   have hl:(aM n ks).l=[]:=by show (if aw n.k then _ else [])=_;rw [if_neg hp]
   rw [hl]
   rfl
 have e4:ez (aM n ks)=true:=by
  unfold ez
  rw [fT]
  show ([if 0<aG n.k then ks.getD 0 0 else 0,if 1<aG n.k then ks.getD 1 0 else 0,if 2<aG n.k then ks.getD 2 0 else 0].drop (aG n.k)).all _=true
  have:=cI n.k
  generalize aG n.k=q at this
  match q,this with
  | 0,_=>simp
  | 1,_=>simp
  | 2,_=>simp
  | 3,_=>simp
 have e5:(aM n ks).pos=n.pos:=rfl
 rw [e1,e2,e3,e4,e5,fT,h2,h3]
 simp only [Bool.and_eq_true] at h1 ⊢
 exact ⟨h1,by simp⟩
theorem jV (ns:List EN) (i:Nat):(sbE ns i).length=(bf ns i).length:=List.length_map ..
theorem Ha {ns:List EN} (ht:bx ns) {i:Nat} (hi:i<ns.length):(bf ns i).length≤ns.length:=by
 have:=List.Nodup.length_le_of_subset (l₂:=(List.range ns.length).map fun j:Nat=>(j:Int)) (j3 ht hi) (fun x hx=>by
  have:=mV ht hi hx
  exact List.mem_map.2 ⟨x.toNat,List.mem_range.2 (by omega),by omega⟩)
 simpa using this
theorem uk {ns:List EN} (ht:bx ns) {i:Nat} (hi:i<ns.length) {j:Nat} (hj:j<(bf ns i).length) :
  ∃ x:Nat,(bf ns i)[j]=(x:Int)∧x≤i∧(x:Int)∈bf ns i∧(bf ns i).idxOf (x:Int)=j∧ndE (sbE ns i) j=aM (ndE ns x) ((aj (ndE ns x)).map fun k=>((bf ns i).idxOf k:Int)):=by
 have hm:=List.getElem_mem hj
 have hx:=mV ht hi hm
 have hid:=List.Nodup.idxOf_getElem (j3 ht hi) j hj
 obtain ⟨x,hxx⟩:∃ x:Nat,(bf ns i)[j]=(x:Int):=⟨((bf ns i)[j]).toNat,by omega⟩
 rw [hxx] at hm hid hx
 refine ⟨x,hxx,by omega,hm,hid,?_⟩
 have hj2:j<(sbE ns i).length:=by rw [jV];exact hj
 have hs:(sbE ns i)[j]?=some (og ns (bf ns i) (bf ns i)[j]):=by
  unfold sbE
  rw [List.getElem?_map,List.getElem?_eq_getElem hj]
  rfl
 rw [List.getElem?_eq_getElem hj2] at hs
 rw [bh hj2,Option.some.inj hs,hxx]
 show aM (ndE ns (x:Int).toNat) ((aj (ndE ns (x:Int).toNat)).map _)=_
 rw [Int.toNat_natCast]
theorem Kg {ns:List EN} (ht:bx ns) {i:Nat} (hi:i<ns.length) {x:Nat} (hx:(x:Int)∈bf ns i) :
  ndE (sbE ns i) ((bf ns i).idxOf (x:Int))=aM (ndE ns x) ((aj (ndE ns x)).map fun k=>((bf ns i).idxOf k:Int)):=by
 have hl:=List.idxOf_lt_length_of_mem hx
 obtain ⟨y,h1,_,_,_,h5⟩:=uk ht hi hl
 have:(bf ns i)[(bf ns i).idxOf (x:Int)]=(x:Int):=List.getElem_idxOf hl
 have:y=x:=by omega
 subst this
 exact h5
theorem xC {α:Type} (f:α→List α):∀ ks:List α,(ks.flatMap fun k=>f k++[k]).Perm (ks.flatMap f++ks)
 | []=>.refl _
 | k::r=>by
   rw [List.flatMap_cons,List.flatMap_cons,List.append_assoc,List.append_assoc]
   refine List.Perm.append_left _ ?_
   refine .trans (List.Perm.append_left [k] (xC f r)) ?_
   show (k::(r.flatMap f++r)).Perm _
   exact List.perm_middle.symm
theorem xB {α β:Type} {f g:α→List β}:∀ {ks:List α},(∀ k∈ks,(f k).Perm (g k))→(ks.flatMap f).Perm (ks.flatMap g)
 | [],_=>.refl _
 | k::r,h=>by
   rw [List.flatMap_cons,List.flatMap_cons]
   exact (h k List.mem_cons_self).append (xB fun x hx=>h x (List.mem_cons_of_mem _ hx))
theorem ta {ns:List EN} (ht:bx ns):∀ (d i:Nat),i≤d→i<ns.length→((bf ns i).flatMap (fun x=>aj (ndE ns x.toNat))++[(i:Int)]).Perm (bf ns i)
 | d,i,hd,hi=>by
   have hk:=aN ht
   have hb:=gN ht hi
   have ih:∀ k∈aj (ndE ns i),((bT ns ns.length k).flatMap (fun x=>aj (ndE ns x.toNat))++[k]).Perm (bT ns ns.length k):=fun k hkk=>by
    obtain ⟨h1,h2⟩:=aE hk hi k hkk
    obtain ⟨k,rfl⟩:∃ q:Nat,k=(q:Int):=⟨k.toNat,by omega⟩
    cases d with
    | zero=>omega
    | succ d=>exact ta ht d k (by omega) (by omega)
   rw [hb,List.flatMap_append,List.flatMap_cons,List.flatMap_nil,List.append_nil,Int.toNat_natCast]
   refine List.Perm.append_right _ ?_
   rw [List.flatMap_assoc]
   exact (xC (fun k=>(bT ns ns.length k).flatMap (fun x=>aj (ndE ns x.toNat))) _).symm.trans (xB ih)
theorem uH {x:Int}:∀ {l:List Int},l.Nodup→x∈l→l.countP (fun y=>decide (y=x))=1
 | [],_,h=>by cases h
 | y::r,hn,h=>by
   obtain ⟨h1,h2⟩:=List.nodup_cons.1 hn
   rw [List.countP_cons]
   by_cases e:y=x
   ·subst e
    have:r.countP (fun z=>decide (z=y))=0:=List.countP_eq_zero.2 fun z hz=>by
     simp only [decide_eq_true_eq]
     intro e
     exact h1 (e ▸ hz)
    rw [this]
    simp
   ·have hr:=(List.mem_cons.1 h).resolve_left (fun e'=>e e'.symm)
    rw [uH h2 hr]
    simp [e]
theorem pI {α:Type} {p q:α→Bool}:∀ {l:List α},(∀ x∈l,p x=q x)→l.countP p=l.countP q
 | [],_=>rfl
 | x::r,h=>by rw [List.countP_cons,List.countP_cons,h x List.mem_cons_self,pI fun y hy=>h y (List.mem_cons_of_mem _ hy)]
theorem p9 {α β:Type} {p:β→Bool} {f:α→β}:∀ {l:List α},(l.map f).countP p=l.countP (fun x=>p (f x))
 | []=>rfl
 | x::r=>by rw [List.map_cons,List.countP_cons,List.countP_cons,p9]
theorem EB {α β γ:Type} {f:α→List β} {g:β→γ}:∀ {l:List α},l.flatMap (fun x=>(f x).map g)=(l.flatMap f).map g
 | []=>rfl
 | x::r=>by rw [List.flatMap_cons,List.flatMap_cons,List.map_append,EB]
theorem DR {α β γ:Type} {f:α→β} {g:β→List γ}:∀ {l:List α},(l.map f).flatMap g=l.flatMap (fun x=>g (f x))
 | []=>rfl
 | x::r=>by rw [List.map_cons,List.flatMap_cons,List.flatMap_cons,DR]
theorem Ho {ns:List EN} (ht:bx ns) {i:Nat} (hi:i<ns.length):gO (sbE ns i)=true:=by
 unfold gO
 refine List.all_eq_true.2 fun k hk=>?_
 have hk:=List.mem_range.1 hk
 rw [jV] at hk
 have hkl:k<(bf ns i).length:=by omega
 obtain ⟨c,h1,h2,h3,h4,_⟩:=uk ht hi hkl
 have hci:c≠i:=by
  intro e
  subst e
  have hb:=gN ht hi
  have hno:(c:Int) ∉ (aj (ndE ns c)).flatMap (bT ns ns.length):=fun hm=>by
   have:=j3 ht hi
   rw [hb] at this
   exact (List.nodup_append.1 this).2.2 _ hm _ (List.mem_singleton_self _) rfl
  rw [hb,List.idxOf_append,if_neg hno] at h4
  rw [hb,List.length_append] at hk
  simp at h4 hk
  omega
 have e1:ox (sbE ns i) k=((bf ns i).flatMap (fun x=>aj (ndE ns x.toNat))).countP (fun y=>decide (y=(c:Int))):=by
  unfold ox sbE
  rw [DR]
  have:∀ x∈bf ns i,aj (og ns (bf ns i) x)=(aj (ndE ns x.toNat)).map fun k=>((bf ns i).idxOf k:Int):=fun x _=>cV (by rw [List.length_map,bd])
  rw [kW this,EB,p9]
  refine pI fun y hy=>?_
  obtain ⟨x,hx,hyx⟩:=List.mem_flatMap.1 hy
  have hxi:=mV ht hi hx
  obtain ⟨x,rfl⟩:∃ q:Nat,x=(q:Int):=⟨x.toNat,by omega⟩
  rw [Int.toNat_natCast] at hyx
  have hyi:=kc ht hi hx hyx
  refine decide_eq_decide.2 ⟨fun e=>?_,fun e=>?_⟩
  ·have e2:(bf ns i).idxOf y=k:=by omega
   have hyl:=List.idxOf_lt_length_of_mem hyi
   have:(bf ns i)[(bf ns i).idxOf y]=y:=List.getElem_idxOf hyl
   simp only [e2] at this
   rw [← this,h1]
  ·rw [e,h4]
 rw [e1]
 have hp:=(ta ht i i (Nat.le_refl _) hi).countP_eq (fun y=>decide (y=(c:Int)))
 rw [List.countP_append,uH (j3 ht hi) h3] at hp
 have:List.countP (fun y=>decide (y=(c:Int))) [(i:Int)]=0:=List.countP_eq_zero.2 fun z hz=>by
  rw [List.mem_singleton] at hz
  simp only [decide_eq_true_eq]
  omega
 rw [this] at hp
 exact decide_eq_true (by omega)
theorem H6 {d d':List Int} {f:Int→Int}:∀ {ks:List Int},(∀ c∈ks,d.getD (f c).toNat 0=d'.getD c.toNat 0)→mx d (ks.map f)=mx d' ks:=by
 suffices g:∀ (ks:List Int) (m:Int),(∀ c∈ks,d.getD (f c).toNat 0=d'.getD c.toNat 0)→(ks.map f).foldl (fun m k=>max m (d.getD k.toNat 0)) m=ks.foldl (fun m k=>max m (d'.getD k.toNat 0)) m from fun {ks} h=>g ks 0 h
 intro ks
 induction ks with
 | nil=>intro m _;rfl
 | cons c r ih =>
   intro m h
   rw [List.map_cons,List.foldl_cons,List.foldl_cons,h c List.mem_cons_self]
   exact ih _ fun x hx=>h x (List.mem_cons_of_mem _ hx)
theorem HK {d:List Int} {ks:List Int} {c:Int} (h:c∈ks):d.getD c.toNat 0≤mx d ks:=by
 suffices g:∀ (ks:List Int) (m:Int),m≤ks.foldl (fun m k=>max m (d.getD k.toNat 0)) m∧∀ c∈ks,d.getD c.toNat 0≤ks.foldl (fun m k=>max m (d.getD k.toNat 0)) m from (g ks 0).2 c h
 intro ks
 induction ks with
 | nil=>exact fun m=>⟨Int.le_refl _,fun _ h=>by cases h⟩
 | cons x r ih =>
   intro m
   obtain ⟨h1,h2⟩:=ih (max m (d.getD x.toNat 0))
   rw [List.foldl_cons]
   refine ⟨by omega,fun c hc=>?_⟩
   rcases List.mem_cons.1 hc with rfl | hc
   ·omega
   ·exact h2 c hc
theorem kg {ns:List EN} {i:Nat} (hi:i<ns.length) (hk:∀ c∈aj (ndE ns i),0≤c∧c<(i:Int)):(bw ns []).getD i 0=mx (bw ns []) (aj (ndE ns i))+1:=by
 rw [G5 hi]
 have:=H6 (d:=bK ns i) (d':=bw ns []) (f:=id) (ks:=aj (ndE ns i)) fun c hc=>by
  have:=hk c hc
  exact (Bu (Nat.le_of_lt hi) (show c.toNat<i by omega)).symm
 rw [List.map_id] at this
 rw [this]
theorem qo {ns:List EN} (ht:bx ns):∀ (d k:Nat),ns.length-1-k≤d→k<ns.length→(bw ns []).getD k 0≤fw ns
 | d,k,hd,hk=>by
   have hp:=ht.pos
   rcases sL ht hk with ⟨h1,_⟩ | ⟨j,h1,h2,h3,_⟩
   ·subst h1
    exact Int.le_refl _
   ·cases d with
    | zero=>omega
    | succ d =>
      have ih:=qo ht d j (by omega) h2
      have h4:=kg h2 (aE (aN ht) h2)
      have h5:=HK (d:=bw ns []) h3
      rw [Int.toNat_natCast] at h5
      omega
theorem A1 {ns:List EN} (ht:bx ns) {i:Nat} (hi:i<ns.length) {j:Nat} (hj:j<(bf ns i).length):∀ c∈aj (ndE (sbE ns i) j),0≤c∧c<(j:Int):=fun c hc=>by
 obtain ⟨x,h1,h2,h3,h4,h5⟩:=uk ht hi hj
 rw [h5,cV (by rw [List.length_map,bd])] at hc
 obtain ⟨k,hk,rfl⟩:=List.mem_map.1 hc
 obtain ⟨g1,g2⟩:=aE (aN ht) (by omega) k hk
 obtain ⟨k,rfl⟩:∃ q:Nat,k=(q:Int):=⟨k.toNat,by omega⟩
 have:=y6 ht hi h3 hk
 omega
theorem xp {ns:List EN} (ht:bx ns) {i:Nat} (hi:i<ns.length):∀ (m j:Nat),j<m→(hj:j<(bf ns i).length)→(bw (sbE ns i) []).getD j 0=(bw ns []).getD ((bf ns i)[j]).toNat 0
 | 0,_,h,_=>absurd h (Nat.not_lt_zero _)
 | m+1,j,hm,hj=>by
   obtain ⟨x,h1,h2,h3,h4,h5⟩:=uk ht hi hj
   rw [kg (by rw [jV];exact hj) (A1 ht hi hj),h1,Int.toNat_natCast,kg (by omega) (aE (aN ht) (by omega)),h5,cV (by rw [List.length_map,bd])]
   congr 1
   refine H6 fun c hc=>?_
   obtain ⟨g1,g2⟩:=aE (aN ht) (by omega) c hc
   have hci:=kc ht hi h3 hc
   obtain ⟨c,rfl⟩:∃ q:Nat,c=(q:Int):=⟨c.toNat,by omega⟩
   have hlt:=y6 ht hi h3 hc
   have hcl:=List.idxOf_lt_length_of_mem hci
   rw [Int.toNat_natCast,Int.toNat_natCast,xp ht hi m _ (by omega) hcl,List.getElem_idxOf hcl,Int.toNat_natCast]
theorem rG {ns:List EN} (ht:bx ns) {i:Nat} (hi:i<ns.length):dt (sbE ns i)=0:=by
 have hb:=gN ht hi
 have hL:(bf ns i).length=((aj (ndE ns i)).flatMap (bT ns ns.length)).length+1:=by rw [hb,List.length_append];rfl
 have hfew:=Ha ht hi
 have h600:=ht.few
 unfold dt
 rw [if_neg (by rw [jV];omega)]
 have hok:okE (sbE ns i)=true:=by
  unfold okE
  refine List.all_eq_true.2 fun j hj=>?_
  have hj:=List.mem_range.1 hj
  rw [jV] at hj
  obtain ⟨x,h1,h2,h3,h4,h5⟩:=uk ht hi hj
  have hr:ar (ndE (sbE ns i) j)=true:=by rw [h5];exact oS (ht.right x (by omega))
  rw [hr,Bool.true_and]
  unfold b7
  rw [Bool.and_eq_true]
  refine ⟨List.all_eq_true.2 fun c hc=>?_,?_⟩
  ·have:=A1 ht hi hj c hc
   simp only [Bool.and_eq_true,decide_eq_true_eq]
   exact this
  ·have hlk:=ht.link x (by omega)
   unfold b7 at hlk
   rw [Bool.and_eq_true] at hlk
   rw [h5,fT]
   by_cases h8:(ndE ns x).k=8
   ·have h9:=hlk.2
    simp only [h8,Bool.or_eq_true,decide_eq_true_eq] at h9
    have h9:=h9.resolve_left (by simp)
    have hke:aj (ndE ns x)=[(ndE ns x).a,(ndE ns x).b]:=by simp [aj,h8,aG,aw]
    have ham:(ndE ns x).a∈aj (ndE ns x):=by rw [hke];exact List.mem_cons_self
    obtain ⟨g1,g2⟩:=aE (aN ht) (by omega) _ ham
    have hai:=kc ht hi h3 ham
    have e:(aM (ndE ns x) ((aj (ndE ns x)).map fun k=>((bf ns i).idxOf k:Int))).a=((bf ns i).idxOf (ndE ns x).a:Int):=by
     show (if 0<aG (ndE ns x).k then _ else _)=_
     rw [if_pos (by rw [h8];decide),hke]
     rfl
    rw [e,Int.toNat_natCast]
    obtain ⟨a,ha⟩:∃ a:Nat,(ndE ns x).a=(a:Int):=⟨(ndE ns x).a.toNat,by omega⟩
    rw [ha,Int.toNat_natCast] at h9
    rw [ha] at hai ⊢
    rw [Kg ht hi hai,fT,h9]
    simp
   ·simp [h8]
 rw [hok,Ho ht hi,Bool.and_self,if_pos rfl]
 have hd:fw (sbE ns i)=(bw ns []).getD i 0:=by
  have hlt:(sbE ns i).length-1<(bf ns i).length:=by rw [jV];omega
  unfold fw
  rw [xp ht hi _ _ (Nat.lt_succ_self _) hlt]
  congr 1
  have:(bf ns i)[(sbE ns i).length-1]=(i:Int):=by
   simp only [jV,hb]
   simp
  rw [this,Int.toNat_natCast]
 have:=qo ht _ i (Nat.le_refl _) hi
 have:=ht.deep
 rw [if_neg (by omega)]
end Go.Proofs.YtejpnabbmgpmaaaGreatDoor

namespace Go.Proofs.YtejpnabbmgpmaaaGreatDoor
open Go.Ab
def GL (n:EN):Prop:=ar n=true∧inR n.n
theorem GL.with {n:EN} (ks:List Int) (h:GL n):GL (aM n ks):=⟨oS h.1,h.2⟩
mutual
def RT.rt:RT→Prop
 | .mk n ts=>GL n∧RT.rts ts
def RT.rts:List RT→Prop
 | []=>True
 | t::r=>t.rt∧RT.rts r
end
theorem mC:∀ ts:List RT,RT.rts ts↔∀ t∈ts,t.rt
 | []=>by simp [RT.rts]
 | t::r=>by rw [RT.rts,mC r];simp
theorem BW {P:EN→Prop} (hP:∀ n ks,P n→P (aM n ks)):∀ (ls:List (List EN)) (acc:List EN) (rs:List Int),(∀ l∈ls,∀ x∈l,P x)→(∀ x∈acc,P x)→∀ x∈(br ls acc rs).1,P x
 | [],_,_,_,h=>h
 | l::r,acc,rs,hl,h=>by
   refine BW hP r _ _ (fun x hx=>hl x (List.mem_cons_of_mem _ hx)) fun x hx=>?_
   rcases List.mem_append.1 hx with hx | hx
   ·exact h x hx
   ·obtain ⟨y,hy,rfl⟩:=List.mem_map.1 hx
    exact hP _ _ (hl l List.mem_cons_self y hy)
mutual
theorem lD:∀ t:RT,t.rt→∀ x∈t.enc,GL x
 | .mk n ts,h,x,hx=>by
   rw [RT.rt] at h
   rw [RT.enc] at hx
   rcases List.mem_append.1 hx with hx | hx
   ·exact BW (fun _ ks h=>h.with ks) _ _ _ (ot ts h.2) (fun _ h=>by cases h) x hx
   ·rw [List.mem_singleton.1 hx]
    exact h.1.with _
theorem ot:∀ ts:List RT,RT.rts ts→∀ l∈RT.encs ts,∀ x∈l,GL x
 | [],_,l,hl=>by rw [RT.encs] at hl;cases hl
 | t::r,h,l,hl=>by
   rw [RT.rts] at h
   rw [RT.encs] at hl
   rcases List.mem_cons.1 hl with rfl | hl
   ·exact lD t h.1
   ·exact ot r h.2 l hl
end
theorem sB {s:List UInt8} (h:bD s=true):s.length≤20:=by
 unfold bD ba at h
 simp only [Bool.and_eq_true,decide_eq_true_eq] at h
 exact h.1.1.1.2
theorem C5 {s:List UInt8} (h:dQ s=true):s.length≤20:=by
 unfold dQ ba at h
 simp only [Bool.and_eq_true,decide_eq_true_eq] at h
 exact h.1.1.2
theorem mS {n:EN} (h:ar n=true):n.s.length≤200:=by
 unfold ar bH at h
 simp only [Bool.and_eq_true] at h
 have h1:=h.2.1.1.2
 (repeat' split at h1)<;>simp only [Bool.and_eq_true,decide_eq_true_eq,List.isEmpty_iff] at h1
 ·rw [h1];decide
 ·rw [h1.2];decide
 ·rw [h1.2];decide
 ·exact h1.2
 ·rw [h1.2];decide
theorem n8 {n:EN} (h:ar n=true):eY BIG n:=by
 have hl:=ju h
 have hs:=mS h
 have hx:(20:Nat)≤BIG:=by unfold BIG;omega
 refine ⟨?_,by unfold BIG;omega,by omega,fun f hf=>?_⟩
 ·unfold ar da at h
  simp only [Bool.and_eq_true] at h
  have h1:=h.2.1.1.1
  (repeat' split at h1)
  ·have:=sB h1;omega
  ·have:=C5 h1;omega
  ·rw [List.isEmpty_iff] at h1
   rw [h1]
   exact Nat.zero_le _
 ·unfold ar bm at h
  simp only [Bool.and_eq_true] at h
  have h1:=h.2.1.2
  split at h1
  ·simp only [Bool.and_eq_true] at h1
   have h2:=List.all_eq_true.1 h1.1 f hf
   unfold dG at h2
   split at h2<;>simp only [Bool.and_eq_true,List.isEmpty_iff] at h2
   ·have:=sB h2.1
    rw [h2.2]
    exact ⟨by omega,Nat.zero_le _⟩
   ·have:=C5 h2.1
    have:=sB h2.2
    exact ⟨by omega,by omega⟩
  ·rw [List.isEmpty_iff] at h1
   rw [h1] at hf
   cases hf
theorem HV {ns:List EN} (ht:bx ns) (hr:∀ n∈ns,inR n.n):∀ (m i:Nat),i<m→i<ns.length→(rtE ns m i).rt
 | 0,_,h,_=>absurd h (Nat.not_lt_zero _)
 | m+1,i,him,hi=>by
   rw [rtE,RT.rt,Int.toNat_natCast,mC]
   refine ⟨GL.with _ ⟨ht.right i hi,hr _ (by rw [bh hi];exact List.getElem_mem hi)⟩,fun t htm=>?_⟩
   obtain ⟨k,hkk,rfl⟩:=List.mem_map.1 htm
   obtain ⟨h3,h4⟩:=aE (aN ht) hi k hkk
   obtain ⟨k,rfl⟩:∃ q:Nat,k=(q:Int):=⟨k.toNat,by omega⟩
   exact HV ht hr m k (by omega) (by omega)
structure RT.good (t:RT):Prop where
 ok:t.ok
 rt:t.rt
theorem mM {ns:List EN} (ht:bx ns) (hr:∀ n∈ns,inR n.n) {i:Nat} (hi:i<ns.length):(trE ns i).good:=⟨HF (aN ht) hi,HV ht hr _ _ hi hi⟩
theorem bJ {n:EN} {ts:List RT}:(RT.mk n ts).good↔(aF n=ts.length∧can n=n∧GL n)∧∀ t∈ts,t.good:=by
 constructor
 ·rintro ⟨h1,h2⟩
  rw [RT.ok,mU] at h1
  rw [RT.rt,mC] at h2
  exact ⟨⟨h1.1.1,h1.1.2,h2.1⟩,fun t ht=>⟨h1.2 t ht,h2.2 t ht⟩⟩
 ·rintro ⟨⟨h1,h2,h3⟩,h4⟩
  refine ⟨?_,?_⟩
  ·rw [RT.ok,mU]
   exact ⟨⟨h1,h2⟩,fun t ht=>(h4 t ht).ok⟩
  ·rw [RT.rt,mC]
   exact ⟨h3,fun t ht=>(h4 t ht).rt⟩
def mh:RT:=.mk (can (ndE [] 0)) []
def RT.lab:RT→EN
 | .mk n _=>n
def RT.kids:RT→List RT
 | .mk _ ts=>ts
def RT.kid (t:RT) (j:Nat):RT:=t.kids.getD j mh
mutual
def Lg:RT→Bool
 | .mk n ts=>if n.k=11∨n.k=13 then HH ts else decide (n.k=1) || decide (n.k=2) || decide (n.k=3) || decide (n.k=5)
def HH:List RT→Bool
 | []=>true
 | t::r=>Lg t && HH r
end
def Iz (n:EN) (k:Nat) (x:List UInt8):Bool :=
 if n.k=5∨n.k=8 then n.name == x else if n.k=7 then (n.name == x) && decide (k=1) else if n.k=14 then decide (0<k) && ((fdE n.l (k-1)).var == x) else false
mutual
def Cg (x:List UInt8) (v:RT):RT→RT
 | .mk n ts=>if n.k=4∧n.name=x then v else .mk n (HR x v n 0 ts)
def HR (x:List UInt8) (v:RT) (n:EN):Nat→List RT→List RT
 | _,[]=>[]
 | k,t::r=>(if Iz n k x then t else Cg x v t)::HR x v n (k+1) r
end
def RT.sz (t:RT):Nat:=t.enc.length
def szs (ts:List RT):Nat:=(ts.map RT.sz).sum
theorem zE (ts:List RT):bA (RT.encs ts)=szs ts:=by
 unfold bA szs
 rw [gK,List.map_map]
 rfl
theorem Bl (n:EN) (ts:List RT):(RT.mk n ts).sz=szs ts+1:=by
 unfold RT.sz
 rw [RT.enc,db,zE]
def HC (n:EN):RT:=.mk (can n) []
def Kt (n a b:EN):Int × RT :=
 if n.n=7 then (if a.k=3∧b.k=3 then (5,HC ⟨3,0,0,0,0,[],(a.s++b.s).take 200,[],n.pos⟩) else (4,mh))
 else if a.k=1∧b.k=1 then (if K0 n.n b.n≠0 then (2,mh) else (5,HC ⟨if 5≤n.n then 2 else 1,0,0,0,Kr n.n a.n b.n,[],[],[],n.pos⟩)) else (4,mh)
def GX (n:EN) (f:RT):RT :=
 if f.lab.name=n.name then f else .mk (can ⟨5,0,0,0,0,f.lab.name,[],[],f.lab.pos⟩) [.mk (can ⟨8,0,0,0,0,n.name,[],[],n.pos⟩) [f,f.kid 0]]
def DU (l:List EF) (x:List UInt8):Nat:=l.findIdx fun f=>f.nm == x
def IK (n:EN) (ts:List RT):Int × RT :=
 let c:=fun j=>ts.getD j mh
 if n.k=6 then (if (c 0).lab.k=5 then (5,Cg (c 0).lab.name (c 1) ((c 0).kid 0)) else (4,mh))
 else if n.k=7 then (5,Cg n.name (c 0) (c 1))
 else if n.k=8 then (5,Cg n.name (GX n (c 0)) (c 1))
 else if n.k=9 then (if (c 0).lab.k=2 then (5,if (c 0).lab.n=1 then c 1 else c 2) else (4,mh))
 else if n.k=10 then Kt n (c 0).lab (c 1).lab
 else if n.k=12 then (if (c 0).lab.k=11∧DU (c 0).lab.l n.name<(c 0).lab.l.length then (5,(c 0).kid (DU (c 0).lab.l n.name)) else (4,mh))
 else if n.k=14 then (if (c 0).lab.k=13∧DU n.l (c 0).lab.name<n.l.length then (5,Cg (fdE n.l (DU n.l (c 0).lab.name)).var ((c 0).kid 0) (c (DU n.l (c 0).lab.name+1))) else (4,mh))
 else (4,mh)
def Jd (n:EN) (k:Nat):Bool:=if n.k=6∨n.k=10∨n.k=11 then true else if n.k=7∨n.k=9∨n.k=12∨n.k=13∨n.k=14 then decide (k=0) else false
mutual
def stT:RT→Int × RT
 | .mk n ts=>match Ki n 0 ts with
   | none=>IK n ts
   | some (h,us)=>if h=5 then (5,.mk n us) else (h,mh)
def Ki (n:EN):Nat→List RT→Option (Int × List RT)
 | _,[]=>none
 | k,t::r=>if Jd n k && !Lg t then some ((stT t).1,(stT t).2::r) else (Ki n (k+1) r).map fun q=>(q.1,t::q.2)
end
end Go.Proofs.YtejpnabbmgpmaaaGreatDoor

namespace Go.Proofs.YtejpnabbmgpmaaaGreatDoor
open Go.Ab
mutual
def RT.lk:RT→Prop
 | .mk n ts=>(n.k=8→(ts.getD 0 mh).lab.k=5)∧RT.lks ts
def RT.lks:List RT→Prop
 | []=>True
 | t::r=>t.lk∧RT.lks r
end
theorem sH:∀ ts:List RT,RT.lks ts↔∀ t∈ts,t.lk
 | []=>by simp [RT.lks]
 | t::r=>by rw [RT.lks,sH r];simp
theorem BZ (n:EN):(can n).k=n.k:=rfl
theorem BS (n:EN):(can n).name=n.name:=rfl
theorem LQ (n:EN):(can n).s=n.s:=rfl
theorem KH (n:EN):(can n).n=n.n:=rfl
theorem Cy (ns:List EN) (m:Nat) (i:Nat) (h:0<m):(rtE ns m i).lab=can (ndE ns i):=by
 obtain ⟨m,rfl⟩:∃ q,m=q+1:=⟨m-1,by omega⟩
 rw [rtE,Int.toNat_natCast]
 rfl
theorem H5 {ns:List EN} (ht:bx ns):∀ (m i:Nat),i<m→i<ns.length→(rtE ns m i).lk
 | 0,_,h,_=>absurd h (Nat.not_lt_zero _)
 | m+1,i,him,hi=>by
   rw [rtE,RT.lk,Int.toNat_natCast,sH]
   refine ⟨fun h8=>?_,fun t htm=>?_⟩
   ·rw [BZ] at h8
    have hlk:=ht.link i hi
    unfold b7 at hlk
    rw [Bool.and_eq_true] at hlk
    have h9:=hlk.2
    simp only [h8,Bool.or_eq_true,decide_eq_true_eq] at h9
    have h9:=h9.resolve_left (by simp)
    have hke:aj (ndE ns i)=[(ndE ns i).a,(ndE ns i).b]:=by simp [aj,h8,aG,aw]
    obtain ⟨g1,g2⟩:=aE (aN ht) hi (ndE ns i).a (by rw [hke];exact List.mem_cons_self)
    rw [hke]
    obtain ⟨a,ha⟩:∃ a:Nat,(ndE ns i).a=(a:Int):=⟨(ndE ns i).a.toNat,by omega⟩
    rw [ha] at h9 ⊢
    rw [Int.toNat_natCast] at h9
    show (rtE ns m a).lab.k=5
    rw [Cy ns m a (by omega),BZ,h9]
   ·obtain ⟨k,hkk,rfl⟩:=List.mem_map.1 htm
    obtain ⟨h3,h4⟩:=aE (aN ht) hi k hkk
    obtain ⟨k,rfl⟩:∃ q:Nat,k=(q:Int):=⟨k.toNat,by omega⟩
    exact H5 ht m k (by omega) (by omega)
theorem JD {n:EN} (h:aw n.k=false):aF n=aG n.k:=by unfold aF;rw [h];rfl
theorem zS {n:EN} (h:ar n=true):0≤n.pos∧n.pos≤1048576:=by
 unfold ar at h
 simp only [Bool.and_eq_true,decide_eq_true_eq] at h
 exact ⟨h.1.1.2,h.1.2⟩
theorem wj {n:EN} (h:ar n=true) (hk:n.k=4∨n.k=5∨n.k=7∨n.k=8∨n.k=12):bD n.name=true:=by
 unfold ar da at h
 simp only [Bool.and_eq_true,if_pos hk] at h
 exact h.2.1.1.1
end Go.Proofs.YtejpnabbmgpmaaaGreatDoor

namespace Go.Proofs.YtejpnabbmgpmaaaGreatDoor
open Go.Ab
structure Tk where
 k:Int
 s:List UInt8
 n:Int
inductive Pc where
 | tok (t:Tk)
 | sp
def kwP (s:List UInt8):Pc:=.tok ⟨1,s,0⟩
def nmP (s:List UInt8):Pc:=.tok ⟨2,s,0⟩
def tgP (s:List UInt8):Pc:=.tok ⟨3,s,0⟩
def sgP (s:List UInt8):Pc:=.tok ⟨7,s,0⟩
def eZ (op:Int):List UInt8:=if op=1 then [43] else if op=2 then [45] else if op=3 then [42] else if op=4 then [47] else if op=5 then [60] else if op=6 then [61,61] else if op=7 then [94] else []
def ak (n:EN):Nat :=
 if n.k=5∨n.k=7∨n.k=8∨n.k=9 then 0
 else if n.k=10 then (if n.n=5∨n.n=6 then 1 else if n.n=3∨n.n=4 then 3 else 2)
 else if n.k=13 then 4 else if n.k=6 then 5 else if n.k=12 then 6 else 7
def atP (least:Nat) (q:Nat × List Pc):List Pc:=if least≤q.1 then q.2 else sgP [40]::(q.2++[sgP [41]])
def fU (sep:List Pc):List (List Pc)→List Pc
 | []=>[]
 | a::r=>a++r.flatMap (sep++·)
def oK (f:EF) (q:Nat × List Pc):List Pc:=[nmP f.nm,.sp,sgP [61],.sp]++q.2
def nI (f:EF) (q:Nat × List Pc):List Pc:=[tgP f.nm,.sp,nmP f.var,.sp,sgP bTo,.sp]++q.2
def cP (ks:List (Nat × List Pc)) (j least:Nat):List Pc:=atP least (ks.getD j (0,[]))
def pcN (n:EN) (ks:List (Nat × List Pc)):List Pc :=
 if n.k=1 then [.tok ⟨4,[],n.n⟩]
 else if n.k=2 then [kwP (if n.n=1 then cC else bF)]
 else if n.k=3 then [.tok ⟨5,n.s,0⟩]
 else if n.k=4 then [nmP n.name]
 else if n.k=5 then [kwP oC,.sp,nmP n.name,.sp,sgP bTo,.sp]++cP ks 0 0
 else if n.k=6 then cP ks 0 5++([.sp]++cP ks 1 6)
 else if n.k=7 then [kwP kS,.sp,nmP n.name,.sp,sgP [61],.sp]++(cP ks 0 0++([.sp,kwP bIn,.sp]++cP ks 1 0))
 else if n.k=8 then [kwP kS,.sp,kwP gh,.sp,nmP n.name,.sp,sgP [61],.sp]++(cP ks 0 0++([.sp,kwP bIn,.sp]++cP ks 1 0))
 else if n.k=9 then [kwP bIf,.sp]++(cP ks 0 0++([.sp,kwP jQ,.sp]++(cP ks 1 0++([.sp,kwP jU,.sp]++cP ks 2 0))))
 else if n.k=10 then cP ks 0 (max (ak n) 2)++([.sp,sgP (eZ n.n),.sp]++cP ks 1 (ak n+1))
 else if n.k=11 then [sgP [123]]++(fU [sgP [44],.sp] (List.zipWith oK n.l ks)++[sgP [125]])
 else if n.k=12 then cP ks 0 6++[sgP [46],nmP n.name]
 else if n.k=13 then [tgP n.name,.sp]++cP ks 0 6
 else [kwP fV,.sp]++(cP ks 0 0++([.sp,kwP bOf,.sp]++(fU [.sp,sgP [124],.sp] (List.zipWith nI n.l (ks.drop 1))++[.sp,kwP sW])))
mutual
def RT.pcs:RT→List Pc
 | .mk n ts=>pcN n (RT.pcss ts)
def RT.pcss:List RT→List (Nat × List Pc)
 | []=>[]
 | t::r=>(ak t.lab,t.pcs)::RT.pcss r
end
mutual
def RT.dep:RT→Nat
 | .mk _ ts=>RT.deps ts+1
def RT.deps:List RT→Nat
 | []=>0
 | t::r=>max t.dep (RT.deps r)
end
mutual
def RT.np:RT→RT
 | .mk n ts=>.mk { n with pos:=0 } (RT.nps ts)
def RT.nps:List RT→List RT
 | []=>[]
 | t::r=>t.np::RT.nps r
end
theorem my:∀ ts:List RT,RT.nps ts=ts.map RT.np
 | []=>rfl
 | t::r=>by rw [RT.nps,my r];rfl
theorem sq:∀ {ts:List RT} {t:RT},t∈ts→t.dep≤RT.deps ts
 | [],_,h=>by cases h
 | u::r,t,h=>by
   rw [RT.deps]
   rcases List.mem_cons.1 h with rfl | h
   ·omega
   ·have:=sq h;omega
theorem nh:∀ ts:List RT,RT.pcss ts=ts.map fun t=>(ak t.lab,t.pcs)
 | []=>rfl
 | t::r=>by rw [RT.pcss,nh r];rfl
def tkP (l:List Pc):List Tk:=l.filterMap fun p=>match p with
 | .tok t=>some t
 | .sp=>none
theorem er:tkP []=[]:=rfl
theorem eX (r:List Pc):tkP (.sp::r)=tkP r:=rfl
theorem cn (t:Tk) (r:List Pc):tkP (.tok t::r)=t::tkP r:=rfl
theorem bZ (a b:List Pc):tkP (a++b)=tkP a++tkP b:=List.filterMap_append
def RT.tks (t:RT):List Tk:=tkP t.pcs
def dc (least:Nat) (t:RT):List Tk:=tkP (atP least (ak t.lab,t.pcs))
theorem mc {least:Nat} {t:RT} (h:least≤ak t.lab):dc least t=t.tks:=by
 unfold dc atP
 rw [if_pos h];rfl
theorem oc {least:Nat} {t:RT} (h:¬ least≤ak t.lab):dc least t=⟨7,[40],0⟩::(t.tks++[⟨7,[41],0⟩]):=by
 unfold dc atP
 rw [if_neg h]
 show ⟨7,[40],0⟩::tkP (t.pcs++[sgP [41]])=_
 rw [bZ];rfl
theorem ef (ts:List RT) (j least:Nat) (h:j<ts.length):tkP (cP (RT.pcss ts) j least)=dc least ts[j]:=by
 unfold cP dc
 rw [nh,List.getD_eq_getElem?_getD,List.getElem?_map,List.getElem?_eq_getElem h];rfl
theorem Jo {n:EN} (h:ar n=true) (hc:can n=n) (hp:aw n.k=false) :
  n=⟨n.k,0,0,0,if n.k=1∨n.k=2∨n.k=10 then n.n else 0,if n.k=4∨n.k=5∨n.k=7∨n.k=8∨n.k=12∨n.k=13 then n.name else [],if n.k=3 then n.s else [],[],n.pos⟩:=by
 have g:∀ (m j:Nat),(List.replicate m (0:Int)).getD j 0=0:=fun m j=>by
  rw [List.getD_eq_getElem?_getD,List.getElem?_replicate]
  split<;>rfl
 have ha:n.a=0:=by rw [← hc];show (if _ then _ else _)=_;rw [g];split<;>rfl
 have hb:n.b=0:=by rw [← hc];show (if _ then _ else _)=_;rw [g];split<;>rfl
 have hcc:n.c=0:=by rw [← hc];show (if _ then _ else _)=_;rw [g];split<;>rfl
 have hl:n.l=[]:=by rw [← hc];show (if _ then _ else _)=_;rw [hp];rfl
 unfold ar at h
 simp only [Bool.and_eq_true] at h
 obtain ⟨_,⟨⟨hN,hC⟩,_⟩,_⟩:=h
 unfold da at hN
 unfold bH at hC
 obtain ⟨k,a,b,c,m,nm,s,l,p⟩:=n
 simp only at *
 subst ha hb hcc hl
 simp only [EN.mk.injEq,true_and,and_true]
 refine ⟨?_,?_,?_⟩
 ·split
  ·rfl
  ·rename_i q
   rw [if_neg (by omega),if_neg (by omega),if_neg (by omega)] at hC
   split at hC<;>simp at hC<;>exact hC.1
 ·split
  ·rfl
  ·rename_i q
   rw [if_neg (by omega),if_neg (by omega)] at hN
   exact List.isEmpty_iff.1 hN
 ·split
  ·rfl
  ·rename_i q
   split at hC
   ·exact List.isEmpty_iff.1 hC
   split at hC
   ·simp at hC;exact hC.2
   split at hC
   ·simp at hC;exact hC.2
   simp [q] at hC;exact hC.2
theorem zw {n:EN} (h:ar n=true) (hc:can n=n) (hp:aw n.k=true) :
  n=⟨n.k,0,0,0,0,[],[],n.l.map (fun f=>(⟨f.nm,if n.k=14 then f.var else [],0⟩:EF)),n.pos⟩:=by
 have g:∀ (m j:Nat),(List.replicate m (0:Int)).getD j 0=0:=fun m j=>by
  rw [List.getD_eq_getElem?_getD,List.getElem?_replicate]
  split<;>rfl
 have hk:n.k=11∨n.k=14:=by simpa [aw] using hp
 have ha:n.a=0:=by rw [← hc];show (if _ then _ else _)=_;rw [g];split<;>rfl
 have hb:n.b=0:=by rw [← hc];show (if _ then _ else _)=_;rw [g];split<;>rfl
 have hcc:n.c=0:=by rw [← hc];show (if _ then _ else _)=_;rw [g];split<;>rfl
 have hto:∀ f∈n.l,f.to=0:=by
  have e:n.l=aT (List.replicate (aF n) 0) (aG n.k) n.l 0:=by
   conv=>lhs;rw [← hc]
   show (if _ then _ else _)=_
   rw [hp];rfl
  have hm:=oz (List.replicate (aF n) 0) (aG n.k) n.l 0 (by rw [List.length_replicate];unfold aF;rw [hp];simp)
  rw [← e] at hm
  intro f hf
  have:f.to∈n.l.map (·.to):=List.mem_map_of_mem hf
  rw [hm] at this
  exact List.eq_of_mem_replicate (List.mem_of_mem_drop this)
 unfold ar at h
 simp only [Bool.and_eq_true] at h
 obtain ⟨_,⟨⟨hN,hC⟩,hP⟩,_⟩:=h
 unfold da at hN
 unfold bH at hC
 unfold bm at hP
 rw [hp,if_pos rfl] at hP
 simp only [Bool.and_eq_true] at hP
 have hv:∀ f∈n.l,n.k≠14→f.var=[]:=fun f hf h14=>by
  have:=List.all_eq_true.1 hP.1 f hf
  unfold dG at this
  rw [if_pos (by omega)] at this
  simp at this
  exact this.2
 obtain ⟨k,a,b,c,m,nm,s,l,p⟩:=n
 simp only at *
 subst ha hb hcc
 rw [if_neg (by omega),if_neg (by omega)] at hN
 rw [if_neg (by omega),if_neg (by omega),if_neg (by omega),if_neg (by omega)] at hC
 simp at hN hC
 simp only [EN.mk.injEq,true_and,and_true]
 refine ⟨hC.1,hN,hC.2,?_⟩
 conv=>lhs;rw [← List.map_id l]
 refine List.map_congr_left fun f hf=>?_
 have h1:=hto f hf
 have h2:=hv f hf
 obtain ⟨fn,fv,ft⟩:=f
 simp only at h1 h2
 subst h1
 split
 ·rfl
 ·rename_i q
  rw [h2 q];rfl
end Go.Proofs.YtejpnabbmgpmaaaGreatDoor

namespace Go.Proofs.YtejpnabbmgpmaaaGreatDoor
open Go.Ab
theorem j7:∀ (m m':Nat) (l:List UInt8),l.length<m→l.length<m'→eN m l=eN m' l
 | 0,_,_,h,_=>absurd h (Nat.not_lt_zero _)
 | _,0,_,_,h=>absurd h (Nat.not_lt_zero _)
 | m+1,m'+1,[],_,_=>rfl
 | m+1,m'+1,c::r,h,h'=>by
   simp only [List.length_cons] at h h'
   unfold eN
   by_cases hb:c=32∨c=9∨c=10
   ·rw [if_pos hb,if_pos hb,j7 m m' r (by omega) (by omega)]
   rw [if_neg hb,if_neg hb]
   by_cases hr:c=35
   ·rw [if_pos hr,if_pos hr]
    cases hf:dJ (c::r) with
    | none=>rfl
    | some k =>
      have hk:=nA (by rw [hr];decide) hf
      simp only
      rw [j7 m m' ((c::r).drop k) (by rw [List.length_drop,List.length_cons];omega) (by rw [List.length_drop,List.length_cons];omega)]
   ·rw [if_neg hr,if_neg hr]
theorem mY {c:UInt8} {r:List UInt8} (hb:c=32∨c=9∨c=10):aW (c::r)=aW r+1:=by
 unfold aW
 rw [Nat.succ_eq_add_one,eN,if_pos hb]
 rfl
theorem qi {c:UInt8} {r:List UInt8} (hb:¬ (c=32∨c=9∨c=10)) (hr:¬ c=35):aW (c::r)=0:=by
 unfold aW
 rw [Nat.succ_eq_add_one,eN,if_neg hb,if_neg hr]
def tX (l:List UInt8):Nat:=match dJ l with
 | none=>l.length
 | some k=>k+aW (l.drop k)
theorem Dj {r:List UInt8}:aW (35::r)=tX (35::r):=by
 unfold tX
 have h:=eN.eq_3 (35::r).length 35 r
 unfold aW
 rw [Nat.succ_eq_add_one,eN,if_neg (by decide),if_pos rfl]
 cases hf:dJ (35::r) with
 | none=>rfl
 | some k =>
   simp only
   have hk:=nA (by decide) hf
   rw [j7 (35::r).length ((35::r).drop k).length.succ ((35::r).drop k) (by rw [List.length_drop,List.length_cons];omega) (Nat.lt_succ_self _)]
theorem Ie {c:UInt8} {r:List UInt8} (hc:¬ c=10):tX (c::r)=tX r+1:=by
 unfold tX
 rw [show dJ (c::r)=(dJ r).map (·+1) by conv=>lhs;unfold dJ;rw [if_neg hc]]
 cases dJ r with
 | none=>rfl
 | some k =>
   simp only [Option.map_some,List.drop_succ_cons]
   omega
theorem drop_cons {s:List UInt8} {i:Nat} (h:i<s.length):s.drop i=s.getD i 0::s.drop (i+1):=by
 rw [List.drop_eq_getElem_cons h]
 simp [h]
structure AI (s:List UInt8) (j i:Nat):Prop where
 hi:i≤s.length
 ti:TI s j (i+aW (s.drop i))
 ok:∀ q∈(aL s).take j,q.2.e=0
theorem AI.init (s:List UInt8):AI s 0 0:=⟨Nat.zero_le _,by rw [List.drop_zero,Nat.zero_add];exact TI.init s,fun q h=>by rw [List.take_zero] at h;cases h⟩
theorem AI.blank {s:List UInt8} {j i:Nat} (h:AI s j i) (hi:i<s.length) (hb:s.getD i 0=32∨s.getD i 0=9∨s.getD i 0=10):AI s j (i+1):=by
 refine ⟨by omega,?_,h.ok⟩
 have:=h.ti
 rw [drop_cons hi,mY hb] at this
 rwa [show i+1+aW (s.drop (i+1))=i+(aW (s.drop (i+1))+1) by omega]
structure RI (s:List UInt8) (j i:Nat):Prop where
 hi:i≤s.length
 ti:TI s j (i+tX (s.drop i))
 ok:∀ q∈(aL s).take j,q.2.e=0
theorem AI.rem {s:List UInt8} {j i:Nat} (h:AI s j i) (hi:i<s.length) (hr:s.getD i 0=35):RI s j i:=by
 refine ⟨h.hi,?_,h.ok⟩
 have:=h.ti
 rw [drop_cons hi,hr,Dj] at this
 rwa [drop_cons hi,hr]
theorem RI.on {s:List UInt8} {j i:Nat} (h:RI s j i) (hi:i<s.length) (hc:¬ s.getD i 0=10):RI s j (i+1):=by
 refine ⟨by omega,?_,h.ok⟩
 have:=h.ti
 rw [drop_cons hi,Ie hc] at this
 rwa [show i+1+tX (s.drop (i+1))=i+(tX (s.drop (i+1))+1) by omega]
theorem BE {l:List (Nat × Fnd)}:(∀ q∈l,q.2.e=0)→fO l=none:=by
 induction l with
 | nil=>intro _;rfl
 | cons a r ih =>
   intro h
   unfold fO
   rw [if_neg (by simp [h a List.mem_cons_self]),ih fun q hq=>h q (List.mem_cons_of_mem _ hq)]
theorem td {a:Nat × Fnd} (ha:a.2.e≠0):∀ {l:List (Nat × Fnd)},(∀ q∈l,q.2.e=0)→fO (l++[a])=some (a.1,a.2.e)
 | [],_=>by
   show fO [a]=_
   unfold fO
   rw [if_pos ha]
 | x::r,h=>by
   rw [List.cons_append,fO,if_neg (by simp [h x List.mem_cons_self])]
   exact td ha fun q hq=>h q (List.mem_cons_of_mem _ hq)
theorem AI.fin {s:List UInt8} {j i:Nat} (h:AI s j i) (hi:s.length≤i):bS s=(((aL s).take j).map ni,s.length,0):=by
 have hp:=h.ti
 rw [List.drop_eq_nil_of_le hi] at hp
 rcases hp.next with ⟨_,h2⟩ | ⟨h2,_⟩
 ·have hl:(aL s).length≤j:=List.drop_eq_nil_iff.1 h2
  have ho:=h.ok
  rw [List.take_of_length_le hl] at ho ⊢
  unfold bS
  rw [BE ho]
 ·have:=aW (([]:List UInt8))
  omega
theorem AI.tok {s:List UInt8} {j i:Nat} (h:AI s j i) (hi:i<s.length) (hb:¬ (s.getD i 0=32∨s.getD i 0=9∨s.getD i 0=10)) (hr:¬ s.getD i 0=35) :
  ((bL (s.drop i)).e≠0∧bS s=([],i,(bL (s.drop i)).e)) ∨
  ((bL (s.drop i)).e=0∧1≤(bL (s.drop i)).n∧(aL s).take (j+1)=(aL s).take j++[(i,bL (s.drop i))]∧j<(aL s).length∧AI s (j+1) (i+(bL (s.drop i)).n)):=by
 have ht:=h.ti
 rw [drop_cons hi,qi hb hr,Nat.add_zero] at ht
 obtain ⟨_,hget,hcase⟩:=ht.next.resolve_left (fun g=>by omega)
 obtain ⟨hj,hge⟩:=List.getElem?_eq_some_iff.1 hget
 have htk:(aL s).take (j+1)=(aL s).take j++[(i,bL (s.drop i))]:=by
  rw [List.take_succ_eq_append_getElem hj,hge]
 rcases hcase with ⟨he,hl⟩ | ⟨he,hn,hn1,hT⟩
 ·refine .inl ⟨he,?_⟩
  have ho:=h.ok
  have hall:aL s=(aL s).take j++[(i,bL (s.drop i))]:=by rw [← htk,List.take_of_length_le (by omega)]
  unfold bS
  rw [hall,td (a:=(i,bL (s.drop i))) he ho]
 ·refine .inr ⟨he,hn1,htk,hj,by omega,hT,fun q hq=>?_⟩
  rw [htk] at hq
  rcases List.mem_append.1 hq with hq | hq
  ·exact h.ok q hq
  ·rw [List.mem_singleton.1 hq];exact he
end Go.Proofs.YtejpnabbmgpmaaaGreatDoor

