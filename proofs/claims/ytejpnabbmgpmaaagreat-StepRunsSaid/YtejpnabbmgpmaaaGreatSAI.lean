/-
  Choices and names, read. (with the parts that follow it)
-/
import Derived.Test.YtejpnabbmgpmaaaGreatSAH
import Derived.Test.YtejpnabbmgpmaaaGreatSAG
import Derived.Test.YtejpnabbmgpmaaaGreatSAF
set_option linter.unusedSimpArgs false
namespace Go.Proofs.YtejpnabbmgpmaaaGreat
open Go.Ab
def qL (f:Nat) (G:List (Nat × Obj)) (N:Nat) (sub:PS→Int→PR):Prop:=∀ (s:PS) (p:Int),s.l.length≤100000→s.nest=N→HCall Tryz.prog G f [.at [100] 0,.d (i64 p)] (RO s) [100,101] (fun r hp'=>r=.d (exD (sub s p).1)∧hp'=RO (sub s p).2)
theorem Ik {G} {N:Nat} {ex:PS→PR} (hex:∀ s,GP 1 s (ex s)) (hc:Reads 53 G N ex):qL 99 G N (ifS ex):=by
 intro s p hl hN
 generalize hR:ifS ex s p=R
 unfold ifS at hR
 have ha:=hex s
 have ca:=hc s hl hN
 obtain ⟨a,sa,ea⟩:∃ a sa,ex s=(a,sa):=⟨_,_,rfl⟩
 rw [ea] at ha ca hR
 have la:=ha.ss.len
 have na:=ha.ss.nest
 have cm:=fe (G:=G) sa 1 qj (by simp only at la;omega) (by decide)
 have hm:=SS.must sa 1 qj
 simp only at hR la na
 generalize sa.must 1 qj=s2 at hR cm hm
 have l2:=hm.len
 have n2:=hm.nest
 have hb:=hex s2
 have cb:=hc s2 (by omega) (by rw [n2,na,hN])
 obtain ⟨b,sb,eb⟩:∃ b sb,ex s2=(b,sb):=⟨_,_,rfl⟩
 rw [eb] at hb cb hR
 have lb:=hb.ss.len
 have nb:=hb.ss.nest
 simp only at hR lb nb
 have cm2:=fe (G:=G) sb 1 qw (by omega) (by decide)
 have hm2:=SS.must sb 1 qw
 generalize sb.must 1 qw=s3 at hR cm2 hm2
 have l3:=hm2.len
 have n3:=hm2.nest
 have hd:=hex s3
 have cd:=hc s3 (by omega) (by rw [n3,nb,n2,na,hN])
 obtain ⟨d,sd,ed⟩:∃ d sd,ex s3=(d,sd):=⟨_,_,rfl⟩
 rw [ed] at hd cd hR
 simp only at hR
 have za:=ha.sz
 have zb:=hb.sz
 have zd:=hd.sz
 simp only at za zb zd
 have h4:=iL (G:=G) (nd0 9 p) [a,b,d] rfl (by simp) (by simp only [br,List.map_cons,List.map_nil,List.sum_cons,List.sum_nil];omega)
  (fun l h=>by
   simp only [List.mem_cons,List.mem_singleton,List.not_mem_nil,or_false] at h
   rcases h with rfl | rfl | rfl
   ·exact ha.tr.kids.2
   ·exact hb.tr.kids.2
   ·exact hd.tr.kids.2)
  (fun l h=>by
   simp only [List.mem_cons,List.mem_singleton,List.not_mem_nil,or_false] at h
   rcases h with rfl | rfl | rfl
   ·exact ha.wd.mono (by omega)
   ·exact hb.wd.mono (by omega)
   ·exact hd.wd.mono (by omega))
 generalize aD (nd0 9 p) [a,b,d]=J at h4 hR
 unfold exD at h4 ca cb cd
 subst hR
 unfold RO TO ah
 refine aq Tryz.func99 rfl (by decide +kernel) (by simp [Tryz.ntmps99]) (veil fun E=>?_)
 simp only [go_sem]
 refine ae E [.at [100] 0] (RO s) [100,101] (ca) rfl rfl ⟨by simp only [go_sem],by first | (rw [aa];decide) | (simp only [go_sem]<;>(try rw [aa])<;>decide)⟩ rfl (by unfold RO TO ah;simp only [go_sem]) (by unfold RO TO;simp only [go_sem]) ?_
 rintro _ _ ⟨rfl,rfl⟩
 unfold RO TO ah
 simp only [go_sem]
 refine ae E [.at [100] 0,.d (i64 1),.d (.str qj)] (RO sa) [100,101] (cm) rfl rfl ⟨by simp only [go_sem],by first | (rw [aa];decide) | (simp only [go_sem]<;>(try rw [aa])<;>decide)⟩ rfl (by unfold RO TO ah;simp only [go_sem]) (by unfold RO TO;simp only [go_sem]) ?_
 rintro _ _ ⟨rfl,rfl⟩
 unfold RO TO ah
 simp only [go_sem]
 refine ae E [.at [100] 0] (RO s2) [100,101] (cb) rfl rfl ⟨by simp only [go_sem],by first | (rw [aa];decide) | (simp only [go_sem]<;>(try rw [aa])<;>decide)⟩ rfl (by unfold RO TO ah;simp only [go_sem]) (by unfold RO TO;simp only [go_sem]) ?_
 rintro _ _ ⟨rfl,rfl⟩
 unfold RO TO ah
 simp only [go_sem]
 refine ae E [.at [100] 0,.d (i64 1),.d (.str qw)] (RO sb) [100,101] (cm2) rfl rfl ⟨by simp only [go_sem],by first | (rw [aa];decide) | (simp only [go_sem]<;>(try rw [aa])<;>decide)⟩ rfl (by unfold RO TO ah;simp only [go_sem]) (by unfold RO TO;simp only [go_sem]) ?_
 rintro _ _ ⟨rfl,rfl⟩
 unfold RO TO ah
 simp only [go_sem]
 refine aj mixed E fun X=>?_
 simp only [go_sem]
 refine bd X [.at [100] 0] (RO s3) [100,101] _ _ cd rfl rfl ⟨by simp only [go_sem],by rw [aa];decide⟩ rfl (by unfold RO TO ah;simp only [go_sem]) (by unfold RO TO;simp only [go_sem]) (by unfold RO TO;simp only [go_sem]) ?_
 unfold RO TO ah
 simp only [go_sem]
 refine cg X 21 [21] (some 1) [.agg [.sl (some 9) (a.map enD)],.agg [.sl (some 9) (b.map enD)],.agg [.sl (some 9) (d.map enD)]] h4 (fun _=>rfl) rfl rfl rfl (by simp) rfl (by simp only [go_sem]) ?_
 simp only [go_sem]
 refine ⟨by decide +kernel,?_⟩
 refine ⟨_,_,[100,101],id,⟨rfl,rfl⟩,?_⟩
 simp only [go_sem]
 rfl
end Go.Proofs.YtejpnabbmgpmaaaGreat

namespace Go.Proofs.YtejpnabbmgpmaaaGreat
open Go.Ab
theorem I3 {G} {N:Nat} {ex:PS→PR} (hex:∀ s,GP 1 s (ex s)) (hc:Reads 53 G N ex):qL 98 G N (sr ex):=by
 intro s p hl hN
 generalize hR:sr ex s p=R
 unfold sr at hR
 have cw:=kc (G:=G) s kJ (by omega)
 have hw:=SS.may s 1 kJ
 obtain ⟨c,hcc⟩:∃ c,c=s.sees 1 kJ:=⟨_,rfl⟩
 rw [← hcc] at cw
 simp only [← hcc] at hR
 generalize s.may 1 kJ=s1 at hR cw hw
 have l1:=hw.len
 have n1:=hw.nest
 have co:=lP (G:=G) s1 2 (by omega)
 have ho:=SS.of s1 2
 obtain ⟨nm,so,eo⟩:∃ nm so,s1.of 2=(nm,so):=⟨_,_,rfl⟩
 rw [eo] at co ho hR
 simp only at co ho hR
 have lo:=ho.len
 have no:=ho.nest
 have cm:=fe (G:=G) so 7 [61] (by omega) (by decide)
 have hm:=SS.must so 7 [61]
 generalize so.must 7 [61]=s2 at hR cm hm
 have l2:=hm.len
 have n2:=hm.nest
 have cp:=dN (G:=G) s2.l s2.fin (by omega)
 rw [jF] at hR
 generalize b8 s2.l s2.fin=t at hR cp
 have ha:=hex s2
 have ca:=hc s2 (by omega) (by rw [n2,no,n1,hN])
 obtain ⟨a,sa,ea⟩:∃ a sa,ex s2=(a,sa):=⟨_,_,rfl⟩
 rw [ea] at ha ca hR
 have la:=ha.ss.len
 have na:=ha.ss.nest
 simp only at hR la na
 have hap:=ha.tr.kids.1
 have za:=ha.sz
 simp only at hap za
 have cf:=nI (G:=G) sa 5 t.pos
 have key:∀ s3:PS,s3.l=sa.l→s3.nest=sa.nest→∀ k:Int,(aD { nd0 k p with name:=nm } [a,(ex (s3.must 1 bIn)).1],(ex (s3.must 1 bIn)).2)=R →
   HCall Tryz.prog G 97 [.at [100] 0,.d (i64 1),.d (.str bIn)] (RO s3) [100,101] (fun r hp'=>r=.tup []∧hp'=RO (s3.must 1 bIn))∧∃ b sb J,R=(J,sb) ∧
   HCall Tryz.prog G 53 [.at [100] 0] (RO (s3.must 1 bIn)) [100,101] (fun r hp'=>r=.d (.agg [.sl (some 9) (b.map enD)])∧hp'=RO sb) ∧
   HP Tryz.prog G 86 [ndN { nd0 k p with name:=nm },.sl (some 1) ([a,b].map exD)] (fun r=>r=.d (.agg [.sl (some 9) (J.map enD)])):=by
  intro s3 e1 e2 k hk
  have cm3:=fe (G:=G) s3 1 bIn (by rw [e1];omega) (by decide)
  have hm3:=SS.must s3 1 bIn
  generalize s3.must 1 bIn=s4 at hk cm3 hm3 ⊢
  have l4:=hm3.len
  have n4:=hm3.nest
  rw [e1] at l4
  have hb:=hex s4
  have cb:=hc s4 (by omega) (by rw [n4,e2,na,n2,no,n1,hN])
  obtain ⟨b,sb,eb⟩:∃ b sb,ex s4=(b,sb):=⟨_,_,rfl⟩
  rw [eb] at hb cb hk
  have zb:=hb.sz
  simp only at zb hk
  have h4:=iL (G:=G) { nd0 k p with name:=nm } [a,b] rfl (by simp) (by simp only [br,List.map_cons,List.map_nil,List.sum_cons,List.sum_nil];omega)
   (fun l h=>by
    simp only [List.mem_cons,List.mem_singleton,List.not_mem_nil,or_false] at h
    rcases h with rfl | rfl
    ·exact ha.tr.kids.2
    ·exact hb.tr.kids.2)
   (fun l h=>by
    simp only [List.mem_cons,List.mem_singleton,List.not_mem_nil,or_false] at h
    rcases h with rfl | rfl
    ·exact ha.wd.mono (by omega)
    ·exact hb.wd.mono (by omega))
  exact ⟨cm3,b,sb,_,hk.symm,cb,h4⟩
 unfold exD at ca
 unfold RO TO ah
 refine aq Tryz.func98 rfl (by decide +kernel) (by simp [Tryz.ntmps98]) (veil fun E=>?_)
 simp only [go_sem]
 refine ae E [.at [100] 0,.d (.str kJ)] (RO s) [100,101] (cw) rfl rfl ⟨by simp only [go_sem],by first | (rw [aa];decide) | (simp only [go_sem]<;>(try rw [aa])<;>decide)⟩ rfl (by unfold RO TO ah;simp only [go_sem]) (by unfold RO TO;simp only [go_sem]) ?_
 rintro _ _ ⟨rfl,rfl⟩
 unfold RO TO ah
 simp only [go_sem]
 refine aR E (fun g=>?_) (fun g=>?_)<;>simp only [go_sem]
 ·rw [if_pos g] at hR
  refine ae E [.at [100] 0,.d (i64 2)] (RO s1) [100,101] (co) rfl rfl ⟨by simp only [go_sem],by first | (rw [aa];decide) | (simp only [go_sem]<;>(try rw [aa])<;>decide)⟩ rfl (by unfold RO TO ah;simp only [go_sem]) (by unfold RO TO;simp only [go_sem]) ?_
  rintro _ _ ⟨rfl,rfl⟩
  unfold RO TO ah
  simp only [go_sem]
  refine ae E [.at [100] 0,.d (i64 7),.d (.str [61])] (RO so) [100,101] (cm) rfl rfl ⟨by simp only [go_sem],by first | (rw [aa];decide) | (simp only [go_sem]<;>(try rw [aa])<;>decide)⟩ rfl (by unfold RO TO ah;simp only [go_sem]) (by unfold RO TO;simp only [go_sem]) ?_
  rintro _ _ ⟨rfl,rfl⟩
  unfold RO TO ah
  simp only [go_sem]
  refine ae E [.at [101] 0] (TO s2.l s2.fin) [101] (cp) rfl rfl ⟨by simp only [go_sem],by first | (rw [aa];decide) | (simp only [go_sem]<;>(try rw [aa])<;>decide)⟩ rfl (by unfold TO ah;simp only [go_sem]) (by unfold TO;simp only [go_sem]) ?_
  rintro _ _ ⟨rfl,rfl⟩
  unfold TO ah
  simp only [go_sem]
  refine ae E [.at [100] 0] (RO s2) [100,101] (ca) rfl rfl ⟨by simp only [go_sem],by first | (rw [aa];decide) | (simp only [go_sem]<;>(try rw [aa])<;>decide)⟩ rfl (by unfold RO TO ah;simp only [go_sem]) (by unfold RO TO;simp only [go_sem]) ?_
  rintro _ _ ⟨rfl,rfl⟩
  unfold RO TO ah
  simp only [go_sem]
  rw [ak (n:=(a.length:Int)-1) ⟨by omega,by omega⟩]
  refine ⟨⟨by omega,by omega⟩,?_⟩
  rw [show ((a.length:Int)-1).toNat=a.length-1 by omega,aN (show a.length-1<a.length by omega)]
  have hrt:iF a=ndE a (a.length-1):=rfl
  rw [← hrt]
  simp only [go_sem]
  refine ai E (fun h=>?_) (fun h=>?_)<;>simp only [go_sem]
  ·rw [if_pos ⟨rfl,h⟩] at hR
   refine ae E [.at [100] 0,.d (i64 5),.d (i64 t.pos)] (RO sa) [100,101] (cf) rfl rfl ⟨by simp only [go_sem],by first | (rw [aa];decide) | (simp only [go_sem]<;>(try rw [aa])<;>decide)⟩ rfl (by unfold RO TO ah;simp only [go_sem]) (by unfold RO TO;simp only [go_sem]) ?_
   rintro _ _ ⟨rfl,rfl⟩
   unfold RO TO ah
   simp only [go_sem]
   obtain ⟨k1,b,sb,J,eR,k2,k3⟩:=key (sa.fail 5 t.pos) (ot _ _ _) (by unfold PS.fail;split<;>rfl) 8 hR
   subst eR
   refine ae E [.at [100] 0,.d (i64 1),.d (.str bIn)] (RO (sa.fail 5 t.pos)) [100,101] (k1) rfl rfl ⟨by simp only [go_sem],by first | (rw [aa];decide) | (simp only [go_sem]<;>(try rw [aa])<;>decide)⟩ rfl (by unfold RO TO ah;simp only [go_sem]) (by unfold RO TO;simp only [go_sem]) ?_
   rintro _ _ ⟨rfl,rfl⟩
   unfold RO TO ah
   simp only [go_sem]
   refine aj mixed E fun X=>?_
   simp only [go_sem]
   refine bd X [.at [100] 0] (RO ((sa.fail 5 t.pos).must 1 bIn)) [100,101] _ _ k2 rfl rfl ⟨by simp only [go_sem],by rw [aa];decide⟩ rfl (by unfold RO TO ah;simp only [go_sem]) (by unfold RO TO;simp only [go_sem]) (by unfold RO TO;simp only [go_sem]) ?_
   unfold RO TO ah
   simp only [go_sem]
   refine cg X 50 [50] (some 1) [.agg [.sl (some 9) (a.map enD)],.agg [.sl (some 9) (b.map enD)]] k3 (fun _=>rfl) rfl rfl rfl (by simp) rfl (by simp only [go_sem]) ?_
   simp only [go_sem]
   refine ⟨by decide +kernel,?_⟩
   refine ⟨_,_,[100,101],id,⟨rfl,rfl⟩,?_⟩
   simp only [go_sem]
   rfl
  ·rw [if_neg (fun q=>h q.2)] at hR
   obtain ⟨k1,b,sb,J,eR,k2,k3⟩:=key sa rfl rfl 8 hR
   subst eR
   refine ae E [.at [100] 0,.d (i64 1),.d (.str bIn)] (RO sa) [100,101] (k1) rfl rfl ⟨by simp only [go_sem],by first | (rw [aa];decide) | (simp only [go_sem]<;>(try rw [aa])<;>decide)⟩ rfl (by unfold RO TO ah;simp only [go_sem]) (by unfold RO TO;simp only [go_sem]) ?_
   rintro _ _ ⟨rfl,rfl⟩
   unfold RO TO ah
   simp only [go_sem]
   refine aj mixed E fun X=>?_
   simp only [go_sem]
   refine bd X [.at [100] 0] (RO (sa.must 1 bIn)) [100,101] _ _ k2 rfl rfl ⟨by simp only [go_sem],by rw [aa];decide⟩ rfl (by unfold RO TO ah;simp only [go_sem]) (by unfold RO TO;simp only [go_sem]) (by unfold RO TO;simp only [go_sem]) ?_
   unfold RO TO ah
   simp only [go_sem]
   refine cg X 50 [50] (some 1) [.agg [.sl (some 9) (a.map enD)],.agg [.sl (some 9) (b.map enD)]] k3 (fun _=>rfl) rfl rfl rfl (by simp) rfl (by simp only [go_sem]) ?_
   simp only [go_sem]
   refine ⟨by decide +kernel,?_⟩
   refine ⟨_,_,[100,101],id,⟨rfl,rfl⟩,?_⟩
   simp only [go_sem]
   rfl
 ·rw [if_neg (by rw [g];decide)] at hR
  refine ae E [.at [100] 0,.d (i64 2)] (RO s1) [100,101] (co) rfl rfl ⟨by simp only [go_sem],by first | (rw [aa];decide) | (simp only [go_sem]<;>(try rw [aa])<;>decide)⟩ rfl (by unfold RO TO ah;simp only [go_sem]) (by unfold RO TO;simp only [go_sem]) ?_
  rintro _ _ ⟨rfl,rfl⟩
  unfold RO TO ah
  simp only [go_sem]
  refine ae E [.at [100] 0,.d (i64 7),.d (.str [61])] (RO so) [100,101] (cm) rfl rfl ⟨by simp only [go_sem],by first | (rw [aa];decide) | (simp only [go_sem]<;>(try rw [aa])<;>decide)⟩ rfl (by unfold RO TO ah;simp only [go_sem]) (by unfold RO TO;simp only [go_sem]) ?_
  rintro _ _ ⟨rfl,rfl⟩
  unfold RO TO ah
  simp only [go_sem]
  refine ae E [.at [101] 0] (TO s2.l s2.fin) [101] (cp) rfl rfl ⟨by simp only [go_sem],by first | (rw [aa];decide) | (simp only [go_sem]<;>(try rw [aa])<;>decide)⟩ rfl (by unfold TO ah;simp only [go_sem]) (by unfold TO;simp only [go_sem]) ?_
  rintro _ _ ⟨rfl,rfl⟩
  unfold TO ah
  simp only [go_sem]
  refine ae E [.at [100] 0] (RO s2) [100,101] (ca) rfl rfl ⟨by simp only [go_sem],by first | (rw [aa];decide) | (simp only [go_sem]<;>(try rw [aa])<;>decide)⟩ rfl (by unfold RO TO ah;simp only [go_sem]) (by unfold RO TO;simp only [go_sem]) ?_
  rintro _ _ ⟨rfl,rfl⟩
  unfold RO TO ah
  simp only [go_sem]
  rw [if_neg (fun q=>absurd q.1 (by decide))] at hR
  obtain ⟨k1,b,sb,J,eR,k2,k3⟩:=key sa rfl rfl 7 hR
  subst eR
  refine ae E [.at [100] 0,.d (i64 1),.d (.str bIn)] (RO sa) [100,101] (k1) rfl rfl ⟨by simp only [go_sem],by first | (rw [aa];decide) | (simp only [go_sem]<;>(try rw [aa])<;>decide)⟩ rfl (by unfold RO TO ah;simp only [go_sem]) (by unfold RO TO;simp only [go_sem]) ?_
  rintro _ _ ⟨rfl,rfl⟩
  unfold RO TO ah
  simp only [go_sem]
  refine aj mixed E fun X=>?_
  simp only [go_sem]
  refine bd X [.at [100] 0] (RO (sa.must 1 bIn)) [100,101] _ _ k2 rfl rfl ⟨by simp only [go_sem],by rw [aa];decide⟩ rfl (by unfold RO TO ah;simp only [go_sem]) (by unfold RO TO;simp only [go_sem]) (by unfold RO TO;simp only [go_sem]) ?_
  unfold RO TO ah
  simp only [go_sem]
  refine cg X 50 [50] (some 1) [.agg [.sl (some 9) (a.map enD)],.agg [.sl (some 9) (b.map enD)]] k3 (fun _=>rfl) rfl rfl rfl (by simp) rfl (by simp only [go_sem]) ?_
  simp only [go_sem]
  refine ⟨by decide +kernel,?_⟩
  refine ⟨_,_,[100,101],id,⟨rfl,rfl⟩,?_⟩
  simp only [go_sem]
  rfl
end Go.Proofs.YtejpnabbmgpmaaaGreat

namespace Go.Proofs.YtejpnabbmgpmaaaGreat
open Go.Ab
theorem fP {α:Type} {l:List α} {p:α→Bool} {i:Nat} (h:i<l.length) (ha:(l.take i).any p=false) (hb:p l[i]=false):(l.take (i+1)).any p=false:=by
 rw [List.take_succ_eq_append_getElem h,List.any_append,ha]
 simp [hb]
theorem Cy {l:List EF} {i:Nat} (h:i<l.length):(l.map fD).getD i .nilp=.agg [.str l[i].nm,.str l[i].var,i64 l[i].to]:=by simp [h,fD]
theorem Eu {G} (l:List EF) (p:EF→Bool) (f:Nat) (caps:List D) (hl:l.length≤1000000) (hc:∀ x∈l,HP Tryz.prog G f (fD x::caps) (fun r=>r=.d (.bool (p x)))) :
  HP Tryz.prog G 237 [.sl (some 3) (l.map fD),.clo f caps] (fun r=>∃ z:Int,r=.d (i64 z)∧decide (0≤z)=l.any p):=by
 have hget:∀ {i:Nat} (h:i<l.length),(l.map fD).getD i .nilp=.agg [.str l[i].nm,.str l[i].var,i64 l[i].to]:=fun h=>Cy h
 refine al Tryz.func237 rfl (by decide +kernel) (by simp [Tryz.ntmps237]) (veil fun E=>?_)
 simp only [go_sem]
 refine cQ E (X:={ i:Nat // i≤l.length∧(l.take i).any p=false }) (fun x=>[(0,.d (.sl (some 3) (l.map fD))),(1,.d (.clo f caps)),(6,.d (.sl (some 3) (l.map fD))),(7,.d (i64 l.length)),(8,.d (i64 x.1))]) (fun x=>l.length-x.1) rfl ⟨0,Nat.zero_le _,by simp⟩ ?_ ?_
 ·simp only [go_sem]
  all_goals rfl
 rintro ⟨i,hi,hab⟩ E'
 simp only [go_sem]
 refine ai E' (fun h1=>?_) (fun h1=>?_)<;>simp only [go_sem]
 ·have h1':i<l.length:=by omega
  refine ⟨⟨by omega,by omega⟩,?_⟩
  rw [hget h1']
  simp only [go_sem]
  refine jD E' (hc l[i] (List.getElem_mem h1')) rfl rfl (by simp) ?_
  rintro _ rfl
  simp only [go_sem]
  refine aR E' (fun h2=>?_) (fun h2=>?_)<;>simp only [go_sem]
  ·refine ⟨_,rfl,?_⟩
   have:l.any p=true:=List.any_eq_true.2 ⟨l[i],List.getElem_mem h1',h2⟩
   rw [this]
   exact decide_eq_true (Int.natCast_nonneg _)
  ·refine ⟨⟨i+1,by omega,fP h1' hab h2⟩,by show l.length-(i+1)<_;omega,?_⟩
   rw [ak ⟨by omega,by omega⟩];rfl
 ·have h3:i=l.length:=by omega
  subst h3
  rw [List.take_length] at hab
  refine ⟨_,rfl,?_⟩
  rw [hab]
  decide
theorem zm {G} (l:List EF) (p:EF→Bool) (f:Nat) (caps:List D) (hl:l.length≤1000000) (hc:∀ x∈l,HP Tryz.prog G f (fD x::caps) (fun r=>r=.d (.bool (p x)))) :
  HP Tryz.prog G 179 [.sl (some 3) (l.map fD),.clo f caps] (fun r=>r=.d (.bool (l.any p))):=by
 refine al Tryz.func179 rfl (by decide +kernel) (by simp [Tryz.ntmps179]) (veil fun E=>?_)
 simp only [go_sem]
 refine ab E (Eu l p f caps hl hc) rfl rfl (by simp) ?_
 rintro _ ⟨z,rfl,hz⟩
 simp only [go_sem]
 rw [hz]
theorem ES {G} (x:EF) (t:Tok):HP Tryz.prog G 371 [fD x,.ptr (gM t)] (fun r=>r=.d (.bool (decide (x.nm=t.s)))):=by
 unfold fD
 rw [show gM t=.agg [i64 t.k,.str t.s,i64 t.n,i64 t.pos] from rfl]
 refine au Tryz.func371 rfl (by decide +kernel) (by simp [Tryz.ntmps371]) (veil fun E=>?_)
 simp only [go_sem]
 refine ⟨[],?_⟩
 simp only [go_sem]
 by_cases h:x.nm=t.s<;>simp [h]
end Go.Proofs.YtejpnabbmgpmaaaGreat

namespace Go.Proofs.YtejpnabbmgpmaaaGreat
open Go.Ab
theorem Ey {G} (l:List Int) (p:Int→Bool) (f:Nat) (caps:List D) (hl:l.length≤1000000) (hc:∀ x∈l,HP Tryz.prog G f (i64 x::caps) (fun r=>r=.d (.bool (p x)))) :
  HP Tryz.prog G 110 [.sl none (l.map i64),.clo f caps] (fun r=>∃ z:Int,r=.d (i64 z)∧decide (0≤z)=l.any p):=by
 have hget:∀ {i:Nat} (h:i<l.length),(l.map i64).getD i .nilp=i64 l[i]:=fun h=>by simp [h]
 refine al Tryz.func110 rfl (by decide +kernel) (by simp [Tryz.ntmps110]) (veil fun E=>?_)
 simp only [go_sem]
 refine cQ E (X:={ i:Nat // i≤l.length∧(l.take i).any p=false }) (fun x=>[(0,.d (.sl none (l.map i64))),(1,.d (.clo f caps)),(6,.d (.sl none (l.map i64))),(7,.d (i64 l.length)),(8,.d (i64 x.1))]) (fun x=>l.length-x.1) rfl ⟨0,Nat.zero_le _,by simp⟩ ?_ ?_
 ·simp only [go_sem]
  all_goals rfl
 rintro ⟨i,hi,hab⟩ E'
 simp only [go_sem]
 refine ai E' (fun h1=>?_) (fun h1=>?_)<;>simp only [go_sem]
 ·have h1':i<l.length:=by omega
  refine ⟨⟨by omega,by omega⟩,?_⟩
  rw [hget h1']
  simp only [go_sem]
  refine jD E' (hc l[i] (List.getElem_mem h1')) rfl rfl (by simp) ?_
  rintro _ rfl
  simp only [go_sem]
  refine aR E' (fun h2=>?_) (fun h2=>?_)<;>simp only [go_sem]
  ·refine ⟨_,rfl,?_⟩
   have:l.any p=true:=List.any_eq_true.2 ⟨l[i],List.getElem_mem h1',h2⟩
   rw [this]
   exact decide_eq_true (Int.natCast_nonneg _)
  ·refine ⟨⟨i+1,by omega,fP h1' hab h2⟩,by show l.length-(i+1)<_;omega,?_⟩
   rw [ak ⟨by omega,by omega⟩];rfl
 ·have h3:i=l.length:=by omega
  subst h3
  rw [List.take_length] at hab
  refine ⟨_,rfl,?_⟩
  rw [hab]
  decide
theorem I6 {G} (l:List Int) (p:Int→Bool) (f:Nat) (caps:List D) (hl:l.length≤1000000) (hc:∀ x∈l,HP Tryz.prog G f (i64 x::caps) (fun r=>r=.d (.bool (p x)))) :
  HP Tryz.prog G 60 [.sl none (l.map i64),.clo f caps] (fun r=>r=.d (.bool (l.any p))):=by
 refine al Tryz.func60 rfl (by decide +kernel) (by simp [Tryz.ntmps60]) (veil fun E=>?_)
 simp only [go_sem]
 refine ab E (Ey l p f caps hl hc) rfl rfl (by simp) ?_
 rintro _ ⟨z,rfl,hz⟩
 simp only [go_sem]
 rw [hz]
theorem IW {G} (k:Int):HP Tryz.prog G 61 [i64 k] (fun r=>r=.d (.bool (!decide (k=1)))):=by
 refine al Tryz.func61 rfl (by decide +kernel) (by simp [Tryz.ntmps61]) (veil fun E=>?_)
 simp only [go_sem]
 by_cases h:k=1<;>simp [h]
theorem F9 {G} (l:List EN) (p:EN→Bool) (f:Nat) (caps:List D) (hl:l.length≤1000000) (hc:∀ x∈l,HP Tryz.prog G f (enD x::caps) (fun r=>r=.d (.bool (p x)))) :
  HP Tryz.prog G 151 [.sl (some 9) (l.map enD),.clo f caps] (fun r=>∃ z:Int,r=.d (i64 z)∧decide (0≤z)=l.any p):=by
 have hget:∀ {i:Nat} (h:i<l.length),(l.map enD).getD i .nilp=.agg [i64 l[i].k,i64 l[i].a,i64 l[i].b,i64 l[i].c,i64 l[i].n,.str l[i].name,.str l[i].s,.sl (some 3) (l[i].l.map fD),i64 l[i].pos]:=fun h=>by simp [h,enD,efD]
 refine al Tryz.func151 rfl (by decide +kernel) (by simp [Tryz.ntmps151]) (veil fun E=>?_)
 simp only [go_sem]
 refine cQ E (X:={ i:Nat // i≤l.length∧(l.take i).any p=false }) (fun x=>[(0,.d (.sl (some 9) (l.map enD))),(1,.d (.clo f caps)),(6,.d (.sl (some 9) (l.map enD))),(7,.d (i64 l.length)),(8,.d (i64 x.1))]) (fun x=>l.length-x.1) rfl ⟨0,Nat.zero_le _,by simp⟩ ?_ ?_
 ·simp only [go_sem]
  all_goals rfl
 rintro ⟨i,hi,hab⟩ E'
 simp only [go_sem]
 refine ai E' (fun h1=>?_) (fun h1=>?_)<;>simp only [go_sem]
 ·have h1':i<l.length:=by omega
  refine ⟨⟨by omega,by omega⟩,?_⟩
  rw [hget h1']
  simp only [go_sem]
  refine jD E' (hc l[i] (List.getElem_mem h1')) rfl rfl (by simp) ?_
  rintro _ rfl
  simp only [go_sem]
  refine aR E' (fun h2=>?_) (fun h2=>?_)<;>simp only [go_sem]
  ·refine ⟨_,rfl,?_⟩
   have:l.any p=true:=List.any_eq_true.2 ⟨l[i],List.getElem_mem h1',h2⟩
   rw [this]
   exact decide_eq_true (Int.natCast_nonneg _)
  ·refine ⟨⟨i+1,by omega,fP h1' hab h2⟩,by show l.length-(i+1)<_;omega,?_⟩
   rw [ak ⟨by omega,by omega⟩];rfl
 ·have h3:i=l.length:=by omega
  subst h3
  rw [List.take_length] at hab
  refine ⟨_,rfl,?_⟩
  rw [hab]
  decide
theorem Gn {G} (l:List EN) (p:EN→Bool) (f:Nat) (caps:List D) (hl:l.length≤1000000) (hc:∀ x∈l,HP Tryz.prog G f (enD x::caps) (fun r=>r=.d (.bool (p x)))) :
  HP Tryz.prog G 101 [.sl (some 9) (l.map enD),.clo f caps] (fun r=>r=.d (.bool (l.any p))):=by
 refine al Tryz.func101 rfl (by decide +kernel) (by simp [Tryz.ntmps101]) (veil fun E=>?_)
 simp only [go_sem]
 refine ab E (F9 l p f caps hl hc) rfl rfl (by simp) ?_
 rintro _ ⟨z,rfl,hz⟩
 simp only [go_sem]
 rw [hz]
theorem EV {G} (n:EN):HP Tryz.prog G 102 [enD n] (fun r=>r=.d (.bool (decide (1048576<n.pos)))):=by
 unfold enD efD
 refine al Tryz.func102 rfl (by decide +kernel) (by simp [Tryz.ntmps102]) (veil fun E=>?_)
 simp only [go_sem]
def bE (ns:List EN) (i:Nat):List Int:=bV (ns.take i) []
theorem pQ (n:EN):∀ (a:List EN) (d:List Int),bV (a++[n]) d=bV a d++[vK (bV a d) n]
 | [],_=>rfl
 | _::r,_=>pQ n r _
theorem fX {ns:List EN} {i:Nat} (h:i<ns.length):bE ns (i+1)=bE ns i++[vK (bE ns i) (ndE ns i)]:=by
 unfold bE
 rw [List.take_succ_eq_append_getElem h,pQ,ba h]
def mx (d:List Int) (ks:List Int):Int:=ks.foldl (fun m k=>max m (d.getD k.toNat 0)) 0
theorem xn (d ks:List Int) (k:Int):mx d (ks++[k])=max (mx d ks) (d.getD k.toNat 0):=by simp [mx]
theorem mZ (d:List Int) (n:EN):vK d n=mx d (ag n)+1:=rfl
theorem D6 {d:List Int} {M:Nat} (h:Bd M d) (ks:List Int):0≤mx d ks∧mx d ks≤(M:Int):=by
 suffices g:∀ (ks:List Int) (m:Int),0≤m∧m≤(M:Int)→0≤ks.foldl (fun m k=>max m (d.getD k.toNat 0)) m∧ks.foldl (fun m k=>max m (d.getD k.toNat 0)) m≤(M:Int) from g ks 0 ⟨Int.le_refl 0,by omega⟩
 intro ks
 induction ks with
 | nil=>exact fun m h=>h
 | cons k r ih =>
   intro m hm
   have:=h.get k.toNat
   exact ih (max m (d.getD k.toNat 0)) ⟨by omega,by omega⟩
theorem db {ns:List EN}:∀ {i:Nat},i≤ns.length→(bE ns i).length=i∧Bd i (bE ns i)
 | 0,_=>by simp [bE,bV,Bd]
 | i+1,h=>by
   obtain ⟨h1,h2⟩:=db (ns:=ns) (i:=i) (by omega)
   rw [fX (by omega)]
   refine ⟨by simp [h1],fun c hc=>?_⟩
   rcases List.mem_append.1 hc with hc | hc
   ·have:=h2 c hc;omega
   ·rw [List.mem_singleton.1 hc,mZ]
    have:=D6 h2 (ag (ndE ns i))
    omega
def dO (ns:List EN) (i:Nat) (m:Int):List Int:=bE ns i++m::List.replicate (ns.length-i-1) 0
theorem lz {ns:List EN} {i:Nat} (hi:i<ns.length) (m:Int):(dO ns i m).getD i 0=m:=by
 have:=(db (ns:=ns) (i:=i) (by omega)).1
 unfold dO
 rw [List.getD_eq_getElem?_getD,List.getElem?_append_right (by omega),this,Nat.sub_self]
 rfl
theorem sF {ns:List EN} {i k:Nat} (hi:i≤ns.length) (m:Int) (hk:k<i):(dO ns i m).getD k 0=(bE ns i).getD k 0:=by
 have:=(db (ns:=ns) (i:=i) hi).1
 unfold dO
 rw [List.getD_eq_getElem?_getD,List.getD_eq_getElem?_getD,List.getElem?_append_left (by omega)]
theorem kO {ns:List EN} {i:Nat} (hi:i<ns.length) (m x:Int):(dO ns i m).set i x=dO ns i x:=by
 have:=(db (ns:=ns) (i:=i) (by omega)).1
 unfold dO
 rw [List.set_append_right _ _ (by omega),this,Nat.sub_self]
 rfl
theorem td {ns:List EN} {i:Nat} (hi:i<ns.length) (m:Int):(dO ns i m).length=ns.length:=by
 have:=(db (ns:=ns) (i:=i) (by omega)).1
 unfold dO
 simp only [List.length_append,List.length_cons,List.length_replicate]
 omega
theorem zU {ns:List EN} {i:Nat} (hi:i+1<ns.length):dO ns i (vK (bE ns i) (ndE ns i))=dO ns (i+1) 0:=by
 unfold dO
 rw [fX (by omega),List.append_assoc,show ns.length-i-1=ns.length-(i+1)-1+1 by omega,List.replicate_succ]
 rfl
theorem Eb {ns:List EN} {i:Nat} (hi:i+1=ns.length):dO ns i (vK (bE ns i) (ndE ns i))=bV ns []:=by
 have h1:=fX (ns:=ns) (i:=i) (by omega)
 have h2:bE ns (i+1)=bV ns []:=by unfold bE;rw [hi,List.take_length]
 rw [← h2,h1]
 unfold dO
 rw [show ns.length-i-1=0 by omega]
 rfl
def jr (ns:List EN) (i:Nat):List Int:=if i<ns.length then dO ns i 0 else bV ns []
theorem pS (ns:List EN):jr ns 0=List.replicate ns.length 0:=by
 unfold jr
 split
 ·rename_i h
  unfold dO bE
  rw [List.take_zero,show ns.length=(ns.length-0-1)+1 by omega,List.replicate_succ]
  simp [bV]
 ·rename_i h
  have:ns=[]:=List.length_eq_zero_iff.1 (by omega)
  subst this
  rfl
theorem p5 {ns:List EN} {i:Nat} (hi:i<ns.length):dO ns i (vK (bE ns i) (ndE ns i))=jr ns (i+1):=by
 unfold jr
 split
 ·rename_i h;exact zU h
 ·exact Eb (by omega)
theorem Cz (a b:Int):(if a > b then a else b)=max b a:=by split<;>omega
theorem IE {G} (ns:List EN) (hn:ns.length≤1000000) (hs:∀ n∈ns,n.l.length≤1000000) (hk:∀ i,i<ns.length→(ag (ndE ns i)).all (inB i)=true) :
  HP Tryz.prog G 62 [exD ns] (fun r=>r=.d (.sl none ((bV ns []).map i64))):=by
 unfold exD
 refine au Tryz.func62 rfl (by decide +kernel) (by simp [Tryz.ntmps62]) (veil fun E=>?_)
 simp only [go_sem]
 refine ⟨⟨by omega,by omega,by omega,by omega⟩,?_⟩
 refine dc E (X:={ i:Nat // i≤ns.length }) (fun x=>[(1,.at [1] 0),(2,.d .nils),(3,.vw [11] 0 ns.length),(13,.d (.sl (some 9) (ns.map enD))),(14,.d (i64 ns.length)),(15,.d (i64 x.1))])
  (fun x=>[([1],.box [.d (.sl (some 9) (ns.map enD))]),([11],.arr none ((jr ns x.1).map i64))]) [11,1] (fun x=>ns.length-x.1) ⟨0,Nat.zero_le _⟩ ?_ ?_
 ·rw [pS,List.map_replicate]
  simp only [go_sem]
  all_goals rfl
 rintro ⟨i,hi⟩ E0
 refine aT E0 fun Q' hQ E'=>?_
 simp only at hi ⊢
 simp only [go_sem]
 refine ai E' (fun g1=>?_) (fun g1=>?_)<;>simp only [go_sem]
 ·have hi':i<ns.length:=by omega
  refine ⟨⟨by omega,by omega⟩,?_⟩
  have hg:=aN hi'
  have hst:=p5 hi'
  rw [mZ] at hst
  have hki:=hk i hi'
  have hsi:=hs _ (by rw [ba hi'];exact List.getElem_mem hi':ndE ns i∈ns)
  obtain ⟨n,hne⟩:∃ n,n=ndE ns i:=⟨_,rfl⟩
  rw [← hne] at hg hst hki hsi
  rw [show jr ns i=dO ns i 0 by unfold jr;rw [if_pos hi'],hg]
  obtain ⟨hd1,hd2⟩:=db (ns:=ns) (i:=i) hi
  have hkc:=eg (G:=G) n hsi
  obtain ⟨K,hK⟩:∃ K,K=ag n:=⟨_,rfl⟩
  have hKl:K.length≤1000003:=by rw [hK,aM];unfold aA;have:=bn n.k;split<;>omega
  rw [← hK] at hkc hki hst
  simp only [go_sem]
  refine ae E' [.d (enD n)] [] [] hkc rfl rfl ⟨by simp only [go_sem],by rw [aa];decide⟩ rfl (by simp only [go_sem]) (by simp only [go_sem]) ?_
  rintro _ _ ⟨rfl,rfl⟩
  simp only [go_sem]
  refine iw E' [21,0] none (K.map i64) rfl ?_
  simp only [go_sem]
  refine dc E' (X:={ q:Nat // q≤K.length }) (fun x=>[(1,.at [1] 0),(2,.d .nils),(3,.vw [11] 0 ns.length),(4,.d (i64 i)),(5,.at [5] 0),(13,.d (.sl (some 9) (ns.map enD))),(14,.d (i64 ns.length)),(15,.d (i64 i)),(21,.d (.sl none (K.map i64))),(22,.d (i64 K.length)),(23,.d (i64 x.1))])
   (fun x=>[([1],.box [.d (.sl (some 9) (ns.map enD))]),([11],.arr none ((dO ns i (mx (bE ns i) (K.take x.1))).map i64)),([5],.box [.d (i64 n.k),.d (i64 n.a),.d (i64 n.b),.d (i64 n.c),.d (i64 n.n),.d (.str n.name),.d (.str n.s),.d (.sl (some 3) (n.l.map fD)),.d (i64 n.pos)])]) [5,11,1] (fun x=>K.length-x.1) ⟨0,Nat.zero_le _⟩ ?_ ?_
  ·simp only [go_sem]
   all_goals rfl
  rintro ⟨q,hq⟩ E2
  refine aT E2 fun Q2 hQ2 E3=>?_
  simp only at hq ⊢
  have hal:=td hi' (mx (bE ns i) (K.take q))
  have hmb:=D6 hd2 (K.take q)
  simp only [go_sem]
  refine ai E3 (fun g2=>?_) (fun g2=>?_)<;>simp only [go_sem]
  ·have hq':q<K.length:=by omega
   have hkq:0≤K[q]∧K[q]<(i:Int):=by
    have:=List.all_eq_true.1 hki K[q] (List.getElem_mem hq')
    simpa [inB] using this
   refine ⟨⟨by omega,by omega⟩,?_⟩
   rw [aw hq',show K.getD q 0=K[q] by simp [hq']]
   simp only [go_sem]
   refine aj mixed E3 fun X=>?_
   simp only [go_sem]
   refine ⟨⟨by omega,by omega⟩,?_⟩
   rw [aw (by omega),lz hi']
   simp only [go_sem]
   refine ⟨⟨by omega,by omega⟩,?_⟩
   rw [aw (by omega),sF hi _ (show K[q].toNat<i by omega)]
   simp only [go_sem]
   refine ⟨⟨by omega,by omega⟩,by decide +kernel,?_⟩
   rw [ak (n:=(q:Int)+1) ⟨by omega,by omega⟩]
   rw [show (List.map i64 (dO ns i (mx (bE ns i) (K.take q)))).set i (.int .i64 (if (bE ns i).getD K[q].toNat 0 > mx (bE ns i) (K.take q) then (bE ns i).getD K[q].toNat 0 else mx (bE ns i) (K.take q)))=(dO ns i (mx (bE ns i) (K.take (q+1)))).map i64 by
    rw [List.take_succ_eq_append_getElem hq',xn,Cz,← List.map_set,kO hi']]
   rw [hQ2]
   simp only [go_sem]
   refine ⟨⟨q+1,by omega⟩,by show K.length-(q+1)<_;omega,?_⟩
   first | rfl | exact ⟨rfl,rfl⟩
  ·rw [hQ2]
   have h3:q=K.length:=by omega
   subst h3
   rw [List.take_length] at *
   simp only [go_sem]
   refine ⟨⟨by omega,by omega⟩,?_⟩
   rw [aw (by omega),lz hi']
   simp only [go_sem]
   refine ⟨⟨by omega,by omega⟩,?_⟩
   rw [ak (n:=mx (bE ns i) K+1) ⟨by omega,by omega⟩,ak (n:=(i:Int)+1) ⟨by omega,by omega⟩]
   rw [show (List.map i64 (dO ns i (mx (bE ns i) K))).set i (.int .i64 (mx (bE ns i) K+1))=(jr ns (i+1)).map i64 by
    rw [← hst,← List.map_set,kO hi']]
   rw [hQ]
   simp only [go_sem]
   refine ⟨⟨i+1,by omega⟩,by show ns.length-(i+1)<_;omega,?_⟩
   first | rfl | exact ⟨rfl,rfl⟩
 ·rw [hQ]
  have h3:i=ns.length:=by omega
  subst h3
  simp only [go_sem]
  refine ⟨[([11],none,(jr ns ns.length).map i64)],?_⟩
  rw [show jr ns ns.length=bV ns [] by unfold jr;rw [if_neg (Nat.lt_irrefl _)]]
  simp only [go_sem]
  have hdl:=(db (ns:=ns) (Nat.le_refl _)).1
  unfold bE at hdl
  rw [List.take_length] at hdl
  rw [List.take_of_length_le (by rw [List.length_map,hdl];exact Nat.le_refl _)]
end Go.Proofs.YtejpnabbmgpmaaaGreat

namespace Go.Proofs.YtejpnabbmgpmaaaGreat
open Go.Ab
theorem BO {cs:List Int} {k:Int} {j:Nat} (hj:j<cs.length) (hk:0≤k):(bump cs k).getD j 0=cs.getD j 0+(if k=(j:Int) then 1 else 0):=by
 unfold bump
 rw [List.getD_eq_getElem?_getD,List.getElem?_set]
 by_cases h:k.toNat=j
 ·rw [if_pos h,if_pos (by omega)]
  have:k=(j:Int):=by omega
  subst this
  simp [hj]
 ·rw [if_neg h,if_neg (by omega)]
  simp
theorem p4 {j:Nat}:∀ (ks cs:List Int),j<cs.length→(∀ k∈ks,0≤k)→(bumps cs ks).getD j 0=cs.getD j 0+(ks.countP (fun x=>decide (x=(j:Int))):Nat)
 | [],cs,_,_=>by simp [bumps]
 | k::r,cs,hj,hk=>by
   show (bumps (bump cs k) r).getD j 0=_
   rw [p4 r _ (by rw [tS];exact hj) (fun x hx=>hk x (List.mem_cons_of_mem _ hx)),BO hj (hk k List.mem_cons_self),List.countP_cons]
   by_cases h:k=(j:Int)<;>simp [h]<;>omega
theorem zT (cs a b:List Int):bumps cs (a++b)=bumps (bumps cs a) b:=by simp [bumps]
def cnts (ns:List EN) (i:Nat):List Int:=bumps (List.replicate ns.length 0) ((ns.take i).flatMap ag)
theorem gC (ns:List EN) (i:Nat):(cnts ns i).length=ns.length:=by unfold cnts;rw [eM,List.length_replicate]
theorem l7 {ns:List EN} {i:Nat} (h:i<ns.length):cnts ns (i+1)=bumps (cnts ns i) (ag (ndE ns i)):=by
 unfold cnts
 rw [List.take_succ_eq_append_getElem h,List.flatMap_append,zT,ba h]
 simp
theorem qK {ns:List EN} (hs:∀ n∈ns,n.l.length≤1000000):∀ {i:Nat},i≤ns.length→Bd (i*1000003) (cnts ns i)
 | 0,_=>by
   intro c hc
   rw [show cnts ns 0=List.replicate ns.length 0 by simp [cnts,bumps],List.mem_replicate] at hc
   omega
 | i+1,h=>by
   have ih:=qK hs (i:=i) (by omega)
   rw [l7 (by omega)]
   intro c hc
   have:=ih.bumps (ks:=ag (ndE ns i)) c hc
   have hl:(ag (ndE ns i)).length≤1000003:=by
    rw [aM];unfold aA
    have:=bn (ndE ns i).k
    have h2:(ndE ns i).l.length≤1000000:=by rw [ba (by omega)];exact hs _ (List.getElem_mem _)
    split<;>omega
   omega
theorem uf {ns:List EN} (hk:∀ i,i<ns.length→(ag (ndE ns i)).all (inB i)=true):((cnts ns ns.length).take (ns.length-1)).any (fun c=>!decide (c=1))=!j6 ns:=by
 have hnn:∀ k∈ns.flatMap ag,0≤k:=fun k hkm=>by
  obtain ⟨n,hn,hkn⟩:=List.mem_flatMap.1 hkm
  obtain ⟨i,hi,rfl⟩:=List.mem_iff_getElem.1 hn
  have h1:=hk i hi
  rw [ba hi] at h1
  have:=List.all_eq_true.1 h1 k hkn
  simp only [inB,Bool.and_eq_true,decide_eq_true_eq] at this
  exact this.1
 have hget:∀ j,j<ns.length→(cnts ns ns.length).getD j 0=(ph ns j:Int):=fun j hj=>by
  unfold cnts ph
  rw [List.take_length,p4 _ _ (by simpa using hj) hnn]
  simp [hj]
 have hl:=gC ns ns.length
 unfold j6
 rw [Bool.eq_iff_iff]
 simp only [List.any_eq_true,Bool.not_eq_true',decide_eq_false_iff_not,List.all_eq_false,List.mem_range,decide_eq_true_eq]
 constructor
 ·rintro ⟨c,hc,h1⟩
  obtain ⟨j,hj,rfl⟩:=List.mem_iff_getElem.1 hc
  rw [List.length_take] at hj
  refine ⟨j,by omega,fun h=>h1 ?_⟩
  have:=hget j (by omega)
  rw [h] at this
  rw [List.getElem_take]
  rw [List.getD_eq_getElem?_getD,List.getElem?_eq_getElem (by omega)] at this
  simpa using this
 ·rintro ⟨j,hj,h1⟩
  refine ⟨(cnts ns ns.length)[j],List.mem_iff_getElem.2 ⟨j,by rw [List.length_take];omega,by rw [List.getElem_take]⟩,fun h=>h1 ?_⟩
  have:=hget j (by omega)
  rw [List.getD_eq_getElem?_getD,List.getElem?_eq_getElem (by omega)] at this
  simp only [Option.getD_some,h] at this
  omega
theorem HP.clo {P:Program} {G:List (Nat × Obj)} {f:FuncId} {args:List AV} {ds:List D} {Q:AV→Prop} (hl:args.length=ds.length)
  (hr:∀ (i:Nat) x y,args[i]?=some x→ds[i]?=some y→x=.d y∨∃ g,x=.clo g []∧y=.clo g []) (h:HP P G f ds Q):HCall P G f args [] [] (fun r hp'=>Q r∧r.inU []=true∧hp'=[]):=by
 refine ⟨h.1,fun B β vs w h1 h2 h3 h4 h5=>h.2 B β vs w (h1.trans (by simpa using hl)) h2 h3 h4 { tms:=h5.tms,io:=h5.io,size:=h5.size,frame:=h5.frame,slots:=fun t=>?_,objs:=h5.objs,blocks:=h5.blocks,inj:=h5.inj,us:=h5.us,stay:=h5.stay }⟩
 have hv:=h5.slots t
 rw [dI,bc,if_pos (Nat.zero_le _),Nat.sub_zero] at hv ⊢
 show VR w.heap ((mk (aB 0 (ds.map .d)) [] []).own B.A β) [] _ β _ _
 rw [List.getElem?_map]
 cases hx:args[t]? with
 | none =>
   rw [List.getElem?_eq_none (by rw [← hl];exact List.getElem?_eq_none_iff.1 hx)]
   exact .un _
 | some x =>
   have hlt:=(List.getElem?_eq_some_iff.1 hx).1
   have hy:ds[t]?=some ds[t]:=List.getElem?_eq_getElem (by omega)
   rw [hx] at hv
   rw [hy]
   simp only [Option.map_some,Option.getD_some] at hv ⊢
   rcases hr t _ _ hx hy with e | ⟨g,e1,e2⟩
   ·rw [← e];exact hv
   ·rw [e1] at hv
    rw [e2]
    generalize vs.getD t undef=v at hv ⊢
    cases hv with
    | clo _ vs' _ hs hc=>exact .d _ _ (.clo _ _ _ hs (fun i d hd=>by simp at hd))
def okI (ns:List EN) (i:Nat):Bool:=aS (ndE ns i) && cI ns i
theorem rb {ns:List EN} {i:Nat} (h:cI ns i=true):(ag (ndE ns i)).all (inB i)=true:=by
 unfold cI at h
 rw [Bool.and_eq_true] at h
 exact h.1
set_option maxHeartbeats 1000000 in
theorem lL {G} (ns:List EN) (hs:∀ n∈ns,ff BIG n) (hN:ns.length≤1000000):HP Tryz.prog G 17 [exD ns] (fun r=>r=.d (i64 (bL ns))):=by
 generalize hb:bL ns=b
 unfold bL at hb
 unfold exD
 refine al Tryz.func17 rfl (by decide +kernel) (by simp [Tryz.ntmps17]) (veil fun E=>?_)
 simp only [go_sem]
 repeat (first
  | (apply bC E;(· simp only [go_sem]);(· intro h;(try simp only [bq] at h);simp only [↓h,go_sem];rfl);simp only [go_sem])
  | (apply aW E;(· simp only [go_sem]);(· intro h;(try simp only [bq] at h);simp only [↓h,go_sem];rfl);(· intro h;(try simp only [bq] at h);simp only [↓h,go_sem];rfl);simp only [go_sem])
  | (apply aX E;(· simp only [go_sem]);(· rfl);(· intro h h';(try simp only [bq] at h h');simp only [↓h,↓h',go_sem];rfl);simp only [go_sem])
  | (apply aH E;(· simp only [go_sem]);(· rfl);(· intro h h';(try simp only [bq] at h h');simp only [↓h,↓h',go_sem];rfl);(· intro h h';(try simp only [bq] at h h');simp only [↓h,↓h',go_sem];rfl);simp only [go_sem])
  | (apply bz E;(· decide);simp only [go_sem]))
 refine aR E (fun g=>?_) (fun g=>?_)<;>simp only [go_sem]
 ·simp only [Bool.or_eq_true,decide_eq_true_eq] at g
  rw [if_pos (by omega)] at hb
  rw [hb]
 have g':0<ns.length∧ns.length≤600:=by
  simp only [Bool.or_eq_false_iff,decide_eq_false_iff_not] at g
  omega
 rw [if_neg (by omega)] at hb
 refine ⟨⟨by omega,by omega,by omega,by omega⟩,?_⟩
 have hs':∀ n∈ns,n.l.length≤1000000:=fun n hn=>(hs n hn).l
 refine dc E (X:={ i:Nat // i≤ns.length∧∀ j,j<i→okI ns j=true }) (fun x=>[(1,.at [1] 0),(2,.d (i64 0)),(3,.vw [19] 0 ns.length),(21,.d (.sl (some 9) (ns.map enD))),(22,.d (i64 ns.length)),(23,.d (i64 x.1))])
  (fun x=>[([1],.box [.d (.sl (some 9) (ns.map enD))]),([19],.arr none ((cnts ns x.1).map i64))]) [19,1] (fun x=>ns.length-x.1) ⟨0,Nat.zero_le _,fun j h=>absurd h (Nat.not_lt_zero _)⟩ ?_ ?_
 ·rw [show cnts ns 0=List.replicate ns.length 0 by simp [cnts,bumps],List.map_replicate]
  simp only [go_sem]
  all_goals rfl
 rintro ⟨i,hi,hok⟩ E0
 refine aT E0 fun Q' hQ E'=>?_
 simp only at hi hok ⊢
 simp only [go_sem]
 refine ai E' (fun g1=>?_) (fun g1=>?_)<;>simp only [go_sem]
 ·have hi':i<ns.length:=by omega
  refine ⟨⟨by omega,by omega⟩,?_⟩
  have hg:=aN hi'
  have hsn:=hs _ (by rw [ba hi'];exact List.getElem_mem hi':ndE ns i∈ns)
  have hc1:=IF (G:=G) _ hsn
  have hc2:=IC (G:=G) ns i (cnts ns i) (i*1000003) hi' hN (gC ns i) hsn.l (qK hs' hi) (by omega)
  have hok1:okI ns i=(aS (ndE ns i) && cI ns i):=rfl
  have hcs:=l7 hi'
  rw [← hcs] at hc2
  have bad:okI ns i=false→okE ns=false:=fun h=>List.all_eq_false.2 ⟨i,List.mem_range.2 hi',by
   show ¬ okI ns i=true
   rw [h];decide⟩
  have good:okI ns i=true→∀ j,j<i+1→okI ns j=true:=fun h j hj=>by
   by_cases e:j=i
   ·rw [e];exact h
   ·exact hok j (by omega)
  generalize ndE ns i=n at hg hc1 hok1
  generalize aS n=x at hc1 hok1
  generalize cI ns i=y at hc2 hok1
  rw [hg]
  simp only [go_sem]
  refine ab E' hc1 rfl rfl (by simp) ?_
  rintro _ rfl
  simp only [go_sem]
  refine bR E' (fun h1=>?_) (fun h1=>?_)<;>simp only [go_sem]
  ·have hx:x=false:=by simpa using h1
   rw [hQ]
   simp only [go_sem]
   rw [bad (by rw [hok1,hx];rfl),Bool.false_and] at hb
   rw [← hb]
   rfl
  ·have hx:x=true:=by simpa using h1
   rw [ia]
   simp only [go_sem]
   refine dC E' (tau [([100],[19])]) [.d (exD ns),.d (i64 i),.vw [100] 0 ns.length] [([100],.arr none ((cnts ns i).map i64))] [100] hc2 rfl (by simp only [go_sem];try rfl) ⟨by simp only [go_sem],by rw [aa];decide⟩ rfl (by simp only [go_sem]) (by simp only [go_sem]) ?_
   rintro _ _ ⟨cs',hl',hcs',rfl,rfl⟩
   simp only [go_sem]
   refine ⟨by rw [gC,hl'];exact Nat.le_refl _,?_⟩
   refine aR E' (fun h2=>?_) (fun h2=>?_)<;>simp only [go_sem]
   ·rw [hQ]
    simp only [go_sem]
    rw [bad (by rw [hok1,show y=false by simpa using h2,Bool.and_false]),Bool.false_and] at hb
    rw [← hb]
    rfl
   ·have hy:y=true:=by simpa using h2
    rw [hQ,hcs' hy,ak (n:=(i:Int)+1) ⟨by omega,by omega⟩]
    simp only [go_sem]
    refine ⟨⟨i+1,by omega,good (by rw [hok1,hx,hy];rfl)⟩,by show ns.length-(i+1)<_;omega,?_⟩
    first | rfl | exact ⟨rfl,rfl⟩
 ·rw [hQ]
  have h3:i=ns.length:=by omega
  subst h3
  simp only [go_sem]
  rw [ak (n:=(ns.length:Int)-1) ⟨by omega,by omega⟩]
  refine ⟨⟨by omega,by omega⟩,?_⟩
  rw [show ((ns.length:Int)-1).toNat-0=ns.length-1 by omega]
  have hkk:∀ i,i<ns.length→(ag (ndE ns i)).all (inB i)=true:=fun i hi=>by
   have:=hok i hi
   unfold okI at this
   rw [Bool.and_eq_true] at this
   exact rb this.2
  have hokE:okE ns=true:=List.all_eq_true.2 fun j hj=>hok j (List.mem_range.1 hj)
  have hcl:=gC ns ns.length
  have hc3:=I6 (G:=G) ((cnts ns ns.length).take (ns.length-1)) (fun c=>!decide (c=1)) 61 [] (by rw [List.length_take];omega) (fun x _=>IW x)
  rw [uf hkk,List.map_take] at hc3
  have hc4:=HP.clo (args:=[.d (.sl none (((cnts ns ns.length).map i64).take (ns.length-1))),.clo 61 []]) rfl (fun i x y hx hy=>by
   rcases i with _ | _ | i
   ·cases hx;cases hy;exact .inl rfl
   ·cases hx;cases hy;exact .inr ⟨61,rfl,rfl⟩
   ·cases hx) hc3
  refine BN E [([19],none,(cnts ns ns.length).map i64)] [.d (.sl none (((cnts ns ns.length).map i64).take (ns.length-1))),.clo 61 []] [] [] hc4 (by rintro _ _ ⟨rfl,_,rfl⟩;exact ⟨rfl,rfl⟩) (by simp only [go_sem]) rfl (by simp only [go_sem];try rfl) ⟨by simp only [go_sem],by rw [aa];decide⟩ rfl (by simp only [go_sem]) (by simp only [go_sem]) ?_
  rintro _ _ ⟨rfl,_,rfl⟩
  simp only [go_sem]
  rw [hokE,Bool.true_and] at hb
  have hdl:=(db (ns:=ns) (Nat.le_refl _)).1
  unfold bE at hdl
  rw [List.take_length] at hdl
  refine aR E (fun k1=>?_) (fun k1=>?_)<;>simp only [go_sem]
  ·have:j6 ns=false:=by simpa using k1
   rw [this] at hb
   rw [← hb]
   rfl
  ·have:j6 ns=true:=by simpa using k1
   rw [this,if_pos rfl] at hb
   unfold km at hb
   have hc5:=IE (G:=G) ns hN hs' hkk
   unfold exD at hc5
   refine aj mixed E fun X=>?_
   simp only [go_sem]
   refine aZ X hc5 rfl rfl (by simp) ?_
   simp only [go_sem]
   rw [ak (n:=(ns.length:Int)-1) ⟨by omega,by omega⟩]
   refine ⟨⟨by omega,by rw [hdl];omega⟩,?_⟩
   rw [aw (by omega),show ((ns.length:Int)-1).toNat=ns.length-1 by omega]
   simp only [go_sem]
   refine ⟨by decide +kernel,?_⟩
   refine ai E (fun k2=>?_) (fun k2=>?_)<;>simp only [go_sem]
   ·rw [if_pos k2] at hb
    rw [← hb]
   ·rw [if_neg k2] at hb
    rw [← hb]
end Go.Proofs.YtejpnabbmgpmaaaGreat

namespace Go.Proofs.YtejpnabbmgpmaaaGreat
open Go.Ab
theorem EI {G} (ns:List EN) (r:Int):HP Tryz.prog G 103 [exD ns,i64 r] (fun q=>q=.d (.clo 152 [.ptr (exD ns),.ptr (i64 r)])):=by
 unfold exD
 have h:HCall Tryz.prog G 103 [.d (.agg [.sl (some 9) (ns.map enD)]),.d (i64 r)] [] [] (fun q hp'=>q=.clo 152 [.at [2] 0,.at [3] 0]∧hp'=[([2],.box [.d (.sl (some 9) (ns.map enD))]),([3],.box [.d (i64 r)])]):=by
  refine aq Tryz.func103 rfl (by decide +kernel) (by simp [Tryz.ntmps103]) (veil fun E=>?_)
  simp only [go_sem]
  refine ⟨_,_,[2,3],id,⟨rfl,rfl⟩,?_⟩
  simp only [go_sem]
 have h2:=HCall.fB (Q':=fun q hp'=>q=.clo 152 [.d (.ptr (.agg [.sl (some 9) (ns.map enD)])),.at [3] 0]∧hp'=[([3],.box [.d (i64 r)])]) h [2] (.agg [.sl (some 9) (ns.map enD)]) (by
  rintro r hp' ⟨rfl,rfl⟩
  refine ⟨rfl,rfl,?_,?_⟩
  ·simp only [go_sem]
  ·simp only [go_sem])
 have h3:=HCall.fB (Q':=fun q hp'=>q=.d (.clo 152 [.ptr (.agg [.sl (some 9) (ns.map enD)]),.ptr (i64 r)])∧hp'=[]) h2 [3] (i64 r) (by
  rintro r hp' ⟨rfl,rfl⟩
  refine ⟨rfl,rfl,?_,?_⟩
  ·simp only [go_sem]
  ·simp only [go_sem])
 exact h3.mono fun r hp' ⟨h1,h3⟩=>⟨h1,by rw [h1];rfl,h3⟩
def vE (ns:List EN) (i:Nat) (_:Nat):List AV:=[.d (i64 i),.d (.ptr (exD ns)),.at [4] 0,.at [3] 0]
def wHp (ns:List EN) (l:Nat):List (Name × Ob):=[([3],.box [.d (.yl l)]),([4],.box [.clo 153 [.d (.ptr (exD ns)),.at [4] 0,.at [3] 0]])]
def Seg (N:Nat) (xs:Nat→List D) (n:Nat) (L:List Int):Prop:=n+L.length≤N∧∀ j,j<L.length→xs (n+j)=[i64 (L.getD j 0)]
theorem Seg.left {N:Nat} {xs:Nat→List D} {n:Nat} {a b:List Int} (h:Seg N xs n (a++b)):Seg N xs n a :=
 ⟨by have:=h.1;rw [List.length_append] at this;omega,fun j hj=>by
  rw [h.2 j (by rw [List.length_append];omega),List.getD_eq_getElem?_getD,List.getD_eq_getElem?_getD,List.getElem?_append_left hj]⟩
theorem Seg.right {N:Nat} {xs:Nat→List D} {n:Nat} {a b:List Int} (h:Seg N xs n (a++b)):Seg N xs (n+a.length) b :=
 ⟨by have:=h.1;rw [List.length_append] at this;omega,fun j hj=>by
  have:=h.2 (a.length+j) (by rw [List.length_append];omega)
  rw [← Nat.add_assoc] at this
  rw [this,List.getD_eq_getElem?_getD,List.getD_eq_getElem?_getD,List.getElem?_append_right (by omega)]
  simp⟩
theorem ARY.yi {P:Program} {cf:Cf} {Φ:Exit→Act→World→Prop} {z:Itz} {n:Nat} {k:List It} {s:St} (h:∀ b0,ARY P cf Φ (YI z n b0) k s):ARY P cf Φ (II z n) k s :=
 fun B hB ds β a w hds hI hs=>h B.β0 B hB ds β a w hds ⟨hI,rfl⟩ hs
theorem Iq {P:Program} {cf:Cf} {Φ:Exit→Act→World→Prop} {I:Base→List Deferred→Prop} {k:List It} {s:St} (p:Name) (w:W) (xs:List D) (hp:s.hp p=some (.arr w xs)) (h:ARY P cf Φ I k (s.eH p w xs)):ARY P cf Φ I k s :=
 fun B hB ds β a w' hds hI hs=>h B hB ds β a w' hds hI (hs.eH hp)
def l5 (ns:List EN) (m:Nat) (K:List Int) (q:Nat):List Int:=(K.take q).flatMap (bg ns m)
theorem zJ {ns:List EN} {m:Nat} {K:List Int} {q:Nat} (h:q<K.length):l5 ns m K (q+1)=l5 ns m K q++bg ns m K[q]:=by
 unfold l5
 rw [List.take_succ_eq_append_getElem h,List.flatMap_append]
 simp
theorem Bj (ns:List EN) (m:Nat) (K:List Int):l5 ns m K K.length=K.flatMap (bg ns m):=by unfold l5;rw [List.take_length]
theorem wF {ns:List EN} {m:Nat} {K:List Int} {q:Nat} (_h:q≤K.length):∃ R,K.flatMap (bg ns m)=l5 ns m K q++R:=⟨(K.drop q).flatMap (bg ns m),by unfold l5;rw [← List.flatMap_append,List.take_append_drop]⟩
set_option maxHeartbeats 1000000 in
theorem xF {G} {N:Nat} {xs:Nat→List D} (ns:List EN) (hN:ns.length≤1000000) (hs:∀ n∈ns,n.l.length≤1000000) (hk:∀ i,i<ns.length→(ag (ndE ns i)).all (inB i)=true) :
  ∀ (m i n:Nat),i<ns.length→i<m→Seg N xs n (bg ns m i)→YCall Tryz.prog G N xs 153 (vE ns i) (wHp ns) [4,3] n (n+(bg ns m i).length)
 | 0,i,n,_,h,_=>absurd h (Nat.not_lt_zero _)
 | m+1,i,n,hi,him,hseg=>by
   have hg:=aN hi
   have hki:=hk i hi
   have hsi:=hs _ (by rw [ba hi];exact List.getElem_mem hi:ndE ns i∈ns)
   rw [bg,Int.toNat_natCast] at hseg ⊢
   obtain ⟨nd,hne⟩:∃ nd,nd=ndE ns i:=⟨_,rfl⟩
   rw [← hne] at hg hki hsi hseg ⊢
   have hkc:=eg (G:=G) nd hsi
   obtain ⟨K,hK⟩:∃ K,K=ag nd:=⟨_,rfl⟩
   have hKl:K.length≤1000003:=by rw [hK,aM];unfold aA;have:=bn nd.k;split<;>omega
   rw [← hK] at hkc hki hseg ⊢
   refine Gk Tryz.func153 rfl (by decide +kernel) (fun l=>by simp [vE,Tryz.ntmps153]) fun z hz b0=>?_
   unfold vE wHp exD
   refine aC (an fun E=>?_)
   simp only [go_sem]
   refine aC (aC (an fun E=>?_))
   simp only [go_sem]
   refine ⟨⟨by omega,by omega⟩,?_⟩
   rw [hg]
   simp only [go_sem]
   refine ae E [.d (enD nd)] [] [] hkc rfl rfl ⟨by simp only [go_sem],by rw [aa];decide⟩ rfl (by simp only [go_sem]) (by simp only [go_sem]) ?_
   rintro _ _ ⟨rfl,rfl⟩
   simp only [go_sem]
   refine Iq [13,0] none (K.map i64) rfl ?_
   simp only [go_sem]
   refine iq (Cc (X:={ q:Nat // q≤K.length }) (fun x=>mk [(0,.d (i64 i)),(1,.d (.ptr (.agg [.sl (some 9) (ns.map enD)]))),(2,.at [4] 0),(3,.at [3] 0),(5,.d (.bool false)),(13,.d (.sl none (K.map i64))),(14,.d (i64 K.length)),(15,.d (i64 x.1))]
    [([3],.box [.d (.yl z.l)]),([4],.box [.clo 153 [.d (.ptr (.agg [.sl (some 9) (ns.map enD)])),.at [4] 0,.at [3] 0]])] [4,3]) (fun x=>YI z (n+(l5 ns m K x.1).length) b0) (fun x=>K.length-x.1) ⟨0,Nat.zero_le _⟩ ⟨id,LeL.le ?_⟩ (fun _ _ h=>h) ?_)
   ·simp only [go_sem]
    all_goals rfl
   rintro ⟨q,hq⟩
   simp only at hq ⊢
   generalize hΦ:lpY _ _ _ _ _ _ _ _=Φ'
   refine aC (an fun E=>?_)
   simp only [go_sem]
   refine aC (an fun E=>?_)
   simp only [go_sem]
   refine ai E (fun h1=>?_) (fun h1=>?_)<;>simp only [go_sem]
   ·have hq':q<K.length:=by omega
    have hkq:0≤K[q]∧K[q]<(i:Int):=by
     have:=List.all_eq_true.1 hki K[q] (List.getElem_mem hq')
     simpa [inB] using this
    obtain ⟨k,hkk⟩:∃ k:Nat,K[q]=(k:Int):=⟨K[q].toNat,by omega⟩
    obtain ⟨R,hR⟩:=wF (ns:=ns) (m:=m) (K:=K) (q:=q+1) (by omega)
    have hst:=zJ (ns:=ns) (m:=m) hq'
    rw [hkk] at hst
    have hsg:Seg N xs (n+(l5 ns m K q).length) (bg ns m k):=by
     rw [hR,hst,List.append_assoc,List.append_assoc] at hseg
     exact hseg.right.left
    have ih:=xF (G:=G) ns hN hs hk m k (n+(l5 ns m K q).length) (by omega) (by omega) hsg
    have hlen:(l5 ns m K (q+1)).length=(l5 ns m K q).length+(bg ns m k).length:=by rw [hst,List.length_append]
    refine aC (iq (aC (an fun E=>?_)))
    simp only [go_sem]
    refine ⟨⟨by omega,by omega⟩,?_⟩
    rw [aw hq',show K.getD q 0=K[q] by simp [hq'],hkk]
    simp only [go_sem]
    refine aC (jo (o9 rfl ?_))
    simp only [go_sem]
    refine o9 rfl ?_
    simp only [go_sem]
    refine xJ hz rfl ih rfl (by simp) rfl rfl ?_ ?_ ?_ ?_ ?_
    ·unfold vE wHp exD
     simp only [go_sem]
    ·unfold wHp
     simp only [go_sem]
    ·exact fun _ h=>h
    ·refine lN fun E=>?_
     simp only [St.putd]
     simp only [go_sem]
     refine an fun E=>?_
     simp only [go_sem]
     refine xx (an fun E=>?_)
     simp only [go_sem]
     rw [ak ⟨by omega,by omega⟩]
     subst hΦ
     refine mA (show { q:Nat // q≤K.length } from ⟨q+1,by omega⟩) ?_ id (LeL.le ?_) (fun B ds h=>?_)
     ·show K.length-(q+1)<K.length-q
      omega
     ·simp only [go_sem]
      rfl
     ·show YI z (n+(l5 ns m K (q+1)).length) b0 B ds
      rw [hlen,← Nat.add_assoc]
      exact h
    ·refine lN fun E=>?_
     simp only [St.putd]
     simp only [go_sem]
     refine an fun E=>?_
     simp only [go_sem]
     subst hΦ
     refine kf (xK (.inr rfl) rfl ?_)
     simp only [go_sem]
     refine ⟨id,?_⟩
     simp only [go_sem]
   ·subst hΦ
    refine mL ?_
    simp only [go_sem]
    have h3:q=K.length:=by omega
    subst h3
    rw [Bj]
    rw [List.length_append,List.length_singleton,← Nat.add_assoc]
    have hx:=hseg.right
    refine aC (jo (o9 rfl ?_))
    simp only [go_sem]
    refine o9 rfl ?_
    simp only [go_sem]
    refine C7 hz (by have:=hx.1;rw [List.length_singleton] at this;omega) (by simp) rfl (by simp only [go_sem];rw [show xs (n+(K.flatMap (bg ns m)).length)=[i64 (i:Int)] from hx.2 0 (by simp)];rfl) ?_ ?_
    ·refine lN fun E=>?_
     simp only [go_sem]
     refine an fun E=>?_
     simp only [go_sem]
     refine EJ (.inr rfl) rfl ?_
     simp only [go_sem]
     refine ⟨id,?_⟩
     simp only [go_sem]
    ·refine lN fun E=>?_
     simp only [go_sem]
     refine an fun E=>?_
     simp only [go_sem]
     refine xK (.inr rfl) rfl ?_
     simp only [go_sem]
     refine ⟨id,?_⟩
     simp only [go_sem]
def wIt (ns:List EN) (r:Nat) (n:Nat):List D:=[i64 ((bg ns ns.length r).getD n 0)]
theorem FD {G} (ns:List EN) (r:Nat) (hr:r<ns.length) (hN:ns.length≤1000000) (hs:∀ n∈ns,n.l.length≤1000000) (hk:∀ i,i<ns.length→(ag (ndE ns i)).all (inB i)=true) :
  ItC Tryz.prog G 152 [.ptr (exD ns),.ptr (i64 r)] (bg ns ns.length r).length (wIt ns r):=by
 refine zA Tryz.func152 rfl (by decide +kernel) (by simp [Tryz.ntmps152]) rfl fun z hz=>?_
 unfold exD
 have hw:=xF (G:=G) (N:=(bg ns ns.length r).length) (xs:=wIt ns r) ns hN hs hk ns.length r 0 hr hr ⟨by omega,fun j _=>by unfold wIt;rw [Nat.zero_add]⟩
 rw [Nat.zero_add] at hw
 refine ARY.yi fun b0=>?_
 refine aC (an fun E=>?_)
 simp only [go_sem]
 refine aC (an fun E=>?_)
 simp only [go_sem]
 refine aC (an fun E=>?_)
 simp only [go_sem]
 refine jo (o9 rfl ?_)
 simp only [go_sem]
 refine o9 rfl ?_
 simp only [go_sem]
 refine xJ hz rfl hw rfl (by simp) rfl rfl ?_ ?_ (fun _ h=>h) ?_ ?_
 ·unfold vE wHp exD
  simp only [go_sem]
 ·unfold wHp
  simp only [go_sem]
 ·refine mb (CN (ARX.le (vP hz (.inl rfl)) fun B ds h=>h.1))
 ·refine mb (CN (ARX.le (A9 hz (.inl rfl)) fun B ds h=>h.1))
end Go.Proofs.YtejpnabbmgpmaaaGreat

namespace Go.Proofs.YtejpnabbmgpmaaaGreat
open Go.Ab
def plM (its:List Int) (n:Nat):List (Int × D):=(List.range n).map fun j:Nat=>(its.getD j 0,i64 (j:Int))
theorem uV (its:List Int) (n:Nat):plM its (n+1)=plM its n++[(its.getD n 0,i64 (n:Int))]:=by
 unfold plM
 rw [List.range_succ,List.map_append]
 rfl
theorem AW {ms ns:List (Int × D)} {k:Int}:mlook (ms++ns) k=(mlook ms k).or (mlook ns k):=by
 induction ms with
 | nil=>simp [mlook]
 | cons q r ih =>
   rw [List.cons_append,mlook,mlook]
   split
   ·rfl
   ·exact ih
theorem tz {k:Int} {d:D}:∀ {ms:List (Int × D)},(∀ q∈ms,q.1≠k)→mset ms k d=ms++[(k,d)]
 | [],_=>rfl
 | q::r,h=>by
   rw [mset,if_neg (h q List.mem_cons_self),tz fun x hx=>h x (List.mem_cons_of_mem _ hx)]
   rfl
theorem nR {k:Int}:∀ {ms:List (Int × D)},(∀ q∈ms,q.1≠k)→mlook ms k=none
 | [],_=>rfl
 | q::r,h=>by
   rw [mlook,if_neg (h q List.mem_cons_self)]
   exact nR fun x hx=>h x (List.mem_cons_of_mem _ hx)
theorem xh {its:List Int} {n:Nat} (hn:n≤its.length) {q:Int × D} (h:q∈plM its n):q.1∈its.take n:=by
 obtain ⟨j,hj,rfl⟩:=List.mem_map.1 h
 have hj:=List.mem_range.1 hj
 refine List.mem_iff_getElem.2 ⟨j,by rw [List.length_take];omega,?_⟩
 simp [List.getElem_take,show j<its.length by omega]
theorem yk {its:List Int} (hnd:its.Nodup) {n:Nat} (h:n<its.length):its[n] ∉ its.take n:=by
 intro hm
 obtain ⟨j,hj,e⟩:=List.mem_iff_getElem.1 hm
 rw [List.length_take] at hj
 rw [List.getElem_take] at e
 have h1:=List.Nodup.idxOf_getElem hnd j (by omega)
 have h2:=List.Nodup.idxOf_getElem hnd n h
 rw [e] at h1
 omega
theorem vD {its:List Int} (hnd:its.Nodup) {k:Int}:∀ {n:Nat},n≤its.length→k∈its.take n→mlook (plM its n) k=some (i64 (its.idxOf k:Int))
 | 0,_,h=>by simp at h
 | n+1,hn,h=>by
   have hlt:n<its.length:=by omega
   have hg:its.getD n 0=its[n]:=by simp [hlt]
   rw [uV,AW,hg]
   rw [List.take_succ_eq_append_getElem hlt] at h
   rcases List.mem_append.1 h with h | h
   ·rw [vD hnd (by omega) h];rfl
   ·rw [List.mem_singleton] at h
    subst h
    rw [nR fun q hq e=>yk hnd hlt (by rw [← e];exact xh (by omega) hq),List.Nodup.idxOf_getElem hnd]
    simp [mlook]
theorem F4 {its:List Int} (hnd:its.Nodup) {n:Nat} (hn:n<its.length):mset (plM its n) its[n] (i64 (n:Int))=plM its (n+1):=by
 have hg:its.getD n 0=its[n]:=by simp [hn]
 rw [uV,hg,tz]
 intro q hq e
 exact yk hnd hn (by rw [← e];exact xh (by omega) hq)
theorem Hz:vY Tryz.prog 3 (fun n:Int=>i64 n) (fun n=>.int .i64 n):=H8 (by rw [ti3])
theorem J8:tQ Tryz.prog 3=some (i64 0):=by kernel_rfl
structure Walk (ns:List EN) (its:List Int):Prop where
 nd:its.Nodup
 inn:∀ x∈its,0≤x∧x<(ns.length:Int)
 pre:∀ n (h:n<its.length),∀ k∈ag (ndE ns its[n].toNat),k∈its.take n
def mQ (ns:List EN) (its:List Int) (x:Int):EN:=aK (ndE ns x.toNat) ((ag (ndE ns x.toNat)).map fun k=>(its.idxOf k:Int))
def lJ (ns:List EN) (its:List Int) (n:Nat):List EN:=(its.take n).map (mQ ns its)
theorem zH {ns:List EN} {its:List Int} {n:Nat} (h:n<its.length):lJ ns its (n+1)=lJ ns its n++[mQ ns its its[n]]:=by
 unfold lJ
 rw [List.take_succ_eq_append_getElem h,List.map_append]
 rfl
theorem tM {ns:List EN} {its:List Int} {n:Nat} (h:n≤its.length):(lJ ns its n).length=n:=by
 unfold lJ
 rw [List.length_map,List.length_take]
 omega
def Co (ns:List EN) (its:List Int) (n:Nat):St:=mk [(2,.at [2] 0),(4,.at [4] 0),(5,.at [5] 0),(6,.at [6] 0)]
 [([2],.box [.d (.sl (some 9) (ns.map enD))]),([4],.box [.d .nils]),([5],.box [.vw [99] 0 n]),([99],.arr (some 9) ((lJ ns its n).map enD)),([6],.box [.mp [11]]),([11],.map (menc (fun n:Int=>i64 n) (plM its n)))] [2,4,5,6,11,99]
set_option maxHeartbeats 1000000 in
theorem H4 {G} (ns:List EN) (r:Nat) (hr:r<ns.length) (hN:ns.length≤1000000) (hs:∀ n∈ns,n.l.length≤900000) (hk:∀ i,i<ns.length→(ag (ndE ns i)).all (inB i)=true) (hw:Walk ns (bg ns ns.length r)) (hl:(bg ns ns.length r).length≤1000000) :
  HP Tryz.prog G 57 [exD ns,i64 r] (fun q=>q=.d (exD (lJ ns (bg ns ns.length r) (bg ns ns.length r).length))):=by
 have hs':∀ n∈ns,n.l.length≤1000000:=fun n hn=>by have:=hs n hn;omega
 have hit:=FD (G:=G) ns r hr hN hs' hk
 have hb:=EI (G:=G) ns r
 unfold wIt at hit
 generalize hits:bg ns ns.length r=its at hit hw hl ⊢
 unfold exD at hb hit ⊢
 refine ir Tryz.func57 rfl (by decide +kernel) (by simp [Tryz.ntmps57]) fun B0 hB0=>?_
 refine aC (an fun E=>?_)
 simp only [go_sem]
 refine aC (an fun E=>?_)
 simp only [go_sem]
 refine aC (an fun E=>?_)
 simp only [go_sem]
 refine pB E (by simp only [go_sem]) (by rw [aa];decide) ?_
 simp only [go_sem]
 refine aC (aC (an fun E=>?_))
 simp only [go_sem]
 refine ab E hb rfl rfl (by simp) ?_
 rintro _ rfl
 simp only [go_sem]
 refine np [5] 0 99 (some 9) [.d .nils] rfl rfl (by rw [aa];decide) ?_
 simp only [go_sem]
 refine iq (rk rfl hit rfl (X:=Unit) (fun n _=>Co ns its n) (by simp) (fun n hn=>rfl) ⟨(),id,?_⟩ ?_ ?_)
 ·refine LeL.le ?_
  simp only [go_sem]
  exact ⟨rfl,rfl⟩
 ·rintro n ⟨⟩ hn lb
  unfold Co
  refine veil fun E=>?_
  simp only [go_sem]
  refine H6 fun E=>?_
  simp only [go_sem]
  have hgx:its.getD n 0=its[n]:=by simp [hn]
  have hxi:=hw.inn _ (List.getElem_mem hn)
  have hpre:=hw.pre n hn
  have hstep:=zH (ns:=ns) hn
  have hpl:=F4 hw.nd hn
  unfold mQ at hstep
  rw [hgx]
  obtain ⟨x,hx⟩:∃ x:Nat,its[n]=(x:Int):=⟨its[n].toNat,by omega⟩
  rw [hx] at hxi hpre hpl ⊢
  rw [hx,Int.toNat_natCast] at hstep
  rw [Int.toNat_natCast] at hpre ⊢
  have hxl:x<ns.length:=by omega
  have hg:=aN hxl
  have hsi:=hs _ (by rw [ba hxl];exact List.getElem_mem hxl:ndE ns x∈ns)
  generalize ndE ns x=nd at hg hsi hpre hstep
  have hkc:=eg (G:=G) nd (by omega)
  have hwc:=rE (G:=G) nd ((ag nd).map fun k=>(its.idxOf k:Int)) (by omega) (by rw [List.length_map,aM];unfold aA;have:=bn nd.k;split<;>omega)
  obtain ⟨K,hK⟩:∃ K,K=ag nd:=⟨_,rfl⟩
  have hKl:K.length≤1000003:=by rw [hK,aM];unfold aA;have:=bn nd.k;split<;>omega
  rw [← hK] at hkc hpre hstep hwc
  rw [hg]
  refine ⟨⟨by omega,by omega⟩,?_⟩
  simp only [go_sem]
  refine ae E [.d (enD nd)] [] [] hkc rfl rfl ⟨by simp only [go_sem],by rw [aa];decide⟩ rfl (by simp only [go_sem]) (by simp only [go_sem]) ?_
  rintro _ _ ⟨rfl,rfl⟩
  simp only [go_sem]
  refine iw E [21,0] none (K.map i64) rfl ?_
  simp only [go_sem]
  refine ml E 8 98 none rfl (by rw [aa];decide) ?_
  simp only [go_sem]
  refine aE E (X:={ q:Nat // q≤K.length }) (fun y=>[(2,.at [2] 0),(4,.at [4] 0),(5,.at [5] 0),(6,.at [6] 0),(7,.d (i64 x)),(8,.vw [98] 0 y.1),(21,.d (.sl none (K.map i64))),(22,.d (i64 K.length)),(23,.d (i64 y.1))])
   (fun y=>[([2],.box [.d (.sl (some 9) (ns.map enD))]),([4],.box [.d .nils]),([5],.box [.vw [99] 0 n]),([99],.arr (some 9) ((lJ ns its n).map enD)),([6],.box [.mp [11]]),([11],.map (menc (fun n:Int=>i64 n) (plM its n))),([98],.arr none (((K.take y.1).map fun k=>(its.idxOf k:Int)).map i64))]) [2,4,5,6,11,98,99] (fun y=>K.length-y.1) ⟨0,Nat.zero_le _⟩ id ?_ ?_
  ·simp only [go_sem]
   all_goals rfl
  rintro ⟨q,hq⟩ E0
  refine aT E0 fun Q' hQ E'=>?_
  simp only at hq ⊢
  simp only [go_sem]
  refine ai E' (fun g1=>?_) (fun g1=>?_)<;>simp only [go_sem]
  ·have hq':q<K.length:=by omega
   refine ⟨⟨by omega,by omega⟩,?_⟩
   rw [aw hq',show K.getD q 0=K[q] by simp [hq']]
   simp only [go_sem]
   refine ub E' [11] (plM its n) K[q] (i64 0) (by rw [D9]) Hz J8 rfl rfl rfl (by simp) ?_
   rw [vD hw.nd (by omega) (hpre _ (List.getElem_mem hq'))]
   simp only [go_sem]
   refine ⟨by omega,?_⟩
   rw [ak (n:=(q:Int)+1) ⟨by omega,by omega⟩]
   rw [show List.take q (List.map i64 (List.map (fun k=>(its.idxOf k:Int)) (List.take q K)))++[i64 (its.idxOf K[q]:Int)]=((K.take (q+1)).map fun k=>(its.idxOf k:Int)).map i64 by
    rw [List.take_of_length_le (by simp;omega),List.take_succ_eq_append_getElem hq',List.map_append,List.map_append];rfl]
   rw [hQ]
   simp only [go_sem]
   refine ⟨⟨q+1,by omega⟩,by show K.length-(q+1)<_;omega,tau [([98],[32])],?_⟩
   simp only [go_sem]
   all_goals rfl
  ·rw [hQ]
   have h3:q=K.length:=by omega
   subst h3
   rw [List.take_length]
   simp only [go_sem]
   refine mC E [11] (plM its n) (x:Int) (i64 (n:Int)) (by rw [D9]) Hz rfl rfl rfl rfl rfl ?_
   rw [hpl]
   simp only [go_sem]
   refine iw E [98] none ((K.map fun k=>(its.idxOf k:Int)).map i64) rfl ?_
   simp only [go_sem]
   refine aj mixed E fun X=>?_
   simp only [go_sem]
   refine ⟨⟨by omega,by omega⟩,?_⟩
   rw [hg]
   simp only [go_sem]
   rw [List.take_of_length_le (l:=List.map i64 _) (by simp)]
   refine aZ X hwc rfl rfl (by simp) ?_
   obtain ⟨M,hM⟩:∃ M,M=aK nd (K.map fun k=>(its.idxOf k:Int)):=⟨_,rfl⟩
   rw [← hM] at hstep ⊢
   rw [nC M]
   simp only [go_sem]
   rw [show List.take n (List.map enD (lJ ns its n))++[.agg [i64 M.k,i64 M.a,i64 M.b,i64 M.c,i64 M.n,.str M.name,.str M.s,.sl (some 3) (M.l.map fD),i64 M.pos]]=(lJ ns its (n+1)).map enD by
    rw [hstep,List.take_of_length_le (by rw [List.length_map,tM (by omega)];exact Nat.le_refl _),List.map_append];rfl]
   refine ⟨by omega,by decide +kernel,?_⟩
   refine Cg ?_ () (tau [([99],[49])]) rfl ?_
   ·simp only [go_sem]
    trace_state
   ·simp only [go_sem]
    all_goals rfl
 ·rintro ⟨⟩
  unfold Co
  refine xx ?_
  refine an fun E=>?_
  simp only [go_sem]
  refine fF (.inl rfl) hB0 ?_
  simp only [go_sem]
  refine ⟨[([99],some 9,(lJ ns its its.length).map enD)],?_⟩
  simp only [go_sem]
  rw [List.take_of_length_le (by rw [List.length_map,tM (Nat.le_refl _)];exact Nat.le_refl _)]
end Go.Proofs.YtejpnabbmgpmaaaGreat

namespace Go.Proofs.YtejpnabbmgpmaaaGreat
open Go.Ab
structure bt (ns:List EN):Prop where
 pos:0<ns.length
 few:ns.length≤600
 right:∀ i,i<ns.length→aS (ndE ns i)=true
 link:∀ i,i<ns.length→cI ns i=true
 once:j6 ns=true
 deep:km ns≤100
theorem JR {ns:List EN} (h:bL ns=0):bt ns:=by
 unfold bL at h
 split at h
 ·exact absurd h (by decide)
 rename_i h1
 split at h
 ·rename_i h2
  split at h
  ·exact absurd h (by decide)
  ·rename_i h3
   rw [Bool.and_eq_true] at h2
   have h4:∀ i,i<ns.length→aS (ndE ns i)=true∧cI ns i=true:=fun i hi=>by
    have:=List.all_eq_true.1 h2.1 i (List.mem_range.2 hi)
    simpa [Bool.and_eq_true] using this
   exact ⟨by omega,by omega,fun i hi=>(h4 i hi).1,fun i hi=>(h4 i hi).2,h2.2,by omega⟩
 ·exact absurd h (by decide)
theorem bt.kids {ns:List EN} (h:bt ns):∀ i,i<ns.length→(ag (ndE ns i)).all (inB i)=true:=fun i hi=>rb (h.link i hi)
theorem fy {n:EN} (h:aS n=true):n.l.length≤30:=by
 unfold aS bo at h
 simp only [Bool.and_eq_true] at h
 have h1:=h.2.1.2
 split at h1
 ·simp only [Bool.and_eq_true,decide_eq_true_eq] at h1
  exact h1.2.1.2
 ·have:n.l=[]:=by simpa using h1
  rw [this];decide
theorem bt.l {ns:List EN} (h:bt ns):∀ n∈ns,n.l.length≤30:=fun n hn=>by
 obtain ⟨i,hi,rfl⟩:=List.mem_iff_getElem.1 hn
 have:=h.right i hi
 rw [ba hi] at this
 exact fy this
end Go.Proofs.YtejpnabbmgpmaaaGreat

namespace Go.Ab
section
variable {P:Program} {cf:Cf} {ops:Array Oper} {K:St→Ns→Prop} {r:List Oper} {s:St} {ns:Ns}
theorem Hr (E:XEng P cf ops K) {d t e n:Nat} {x y:Operand} {ty:TypeId} {pos:String} {af:Array Edge} {z:D} (ht:(P.ti t).k=.slice e) (hz:(P.ti e).zero=some z) (hw:((P.ti e).isW (P.ti e).w && oU (P.ti e).w z)=true)
  (hx:ev s x=.d (.int .i64 n)) (hy:ev s y=.d (.int .i64 n)) (hb:(n:Int)*(P.ti e).by'≤140737488355328∧(n:Int)≤140737488355328) (hd:d<cf.n∧d ∉ s.used)
  (hk:E.run r ((s.add d (.arr (P.ti e).w (List.replicate n z))).put d (.vw [d] 0 n)) (ns++[([],[[d]],[d])])) :
  E.stp { dst:=some d,op:=.makeSlice t x y,type:=ty,pos:=pos,after:=af,guard:=none } r s ns .no:=by
 have hgo:∀ s':St,(s'.add d (.arr (P.ti e).w (List.replicate n z))).put d (.vw [d] 0 n)=s'.go (some d) (.vw [d] 0 n) ⟨[([d],some (.arr (P.ti e).w (List.replicate n z)))],[d]⟩:=fun s'=>by unfold St.go;rw [rN];rfl
 rw [E.stp_eq]
 refine ⟨.vw [d] 0 n,([],⟨[([d],some (.arr (P.ti e).w (List.replicate n z)))],[d]⟩),fun s' hu hh he B hB ds' β a w hds hs Q'=>?_,fun q hq=>?_,hd.1,?_⟩
 ·have h1:ev s' x=.d (.int .i64 n):=(he x (by simp [Op.operands])).trans hx
  have h2:ev s' y=.d (.int .i64 n):=(he y (by simp [Op.operands])).trans hy
  have hok:AOk P cf { dst:=some d,op:=.makeSlice t x y,type:=ty,pos:=pos,after:=af,guard:=none } s' [] (fun _ s2=>s2=(s'.add d (.arr (P.ti e).w (List.replicate n z))).put d (.vw [d] 0 n)):=by
   refine dn (o:={ dst:=some d,op:=.makeSlice t x y,type:=ty,pos:=pos,after:=af,guard:=none }) rfl ?_
   have h3:opR P.ti cf.n (.makeSlice t x y) (some d) s'=.need (0≤(n:Int)∧(n:Int)≤n∧(n:Int)*(P.ti e).by'≤140737488355328∧(n:Int)≤140737488355328) (.ok ((s'.add d (.arr (P.ti e).w (List.replicate n z))).put d (.vw [d] 0 n))):=by
    unfold opR fb ic
    simp only [h1,h2,ht,hz,hw]
    have hdu:d<cf.n∧d ∉ s'.used:=⟨hd.1,hu d (by simp)⟩
    simp [hdu.1,hdu.2]
   show stp P cf (opR P.ti cf.n (.makeSlice t x y) (some d) s') _ s' [] _
   rw [h3,n9,wC,dB]
   exact ⟨⟨by omega,Int.le_refl _,hb⟩,rfl⟩
  refine Oper.wpIn_mono ?_ (hok B hB ds' β a w hds hs Q')
  rintro a' w' ⟨hd',s2,β',hrun,hs2⟩
  obtain ⟨_,s3,β3,rfl,hs3⟩:=hrun B hB ds' β' a' w' hd' hs2
  exact ⟨hd',β3,by rw [← hgo];exact hs3⟩
 ·obtain rfl:=List.mem_singleton.1 hq
  exact hd.2
 ·rw [← E.run_eq,← hgo]
  exact hk
end
end Go.Ab

namespace Go.Proofs.YtejpnabbmgpmaaaGreat
open Go.Ab
theorem FH {ns:List EN} {i:Nat} {k:Int} (hk:k∈ag (ndE ns i)) (h:inB i k=false):cI ns i=false:=by
 have:(ag (ndE ns i)).all (inB i)=false:=List.all_eq_false.2 ⟨k,hk,by rw [h];decide⟩
 unfold cI
 rw [show ((ag (ndE ns i)).all fun k=>decide (0≤k) && decide (k<(i:Int)))=false from this,Bool.false_and]
theorem Bx {ns:List EN} {i:Nat} (h:(ag (ndE ns i)).all (inB i)=true):cI ns i=(decide ((ndE ns i).k≠8) || decide ((ndE ns (ndE ns i).a.toNat).k=5)):=by
 unfold cI
 rw [show ((ag (ndE ns i)).all fun k=>decide (0≤k) && decide (k<(i:Int)))=true from h,Bool.true_and]
set_option maxHeartbeats 4000000 in
theorem nz {G} (ns:List EN) (hs:∀ n∈ns,ff BIG n) (hN:ns.length≤1000000):HP Tryz.prog G 67 [exD ns] (fun r=>r=.d (i64 (bL ns))):=by
 generalize hb:bL ns=b
 unfold bL at hb
 unfold exD
 refine al Tryz.func67 rfl (by decide +kernel) (by simp [Tryz.ntmps67]) (veil fun E=>?_)
 simp only [go_sem]
 repeat (first
  | (apply bC E;(· simp only [go_sem]);(· intro h;(try simp only [bq] at h);simp only [↓h,go_sem];rfl);simp only [go_sem])
  | (apply aW E;(· simp only [go_sem]);(· intro h;(try simp only [bq] at h);simp only [↓h,go_sem];rfl);(· intro h;(try simp only [bq] at h);simp only [↓h,go_sem];rfl);simp only [go_sem])
  | (apply aX E;(· simp only [go_sem]);(· rfl);(· intro h h';(try simp only [bq] at h h');simp only [↓h,↓h',go_sem];rfl);simp only [go_sem])
  | (apply aH E;(· simp only [go_sem]);(· rfl);(· intro h h';(try simp only [bq] at h h');simp only [↓h,↓h',go_sem];rfl);(· intro h h';(try simp only [bq] at h h');simp only [↓h,↓h',go_sem];rfl);simp only [go_sem])
  | (apply bz E;(· decide);simp only [go_sem]))
 refine aR E (fun g=>?_) (fun g=>?_)
 ·simp only [go_sem]
  simp only [Bool.or_eq_true,decide_eq_true_eq] at g
  rw [if_pos (by omega)] at hb
  rw [← hb]
 have g':0<ns.length∧ns.length≤600:=by
  simp only [Bool.or_eq_false_iff,decide_eq_false_iff_not] at g
  omega
 rw [if_neg (by omega)] at hb
 simp only [go_sem]
 refine aj mixed E fun X=>?_
 simp only [go_sem]
 refine Hr X (d:=22) (t:=95) (e:=3) (n:=ns.length) (z:=i64 0) (by rw [EH]) (by rw [ti3];rfl) (by rw [ti3];rfl) rfl rfl (by rw [ti3];exact ⟨by simp only;omega,by omega⟩) ⟨by simp only [go_sem],by rw [aa];decide⟩ ?_
 simp only [go_sem]
 refine Hr X (d:=26) (t:=95) (e:=3) (n:=ns.length) (z:=i64 0) (by rw [EH]) (by rw [ti3];rfl) (by rw [ti3];rfl) rfl rfl (by rw [ti3];exact ⟨by simp only;omega,by omega⟩) ⟨by simp only [go_sem],by rw [aa];decide⟩ ?_
 simp only [go_sem]
 refine ⟨by decide +kernel,?_⟩
 have hs':∀ n∈ns,n.l.length≤1000000:=fun n hn=>(hs n hn).l
 refine dc E (X:={ i:Nat // i≤ns.length∧∀ j,j<i→okI ns j=true }) (fun x=>[(1,.at [1] 0),(2,.d (i64 0)),(3,.vw [22] 0 ns.length),(4,.vw [26] 0 ns.length),(5,.d (i64 x.1))])
  (fun x=>[([1],.box [.d (.sl (some 9) (ns.map enD))]),([22],.arr none ((cnts ns x.1).map i64)),([26],.arr none ((jr ns x.1).map i64))]) [1,22,26] (fun x=>ns.length-x.1) ⟨0,Nat.zero_le _,fun j h=>absurd h (Nat.not_lt_zero _)⟩ ?_ ?_
 ·rw [show cnts ns 0=List.replicate ns.length 0 by simp [cnts,bumps],pS,List.map_replicate]
  simp only [go_sem]
  all_goals first | rfl | exact ⟨rfl,rfl⟩ | exact ⟨rfl,rfl,rfl⟩
 rintro ⟨i,hi,hok⟩ E0
 refine aT E0 fun Q' hQ E'=>?_
 simp only at hi hok ⊢
 simp only [go_sem]
 refine ai E' (fun g1=>?_) (fun g1=>?_)<;>simp only [go_sem]
 ·have hi':i<ns.length:=by omega
  have hg:=aN hi'
  have hsn:=hs _ (by rw [ba hi'];exact List.getElem_mem hi':ndE ns i∈ns)
  have hc1:=F2 (G:=G) _ hsn
  have hc2:=lI (G:=G) _ hsn.l
  have hok1:okI ns i=(aS (ndE ns i) && cI ns i):=rfl
  have hcs:=l7 hi'
  have hdt:=p5 hi'
  rw [mZ] at hdt
  have hlno:∀ k∈ag (ndE ns i),inB i k=false→cI ns i=false:=fun k h1 h2=>FH h1 h2
  have hlrec:=Bx (ns:=ns) (i:=i)
  have bad:okI ns i=false→okE ns=false:=fun h=>List.all_eq_false.2 ⟨i,List.mem_range.2 hi',by
   show ¬ okI ns i=true
   rw [h];decide⟩
  have good:okI ns i=true→∀ j,j<i+1→okI ns j=true:=fun h j hj=>by
   by_cases e:j=i
   ·rw [e];exact h
   ·exact hok j (by omega)
  obtain ⟨n,hne⟩:∃ n,n=ndE ns i:=⟨_,rfl⟩
  rw [← hne] at hg hsn hc1 hc2 hok1 hcs hdt hlno hlrec
  generalize aS n=x at hc1 hok1
  generalize cI ns i=y at hlno hlrec hok1
  obtain ⟨K,hK⟩:∃ K,K=ag n:=⟨_,rfl⟩
  have hKl:K.length≤1000003:=by rw [hK,aM];unfold aA;have:=bn n.k;have:=hsn.l;split<;>omega
  rw [← hK] at hc2 hcs hdt hlno hlrec
  obtain ⟨hd1,hd2⟩:=db (ns:=ns) (i:=i) hi
  have hcb:=qK hs' hi
  have hcl:=gC ns i
  rw [show jr ns i=dO ns i 0 by unfold jr;rw [if_pos hi']]
  refine ⟨⟨by omega,by omega⟩,?_⟩
  rw [hg]
  simp only [go_sem]
  refine ab E' hc1 rfl rfl (by simp) ?_
  rintro _ rfl
  simp only [go_sem]
  refine aR E' (fun h1=>?_) (fun h1=>?_)<;>simp only [go_sem]
  ·have hx:x=false:=by simpa using h1
   rw [hQ]
   simp only [go_sem]
   rw [bad (by rw [hok1,hx];rfl),Bool.false_and] at hb
   rw [← hb]
   rfl
  have hx:x=true:=by simpa using h1
  refine ⟨⟨by omega,by omega⟩,?_⟩
  rw [hg]
  simp only [go_sem]
  refine ab E' hc2 rfl rfl (by simp) ?_
  rintro _ rfl
  simp only [go_sem]
  refine dc E' (X:={ q:Nat // q≤K.length∧(K.take q).all (inB i)=true }) (fun x=>[(1,.at [1] 0),(2,.d (i64 0)),(3,.vw [22] 0 ns.length),(4,.vw [26] 0 ns.length),(5,.d (i64 i)),(6,.d (.sl none (K.map i64))),(7,.d (i64 x.1))])
   (fun x=>[([1],.box [.d (.sl (some 9) (ns.map enD))]),([22],.arr none ((bumps (cnts ns i) (K.take x.1)).map i64)),([26],.arr none ((dO ns i (mx (bE ns i) (K.take x.1))).map i64))]) [1,22,26] (fun x=>K.length-x.1) ⟨0,Nat.zero_le _,by simp⟩ ?_ ?_
  ·simp only [go_sem]
   all_goals first | rfl | exact ⟨rfl,rfl⟩ | exact ⟨rfl,rfl,rfl⟩
  rintro ⟨q,hq,hall⟩ E2
  refine aT E2 fun Q2 hQ2 E3=>?_
  simp only at hq hall ⊢
  have hal:=td hi' (mx (bE ns i) (K.take q))
  have hmb:=D6 hd2 (K.take q)
  have hbl:=eM (K.take q) (cnts ns i)
  have htl:(K.take q).length≤1000003:=by rw [List.length_take];omega
  simp only [go_sem]
  refine ai E3 (fun g2=>?_) (fun g2=>?_)<;>simp only [go_sem]
  ·have hq':q<K.length:=by omega
   have hkm:K[q]∈K:=List.getElem_mem hq'
   have hbd:=(hcb.bumps (ks:=K.take q)).get K[q].toNat
   refine ⟨⟨by omega,by omega⟩,?_⟩
   rw [aw hq',show K.getD q 0=K[q] by simp [hq']]
   simp only [go_sem]
   refine aF E3 (fun g3=>?_) (fun g3=>?_)
   ·simp only [go_sem]
    have g5:inB i K[q]=false:=by
     rw [Bool.eq_false_iff]
     intro hc
     simp only [inB,Bool.and_eq_true,decide_eq_true_eq] at hc
     omega
    rw [hQ2]
    simp only [go_sem]
    rw [hQ]
    simp only [go_sem]
    rw [bad (by rw [hok1,hlno _ hkm g5,Bool.and_false]),Bool.false_and] at hb
    rw [← hb]
    try rfl
   ·simp only [go_sem]
    refine ⟨⟨by omega,by omega⟩,?_⟩
    rw [aw hq',show K.getD q 0=K[q] by simp [hq']]
    simp only [go_sem]
    refine ai E3 (fun g4=>?_) (fun g4=>?_)<;>simp only [go_sem]
    ·have g5:inB i K[q]=false:=by
      rw [Bool.eq_false_iff]
      intro hc
      simp only [inB,Bool.and_eq_true,decide_eq_true_eq] at hc
      omega
     rw [hQ2]
     simp only [go_sem]
     rw [hQ]
     simp only [go_sem]
     rw [bad (by rw [hok1,hlno _ hkm g5,Bool.and_false]),Bool.false_and] at hb
     rw [← hb]
     try rfl
    have g5:inB i K[q]=true:=by
     unfold inB
     rw [decide_eq_true (show 0≤K[q] by omega),decide_eq_true (show K[q]<(i:Int) by omega)]
     rfl
    refine ⟨⟨by omega,by omega⟩,?_⟩
    rw [aw hq',show K.getD q 0=K[q] by simp [hq']]
    simp only [go_sem]
    refine ⟨⟨by omega,by omega⟩,?_⟩
    rw [aw (by omega)]
    simp only [go_sem]
    refine ⟨⟨by omega,by omega⟩,?_⟩
    rw [ak (n:=(bumps (cnts ns i) (K.take q)).getD K[q].toNat 0+1) ⟨by omega,by omega⟩]
    rw [show (List.map i64 (bumps (cnts ns i) (K.take q))).set K[q].toNat (.int .i64 ((bumps (cnts ns i) (K.take q)).getD K[q].toNat 0+1))=(bumps (cnts ns i) (K.take (q+1))).map i64 by
     rw [List.take_succ_eq_append_getElem hq',ow];unfold bump;rw [List.map_set]]
    refine aj mixed E3 fun X=>?_
    simp only [go_sem]
    refine ⟨⟨by omega,by omega⟩,?_⟩
    rw [aw (by omega),lz hi']
    simp only [go_sem]
    refine ⟨⟨by omega,by omega⟩,?_⟩
    rw [aw hq',show K.getD q 0=K[q] by simp [hq']]
    simp only [go_sem]
    refine ⟨⟨by omega,by omega⟩,?_⟩
    rw [aw (by omega),sF hi _ (show K[q].toNat<i by omega)]
    simp only [go_sem]
    refine ⟨⟨by omega,by omega⟩,?_⟩
    refine ⟨by decide +kernel,?_⟩
    rw [ak (n:=(q:Int)+1) ⟨by omega,by omega⟩]
    rw [show (List.map i64 (dO ns i (mx (bE ns i) (K.take q)))).set i (.int .i64 (if (bE ns i).getD K[q].toNat 0 > mx (bE ns i) (K.take q) then (bE ns i).getD K[q].toNat 0 else mx (bE ns i) (K.take q)))=(dO ns i (mx (bE ns i) (K.take (q+1)))).map i64 by
     rw [List.take_succ_eq_append_getElem hq',xn,Cz,← List.map_set,kO hi']]
    rw [hQ2]
    simp only [go_sem]
    refine ⟨⟨q+1,by omega,by rw [List.take_succ_eq_append_getElem hq',List.all_append,hall];simpa using g5⟩,by show K.length-(q+1)<_;omega,?_⟩
    first | rfl | exact ⟨rfl,rfl⟩ | exact ⟨rfl,rfl,rfl⟩
  ·rw [hQ2]
   have h3:q=K.length:=by omega
   subst h3
   rw [List.take_length] at *
   simp only [go_sem]
   refine ⟨⟨by omega,by omega⟩,?_⟩
   rw [aw (by omega),lz hi']
   simp only [go_sem]
   refine ⟨⟨by omega,by omega⟩,?_⟩
   rw [ak (n:=mx (bE ns i) K+1) ⟨by omega,by omega⟩]
   rw [show (List.map i64 (dO ns i (mx (bE ns i) K))).set i (.int .i64 (mx (bE ns i) K+1))=(jr ns (i+1)).map i64 by
    rw [← hdt,← List.map_set,kO hi'],← hcs]
   have hy:=hlrec hall
   refine aj mixed E' fun X=>?_
   simp only [go_sem]
   refine ⟨⟨by omega,by omega⟩,?_⟩
   rw [hg]
   simp only [go_sem]
   refine A7 X (fun k8=>?_) (fun k8=>?_)<;>simp only [go_sem]
   ·have hka:K=[n.a,n.b]:=by rw [hK];unfold ag;rw [k8];rfl
    have ha:0≤n.a∧n.a<(i:Int):=by
     rw [hka] at hall
     simp only [List.all_cons,inB,Bool.and_eq_true,decide_eq_true_eq] at hall
     exact hall.1
    rw [ia]
    simp only [go_sem]
    refine ⟨⟨by omega,by omega⟩,?_⟩
    rw [hg]
    simp only [go_sem]
    refine ⟨⟨by omega,by omega⟩,?_⟩
    rw [aN (show n.a.toNat<ns.length by omega)]
    simp only [go_sem]
    refine ⟨by decide +kernel,?_⟩
    rw [decide_eq_false (show ¬ n.k≠8 from fun h=>h k8),Bool.false_or] at hy
    refine ai E' (fun g6=>?_) (fun g6=>?_)<;>simp only [go_sem]
    ·rw [hQ]
     simp only [go_sem]
     rw [bad (by rw [hok1,hy,decide_eq_false g6,Bool.and_false]),Bool.false_and] at hb
     rw [← hb]
     try rfl
    ·rw [hQ]
     simp only [go_sem]
     rw [ak (n:=(i:Int)+1) ⟨by omega,by omega⟩]
     refine ⟨⟨i+1,by omega,good (by rw [hok1,hx,hy,decide_eq_true (by simpa using g6)];rfl)⟩,by show ns.length-(i+1)<_;omega,?_⟩
     first | rfl | exact ⟨rfl,rfl⟩ | exact ⟨rfl,rfl,rfl⟩
   ·rw [decide_eq_true (show n.k≠8 from k8),Bool.true_or] at hy
    refine ⟨by decide +kernel,?_⟩
    rw [hQ]
    simp only [go_sem]
    rw [ak (n:=(i:Int)+1) ⟨by omega,by omega⟩]
    refine ⟨⟨i+1,by omega,good (by rw [hok1,hx,hy];rfl)⟩,by show ns.length-(i+1)<_;omega,?_⟩
    first | rfl | exact ⟨rfl,rfl⟩ | exact ⟨rfl,rfl,rfl⟩
 ·rw [hQ]
  have h3:i=ns.length:=by omega
  subst h3
  simp only [go_sem]
  have hokE:okE ns=true:=List.all_eq_true.2 fun j hj=>hok j (List.mem_range.1 hj)
  have hkk:∀ i,i<ns.length→(ag (ndE ns i)).all (inB i)=true:=fun i hi=>by
   have:=hok i hi
   unfold okI at this
   rw [Bool.and_eq_true] at this
   exact rb this.2
  have hoa:=uf hkk
  have hcl:=gC ns ns.length
  have hdl:=(db (ns:=ns) (Nat.le_refl _)).1
  unfold bE at hdl
  rw [List.take_length] at hdl
  rw [hokE,Bool.true_and] at hb
  rw [show jr ns ns.length=bV ns [] by unfold jr;rw [if_neg (Nat.lt_irrefl _)]]
  generalize cnts ns ns.length=C at hoa hcl ⊢
  refine dc E (X:={ j:Nat // j≤ns.length-1∧(C.take j).any (fun c=>!decide (c=1))=false }) (fun x=>[(1,.at [1] 0),(2,.d (i64 0)),(3,.vw [22] 0 ns.length),(4,.vw [26] 0 ns.length),(8,.d (i64 x.1))])
   (fun _=>[([1],.box [.d (.sl (some 9) (ns.map enD))]),([22],.arr none (C.map i64)),([26],.arr none ((bV ns []).map i64))]) [1,22,26] (fun x=>ns.length-x.1) ⟨0,Nat.zero_le _,by simp⟩ ?_ ?_
  ·simp only [go_sem]
   all_goals first | rfl | exact ⟨rfl,rfl⟩
  rintro ⟨j,hj,hone⟩ E2
  refine aT E2 fun Q2 hQ2 E3=>?_
  simp only at hj hone ⊢
  simp only [go_sem]
  rw [ak (n:=(ns.length:Int)-1) ⟨by omega,by omega⟩]
  refine ai E3 (fun g2=>?_) (fun g2=>?_)<;>simp only [go_sem]
  ·have hjc:j<C.length:=by omega
   refine ⟨⟨by omega,by omega⟩,?_⟩
   rw [aw hjc,show C.getD j 0=C[j] by simp [hjc]]
   simp only [go_sem]
   refine ai E3 (fun g3=>?_) (fun g3=>?_)<;>simp only [go_sem]
   ·rw [hQ2]
    simp only [go_sem]
    have hm:C[j]∈C.take (ns.length-1):=List.mem_iff_getElem.2 ⟨j,by rw [List.length_take];omega,by rw [List.getElem_take]⟩
    have:(C.take (ns.length-1)).any (fun c=>!decide (c=1))=true:=List.any_eq_true.2 ⟨_,hm,by simpa using g3⟩
    rw [this] at hoa
    rw [show j6 ns=false by simpa using hoa.symm] at hb
    rw [← hb]
    rfl
   ·rw [hQ2]
    simp only [go_sem]
    rw [ak (n:=(j:Int)+1) ⟨by omega,by omega⟩]
    refine ⟨⟨j+1,by omega,fP hjc hone (by simpa using g3)⟩,by show ns.length-(j+1)<_;omega,?_⟩
    first | rfl | exact ⟨rfl,rfl⟩ | exact ⟨rfl,rfl,rfl⟩
  ·rw [hQ2]
   have h4:j=ns.length-1:=by omega
   subst h4
   rw [hone] at hoa
   rw [show j6 ns=true by simpa using hoa.symm,if_pos rfl] at hb
   unfold km at hb
   simp only [go_sem]
   rw [ak (n:=(ns.length:Int)-1) ⟨by omega,by omega⟩]
   refine ⟨⟨by omega,by omega⟩,?_⟩
   rw [show ((ns.length:Int)-1).toNat=ns.length-1 by omega,aw (by omega)]
   simp only [go_sem]
   refine ai E (fun k2=>?_) (fun k2=>?_)<;>simp only [go_sem]
   ·rw [if_pos k2] at hb
    rw [← hb]
    try rfl
   ·rw [if_neg k2] at hb
    rw [← hb]
    try rfl
end Go.Proofs.YtejpnabbmgpmaaaGreat

namespace Go.Proofs.YtejpnabbmgpmaaaGreat
open Go.Ab
def uB (n:EN):EN:={ n with l:=n.l.take 60 }
def lF (ns:List EN):List EN:=(ns.take 700).map uB
theorem wJ {G} (ns:List EN) (hl:ns.length≤9223372036854775807) (hll:∀ n∈ns,n.l.length≤9223372036854775807):HP Tryz.prog G 19 [exD ns] (fun r=>r=.d (exD (lF ns))):=by
 unfold exD
 refine au Tryz.func19 rfl (by decide +kernel) (by simp [Tryz.ntmps19]) (veil fun E=>?_)
 simp only [go_sem]
 refine yf E [3] 0 99 (some 9) [.d .nils] rfl rfl (by rw [aa];decide) ?_
 simp only [go_sem]
 refine aE E (X:={ i:Nat // i≤ns.length∧i≤700 }) (fun x=>[(1,.at [1] 0),(2,.at [2] 0),(3,.at [3] 0),(4,.d (i64 x.1))])
  (fun x=>[([1],.box [.d (.sl (some 9) (ns.map enD))]),([2],.box [.d .nils]),([3],.box [.vw [99] 0 x.1]),([99],.arr (some 9) (((ns.take x.1).map uB).map enD))]) [1,2,3,99] (fun x=>ns.length-x.1) ⟨0,by simp⟩ id ?_ ?_
 ·simp only [go_sem]
  all_goals first | rfl | exact ⟨rfl,rfl⟩
 rintro ⟨i,hi,hi7⟩ E0
 refine aT E0 fun Q' hQ E'=>?_
 simp only at hi hi7 ⊢
 simp only [go_sem]
 repeat (first
  | (apply bC E';(· simp only [go_sem]);(· intro h;(try simp only [bq] at h);simp only [↓h,go_sem];rfl);simp only [go_sem])
  | (apply aW E';(· simp only [go_sem]);(· intro h;(try simp only [bq] at h);simp only [↓h,go_sem];rfl);(· intro h;(try simp only [bq] at h);simp only [↓h,go_sem];rfl);simp only [go_sem])
  | (apply aX E';(· simp only [go_sem]);(· rfl);(· intro h h';(try simp only [bq] at h h');simp only [↓h,↓h',go_sem];rfl);simp only [go_sem])
  | (apply aH E';(· simp only [go_sem]);(· rfl);(· intro h h';(try simp only [bq] at h h');simp only [↓h,↓h',go_sem];rfl);(· intro h h';(try simp only [bq] at h h');simp only [↓h,↓h',go_sem];rfl);simp only [go_sem])
  | (apply bz E';(· decide);simp only [go_sem]))
 refine aR E' (fun g1=>?_) (fun g1=>?_)<;>simp only [go_sem]
 ·have g2:i<ns.length∧i<700:=by
   simp only [Bool.and_eq_true,decide_eq_true_eq] at g1
   omega
  refine ⟨⟨by omega,by omega⟩,?_⟩
  have hg:=aN g2.1
  have hmn:=hll _ (by rw [ba g2.1];exact List.getElem_mem g2.1:ndE ns i∈ns)
  obtain ⟨n,hne⟩:∃ n,n=ndE ns i:=⟨_,rfl⟩
  rw [← hne] at hg hmn
  rw [hg]
  simp only [go_sem]
  have h60:((0≤if (60:Int)<(n.l.length:Int) then 60 else (n.l.length:Int))∧(if (60:Int)<(n.l.length:Int) then 60 else (n.l.length:Int))≤(n.l.length:Int)):=by split<;>omega
  have ht:List.take ((if (60:Int)<(n.l.length:Int) then 60 else (n.l.length:Int)).toNat-0) (List.map fD n.l)=(n.l.take 60).map fD:=by
   rw [← List.map_take]
   split
   ·rfl
   ·rw [List.take_of_length_le (by omega),List.take_of_length_le (by omega)]
  refine ⟨h60,?_⟩
  rw [ht]
  refine ⟨by rw [List.length_map,List.length_take];omega,?_⟩
  refine cV E' [31] (some 3) ((n.l.take 60).map fD) rfl (by simp only [go_sem];rfl) ?_
  simp only [go_sem]
  refine ⟨by omega,?_⟩
  rw [ak ⟨by omega,by omega⟩]
  rw [show List.take i (List.map enD (List.map uB (List.take i ns)))++[.agg [i64 n.k,i64 n.a,i64 n.b,i64 n.c,i64 n.n,.str n.name,.str n.s,.sl (some 3) ((n.l.take 60).map fD),i64 n.pos]]=((ns.take (i+1)).map uB).map enD by
   rw [List.take_of_length_le (by simp;omega),List.take_succ_eq_append_getElem g2.1,List.map_append,List.map_append,← ba g2.1,← hne];rfl]
  rw [hQ]
  simp only [go_sem]
  refine ⟨⟨i+1,by omega,by omega⟩,by show ns.length-(i+1)<_;omega,tau [([99],[37])],?_⟩
  simp only [go_sem]
  all_goals first | rfl | exact ⟨rfl,rfl⟩
 ·rw [hQ]
  simp only [go_sem]
  refine ⟨[([99],some 9,((ns.take i).map uB).map enD)],?_⟩
  simp only [go_sem]
  have g2:¬ (i<ns.length∧i<700):=by
   rw [Bool.eq_false_iff] at g1
   intro h
   apply g1
   simp only [Bool.and_eq_true,decide_eq_true_eq]
   omega
  rw [List.take_of_length_le (l:=List.map enD _) (by simp;omega)]
  have:ns.take i=ns.take 700:=by
   by_cases h:i=700
   ·rw [h]
   ·rw [List.take_of_length_le (by omega),List.take_of_length_le (by omega)]
  rw [this]
  rfl
theorem kL {ns:List EN} {k:Nat}:∀ {i:Nat},i≤ns.length→k<i→(bE ns i).getD k 0=(bE ns (k+1)).getD k 0
 | 0,_,h=>absurd h (Nat.not_lt_zero _)
 | i+1,hi,hk=>by
   by_cases h:k=i
   ·rw [h]
   ·have ih:=kL (ns:=ns) (k:=k) (i:=i) (by omega) (by omega)
    have hl:=(db (ns:=ns) (i:=i) (by omega)).1
    rw [fX (by omega),List.getD_eq_getElem?_getD,List.getElem?_append_left (by omega),← List.getD_eq_getElem?_getD,ih]
theorem Hh {ns:List EN} {i:Nat} (hi:i<ns.length):(bV ns []).getD i 0=mx (bE ns i) (ag (ndE ns i))+1:=by
 have h1:bV ns []=bE ns ns.length:=by unfold bE;rw [List.take_length]
 have hl:=(db (ns:=ns) (i:=i) (by omega)).1
 rw [h1,kL (Nat.le_refl _) hi,fX hi,List.getD_eq_getElem?_getD,List.getElem?_append_right (by omega),hl,Nat.sub_self,mZ]
 rfl
theorem DO {ns:List EN} {i k:Nat} (hi:i≤ns.length) (hk:k<i):(bV ns []).getD k 0=(bE ns i).getD k 0:=by
 have h1:bV ns []=bE ns ns.length:=by unfold bE;rw [List.take_length]
 rw [h1,kL (Nat.le_refl _) (by omega),kL hi hk]
end Go.Proofs.YtejpnabbmgpmaaaGreat

namespace Go.Ab
section
variable {P:Program} {cf:Cf} {Q:Exit→St→Prop} {s:St} {k:List It}
end
end Go.Ab

namespace Go.Proofs.YtejpnabbmgpmaaaGreat
open Go.Ab
abbrev Bi:=Int × Int
abbrev Reach:=List (List UInt8 × Bi)
def noB:Bi:=(-1,-1)
def Jt (r:Reach) (nm:List UInt8):Bi:=match r.reverse.find? (fun q=>decide (q.1=nm)) with
 | some q=>q.2
 | none=>noB
end Go.Proofs.YtejpnabbmgpmaaaGreat

namespace Go.Proofs.YtejpnabbmgpmaaaGreat
open Go.Ab
end Go.Proofs.YtejpnabbmgpmaaaGreat

namespace Go.Ab
section
variable {P:Program} {cf:Cf} {k:List It} {s:St} {Φ:Exit→Act→World→Prop} {I:Base→List Deferred→Prop}
end
section
variable {P:Program} {cf:Cf} {N:Nat} {xs:Nat→List D} {z:Itz} {k:List It} {s:St}
end
end Go.Ab

namespace Go.Proofs.YtejpnabbmgpmaaaGreat
open Go.Ab
end Go.Proofs.YtejpnabbmgpmaaaGreat

namespace Go.Proofs.YtejpnabbmgpmaaaGreat
open Go.Ab
theorem aJ {ns:List EN} (h:bt ns):∀ i,i<ns.length→(ag (ndE ns i)).all (inB i)=true:=fun i hi=>by
 have:=h.link i hi
 unfold cI at this
 exact (Bool.and_eq_true_iff.1 this).1
end Go.Proofs.YtejpnabbmgpmaaaGreat

namespace Go.Proofs.YtejpnabbmgpmaaaGreat
open Go.Ab
def AA (ks:List Int) (j:Nat) (p:List Int):List Int:=ks.foldl (fun p k=>p.set k.toNat (j:Int)) p
def pd (ns:List EN):Nat→List Int
 | 0=>List.replicate ns.length 0
 | j+1=>AA (ag (ndE ns j)) j (pd ns j)
def vQ (ns:List EN):List Int:=(pd ns ns.length).set (ns.length-1) (-1)
theorem CK (ks:List Int) (j:Nat):∀ p:List Int,(AA ks j p).length=p.length:=by
 unfold AA
 induction ks with
 | nil=>intro p;rfl
 | cons k r ih=>intro p;rw [List.foldl_cons,ih,List.length_set]
theorem nX (ns:List EN):∀ j,(pd ns j).length=ns.length
 | 0=>by simp [pd]
 | j+1=>by rw [pd,CK,nX ns j]
def Bp (n:EN) (k:Int) (nm:List UInt8):Int :=
 if (n.k=5∧n.name=nm)∨(n.k=7∧n.name=nm∧k=n.b)∨(n.k=8∧n.name=nm) then -1
 else if n.k=14 then (match (List.range n.l.length).find? (fun j=>decide ((fdE n.l j).to=k) && decide ((fdE n.l j).var=nm)) with
  | some j=>(j:Int)
  | none=>-2) else -2
end Go.Proofs.YtejpnabbmgpmaaaGreat

namespace Go.Proofs.YtejpnabbmgpmaaaGreat
open Go.Ab
theorem uD {j k:Nat}:∀ {ks p:List Int},k<p.length→(∀ x∈ks,0≤x)→(AA ks j p).getD k 0=if (k:Int)∈ks then (j:Int) else p.getD k 0
 | [],p,_,_=>by simp [AA]
 | x::r,p,hk,hx=>by
   show (AA r j (p.set x.toNat j)).getD k 0=_
   rw [uD (by rw [List.length_set];exact hk) (fun y hy=>hx y (List.mem_cons_of_mem _ hy))]
   have hx0:=hx x List.mem_cons_self
   by_cases h1:(k:Int)∈r
   ·rw [if_pos h1,if_pos (List.mem_cons_of_mem _ h1)]
   rw [if_neg h1]
   by_cases h2:(k:Int)=x
   ·rw [if_pos (by rw [h2];exact List.mem_cons_self)]
    have:x.toNat=k:=by omega
    rw [this]
    simp [hk]
   ·rw [if_neg (by simp [h1,h2])]
    have:x.toNat≠k:=by omega
    simp [List.getD_eq_getElem?_getD,List.getElem?_set_ne this]
theorem ax {ns:List EN} (hk:∀ i,i<ns.length→(ag (ndE ns i)).all (inB i)=true) {i:Nat} (hi:i<ns.length):∀ x∈ag (ndE ns i),0≤x∧x<(i:Int):=fun x hx=>by
 have:=List.all_eq_true.1 (hk i hi) x hx
 simpa [inB] using this
theorem sG {ns:List EN} (hk:∀ i,i<ns.length→(ag (ndE ns i)).all (inB i)=true) {k:Nat} (h:k<ns.length):∀ i,i≤ns.length→(∀ j,j<i→(k:Int) ∉ ag (ndE ns j))∨∃ j:Nat,j<i∧(k:Int)∈ag (ndE ns j)∧(pd ns i).getD k 0=(j:Int)
 | 0,_=>.inl fun j hj=>absurd hj (Nat.not_lt_zero _)
 | i+1,hi=>by
   have hg:(pd ns (i+1)).getD k 0=if (k:Int)∈ag (ndE ns i) then (i:Int) else (pd ns i).getD k 0:=uD (by rw [nX];exact h) (fun x hx=>(ax hk (by omega) x hx).1)
   by_cases h1:(k:Int)∈ag (ndE ns i)
   ·rw [if_pos h1] at hg
    exact .inr ⟨i,by omega,h1,hg⟩
   ·rw [if_neg h1] at hg
    rcases sG hk h i (by omega) with h2 | ⟨j,h2,h3,h4⟩
    ·refine .inl fun j hj=>?_
     rcases Nat.lt_or_ge j i with h3 | h3
     ·exact h2 j h3
     ·rw [show j=i by omega];exact h1
    ·exact .inr ⟨j,by omega,h3,hg.trans h4⟩
theorem m5 {ns:List EN} (ht:bt ns) {k:Nat} (h:k<ns.length):(k=ns.length-1∧(vQ ns).getD k 0 = -1)∨∃ j:Nat,k<j∧j<ns.length∧(k:Int)∈ag (ndE ns j)∧(vQ ns).getD k 0=(j:Int):=by
 have hk:=aJ ht
 unfold vQ
 by_cases hl:k=ns.length-1
 ·refine .inl ⟨hl,?_⟩
  rw [← hl]
  simp [List.getD_eq_getElem?_getD,nX,h]
 refine .inr ?_
 have hne:ns.length-1≠k:=fun e=>hl e.symm
 rw [show ((pd ns ns.length).set (ns.length-1) (-1)).getD k 0=(pd ns ns.length).getD k 0 by
  simp [List.getD_eq_getElem?_getD,List.getElem?_set_ne hne]]
 rcases sG hk h ns.length (Nat.le_refl _) with h2 | ⟨j,h2,h3,h4⟩
 ·exfalso
  have hc:=List.all_eq_true.1 ht.once k (by simp;omega)
  have hc2:ph ns k=1:=by simpa using hc
  unfold ph at hc2
  obtain ⟨x,hx,hxk⟩:=List.countP_pos_iff.1 (by omega:0<List.countP (fun x=>decide (x=(k:Int))) (ns.flatMap ag))
  obtain ⟨n,hn,hxn⟩:=List.mem_flatMap.1 hx
  obtain ⟨j,hj,hjn⟩:=List.getElem_of_mem hn
  have hxk2:x=(k:Int):=by simpa using hxk
  refine h2 j hj ?_
  rw [ba hj,hjn,← hxk2]
  exact hxn
 ·exact ⟨j,by have:=(ax hk h2 _ h3).2;omega,h2,h3,h4⟩
end Go.Proofs.YtejpnabbmgpmaaaGreat

namespace Go.Proofs.YtejpnabbmgpmaaaGreat
open Go.Ab
def climb (ns:List EN) (p:List Int) (nm:List UInt8):Nat→Int→Int→Bi
 | 0,_,_=>noB
 | m+1,c,j=>if j<0 then noB else if Bp (ndE ns j.toNat) c nm > -2 then (j,Bp (ndE ns j.toNat) c nm) else climb ns p nm m j (p.getD j.toNat 0)
end Go.Proofs.YtejpnabbmgpmaaaGreat

namespace Go.Proofs.YtejpnabbmgpmaaaGreat
open Go.Ab
end Go.Proofs.YtejpnabbmgpmaaaGreat

namespace Go.Proofs.YtejpnabbmgpmaaaGreat
open Go.Ab
theorem mH {α:Type} {l:List α} {f:α→List Int} {p:Int→Bool} {j:Nat} (hj:j<l.length):(l.flatMap f).countP p=((l.take j).flatMap f).countP p+((f l[j]).countP p+((l.drop (j+1)).flatMap f).countP p):=by
 have:l.flatMap f=(l.take j).flatMap f++(f l[j]++(l.drop (j+1)).flatMap f):=by
  rw [← List.flatMap_cons,← List.drop_eq_getElem_cons hj,← List.flatMap_append,List.take_append_drop]
 rw [this,List.countP_append,List.countP_append]
theorem zF {ns:List EN} (ht:bt ns) {k:Nat} (h:k<ns.length-1):ph ns k=1:=by
 have hc:=List.all_eq_true.1 ht.once k (by simp;omega)
 simpa using hc
theorem Cb {ns:List EN} (ht:bt ns) {i k:Nat} (hi:i<ns.length) (h:k<ns.length-1):(ag (ndE ns i)).countP (fun x=>decide (x=(k:Int)))≤1:=by
 have h1:=zF ht h
 unfold ph at h1
 rw [mH hi,← ba hi] at h1
 omega
theorem yp {ns:List EN} (ht:bt ns) {i j k:Nat} (hi:i<j) (hj:j<ns.length) (h1:(k:Int)∈ag (ndE ns i)) (h2:(k:Int)∈ag (ndE ns j)):False:=by
 have hk:=(ax (aJ ht) (show i<ns.length by omega) _ h1).2
 have h3:=zF ht (k:=k) (by omega)
 unfold ph at h3
 rw [mH hj,← ba hj] at h3
 have h4:0<((ns.take j).flatMap ag).countP (fun x=>decide (x=(k:Int))):=by
  refine List.countP_pos_iff.2 ⟨k,List.mem_flatMap.2 ⟨ndE ns i,?_,h1⟩,by simp⟩
  rw [ba (show i<ns.length by omega)]
  exact List.mem_take_iff_getElem.2 ⟨i,by omega,rfl⟩
 have h5:0<(ag (ndE ns j)).countP (fun x=>decide (x=(k:Int))):=List.countP_pos_iff.2 ⟨k,h2,by simp⟩
 omega
theorem qZ {ns:List EN} (ht:bt ns) {i k:Nat} (hi:i<ns.length) (h:(k:Int)∈ag (ndE ns i)):(vQ ns).getD k 0=(i:Int):=by
 have hk:=(ax (aJ ht) hi _ h).2
 rcases m5 ht (k:=k) (by omega) with ⟨h1,_⟩ | ⟨j,_,h2,h3,h4⟩
 ·omega
 ·rw [h4]
  rcases Nat.lt_trichotomy i j with h5 | h5 | h5
  ·exact (yp ht h5 h2 h h3).elim
  ·rw [h5]
  ·exact (yp ht h5 hi h3 h).elim
def Sees (ns:List EN) (i:Nat) (r:Reach):Prop:=∀ nm m,ns.length≤i+m+1→climb ns (vQ ns) nm m i ((vQ ns).getD i 0)=Jt r nm
theorem Sees.root {ns:List EN} (ht:bt ns):Sees ns (ns.length-1) []:=fun nm m hm=>by
 have hp:=ht.pos
 rcases m5 ht (k:=ns.length-1) (by omega) with ⟨_,h⟩ | ⟨j,h1,h2,_⟩
 ·rw [h]
  cases m with
  | zero=>rfl
  | succ m=>unfold climb;rw [if_pos (by decide)];rfl
 ·omega
end Go.Proofs.YtejpnabbmgpmaaaGreat

namespace Go.Proofs.YtejpnabbmgpmaaaGreat
open Go.Ab
theorem jw {ns:List EN} {m:Nat} {i x:Int}:x∈bg ns (m+1) i↔(∃ k∈ag (ndE ns i.toNat),x∈bg ns m k)∨x=i:=by
 show x∈(ag (ndE ns i.toNat)).flatMap (bg ns m)++[i]↔_
 rw [List.mem_append,List.mem_flatMap,List.mem_singleton]
end Go.Proofs.YtejpnabbmgpmaaaGreat

namespace Go.Proofs.YtejpnabbmgpmaaaGreat
open Go.Ab
theorem FN {L:List Int} {x:Int} (h:L.countP (fun y=>decide (y=x))≤1) {j j':Nat} (hjj:j<j') (h1:L[j]?=some x) (h2:L[j']?=some x):False:=by
 have h3:L.countP (fun y=>decide (y=x))=(L.take j').countP (fun y=>decide (y=x))+(L.drop j').countP (fun y=>decide (y=x)):=by
  rw [← List.countP_append,List.take_append_drop]
 obtain ⟨hl2,he2⟩:=List.getElem?_eq_some_iff.1 h2
 obtain ⟨hl1,he1⟩:=List.getElem?_eq_some_iff.1 h1
 have h4:0<(L.take j').countP (fun y=>decide (y=x)):=List.countP_pos_iff.2 ⟨x,List.mem_take_iff_getElem.2 ⟨j,by omega,he1⟩,by simp⟩
 have h5:0<(L.drop j').countP (fun y=>decide (y=x)):=List.countP_pos_iff.2 ⟨x,by rw [List.drop_eq_getElem_cons hl2,he2];exact List.mem_cons_self,by simp⟩
 omega
theorem wW {n:EN} (h:n.k=14):ag n=n.a::n.l.map (·.to):=by unfold ag aI aG;simp [h]
end Go.Proofs.YtejpnabbmgpmaaaGreat

namespace Go.Proofs.YtejpnabbmgpmaaaGreat
open Go.Ab
end Go.Proofs.YtejpnabbmgpmaaaGreat

namespace Go.Proofs.YtejpnabbmgpmaaaGreat
open Go.Ab
theorem tE {ns:List EN} (hk:∀ i,i<ns.length→(ag (ndE ns i)).all (inB i)=true) {j:Nat} {x:Int} (hx:x∈ag (ndE ns j)):∀ (m i:Nat),i<m→i<ns.length→(j:Int)∈bg ns m i→x∈bg ns m i
 | 0,_,h,_,_=>absurd h (Nat.not_lt_zero _)
 | m+1,i,him,hi,hj=>by
   rw [jw] at hj ⊢
   simp only [Int.toNat_natCast] at hj ⊢
   rcases hj with ⟨c,hc,hjc⟩ | hj
   ·obtain ⟨h1,h2⟩:=ax hk hi c hc
    obtain ⟨c,rfl⟩:∃ k:Nat,c=(k:Int):=⟨c.toNat,by omega⟩
    exact .inl ⟨_,hc,tE hk hx m c (by omega) (by omega) hjc⟩
   ·have:j=i:=by omega
    subst this
    refine .inl ⟨x,hx,?_⟩
    obtain ⟨h1,h2⟩:=ax hk hi x hx
    cases m with
    | zero=>omega
    | succ m=>exact jw.2 (.inr rfl)
end Go.Proofs.YtejpnabbmgpmaaaGreat

namespace Go.Proofs.YtejpnabbmgpmaaaGreat
open Go.Ab
end Go.Proofs.YtejpnabbmgpmaaaGreat

namespace Go.Proofs.YtejpnabbmgpmaaaGreat
open Go.Ab
end Go.Proofs.YtejpnabbmgpmaaaGreat

namespace Go.Proofs.YtejpnabbmgpmaaaGreat
open Go.Ab
end Go.Proofs.YtejpnabbmgpmaaaGreat

namespace Go.Proofs.YtejpnabbmgpmaaaGreat
open Go.Ab
theorem iv {ns:List EN} (hk:∀ i,i<ns.length→(ag (ndE ns i)).all (inB i)=true):∀ (m i:Nat),i<ns.length→∀ x∈bg ns m i,0≤x∧x≤(i:Int)
 | 0,_,_,_,h=>by cases h
 | m+1,i,hi,x,h=>by
   rw [jw] at h
   simp only [Int.toNat_natCast] at h
   rcases h with ⟨c,hc,h⟩ | h
   ·obtain ⟨h1,h2⟩:=ax hk hi c hc
    obtain ⟨c,rfl⟩:∃ k:Nat,c=(k:Int):=⟨c.toNat,by omega⟩
    have:=iv hk m c (by omega) x h
    omega
   ·omega
theorem kE {ns:List EN} (ht:bt ns):∀ (m i:Nat),i<ns.length→∀ x:Nat,(x:Int)∈bg ns m i→x≠i→(vQ ns).getD x 0∈bg ns m i
 | 0,_,_,_,h,_=>by cases h
 | m+1,i,hi,x,h,hne=>by
   rw [jw] at h ⊢
   simp only [Int.toNat_natCast] at h ⊢
   rcases h with ⟨c,hc,h⟩ | h
   ·obtain ⟨h1,h2⟩:=ax (aJ ht) hi c hc
    obtain ⟨c,rfl⟩:∃ k:Nat,c=(k:Int):=⟨c.toNat,by omega⟩
    by_cases hxc:x=c
    ·subst hxc
     exact .inr (qZ ht hi hc)
    ·exact .inl ⟨_,hc,kE ht m c (by omega) x h hxc⟩
   ·omega
theorem pG {ns:List EN} (ht:bt ns) {m i c d:Nat} (hi:i<ns.length) (hc:(c:Int)∈ag (ndE ns i)) (hd:(d:Int)∈ag (ndE ns i)) (hcd:c≠d):∀ (f x:Nat),i≤x+f→(x:Int)∈bg ns m c→(x:Int)∈bg ns m d→False
 | f,x,hf,h1,h2=>by
   have hk:=aJ ht
   have hci:=(ax hk hi _ hc).2
   have hdi:=(ax hk hi _ hd).2
   have hxc:=(iv hk m c (by omega) _ h1).2
   have hxd:=(iv hk m d (by omega) _ h2).2
   by_cases e1:x=c
   ·subst e1
    have:=kE ht m d (by omega) x h2 hcd
    rw [qZ ht hi hc] at this
    have:=(iv hk m d (by omega) _ this).2
    omega
   by_cases e2:x=d
   ·subst e2
    have:=kE ht m c (by omega) x h1 (fun e=>hcd e.symm)
    rw [qZ ht hi hd] at this
    have:=(iv hk m c (by omega) _ this).2
    omega
   have p1:=kE ht m c (by omega) x h1 e1
   have p2:=kE ht m d (by omega) x h2 e2
   rcases m5 ht (k:=x) (by omega) with ⟨h3,_⟩ | ⟨j,h3,_,_,h4⟩
   ·omega
   ·rw [h4] at p1 p2
    cases f with
    | zero=>omega
    | succ f=>exact pG ht hi hc hd hcd f j (by omega) p1 p2
theorem j9 {ns:List EN} (ht:bt ns) {i:Nat} (hi:i<ns.length):(ag (ndE ns i)).Nodup:=by
 refine List.pairwise_iff_getElem.2 fun a b ha hb hab e=>?_
 have hm:=List.getElem_mem ha
 obtain ⟨h1,h2⟩:=ax (aJ ht) hi _ hm
 have hon:=Cb ht (k:=((ag (ndE ns i))[a]).toNat) hi (by omega)
 rw [Int.toNat_of_nonneg h1] at hon
 exact FN hon hab (List.getElem?_eq_getElem ha) (by rw [List.getElem?_eq_getElem hb,e])
theorem pK {ns:List EN} (ht:bt ns):∀ (m i:Nat),i<ns.length→(bg ns m i).Nodup
 | 0,_,_=>List.Pairwise.nil
 | m+1,i,hi=>by
   have hk:=aJ ht
   show (((ag (ndE ns (i:Int).toNat)).flatMap (bg ns m))++[(i:Int)]).Nodup
   rw [Int.toNat_natCast]
   refine List.pairwise_append.2 ⟨List.pairwise_flatMap.2 ⟨fun c hc=>?_,?_⟩,List.pairwise_singleton _ _,?_⟩
   ·obtain ⟨h1,h2⟩:=ax hk hi c hc
    obtain ⟨c,rfl⟩:∃ k:Nat,c=(k:Int):=⟨c.toNat,by omega⟩
    exact pK ht m c (by omega)
   ·refine (j9 ht hi).imp_of_mem fun {c d} hc hd hcd x hx y hy e=>?_
    subst e
    obtain ⟨h1,h2⟩:=ax hk hi c hc
    obtain ⟨h3,h4⟩:=ax hk hi d hd
    obtain ⟨c,rfl⟩:∃ k:Nat,c=(k:Int):=⟨c.toNat,by omega⟩
    obtain ⟨d,rfl⟩:∃ k:Nat,d=(k:Int):=⟨d.toNat,by omega⟩
    have hx0:=(iv hk m c (by omega) _ hx).1
    obtain ⟨x,rfl⟩:∃ k:Nat,x=(k:Int):=⟨x.toNat,by omega⟩
    exact pG ht hi hc hd (by omega) i x (by omega) hx hy
   ·intro x hx y hy e
    rw [List.mem_singleton] at hy
    obtain ⟨c,hc,hxc⟩:=List.mem_flatMap.1 hx
    obtain ⟨h1,h2⟩:=ax hk hi c hc
    obtain ⟨c,rfl⟩:∃ k:Nat,c=(k:Int):=⟨c.toNat,by omega⟩
    have:=(iv hk m c (by omega) _ hxc).2
    omega
end Go.Proofs.YtejpnabbmgpmaaaGreat

namespace Go.Proofs.YtejpnabbmgpmaaaGreat
open Go.Ab
theorem kV {α β:Type} {f g:α→List β}:∀ {l:List α},(∀ a∈l,f a=g a)→l.flatMap f=l.flatMap g
 | [],_=>rfl
 | x::r,h=>by rw [List.flatMap_cons,List.flatMap_cons,h x List.mem_cons_self,kV (fun a ha=>h a (List.mem_cons_of_mem _ ha))]
theorem oE {ns:List EN} (hk:∀ i,i<ns.length→(ag (ndE ns i)).all (inB i)=true):∀ (m m' i:Nat),i<m→i<m'→i<ns.length→bg ns m i=bg ns m' i
 | 0,_,_,h,_,_=>absurd h (Nat.not_lt_zero _)
 | _+1,0,_,_,h,_=>absurd h (Nat.not_lt_zero _)
 | m+1,m'+1,i,h1,h2,hi=>by
   show (ag (ndE ns (i:Int).toNat)).flatMap (bg ns m)++[(i:Int)]=(ag (ndE ns (i:Int).toNat)).flatMap (bg ns m')++[(i:Int)]
   rw [Int.toNat_natCast,kV (fun c hc=>?_)]
   obtain ⟨h3,h4⟩:=ax hk hi c hc
   obtain ⟨c,rfl⟩:∃ k:Nat,c=(k:Int):=⟨c.toNat,by omega⟩
   exact oE hk m m' c (by omega) (by omega) (by omega)
theorem vv {ns:List EN} (hk:∀ i,i<ns.length→(ag (ndE ns i)).all (inB i)=true):∀ (m i:Nat),i<m→i<ns.length→∀ j:Nat,(j:Int)∈bg ns m i→∃ p s,bg ns m i=p++(bg ns m j++s)
 | 0,_,h,_,_,_=>absurd h (Nat.not_lt_zero _)
 | m+1,i,him,hi,j,hj=>by
   by_cases hij:j=i
   ·subst hij
    exact ⟨[],[],by simp⟩
   rw [jw] at hj
   simp only [Int.toNat_natCast] at hj
   rcases hj with ⟨c,hc,hjc⟩ | hj
   ·obtain ⟨h1,h2⟩:=ax hk hi c hc
    obtain ⟨c,rfl⟩:∃ k:Nat,c=(k:Int):=⟨c.toNat,by omega⟩
    have hjl:=(iv hk m c (by omega) _ hjc).2
    obtain ⟨p,s,hps⟩:=vv hk m c (by omega) (by omega) j hjc
    obtain ⟨K1,K2,hK⟩:=List.append_of_mem hc
    refine ⟨K1.flatMap (bg ns m)++p,s++(K2.flatMap (bg ns m)++[(i:Int)]),?_⟩
    show (ag (ndE ns (i:Int).toNat)).flatMap (bg ns m)++[(i:Int)]=_
    rw [Int.toNat_natCast,hK,List.flatMap_append,List.flatMap_cons,hps,oE hk (m+1) m j (by omega) (by omega) (by omega)]
    simp only [List.append_assoc]
   ·omega
theorem IA {l P Q:List Int} {u v:Int} (hl:l=P++Q) (hn:l.Nodup) (hu:u∈P) (hv:v∈Q):l.idxOf u<l.idxOf v:=by
 subst hl
 have hvP:v ∉ P:=fun h=>(List.nodup_append.1 hn).2.2 v h v hv rfl
 rw [List.idxOf_append,List.idxOf_append,if_pos hu,if_neg hvP]
 have:=List.idxOf_lt_length_of_mem hu
 omega
end Go.Proofs.YtejpnabbmgpmaaaGreat

namespace Go.Proofs.YtejpnabbmgpmaaaGreat
open Go.Ab
def bb (ns:List EN) (i:Nat):List Int:=bg ns ns.length (i:Int)
def sbE (ns:List EN) (i:Nat):List EN:=(bb ns i).map (mQ ns (bb ns i))
theorem fO {ns:List EN} (ht:bt ns) {i:Nat} (hi:i<ns.length):bb ns i=(ag (ndE ns i)).flatMap (bg ns ns.length)++[(i:Int)]:=by
 have hk:=aJ ht
 obtain ⟨m,hm⟩:∃ m,ns.length=m+1:=⟨ns.length-1,by omega⟩
 unfold bb
 rw [hm]
 show (ag (ndE ns (i:Int).toNat)).flatMap (bg ns m)++[(i:Int)]=_
 rw [Int.toNat_natCast,kV (fun c hc=>?_)]
 obtain ⟨h1,h2⟩:=ax hk hi c hc
 obtain ⟨c,rfl⟩:∃ k:Nat,c=(k:Int):=⟨c.toNat,by omega⟩
 exact oE hk m (m+1) c (by omega) (by omega) (by omega)
theorem gL {ns:List EN} (ht:bt ns) {i:Nat} (hi:i<ns.length):(bb ns i).Nodup:=pK ht _ _ hi
theorem tV {ns:List EN} {i:Nat} (hi:i<ns.length):(i:Int)∈bb ns i:=by
 obtain ⟨m,hm⟩:∃ m,ns.length=m+1:=⟨ns.length-1,by omega⟩
 unfold bb
 rw [hm]
 exact jw.2 (.inr rfl)
theorem kh {ns:List EN} (ht:bt ns) {i:Nat} (hi:i<ns.length) {x:Int} (hx:x∈bb ns i):0≤x∧x≤(i:Int):=iv (aJ ht) _ _ hi x hx
theorem iI {ns:List EN} (ht:bt ns) {i x:Nat} (hi:i<ns.length) (hx:(x:Int)∈bb ns i) {k:Int} (hk:k∈ag (ndE ns x)):k∈bb ns i:=tE (aJ ht) hk _ _ hi hi hx
theorem si {ns:List EN} (ht:bt ns) {i x:Nat} (hi:i<ns.length) (hx:(x:Int)∈bb ns i) {k:Nat} (hk:(k:Int)∈ag (ndE ns x)):(bb ns i).idxOf (k:Int)<(bb ns i).idxOf (x:Int):=by
 have hkk:=aJ ht
 have hxl:=(kh ht hi hx).2
 obtain ⟨p,s,h⟩:=vv hkk ns.length i hi hi x hx
 have hb:=fO ht (i:=x) (by omega)
 unfold bb at hb
 refine IA (P:=p++(ag (ndE ns x)).flatMap (bg ns ns.length)) (Q:=[(x:Int)]++s) (by unfold bb;rw [h,hb];simp only [List.append_assoc]) (gL ht hi) (List.mem_append_right _ (List.mem_flatMap.2 ⟨_,hk,?_⟩)) (List.mem_append_left _ (List.mem_singleton_self _))
 obtain ⟨h1,h2⟩:=ax hkk (by omega) _ hk
 exact tV (by omega)
theorem C5 {ns:List EN} (ht:bt ns) {i:Nat} (hi:i<ns.length):Walk ns (bb ns i):=by
 refine ⟨gL ht hi,fun x hx=>?_,fun n hn k hk=>?_⟩
 ·have:=kh ht hi hx
  exact ⟨this.1,by omega⟩
 ·have hm:=List.getElem_mem hn
  have hx:=kh ht hi hm
  obtain ⟨x,hxx⟩:∃ x:Nat,(bb ns i)[n]=(x:Int):=⟨((bb ns i)[n]).toNat,by omega⟩
  have hid:=List.Nodup.idxOf_getElem (gL ht hi) n hn
  rw [hxx] at hk hm hid hx
  rw [Int.toNat_natCast] at hk
  have hkn:=ax (aJ ht) (show x<ns.length by omega) k hk
  obtain ⟨k,rfl⟩:∃ q:Nat,k=(q:Int):=⟨k.toNat,by omega⟩
  have hlt:=si ht hi hm hk
  rw [hid] at hlt
  have hki:=iI ht hi hm hk
  have hkl:=List.idxOf_lt_length_of_mem hki
  refine List.mem_take_iff_getElem.2 ⟨(bb ns i).idxOf (k:Int),by omega,?_⟩
  exact List.getElem_idxOf hkl
theorem oK {n:EN} {ks:List Int} (p:Nat) (h:ks.length=aA n):av p (aK n ks)=aK n (ks.map fun x:Int=>x+p):=by
 unfold av
 rw [ct h,fU (by rw [List.length_map,h];exact Nat.le_refl _)]
theorem BR {ns:List EN} (ht:bt ns):∀ (ks P Q W rs:List Int),W=P++(ks.flatMap (bg ns ns.length)++Q)→W.Nodup→(∀ k∈ks,0≤k∧k<(ns.length:Int)) →
  bl (ks.map fun k=>sbE ns k.toNat) (P.map (mQ ns W)) rs=((P++ks.flatMap (bg ns ns.length)).map (mQ ns W),rs++ks.map (fun k=>(W.idxOf k:Int)))
 | [],P,Q,W,rs,_,_,_=>by simp [bl]
 | k::r,P,Q,W,rs,hW,hnd,hk=>by
   obtain ⟨h1,h2⟩:=hk k List.mem_cons_self
   obtain ⟨k,rfl⟩:∃ q:Nat,k=(q:Int):=⟨k.toNat,by omega⟩
   have hkl:k<ns.length:=by omega
   have hW2:W=P++(bb ns k++(r.flatMap (bg ns ns.length)++Q)):=by
    rw [hW,List.flatMap_cons]
    unfold bb
    simp only [List.append_assoc]
   have hnP:∀ c∈bb ns k,c ∉ P:=fun c hc hp=>by
    rw [hW2] at hnd
    exact (List.nodup_append.1 hnd).2.2 c hp c (List.mem_append_left _ hc) rfl
   have hix:∀ c∈bb ns k,W.idxOf c=P.length+(bb ns k).idxOf c:=fun c hc=>by
    rw [hW2,List.idxOf_append,if_neg (hnP c hc),List.idxOf_append,if_pos hc,Nat.add_comm]
   have key1:(sbE ns k).map (av (P.map (mQ ns W)).length)=(bb ns k).map (mQ ns W):=by
    unfold sbE
    rw [List.map_map,List.length_map]
    refine List.map_congr_left fun x hx=>?_
    have hxi:=kh ht hkl hx
    obtain ⟨x,rfl⟩:∃ q:Nat,x=(q:Int):=⟨x.toNat,by omega⟩
    show av P.length (aK (ndE ns (x:Int).toNat) _)=aK (ndE ns (x:Int).toNat) _
    rw [oK _ (by rw [List.length_map,aM]),List.map_map]
    congr 1
    refine List.map_congr_left fun c hc=>?_
    rw [Int.toNat_natCast] at hc
    show ((bb ns k).idxOf c:Int)+(P.length:Int)=(W.idxOf c:Int)
    rw [hix c (iI ht hkl hx hc)]
    omega
   have key2:((((P.map (mQ ns W)).length+(sbE ns k).length:Nat):Int)-1)=(W.idxOf (k:Int):Int):=by
    have hb:=fO ht hkl
    have hno:(k:Int) ∉ (ag (ndE ns k)).flatMap (bg ns ns.length):=fun hm=>by
     have:=gL ht hkl
     rw [hb] at this
     exact (List.nodup_append.1 this).2.2 _ hm _ (List.mem_singleton_self _) rfl
    rw [hix _ (tV hkl)]
    have h3:(bb ns k).idxOf (k:Int)=((ag (ndE ns k)).flatMap (bg ns ns.length)).length:=by
     rw [hb,List.idxOf_append,if_neg hno]
     simp
    have h4:(sbE ns k).length=((ag (ndE ns k)).flatMap (bg ns ns.length)).length+1:=by
     unfold sbE
     rw [List.length_map,hb,List.length_append]
     rfl
    rw [h3,h4,List.length_map]
    omega
   rw [List.map_cons,bl,Int.toNat_natCast,key1,← List.map_append,key2]
   rw [BR ht r (P++bb ns k) Q W _ (by rw [hW2];simp only [List.append_assoc]) hnd (fun c hc=>hk c (List.mem_cons_of_mem _ hc))]
   rw [List.flatMap_cons,List.map_cons]
   unfold bb
   simp only [List.append_assoc,List.singleton_append]
theorem GH {ns:List EN} (ht:bt ns) {i:Nat} (hi:i<ns.length):sbE ns i=aD (ndE ns i) ((ag (ndE ns i)).map fun k=>sbE ns k.toNat):=by
 have hb:=fO ht hi
 have hc:=BR ht (ag (ndE ns i)) [] [(i:Int)] (bb ns i) [] (by rw [hb];rfl) (gL ht hi) (fun k hk=>by have:=ax (aJ ht) hi k hk;exact ⟨this.1,by omega⟩)
 rw [List.map_nil] at hc
 unfold aD
 rw [hc]
 show (bb ns i).map (mQ ns (bb ns i))=_
 conv=>lhs;rw [hb]
 rw [List.map_append,← hb]
 rfl
inductive RT where
 | mk (n:EN) (ts:List RT)
mutual
def RT.enc:RT→List EN
 | .mk n ts=>aD n (RT.encs ts)
def RT.encs:List RT→List (List EN)
 | []=>[]
 | t::r=>t.enc::RT.encs r
end
theorem bu:∀ ts:List RT,RT.encs ts=ts.map RT.enc
 | []=>rfl
 | t::r=>by rw [RT.encs,bu r];rfl
def can (n:EN):EN:=aK n (List.replicate (aA n) 0)
theorem oF {n:EN} {ks:List Int}:can (aK n ks)=can n:=by
 unfold can
 rw [nV,fU (by rw [List.length_replicate];exact Nat.le_refl _)]
theorem jT (n:EN):can (can n)=can n:=oF
theorem je (n:EN):aA (can n)=aA n:=nV _ _
theorem Bt {n:EN} {ks:List Int} (h:aA n≤ks.length):aK (can n) ks=aK n ks:=fU h
theorem oS (ls:List (List EN)):(bl ls [] []).2.length=ls.length:=by
 obtain ⟨X,Y,e,h⟩:=fo ls [] []
 rw [e]
 simpa using h
theorem gj {n:EN} {ls:List (List EN)} (h:aA n≤ls.length):aD (can n) ls=aD n ls:=by
 unfold aD
 rw [Bt (by rw [oS];exact h)]
def rtE (ns:List EN):Nat→Int→RT
 | 0,_=>.mk (can (ndE [] 0)) []
 | m+1,i=>.mk (can (ndE ns i.toNat)) ((ag (ndE ns i.toNat)).map (rtE ns m))
theorem Ek {ns:List EN} (ht:bt ns):∀ (m i:Nat),i<m→i<ns.length→(rtE ns m i).enc=sbE ns i
 | 0,_,h,_=>absurd h (Nat.not_lt_zero _)
 | m+1,i,him,hi=>by
   rw [rtE,RT.enc,Int.toNat_natCast,bu,List.map_map,gj (by rw [List.length_map,aM];exact Nat.le_refl _),GH ht hi]
   congr 1
   refine List.map_congr_left fun k hk=>?_
   obtain ⟨h1,h2⟩:=ax (aJ ht) hi k hk
   obtain ⟨k,rfl⟩:∃ q:Nat,k=(q:Int):=⟨k.toNat,by omega⟩
   show (rtE ns m k).enc=_
   rw [Int.toNat_natCast]
   exact Ek ht m k (by omega) (by omega)
theorem yE {ns:List EN} (hk:∀ i,i<ns.length→(ag (ndE ns i)).all (inB i)=true):∀ (m m' i:Nat),i<m→i<m'→i<ns.length→rtE ns m i=rtE ns m' i
 | 0,_,_,h,_,_=>absurd h (Nat.not_lt_zero _)
 | _+1,0,_,_,h,_=>absurd h (Nat.not_lt_zero _)
 | m+1,m'+1,i,h1,h2,hi=>by
   rw [rtE,rtE,Int.toNat_natCast]
   congr 1
   refine List.map_congr_left fun k hkk=>?_
   obtain ⟨h3,h4⟩:=ax hk hi k hkk
   obtain ⟨k,rfl⟩:∃ q:Nat,k=(q:Int):=⟨k.toNat,by omega⟩
   exact yE hk m m' k (by omega) (by omega) (by omega)
def trE (ns:List EN) (i:Nat):RT:=rtE ns ns.length i
theorem mB {ns:List EN} (hk:∀ i,i<ns.length→(ag (ndE ns i)).all (inB i)=true) {i:Nat} (hi:i<ns.length):trE ns i=.mk (can (ndE ns i)) ((ag (ndE ns i)).map fun k=>trE ns k.toNat):=by
 unfold trE
 obtain ⟨m,hm⟩:∃ m,ns.length=m+1:=⟨ns.length-1,by omega⟩
 conv=>lhs;rw [hm]
 rw [rtE,Int.toNat_natCast]
 congr 1
 refine List.map_congr_left fun k hkk=>?_
 obtain ⟨h3,h4⟩:=ax hk hi k hkk
 obtain ⟨k,rfl⟩:∃ q:Nat,k=(q:Int):=⟨k.toNat,by omega⟩
 rw [Int.toNat_natCast]
 exact yE hk m ns.length k (by omega) (by omega) (by omega)
theorem cT {ns:List EN} (ht:bt ns) {i:Nat} (hi:i<ns.length):(trE ns i).enc=sbE ns i:=Ek ht _ _ hi hi
end Go.Proofs.YtejpnabbmgpmaaaGreat

namespace Go.Proofs.YtejpnabbmgpmaaaGreat
open Go.Ab
mutual
def RT.ok:RT→Prop
 | .mk n ts=>(aA n=ts.length∧can n=n)∧RT.oks ts
def RT.oks:List RT→Prop
 | []=>True
 | t::r=>t.ok∧RT.oks r
end
theorem m6:∀ ts:List RT,RT.oks ts↔∀ t∈ts,t.ok
 | []=>by simp [RT.oks]
 | t::r=>by rw [RT.oks,m6 r];simp
theorem gD (ts:List RT):(RT.encs ts).length=ts.length:=by rw [bu,List.length_map]
mutual
theorem mg:∀ t:RT,t.ok→Tr t.enc
 | .mk n ts,h=>by
   rw [RT.ok] at h
   rw [RT.enc]
   exact .join n _ (by rw [gD];exact h.1.1) (xg ts h.2)
theorem xg:∀ ts:List RT,RT.oks ts→∀ l∈RT.encs ts,Tr l
 | [],_,l,h=>by rw [RT.encs] at h;cases h
 | t::r,h,l,hl=>by
   rw [RT.oks] at h
   rw [RT.encs] at hl
   rcases List.mem_cons.1 hl with rfl | hl
   ·exact mg t h.1
   ·exact xg r h.2 l hl
end
mutual
theorem xS:∀ t:RT,t.ok→∀ (M:List EN) (off m:Nat),Lies M t.enc off→off+t.enc.length≤m→rtE M m (((off+t.enc.length:Nat):Int)-1)=t
 | .mk n ts,h,M,off,m,hM,hm=>by
   rw [RT.ok] at h
   obtain ⟨X,Y,e,hY⟩:=fo (RT.encs ts) [] []
   have hj:aD n (RT.encs ts)=X++[aK n Y]:=by unfold aD;rw [e];simp
   rw [RT.enc,hj] at hM hm ⊢
   rw [List.length_append] at hm ⊢
   simp only [List.length_singleton] at hm ⊢
   have hroot:ndE M (off+X.length)=av off (aK n Y):=by
    have:=hM X.length (by simp)
    rw [this]
    congr 1
    simp [ndE]
   have hyl:Y.length=aA n:=by rw [hY,gD];exact h.1.1.symm
   cases m with
   | zero=>omega
   | succ m =>
     have hi:(((off+(X.length+1):Nat):Int)-1).toNat=off+X.length:=by omega
     rw [rtE,hi,hroot,fc,ct hyl]
     have:=uj ts h.2 [] [] Y X (by simpa using e) M off m (fun j hj=>?_) (by simp;omega)
     ·rw [this]
      unfold av
      rw [oF,oF,h.1.2]
     ·simp only [List.nil_append] at hj ⊢
      rw [hM j (by simp;omega)]
      congr 1
      simp [ndE,List.getElem?_append_left hj]
theorem uj:∀ ts:List RT,RT.oks ts→∀ (acc:List EN) (rs Y:List Int) (X:List EN),bl (RT.encs ts) acc rs=(acc++X,rs++Y)→∀ (M:List EN) (off m:Nat),Lies M (acc++X) off→off+(acc++X).length≤m →
  (Y.map fun x:Int=>x+off).map (rtE M m)=ts
 | [],_,acc,rs,Y,X,e,M,off,m,_,_=>by
   simp only [RT.encs,bl,Prod.mk.injEq] at e
   have h2:Y=[]:=by have:=congrArg List.length e.2;simp at this;exact this
   subst h2;simp
 | t::r,h,acc,rs,Y,X,e,M,off,m,hM,hm=>by
   rw [RT.oks] at h
   obtain ⟨X',Y',e',_⟩:=fo (RT.encs r) (acc++t.enc.map (av acc.length)) (rs++[((acc.length+t.enc.length:Nat):Int)-1])
   rw [RT.encs,bl,e'] at e
   simp only [Prod.mk.injEq,List.append_assoc,List.append_cancel_left_eq] at e
   obtain ⟨rfl,rfl⟩:=e
   have hlen:(acc++(t.enc.map (av acc.length)++X')).length=acc.length+t.enc.length+X'.length:=by simp [Nat.add_assoc]
   have ih:=uj r h.2 (acc++t.enc.map (av acc.length)) (rs++[((acc.length+t.enc.length:Nat):Int)-1]) Y' X' e' M off m (by rw [List.append_assoc];exact hM) (by rw [List.append_assoc];exact hm)
   have h1:rtE M m ((((acc.length+t.enc.length:Nat):Int)-1)+off)=t:=by
    have:=xS t h.1 M (off+acc.length) m (fun j hj=>?_) (by omega)
    ·rw [← this]
     congr 1
     rw [this]
     omega
    ·have hj2:=hM (acc.length+j) (by rw [hlen];omega)
     rw [← Nat.add_assoc] at hj2
     rw [hj2]
     have:ndE (acc++(t.enc.map (av acc.length)++X')) (acc.length+j)=av acc.length (ndE t.enc j):=by
      unfold ndE
      rw [List.getD_eq_getElem?_getD,List.getElem?_append_right (by omega),List.getElem?_append_left (by simp;omega)]
      simp [hj]
     rw [this,fu]
   simp only [List.singleton_append,List.map_cons]
   rw [h1,ih]
end
theorem eQ {t:RT} (h:t.ok):trE t.enc (t.enc.length-1)=t:=by
 have ht:=mg t h
 obtain ⟨h0,_⟩:=ht.kids
 have:=xS t h t.enc 0 t.enc.length (fun j hj=>by
  rw [Nat.zero_add]
  refine (ht.self _ ?_).symm
  have:ndE t.enc j=t.enc[j]:=by simp [ndE,hj]
  rw [this];exact List.getElem_mem hj) (by omega)
 unfold trE
 rw [show ((t.enc.length-1:Nat):Int)=((0+t.enc.length:Nat):Int)-1 by omega]
 exact this
theorem Hp {ns:List EN} (hk:∀ i,i<ns.length→(ag (ndE ns i)).all (inB i)=true):∀ (m i:Nat),i<m→i<ns.length→(rtE ns m i).ok
 | 0,_,h,_=>absurd h (Nat.not_lt_zero _)
 | m+1,i,him,hi=>by
   rw [rtE,RT.ok,Int.toNat_natCast,m6]
   refine ⟨⟨by rw [je,List.length_map,aM],jT _⟩,fun t ht=>?_⟩
   obtain ⟨k,hkk,rfl⟩:=List.mem_map.1 ht
   obtain ⟨h3,h4⟩:=ax hk hi k hkk
   obtain ⟨k,rfl⟩:∃ q:Nat,k=(q:Int):=⟨k.toNat,by omega⟩
   exact Hp hk m k (by omega) (by omega)
theorem yK {ns:List EN} (hk:∀ i,i<ns.length→(ag (ndE ns i)).all (inB i)=true) {i:Nat} (hi:i<ns.length):(trE ns i).ok:=Hp hk _ _ hi hi
end Go.Proofs.YtejpnabbmgpmaaaGreat

