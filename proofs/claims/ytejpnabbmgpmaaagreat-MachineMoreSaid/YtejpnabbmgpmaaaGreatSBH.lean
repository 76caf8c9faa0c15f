/-
  What stands behind a point, and what is applied, read. (with the parts that follow it)
-/
import Derived.Test.YtejpnabbmgpmaaaGreatSBG
import Derived.Test.YtejpnabbmgpmaaaGreatSBF
import Derived.Test.YtejpnabbmgpmaaaGreatSBE
set_option linter.unusedSimpArgs false
namespace Go.Proofs.YtejpnabbmgpmaaaGreat
open Go.Ab
theorem cO {s:PS} {k:Int} {t:List UInt8} (h:s.sees k t=true):s.may k t=s.next:=by unfold PS.may;rw [h];rfl
theorem ej {s:PS} {k:Int} {t:List UInt8} (h:s.sees k t=false):s.may k t=s:=by unfold PS.may;rw [h];rfl
theorem BP {G} {N:Nat} {ex:PS→PR} (hex:∀ s,GP 1 s (ex s)) (hc:Reads 329 G N (cW ex)):Reads 305 G N (cV ex):=by
 intro s hl hN
 have hg0:=ky hex s
 have hc0:=hc s hl hN
 have hF:cV ex s=fc (cW ex s).2.l.length.succ (cW ex s).1 (cW ex s).2:=rfl
 rw [hF]
 obtain ⟨a0,s0,hs0⟩:∃ a0 s0,cW ex s=(a0,s0):=⟨_,_,rfl⟩
 rw [hs0] at hg0 hc0 ⊢
 simp only at hc0 ⊢
 generalize hR:fc s0.l.length.succ a0 s0=R
 unfold exD at hc0
 unfold RO TO ae
 refine ai Tryz.func305 rfl (by decide +kernel) (by simp [Tryz.ntmps305]) (veil fun E=>?_)
 simp only [go_sem]
 refine ab E [.at [100] 0] (RO s) [100,101] (hc0) rfl rfl ⟨by simp only [go_sem],by first | (rw [aa];decide) | (simp only [go_sem]<;>(try rw [aa])<;>decide)⟩ rfl (by unfold RO TO ae;simp only [go_sem]) (by unfold RO TO;simp only [go_sem]) ?_
 rintro _ _ ⟨rfl,rfl⟩
 unfold RO TO ae
 simp only [go_sem]
 refine aG E (X:={ x:Nat × List EN × PS // fc x.1 x.2.1 x.2.2=R∧GQ s x.2∧x.2.2.l.length<x.1 }) (fun x=>[(0,.at [100] 0),(2,.at [2] 0),(3,.at [3] 0)])
  (fun x=>[([2],.box [.d .nils]),([3],.box [.d (.sl (some 9) (x.1.2.1.map enD))]),([100],.box [.at [101] 0,.d (i64 x.1.2.2.err),.d (i64 x.1.2.2.pos),.d (i64 x.1.2.2.nest)]),([101],.box [.d (.sl (some 4) (x.1.2.2.l.map fU)),.d (i64 x.1.2.2.fin)])]) [2,3,100,101] (fun x=>x.1.2.2.l.length) ⟨(s0.l.length.succ,a0,s0),hR,hg0,Nat.lt_succ_self _⟩ id ?_ ?_
 ·simp only [go_sem]
  all_goals rfl
 rintro ⟨⟨m,a,q⟩,hb,hg,hm⟩ E0
 refine aZ E0 fun Q' hQ E'=>?_
 simp only at hb hg hm ⊢
 have hql:q.l.length≤s.l.length:=hg.1.ss.len
 obtain ⟨m,rfl⟩:∃ k,m=k+1:=⟨m-1,by omega⟩
 have hgn:=jZ s 1 a q hg
 rw [fc] at hb
 rw [show fc 1 a q=if q.sees 7 [46] then (ax { nd0 12 q.peek.pos with name:=(q.next.of 2).1 } [a],(q.next.of 2).2) else (a,q) from rfl] at hgn
 simp only [go_sem]
 refine ab E' [.at [101] 0] (TO q.l q.fin) [101] (cZ q.l q.fin (by omega)) rfl rfl ⟨by simp only [go_sem],by first | (rw [aa];decide) | (simp only [go_sem]<;>(try rw [aa])<;>decide)⟩ rfl (by unfold TO ae;simp only [go_sem]) (by unfold TO;simp only [go_sem]) ?_
 rintro _ _ ⟨rfl,rfl⟩
 unfold TO ae
 simp only [go_sem]
 refine ab E' [.at [100] 0,.d (.str [46])] (RO q) [100,101] (iu q [46] (by omega)) rfl rfl ⟨by simp only [go_sem],by first | (rw [aa];decide) | (simp only [go_sem]<;>(try rw [aa])<;>decide)⟩ rfl (by unfold RO TO ae;simp only [go_sem]) (by unfold RO TO;simp only [go_sem]) ?_
 rintro _ _ ⟨rfl,rfl⟩
 unfold RO TO ae
 simp only [go_sem]
 refine aI E' (fun h=>?_) (fun h=>?_)<;>simp only [go_sem]
 ·have h':q.sees 7 [46]=false:=by simpa using h
  rw [h'] at hb
  rw [ej h',hQ]
  simp only [Bool.false_eq_true,if_false] at hb
  subst hb
  simp only [go_sem]
  refine ⟨_,_,[100,101],id,⟨rfl,rfl⟩,?_⟩
  simp only [go_sem]
  rfl
 ·have h':q.sees 7 [46]=true:=by simpa using h
  have hsl:=aL h'
  rw [h'] at hb hgn
  simp only [if_true] at hb hgn
  rw [cO h']
  refine ah mixed E' fun X=>?_
  simp only [go_sem]
  have h2:=j3 (G:=G) q.next 2 (by omega)
  obtain ⟨nm,q1,hq1⟩:∃ nm q1,q.next.of 2=(nm,q1):=⟨_,_,rfl⟩
  have hq1l:=(SS.of q.next 2).len
  rw [hq1] at h2 hb hgn hq1l
  simp only at hq1l
  refine aR X [.at [100] 0,.d (i64 2)] (RO q.next) [100,101] _ _ h2 rfl rfl ⟨by simp only [go_sem],by rw [aa];decide⟩ rfl (by unfold RO TO ae;simp only [go_sem]) (by unfold RO TO;simp only [go_sem]) (by unfold RO TO;simp only [go_sem]) ?_
  unfold RO TO ae
  simp only [go_sem]
  have hz1:=hg.1.sz
  simp only at hz1
  have h4:=iO (G:=G) { nd0 12 q.peek.pos with name:=nm } [a] rfl (by simp) (by simp only [aV,List.map_cons,List.map_nil,List.sum_cons,List.sum_nil];omega)
   (fun l h=>by rw [List.mem_singleton.1 h];exact hg.1.tr.kids.2)
   (fun l h=>by rw [List.mem_singleton.1 h];exact hg.1.wd.mono (by omega))
  simp only at hb hgn
  generalize ax { nd0 12 q.peek.pos with name:=nm } [a]=J at h4 hb hgn
  unfold exD at h4
  refine bX X 22 [22] (some 1) [.agg [.sl (some 9) (a.map enD)]] h4 (fun _=>rfl) rfl rfl rfl (by simp) rfl (by simp only [go_sem]) ?_
  simp only [go_sem]
  refine ⟨by decide +kernel,?_⟩
  rw [hQ]
  simp only [go_sem]
  refine ⟨⟨(m,J,q1),hb,hgn,by show q1.l.length<m;omega⟩,by show q1.l.length<q.l.length;omega,id,?_⟩
  simp only [go_sem]
  all_goals rfl
end Go.Proofs.YtejpnabbmgpmaaaGreat

namespace Go.Proofs.YtejpnabbmgpmaaaGreat
open Go.Ab
def Eo (k:Int) (t:List UInt8):Bool:=decide (k=4) || decide (k=5) || decide (k=2) || (decide (k=1) && (decide (t=jB) || decide (t=ga) || decide (t=kN))) || (decide (k=7) && (decide (t=[40]) || decide (t=[123])))
theorem vc {G} (s:PS) (hl:s.l.length≤1000000):HCall Tryz.prog G 306 [.at [100] 0] (RO s) [100,101] (fun r hp'=>r=.d (.bool s.begins)∧hp'=RO s):=by
 have hB:s.begins=Eo (bE s.l s.fin).k (bE s.l s.fin).s:=rfl
 rw [hB]
 have h0:=cZ (G:=G) s.l s.fin hl
 generalize bE s.l s.fin=t at h0 ⊢
 generalize hb:Eo t.k t.s=b
 unfold Eo at hb
 unfold RO TO ae
 refine ai Tryz.func306 rfl (by decide +kernel) (by simp [Tryz.ntmps306]) (veil fun E=>?_)
 simp only [go_sem]
 refine ab E [.at [101] 0] (TO s.l s.fin) [101] (h0) rfl rfl ⟨by simp only [go_sem],by first | (rw [aa];decide) | (simp only [go_sem]<;>(try rw [aa])<;>decide)⟩ rfl (by unfold TO ae;simp only [go_sem]) (by unfold TO;simp only [go_sem]) ?_
 rintro _ _ ⟨rfl,rfl⟩
 unfold TO ae
 simp only [go_sem]
 refine aj E (fun h1=>?_) (fun h1=>?_)<;>simp only [go_sem]
 ·rw [decide_eq_true h1]
  simp only [go_sem]
  refine ⟨_,_,[100,101],id,⟨rfl,rfl⟩,?_⟩
  simp only [go_sem]
  simp [← hb,h1]
 refine aj E (fun h2=>?_) (fun h2=>?_)<;>simp only [go_sem]
 ·rw [decide_eq_true h2]
  simp only [go_sem]
  refine ⟨_,_,[100,101],id,⟨rfl,rfl⟩,?_⟩
  simp only [go_sem]
  simp [← hb,h2]
 refine aj E (fun h3=>?_) (fun h3=>?_)<;>simp only [go_sem]
 ·refine ⟨_,_,[100,101],id,⟨rfl,rfl⟩,?_⟩
  simp only [go_sem]
  simp [← hb,h3]
 refine aj E (fun h4=>?_) (fun h4=>?_)<;>simp only [go_sem]
 ·refine cY E (fun h6=>?_) (fun h6=>?_)<;>simp only [go_sem]
  ·refine ⟨_,_,[100,101],id,⟨rfl,rfl⟩,?_⟩
   simp only [go_sem]
   have h6':t.s=jB:=by simpa [jB] using h6
   simp [← hb,h4,h6']
  refine cY E (fun h7=>?_) (fun h7=>?_)<;>simp only [go_sem]
  ·refine ⟨_,_,[100,101],id,⟨rfl,rfl⟩,?_⟩
   simp only [go_sem]
   have h7':t.s=ga:=by simpa [ga] using h7
   simp [← hb,h4,h7']
  ·refine ⟨_,_,[100,101],id,⟨rfl,rfl⟩,?_⟩
   simp only [go_sem]
   have h6':¬ t.s=jB:=by simpa [jB] using h6
   have h7':¬ t.s=ga:=by simpa [ga] using h7
   by_cases h8:t.s=kN
   ·simp [← hb,h4,h8,kN]
   ·have h8':=h8;unfold kN at h8';simp [← hb,h4,h6',h7',h8,h8']
 refine aj E (fun h5=>?_) (fun h5=>?_)<;>simp only [go_sem]
 ·refine cY E (fun h6=>?_) (fun h6=>?_)<;>simp only [go_sem]
  ·refine ⟨_,_,[100,101],id,⟨rfl,rfl⟩,?_⟩
   simp only [go_sem]
   have h6':t.s=[40]:=by simpa using h6
   simp [← hb,h5,h6']
  ·refine ⟨_,_,[100,101],id,⟨rfl,rfl⟩,?_⟩
   simp only [go_sem]
   have h6':¬ t.s=[40]:=by simpa using h6
   by_cases h8:t.s=[123]<;>simp [← hb,h5,h6',h8]
 ·refine ⟨_,_,[100,101],id,⟨rfl,rfl⟩,?_⟩
  simp only [go_sem]
  simp [← hb,h1,h2,h3,h4,h5]
theorem Co {G} {N:Nat} {ex:PS→PR} (hex:∀ s,GP 1 s (ex s)) (hc:Reads 305 G N (cV ex)):Reads 271 G N (jW ex):=by
 intro s hl hN
 generalize hR:jW ex s=R
 unfold jW PS.has at hR
 rw [iE] at hR
 have hsg:=eh hex
 have hpk:=cZ (G:=G) s.l s.fin (by omega)
 generalize bE s.l s.fin=t at hpk hR
 unfold RO TO ae
 refine ai Tryz.func271 rfl (by decide +kernel) (by simp [Tryz.ntmps271]) (veil fun E=>?_)
 simp only [go_sem]
 refine ab E [.at [101] 0] (TO s.l s.fin) [101] (hpk) rfl rfl ⟨by simp only [go_sem],by first | (rw [aa];decide) | (simp only [go_sem]<;>(try rw [aa])<;>decide)⟩ rfl (by unfold TO ae;simp only [go_sem]) (by unfold TO;simp only [go_sem]) ?_
 rintro _ _ ⟨rfl,rfl⟩
 unfold TO ae
 simp only [go_sem]
 refine ab E [.at [100] 0] (RO s) [100,101] (eC s) rfl rfl ⟨by simp only [go_sem],by first | (rw [aa];decide) | (simp only [go_sem]<;>(try rw [aa])<;>decide)⟩ rfl (by unfold RO TO ae;simp only [go_sem]) (by unfold RO TO;simp only [go_sem]) ?_
 rintro _ _ ⟨rfl,rfl⟩
 unfold RO TO ae
 simp only [go_sem]
 obtain ⟨a0,s0,hs0⟩:∃ a0 s0,cV ex s=(a0,s0):=⟨_,_,rfl⟩
 have h0:=(hsg s).1
 have hc0:=hc s hl hN
 rw [hs0] at h0 hc0
 unfold exD at hc0
 simp only [hs0] at hR
 refine aD E (fun h1=>?_) (fun h1=>?_)<;>simp only [go_sem]
 ·refine aj E (fun h2=>?_) (fun h2=>?_)<;>simp only [go_sem]
  ·simp only [decide_eq_true h1,decide_eq_true h2,Bool.and_self,if_true] at hR
   refine ab E [.at [101] 0] (TO s.l s.fin) [101] (iv s.l s.fin (by omega)) rfl rfl ⟨by simp only [go_sem],by first | (rw [aa];decide) | (simp only [go_sem]<;>(try rw [aa])<;>decide)⟩ rfl (by unfold TO ae;simp only [go_sem]) (by unfold TO;simp only [go_sem]) ?_
   rintro _ _ ⟨rfl,rfl⟩
   unfold TO ae
   simp only [go_sem]
   refine ah mixed E fun X=>?_
   simp only [go_sem]
   obtain ⟨b0,q1,hq1⟩:∃ b0 q1,cV ex s.next=(b0,q1):=⟨_,_,rfl⟩
   have hn2:=(SS.next s).len
   have g2:=hc s.next (by omega) ((SS.next s).nest.trans hN)
   have h3:=(hsg s.next).1
   rw [hq1] at g2 h3 hR
   unfold exD at g2
   refine aR X [.at [100] 0] (RO s.next) [100,101] _ _ g2 rfl rfl ⟨by simp only [go_sem],by rw [aa];decide⟩ rfl (by unfold RO TO ae PS.next;simp only [go_sem]) (by unfold RO TO;simp only [go_sem]) (by unfold RO TO;simp only [go_sem]) ?_
   unfold RO TO ae
   simp only [go_sem]
   have ht2:=h3.tr
   have hz2:=h3.sz
   simp only at ht2 hz2 hR
   have h4:=iO (G:=G) { nd0 13 t.pos with name:=t.s } [b0] rfl (by simp) (by simp only [aV,List.map_cons,List.map_nil,List.sum_cons,List.sum_nil];omega)
    (fun l h=>by rw [List.mem_singleton.1 h];exact ht2.kids.2)
    (fun l h=>by rw [List.mem_singleton.1 h];exact h3.wd.mono (by omega))
   generalize ax { nd0 13 t.pos with name:=t.s } [b0]=J at h4 hR
   unfold exD at h4
   refine bX X 29 [29] (some 1) [.agg [.sl (some 9) (b0.map enD)]] h4 (fun _=>rfl) rfl rfl rfl (by simp) rfl (by simp only [go_sem]) ?_
   simp only [go_sem]
   refine ⟨by decide +kernel,?_⟩
   rw [← hR]
   refine ⟨_,_,[100,101],id,⟨rfl,rfl⟩,?_⟩
   simp only [go_sem]
   rfl
  ·simp only [decide_eq_true h1,decide_eq_false h2,Bool.and_false,Bool.false_eq_true,if_false] at hR
   refine ab E [.at [100] 0] (RO s) [100,101] (hc0) rfl rfl ⟨by simp only [go_sem],by first | (rw [aa];decide) | (simp only [go_sem]<;>(try rw [aa])<;>decide)⟩ rfl (by unfold RO TO ae;simp only [go_sem]) (by unfold RO TO;simp only [go_sem]) ?_
   rintro _ _ ⟨rfl,rfl⟩
   unfold RO TO ae
   simp only [go_sem]
   refine aG E (X:={ x:Nat × List EN × PS // gy ex x.1 x.2.1 x.2.2=R∧GP 1 s x.2∧x.2.2.l.length<x.1 }) (fun x=>[(0,.at [100] 0),(2,.at [2] 0),(4,.at [4] 0)])
    (fun x=>[([2],.box [.d .nils]),([4],.box [.d (.sl (some 9) (x.1.2.1.map enD))]),([100],.box [.at [101] 0,.d (i64 x.1.2.2.err),.d (i64 x.1.2.2.pos),.d (i64 x.1.2.2.nest)]),([101],.box [.d (.sl (some 4) (x.1.2.2.l.map fU)),.d (i64 x.1.2.2.fin)])]) [2,4,100,101] (fun x=>x.1.2.2.l.length) ⟨(s0.l.length.succ,a0,s0),hR,h0,Nat.lt_succ_self _⟩ id ?_ ?_
   ·simp only [go_sem]
    all_goals rfl
   rintro ⟨⟨m,a,q⟩,hb,hg,hm⟩ E0
   refine aZ E0 fun Q' hQ E'=>?_
   simp only at hb hg hm ⊢
   have hql:q.l.length≤s.l.length:=hg.ss.len
   obtain ⟨m,rfl⟩:∃ k,m=k+1:=⟨m-1,by omega⟩
   have hgn:=iB hex s 1 a q hg
   rw [gy] at hb
   rw [show gy ex 1 a q=if decide (q.err=0) && q.begins then (ax (nd0 6 (gA a).pos) [a,(cV ex q).1],(cV ex q).2) else (a,q) from rfl] at hgn
   simp only [go_sem]
   refine ab E' [.at [100] 0] (RO q) [100,101] (eC q) rfl rfl ⟨by simp only [go_sem],by first | (rw [aa];decide) | (simp only [go_sem]<;>(try rw [aa])<;>decide)⟩ rfl (by unfold RO TO ae;simp only [go_sem]) (by unfold RO TO;simp only [go_sem]) ?_
   rintro _ _ ⟨rfl,rfl⟩
   unfold RO TO ae
   simp only [go_sem]
   refine aD E' (fun g1=>?_) (fun g1=>?_)<;>simp only [go_sem]
   ·refine ab E' [.at [100] 0] (RO q) [100,101] (vc q (by omega)) rfl rfl ⟨by simp only [go_sem],by first | (rw [aa];decide) | (simp only [go_sem]<;>(try rw [aa])<;>decide)⟩ rfl (by unfold RO TO ae;simp only [go_sem]) (by unfold RO TO;simp only [go_sem]) ?_
    rintro _ _ ⟨rfl,rfl⟩
    unfold RO TO ae
    simp only [go_sem]
    refine aI E' (fun g2=>?_) (fun g2=>?_)<;>simp only [go_sem]
    ·simp only [decide_eq_true g1,g2,Bool.true_and,if_true] at hb hgn
     have hap:=hg.tr.kids.1
     have hz1:=hg.sz
     simp only at hap hz1
     refine ah mixed E' fun X=>?_
     simp only [go_sem]
     rw [ao (n:=(a.length:Int)-1) ⟨by omega,by omega⟩]
     refine ⟨⟨by omega,by omega⟩,?_⟩
     rw [show ((a.length:Int)-1).toNat=a.length-1 by omega,bF (show a.length-1<a.length by omega)]
     have hrt:gA a=ndE a (a.length-1):=rfl
     rw [← hrt]
     generalize gA a=rt at hb hgn ⊢
     simp only [go_sem]
     obtain ⟨b0,q1,hq1⟩:∃ b0 q1,cV ex q=(b0,q1):=⟨_,_,rfl⟩
     have h2:=hc q (by omega) (hg.ss.nest.trans hN)
     have h3:=(hsg q).1
     have hlt:=j1 hex g1 g2
     rw [hq1] at h2 h3 hb hgn hlt
     unfold exD at h2
     refine aR X [.at [100] 0] (RO q) [100,101] _ _ h2 rfl rfl ⟨by simp only [go_sem],by rw [aa];decide⟩ rfl (by unfold RO TO ae;simp only [go_sem]) (by unfold RO TO;simp only [go_sem]) (by unfold RO TO;simp only [go_sem]) ?_
     unfold RO TO ae
     simp only [go_sem]
     have ht2:=h3.tr
     have hz2:=h3.sz
     simp only at ht2 hz2 hlt
     have h4:=iO (G:=G) (nd0 6 rt.pos) [a,b0] rfl (by simp) (by simp only [aV,List.map_cons,List.map_nil,List.sum_cons,List.sum_nil];omega)
      (fun l h=>by
       rcases List.mem_cons.1 h with rfl | h
       ·exact hg.tr.kids.2
       ·rw [List.mem_singleton.1 h];exact ht2.kids.2)
      (fun l h=>by
       rcases List.mem_cons.1 h with rfl | h
       ·exact hg.wd.mono (by omega)
       ·rw [List.mem_singleton.1 h];exact h3.wd.mono (by omega))
     simp only at hb hgn
     generalize ax (nd0 6 rt.pos) [a,b0]=J at h4 hb hgn
     unfold exD at h4
     refine bX X 52 [52] (some 1) [.agg [.sl (some 9) (a.map enD)],.agg [.sl (some 9) (b0.map enD)]] h4 (fun _=>rfl) rfl rfl rfl (by simp) rfl (by simp only [go_sem]) ?_
     simp only [go_sem]
     refine ⟨by decide +kernel,?_⟩
     rw [hQ]
     simp only [go_sem]
     refine ⟨⟨(m,J,q1),hb,hgn,by show q1.l.length<m;omega⟩,hlt,id,?_⟩
     simp only [go_sem]
     all_goals rfl
    ·simp only [g2,Bool.and_false,Bool.false_eq_true,if_false] at hb
     subst hb
     rw [hQ]
     simp only [go_sem]
     refine ⟨_,_,[100,101],id,⟨rfl,rfl⟩,?_⟩
     simp only [go_sem]
     rfl
   ·simp only [decide_eq_false g1,Bool.false_and,Bool.false_eq_true,if_false] at hb
    subst hb
    rw [hQ]
    simp only [go_sem]
    refine ⟨_,_,[100,101],id,⟨rfl,rfl⟩,?_⟩
    simp only [go_sem]
    rfl
 ·simp only [decide_eq_false h1,Bool.false_and,Bool.false_eq_true,if_false] at hR
  refine ab E [.at [100] 0] (RO s) [100,101] (hc0) rfl rfl ⟨by simp only [go_sem],by first | (rw [aa];decide) | (simp only [go_sem]<;>(try rw [aa])<;>decide)⟩ rfl (by unfold RO TO ae;simp only [go_sem]) (by unfold RO TO;simp only [go_sem]) ?_
  rintro _ _ ⟨rfl,rfl⟩
  unfold RO TO ae
  simp only [go_sem]
  refine aG E (X:={ x:Nat × List EN × PS // gy ex x.1 x.2.1 x.2.2=R∧GP 1 s x.2∧x.2.2.l.length<x.1 }) (fun x=>[(0,.at [100] 0),(2,.at [2] 0),(4,.at [4] 0)])
   (fun x=>[([2],.box [.d .nils]),([4],.box [.d (.sl (some 9) (x.1.2.1.map enD))]),([100],.box [.at [101] 0,.d (i64 x.1.2.2.err),.d (i64 x.1.2.2.pos),.d (i64 x.1.2.2.nest)]),([101],.box [.d (.sl (some 4) (x.1.2.2.l.map fU)),.d (i64 x.1.2.2.fin)])]) [2,4,100,101] (fun x=>x.1.2.2.l.length) ⟨(s0.l.length.succ,a0,s0),hR,h0,Nat.lt_succ_self _⟩ id ?_ ?_
  ·simp only [go_sem]
   all_goals rfl
  rintro ⟨⟨m,a,q⟩,hb,hg,hm⟩ E0
  refine aZ E0 fun Q' hQ E'=>?_
  simp only at hb hg hm ⊢
  have hql:q.l.length≤s.l.length:=hg.ss.len
  obtain ⟨m,rfl⟩:∃ k,m=k+1:=⟨m-1,by omega⟩
  have hgn:=iB hex s 1 a q hg
  rw [gy] at hb
  rw [show gy ex 1 a q=if decide (q.err=0) && q.begins then (ax (nd0 6 (gA a).pos) [a,(cV ex q).1],(cV ex q).2) else (a,q) from rfl] at hgn
  simp only [go_sem]
  refine ab E' [.at [100] 0] (RO q) [100,101] (eC q) rfl rfl ⟨by simp only [go_sem],by first | (rw [aa];decide) | (simp only [go_sem]<;>(try rw [aa])<;>decide)⟩ rfl (by unfold RO TO ae;simp only [go_sem]) (by unfold RO TO;simp only [go_sem]) ?_
  rintro _ _ ⟨rfl,rfl⟩
  unfold RO TO ae
  simp only [go_sem]
  refine aD E' (fun g1=>?_) (fun g1=>?_)<;>simp only [go_sem]
  ·refine ab E' [.at [100] 0] (RO q) [100,101] (vc q (by omega)) rfl rfl ⟨by simp only [go_sem],by first | (rw [aa];decide) | (simp only [go_sem]<;>(try rw [aa])<;>decide)⟩ rfl (by unfold RO TO ae;simp only [go_sem]) (by unfold RO TO;simp only [go_sem]) ?_
   rintro _ _ ⟨rfl,rfl⟩
   unfold RO TO ae
   simp only [go_sem]
   refine aI E' (fun g2=>?_) (fun g2=>?_)<;>simp only [go_sem]
   ·simp only [decide_eq_true g1,g2,Bool.true_and,if_true] at hb hgn
    have hap:=hg.tr.kids.1
    have hz1:=hg.sz
    simp only at hap hz1
    refine ah mixed E' fun X=>?_
    simp only [go_sem]
    rw [ao (n:=(a.length:Int)-1) ⟨by omega,by omega⟩]
    refine ⟨⟨by omega,by omega⟩,?_⟩
    rw [show ((a.length:Int)-1).toNat=a.length-1 by omega,bF (show a.length-1<a.length by omega)]
    have hrt:gA a=ndE a (a.length-1):=rfl
    rw [← hrt]
    generalize gA a=rt at hb hgn ⊢
    simp only [go_sem]
    obtain ⟨b0,q1,hq1⟩:∃ b0 q1,cV ex q=(b0,q1):=⟨_,_,rfl⟩
    have h2:=hc q (by omega) (hg.ss.nest.trans hN)
    have h3:=(hsg q).1
    have hlt:=j1 hex g1 g2
    rw [hq1] at h2 h3 hb hgn hlt
    unfold exD at h2
    refine aR X [.at [100] 0] (RO q) [100,101] _ _ h2 rfl rfl ⟨by simp only [go_sem],by rw [aa];decide⟩ rfl (by unfold RO TO ae;simp only [go_sem]) (by unfold RO TO;simp only [go_sem]) (by unfold RO TO;simp only [go_sem]) ?_
    unfold RO TO ae
    simp only [go_sem]
    have ht2:=h3.tr
    have hz2:=h3.sz
    simp only at ht2 hz2 hlt
    have h4:=iO (G:=G) (nd0 6 rt.pos) [a,b0] rfl (by simp) (by simp only [aV,List.map_cons,List.map_nil,List.sum_cons,List.sum_nil];omega)
     (fun l h=>by
      rcases List.mem_cons.1 h with rfl | h
      ·exact hg.tr.kids.2
      ·rw [List.mem_singleton.1 h];exact ht2.kids.2)
     (fun l h=>by
      rcases List.mem_cons.1 h with rfl | h
      ·exact hg.wd.mono (by omega)
      ·rw [List.mem_singleton.1 h];exact h3.wd.mono (by omega))
    simp only at hb hgn
    generalize ax (nd0 6 rt.pos) [a,b0]=J at h4 hb hgn
    unfold exD at h4
    refine bX X 52 [52] (some 1) [.agg [.sl (some 9) (a.map enD)],.agg [.sl (some 9) (b0.map enD)]] h4 (fun _=>rfl) rfl rfl rfl (by simp) rfl (by simp only [go_sem]) ?_
    simp only [go_sem]
    refine ⟨by decide +kernel,?_⟩
    rw [hQ]
    simp only [go_sem]
    refine ⟨⟨(m,J,q1),hb,hgn,by show q1.l.length<m;omega⟩,hlt,id,?_⟩
    simp only [go_sem]
    all_goals rfl
   ·simp only [g2,Bool.and_false,Bool.false_eq_true,if_false] at hb
    subst hb
    rw [hQ]
    simp only [go_sem]
    refine ⟨_,_,[100,101],id,⟨rfl,rfl⟩,?_⟩
    simp only [go_sem]
    rfl
  ·simp only [decide_eq_false g1,Bool.false_and,Bool.false_eq_true,if_false] at hb
   subst hb
   rw [hQ]
   simp only [go_sem]
   refine ⟨_,_,[100,101],id,⟨rfl,rfl⟩,?_⟩
   simp only [go_sem]
   rfl
end Go.Proofs.YtejpnabbmgpmaaaGreat

namespace Go.Proofs.YtejpnabbmgpmaaaGreat
open Go.Ab
def o5 (f:Nat) (G:List (Nat × Obj)) (N:Nat) (sub:PS→Int→PR):Prop:=∀ (s:PS) (p:Int),s.l.length≤100000→s.nest=N→HCall Tryz.prog G f [.at [100] 0,.d (i64 p)] (RO s) [100,101] (fun r hp'=>r=.d (exD (sub s p).1)∧hp'=RO (sub s p).2)
theorem EC {G} {N:Nat} {ex:PS→PR} (hex:∀ s,GP 1 s (ex s)) (hc:Reads 53 G N ex):o5 99 G N (ifS ex):=by
 intro s p hl hN
 generalize hR:ifS ex s p=R
 unfold ifS at hR
 have ha:=hex s
 have ca:=hc s hl hN
 obtain ⟨a,sa,ea⟩:∃ a sa,ex s=(a,sa):=⟨_,_,rfl⟩
 rw [ea] at ha ca hR
 have la:=ha.ss.len
 have na:=ha.ss.nest
 have cm:=eE (G:=G) sa 1 oG (by simp only at la;omega) (by decide)
 have hm:=SS.must sa 1 oG
 simp only at hR la na
 generalize sa.must 1 oG=s2 at hR cm hm
 have l2:=hm.len
 have n2:=hm.nest
 have hb:=hex s2
 have cb:=hc s2 (by omega) (by rw [n2,na,hN])
 obtain ⟨b,sb,eb⟩:∃ b sb,ex s2=(b,sb):=⟨_,_,rfl⟩
 rw [eb] at hb cb hR
 have lb:=hb.ss.len
 have nb:=hb.ss.nest
 simp only at hR lb nb
 have cm2:=eE (G:=G) sb 1 oF (by omega) (by decide)
 have hm2:=SS.must sb 1 oF
 generalize sb.must 1 oF=s3 at hR cm2 hm2
 have l3:=hm2.len
 have n3:=hm2.nest
 have hd:=hex s3
 have cd:=hc s3 (by omega) (by rw [n3,nb,n2,na,hN])
 obtain ⟨d,sd,ed⟩:∃ d sd,ex s3=(d,sd):=⟨_,_,rfl⟩
 rw [ed] at hd cd hR
 simp only at hR
 have za:=ha.sz
 have zb:=hb.sz
 have zd:=hd.sz
 simp only at za zb zd
 have h4:=iO (G:=G) (nd0 9 p) [a,b,d] rfl (by simp) (by simp only [aV,List.map_cons,List.map_nil,List.sum_cons,List.sum_nil];omega)
  (fun l h=>by
   simp only [List.mem_cons,List.mem_singleton,List.not_mem_nil,or_false] at h
   rcases h with rfl | rfl | rfl
   ·exact ha.tr.kids.2
   ·exact hb.tr.kids.2
   ·exact hd.tr.kids.2)
  (fun l h=>by
   simp only [List.mem_cons,List.mem_singleton,List.not_mem_nil,or_false] at h
   rcases h with rfl | rfl | rfl
   ·exact ha.wd.mono (by omega)
   ·exact hb.wd.mono (by omega)
   ·exact hd.wd.mono (by omega))
 generalize ax (nd0 9 p) [a,b,d]=J at h4 hR
 unfold exD at h4 ca cb cd
 subst hR
 unfold RO TO ae
 refine ai Tryz.func99 rfl (by decide +kernel) (by simp [Tryz.ntmps99]) (veil fun E=>?_)
 simp only [go_sem]
 refine ab E [.at [100] 0] (RO s) [100,101] (ca) rfl rfl ⟨by simp only [go_sem],by first | (rw [aa];decide) | (simp only [go_sem]<;>(try rw [aa])<;>decide)⟩ rfl (by unfold RO TO ae;simp only [go_sem]) (by unfold RO TO;simp only [go_sem]) ?_
 rintro _ _ ⟨rfl,rfl⟩
 unfold RO TO ae
 simp only [go_sem]
 refine ab E [.at [100] 0,.d (i64 1),.d (.str oG)] (RO sa) [100,101] (cm) rfl rfl ⟨by simp only [go_sem],by first | (rw [aa];decide) | (simp only [go_sem]<;>(try rw [aa])<;>decide)⟩ rfl (by unfold RO TO ae;simp only [go_sem]) (by unfold RO TO;simp only [go_sem]) ?_
 rintro _ _ ⟨rfl,rfl⟩
 unfold RO TO ae
 simp only [go_sem]
 refine ab E [.at [100] 0] (RO s2) [100,101] (cb) rfl rfl ⟨by simp only [go_sem],by first | (rw [aa];decide) | (simp only [go_sem]<;>(try rw [aa])<;>decide)⟩ rfl (by unfold RO TO ae;simp only [go_sem]) (by unfold RO TO;simp only [go_sem]) ?_
 rintro _ _ ⟨rfl,rfl⟩
 unfold RO TO ae
 simp only [go_sem]
 refine ab E [.at [100] 0,.d (i64 1),.d (.str oF)] (RO sb) [100,101] (cm2) rfl rfl ⟨by simp only [go_sem],by first | (rw [aa];decide) | (simp only [go_sem]<;>(try rw [aa])<;>decide)⟩ rfl (by unfold RO TO ae;simp only [go_sem]) (by unfold RO TO;simp only [go_sem]) ?_
 rintro _ _ ⟨rfl,rfl⟩
 unfold RO TO ae
 simp only [go_sem]
 refine ah mixed E fun X=>?_
 simp only [go_sem]
 refine aR X [.at [100] 0] (RO s3) [100,101] _ _ cd rfl rfl ⟨by simp only [go_sem],by rw [aa];decide⟩ rfl (by unfold RO TO ae;simp only [go_sem]) (by unfold RO TO;simp only [go_sem]) (by unfold RO TO;simp only [go_sem]) ?_
 unfold RO TO ae
 simp only [go_sem]
 refine bX X 21 [21] (some 1) [.agg [.sl (some 9) (a.map enD)],.agg [.sl (some 9) (b.map enD)],.agg [.sl (some 9) (d.map enD)]] h4 (fun _=>rfl) rfl rfl rfl (by simp) rfl (by simp only [go_sem]) ?_
 simp only [go_sem]
 refine ⟨by decide +kernel,?_⟩
 refine ⟨_,_,[100,101],id,⟨rfl,rfl⟩,?_⟩
 simp only [go_sem]
 rfl
end Go.Proofs.YtejpnabbmgpmaaaGreat

namespace Go.Proofs.YtejpnabbmgpmaaaGreat
open Go.Ab
theorem Fu {G} {N:Nat} {ex:PS→PR} (hex:∀ s,GP 1 s (ex s)) (hc:Reads 53 G N ex):o5 98 G N (pV ex):=by
 intro s p hl hN
 generalize hR:pV ex s p=R
 unfold pV at hR
 have cw:=iP (G:=G) s jC (by omega)
 have hw:=SS.may s 1 jC
 obtain ⟨c,hcc⟩:∃ c,c=s.sees 1 jC:=⟨_,rfl⟩
 rw [← hcc] at cw
 simp only [← hcc] at hR
 generalize s.may 1 jC=s1 at hR cw hw
 have l1:=hw.len
 have n1:=hw.nest
 have co:=j3 (G:=G) s1 2 (by omega)
 have ho:=SS.of s1 2
 obtain ⟨nm,so,eo⟩:∃ nm so,s1.of 2=(nm,so):=⟨_,_,rfl⟩
 rw [eo] at co ho hR
 simp only at co ho hR
 have lo:=ho.len
 have no:=ho.nest
 have cm:=eE (G:=G) so 7 [61] (by omega) (by decide)
 have hm:=SS.must so 7 [61]
 generalize so.must 7 [61]=s2 at hR cm hm
 have l2:=hm.len
 have n2:=hm.nest
 have cp:=cZ (G:=G) s2.l s2.fin (by omega)
 rw [iE] at hR
 generalize bE s2.l s2.fin=t at hR cp
 have ha:=hex s2
 have ca:=hc s2 (by omega) (by rw [n2,no,n1,hN])
 obtain ⟨a,sa,ea⟩:∃ a sa,ex s2=(a,sa):=⟨_,_,rfl⟩
 rw [ea] at ha ca hR
 have la:=ha.ss.len
 have na:=ha.ss.nest
 simp only at hR la na
 have hap:=ha.tr.kids.1
 have za:=ha.sz
 simp only at hap za
 have cf:=mw (G:=G) sa 5 t.pos
 have key:∀ s3:PS,s3.l=sa.l→s3.nest=sa.nest→∀ k:Int,(ax { nd0 k p with name:=nm } [a,(ex (s3.must 1 bIn)).1],(ex (s3.must 1 bIn)).2)=R →
   HCall Tryz.prog G 97 [.at [100] 0,.d (i64 1),.d (.str bIn)] (RO s3) [100,101] (fun r hp'=>r=.tup []∧hp'=RO (s3.must 1 bIn))∧∃ b sb J,R=(J,sb) ∧
   HCall Tryz.prog G 53 [.at [100] 0] (RO (s3.must 1 bIn)) [100,101] (fun r hp'=>r=.d (.agg [.sl (some 9) (b.map enD)])∧hp'=RO sb) ∧
   HP Tryz.prog G 86 [ndN { nd0 k p with name:=nm },.sl (some 1) ([a,b].map exD)] (fun r=>r=.d (.agg [.sl (some 9) (J.map enD)])):=by
  intro s3 e1 e2 k hk
  have cm3:=eE (G:=G) s3 1 bIn (by rw [e1];omega) (by decide)
  have hm3:=SS.must s3 1 bIn
  generalize s3.must 1 bIn=s4 at hk cm3 hm3 ⊢
  have l4:=hm3.len
  have n4:=hm3.nest
  rw [e1] at l4
  have hb:=hex s4
  have cb:=hc s4 (by omega) (by rw [n4,e2,na,n2,no,n1,hN])
  obtain ⟨b,sb,eb⟩:∃ b sb,ex s4=(b,sb):=⟨_,_,rfl⟩
  rw [eb] at hb cb hk
  have zb:=hb.sz
  simp only at zb hk
  have h4:=iO (G:=G) { nd0 k p with name:=nm } [a,b] rfl (by simp) (by simp only [aV,List.map_cons,List.map_nil,List.sum_cons,List.sum_nil];omega)
   (fun l h=>by
    simp only [List.mem_cons,List.mem_singleton,List.not_mem_nil,or_false] at h
    rcases h with rfl | rfl
    ·exact ha.tr.kids.2
    ·exact hb.tr.kids.2)
   (fun l h=>by
    simp only [List.mem_cons,List.mem_singleton,List.not_mem_nil,or_false] at h
    rcases h with rfl | rfl
    ·exact ha.wd.mono (by omega)
    ·exact hb.wd.mono (by omega))
  exact ⟨cm3,b,sb,_,hk.symm,cb,h4⟩
 unfold exD at ca
 unfold RO TO ae
 refine ai Tryz.func98 rfl (by decide +kernel) (by simp [Tryz.ntmps98]) (veil fun E=>?_)
 simp only [go_sem]
 refine ab E [.at [100] 0,.d (.str jC)] (RO s) [100,101] (cw) rfl rfl ⟨by simp only [go_sem],by first | (rw [aa];decide) | (simp only [go_sem]<;>(try rw [aa])<;>decide)⟩ rfl (by unfold RO TO ae;simp only [go_sem]) (by unfold RO TO;simp only [go_sem]) ?_
 rintro _ _ ⟨rfl,rfl⟩
 unfold RO TO ae
 simp only [go_sem]
 refine aI E (fun g=>?_) (fun g=>?_)<;>simp only [go_sem]
 ·rw [if_pos g] at hR
  refine ab E [.at [100] 0,.d (i64 2)] (RO s1) [100,101] (co) rfl rfl ⟨by simp only [go_sem],by first | (rw [aa];decide) | (simp only [go_sem]<;>(try rw [aa])<;>decide)⟩ rfl (by unfold RO TO ae;simp only [go_sem]) (by unfold RO TO;simp only [go_sem]) ?_
  rintro _ _ ⟨rfl,rfl⟩
  unfold RO TO ae
  simp only [go_sem]
  refine ab E [.at [100] 0,.d (i64 7),.d (.str [61])] (RO so) [100,101] (cm) rfl rfl ⟨by simp only [go_sem],by first | (rw [aa];decide) | (simp only [go_sem]<;>(try rw [aa])<;>decide)⟩ rfl (by unfold RO TO ae;simp only [go_sem]) (by unfold RO TO;simp only [go_sem]) ?_
  rintro _ _ ⟨rfl,rfl⟩
  unfold RO TO ae
  simp only [go_sem]
  refine ab E [.at [101] 0] (TO s2.l s2.fin) [101] (cp) rfl rfl ⟨by simp only [go_sem],by first | (rw [aa];decide) | (simp only [go_sem]<;>(try rw [aa])<;>decide)⟩ rfl (by unfold TO ae;simp only [go_sem]) (by unfold TO;simp only [go_sem]) ?_
  rintro _ _ ⟨rfl,rfl⟩
  unfold TO ae
  simp only [go_sem]
  refine ab E [.at [100] 0] (RO s2) [100,101] (ca) rfl rfl ⟨by simp only [go_sem],by first | (rw [aa];decide) | (simp only [go_sem]<;>(try rw [aa])<;>decide)⟩ rfl (by unfold RO TO ae;simp only [go_sem]) (by unfold RO TO;simp only [go_sem]) ?_
  rintro _ _ ⟨rfl,rfl⟩
  unfold RO TO ae
  simp only [go_sem]
  rw [ao (n:=(a.length:Int)-1) ⟨by omega,by omega⟩]
  refine ⟨⟨by omega,by omega⟩,?_⟩
  rw [show ((a.length:Int)-1).toNat=a.length-1 by omega,bF (show a.length-1<a.length by omega)]
  have hrt:gA a=ndE a (a.length-1):=rfl
  rw [← hrt]
  simp only [go_sem]
  refine aj E (fun h=>?_) (fun h=>?_)<;>simp only [go_sem]
  ·rw [if_pos ⟨rfl,h⟩] at hR
   refine ab E [.at [100] 0,.d (i64 5),.d (i64 t.pos)] (RO sa) [100,101] (cf) rfl rfl ⟨by simp only [go_sem],by first | (rw [aa];decide) | (simp only [go_sem]<;>(try rw [aa])<;>decide)⟩ rfl (by unfold RO TO ae;simp only [go_sem]) (by unfold RO TO;simp only [go_sem]) ?_
   rintro _ _ ⟨rfl,rfl⟩
   unfold RO TO ae
   simp only [go_sem]
   obtain ⟨k1,b,sb,J,eR,k2,k3⟩:=key (sa.fail 5 t.pos) (nw _ _ _) (by unfold PS.fail;split<;>rfl) 8 hR
   subst eR
   refine ab E [.at [100] 0,.d (i64 1),.d (.str bIn)] (RO (sa.fail 5 t.pos)) [100,101] (k1) rfl rfl ⟨by simp only [go_sem],by first | (rw [aa];decide) | (simp only [go_sem]<;>(try rw [aa])<;>decide)⟩ rfl (by unfold RO TO ae;simp only [go_sem]) (by unfold RO TO;simp only [go_sem]) ?_
   rintro _ _ ⟨rfl,rfl⟩
   unfold RO TO ae
   simp only [go_sem]
   refine ah mixed E fun X=>?_
   simp only [go_sem]
   refine aR X [.at [100] 0] (RO ((sa.fail 5 t.pos).must 1 bIn)) [100,101] _ _ k2 rfl rfl ⟨by simp only [go_sem],by rw [aa];decide⟩ rfl (by unfold RO TO ae;simp only [go_sem]) (by unfold RO TO;simp only [go_sem]) (by unfold RO TO;simp only [go_sem]) ?_
   unfold RO TO ae
   simp only [go_sem]
   refine bX X 50 [50] (some 1) [.agg [.sl (some 9) (a.map enD)],.agg [.sl (some 9) (b.map enD)]] k3 (fun _=>rfl) rfl rfl rfl (by simp) rfl (by simp only [go_sem]) ?_
   simp only [go_sem]
   refine ⟨by decide +kernel,?_⟩
   refine ⟨_,_,[100,101],id,⟨rfl,rfl⟩,?_⟩
   simp only [go_sem]
   rfl
  ·rw [if_neg (fun q=>h q.2)] at hR
   obtain ⟨k1,b,sb,J,eR,k2,k3⟩:=key sa rfl rfl 8 hR
   subst eR
   refine ab E [.at [100] 0,.d (i64 1),.d (.str bIn)] (RO sa) [100,101] (k1) rfl rfl ⟨by simp only [go_sem],by first | (rw [aa];decide) | (simp only [go_sem]<;>(try rw [aa])<;>decide)⟩ rfl (by unfold RO TO ae;simp only [go_sem]) (by unfold RO TO;simp only [go_sem]) ?_
   rintro _ _ ⟨rfl,rfl⟩
   unfold RO TO ae
   simp only [go_sem]
   refine ah mixed E fun X=>?_
   simp only [go_sem]
   refine aR X [.at [100] 0] (RO (sa.must 1 bIn)) [100,101] _ _ k2 rfl rfl ⟨by simp only [go_sem],by rw [aa];decide⟩ rfl (by unfold RO TO ae;simp only [go_sem]) (by unfold RO TO;simp only [go_sem]) (by unfold RO TO;simp only [go_sem]) ?_
   unfold RO TO ae
   simp only [go_sem]
   refine bX X 50 [50] (some 1) [.agg [.sl (some 9) (a.map enD)],.agg [.sl (some 9) (b.map enD)]] k3 (fun _=>rfl) rfl rfl rfl (by simp) rfl (by simp only [go_sem]) ?_
   simp only [go_sem]
   refine ⟨by decide +kernel,?_⟩
   refine ⟨_,_,[100,101],id,⟨rfl,rfl⟩,?_⟩
   simp only [go_sem]
   rfl
 ·rw [if_neg (by rw [g];decide)] at hR
  refine ab E [.at [100] 0,.d (i64 2)] (RO s1) [100,101] (co) rfl rfl ⟨by simp only [go_sem],by first | (rw [aa];decide) | (simp only [go_sem]<;>(try rw [aa])<;>decide)⟩ rfl (by unfold RO TO ae;simp only [go_sem]) (by unfold RO TO;simp only [go_sem]) ?_
  rintro _ _ ⟨rfl,rfl⟩
  unfold RO TO ae
  simp only [go_sem]
  refine ab E [.at [100] 0,.d (i64 7),.d (.str [61])] (RO so) [100,101] (cm) rfl rfl ⟨by simp only [go_sem],by first | (rw [aa];decide) | (simp only [go_sem]<;>(try rw [aa])<;>decide)⟩ rfl (by unfold RO TO ae;simp only [go_sem]) (by unfold RO TO;simp only [go_sem]) ?_
  rintro _ _ ⟨rfl,rfl⟩
  unfold RO TO ae
  simp only [go_sem]
  refine ab E [.at [101] 0] (TO s2.l s2.fin) [101] (cp) rfl rfl ⟨by simp only [go_sem],by first | (rw [aa];decide) | (simp only [go_sem]<;>(try rw [aa])<;>decide)⟩ rfl (by unfold TO ae;simp only [go_sem]) (by unfold TO;simp only [go_sem]) ?_
  rintro _ _ ⟨rfl,rfl⟩
  unfold TO ae
  simp only [go_sem]
  refine ab E [.at [100] 0] (RO s2) [100,101] (ca) rfl rfl ⟨by simp only [go_sem],by first | (rw [aa];decide) | (simp only [go_sem]<;>(try rw [aa])<;>decide)⟩ rfl (by unfold RO TO ae;simp only [go_sem]) (by unfold RO TO;simp only [go_sem]) ?_
  rintro _ _ ⟨rfl,rfl⟩
  unfold RO TO ae
  simp only [go_sem]
  rw [if_neg (fun q=>absurd q.1 (by decide))] at hR
  obtain ⟨k1,b,sb,J,eR,k2,k3⟩:=key sa rfl rfl 7 hR
  subst eR
  refine ab E [.at [100] 0,.d (i64 1),.d (.str bIn)] (RO sa) [100,101] (k1) rfl rfl ⟨by simp only [go_sem],by first | (rw [aa];decide) | (simp only [go_sem]<;>(try rw [aa])<;>decide)⟩ rfl (by unfold RO TO ae;simp only [go_sem]) (by unfold RO TO;simp only [go_sem]) ?_
  rintro _ _ ⟨rfl,rfl⟩
  unfold RO TO ae
  simp only [go_sem]
  refine ah mixed E fun X=>?_
  simp only [go_sem]
  refine aR X [.at [100] 0] (RO (sa.must 1 bIn)) [100,101] _ _ k2 rfl rfl ⟨by simp only [go_sem],by rw [aa];decide⟩ rfl (by unfold RO TO ae;simp only [go_sem]) (by unfold RO TO;simp only [go_sem]) (by unfold RO TO;simp only [go_sem]) ?_
  unfold RO TO ae
  simp only [go_sem]
  refine bX X 50 [50] (some 1) [.agg [.sl (some 9) (a.map enD)],.agg [.sl (some 9) (b.map enD)]] k3 (fun _=>rfl) rfl rfl rfl (by simp) rfl (by simp only [go_sem]) ?_
  simp only [go_sem]
  refine ⟨by decide +kernel,?_⟩
  refine ⟨_,_,[100,101],id,⟨rfl,rfl⟩,?_⟩
  simp only [go_sem]
  rfl
end Go.Proofs.YtejpnabbmgpmaaaGreat

namespace Go.Proofs.YtejpnabbmgpmaaaGreat
open Go.Ab
theorem fG {α:Type} {l:List α} {p:α→Bool} {i:Nat} (h:i<l.length) (ha:(l.take i).any p=false) (hb:p l[i]=false):(l.take (i+1)).any p=false:=by
 rw [List.take_succ_eq_append_getElem h,List.any_append,ha]
 simp [hb]
theorem AU {l:List EF} {i:Nat} (h:i<l.length):(l.map fD).getD i .nilp=.agg [.str l[i].nm,.str l[i].var,i64 l[i].to]:=by simp [h,fD]
theorem Ci {G} (l:List EF) (p:EF→Bool) (f:Nat) (caps:List D) (hl:l.length≤1000000) (hc:∀ x∈l,HP Tryz.prog G f (fD x::caps) (fun r=>r=.d (.bool (p x)))) :
  HP Tryz.prog G 237 [.sl (some 3) (l.map fD),.clo f caps] (fun r=>∃ z:Int,r=.d (i64 z)∧decide (0≤z)=l.any p):=by
 have hget:∀ {i:Nat} (h:i<l.length),(l.map fD).getD i .nilp=.agg [.str l[i].nm,.str l[i].var,i64 l[i].to]:=fun h=>AU h
 refine al Tryz.func237 rfl (by decide +kernel) (by simp [Tryz.ntmps237]) (veil fun E=>?_)
 simp only [go_sem]
 refine dX E (X:={ i:Nat // i≤l.length∧(l.take i).any p=false }) (fun x=>[(0,.d (.sl (some 3) (l.map fD))),(1,.d (.clo f caps)),(6,.d (.sl (some 3) (l.map fD))),(7,.d (i64 l.length)),(8,.d (i64 x.1))]) (fun x=>l.length-x.1) rfl ⟨0,Nat.zero_le _,by simp⟩ ?_ ?_
 ·simp only [go_sem]
  all_goals rfl
 rintro ⟨i,hi,hab⟩ E'
 simp only [go_sem]
 refine aj E' (fun h1=>?_) (fun h1=>?_)<;>simp only [go_sem]
 ·have h1':i<l.length:=by omega
  refine ⟨⟨by omega,by omega⟩,?_⟩
  rw [hget h1']
  simp only [go_sem]
  refine jl E' (hc l[i] (List.getElem_mem h1')) rfl rfl (by simp) ?_
  rintro _ rfl
  simp only [go_sem]
  refine aI E' (fun h2=>?_) (fun h2=>?_)<;>simp only [go_sem]
  ·refine ⟨_,rfl,?_⟩
   have:l.any p=true:=List.any_eq_true.2 ⟨l[i],List.getElem_mem h1',h2⟩
   rw [this]
   exact decide_eq_true (Int.natCast_nonneg _)
  ·refine ⟨⟨i+1,by omega,fG h1' hab h2⟩,by show l.length-(i+1)<_;omega,?_⟩
   rw [ao ⟨by omega,by omega⟩];rfl
 ·have h3:i=l.length:=by omega
  subst h3
  rw [List.take_length] at hab
  refine ⟨_,rfl,?_⟩
  rw [hab]
  decide
theorem DC {G} (l:List EF) (p:EF→Bool) (f:Nat) (caps:List D) (hl:l.length≤1000000) (hc:∀ x∈l,HP Tryz.prog G f (fD x::caps) (fun r=>r=.d (.bool (p x)))) :
  HP Tryz.prog G 179 [.sl (some 3) (l.map fD),.clo f caps] (fun r=>r=.d (.bool (l.any p))):=by
 refine al Tryz.func179 rfl (by decide +kernel) (by simp [Tryz.ntmps179]) (veil fun E=>?_)
 simp only [go_sem]
 refine ag E (Ci l p f caps hl hc) rfl rfl (by simp) ?_
 rintro _ ⟨z,rfl,hz⟩
 simp only [go_sem]
 rw [hz]
theorem Cv {G} (x:EF) (t:Tok):HP Tryz.prog G 371 [fD x,.ptr (fU t)] (fun r=>r=.d (.bool (decide (x.nm=t.s)))):=by
 unfold fD
 rw [show fU t=.agg [i64 t.k,.str t.s,i64 t.n,i64 t.pos] from rfl]
 refine bP Tryz.func371 rfl (by decide +kernel) (by simp [Tryz.ntmps371]) (veil fun E=>?_)
 simp only [go_sem]
 refine ⟨[],?_⟩
 simp only [go_sem]
 by_cases h:x.nm=t.s<;>simp [h]
end Go.Proofs.YtejpnabbmgpmaaaGreat

namespace Go.Proofs.YtejpnabbmgpmaaaGreat
open Go.Ab
theorem CV {G} (l:List Int) (p:Int→Bool) (f:Nat) (caps:List D) (hl:l.length≤1000000) (hc:∀ x∈l,HP Tryz.prog G f (i64 x::caps) (fun r=>r=.d (.bool (p x)))) :
  HP Tryz.prog G 110 [.sl none (l.map i64),.clo f caps] (fun r=>∃ z:Int,r=.d (i64 z)∧decide (0≤z)=l.any p):=by
 have hget:∀ {i:Nat} (h:i<l.length),(l.map i64).getD i .nilp=i64 l[i]:=fun h=>by simp [h]
 refine al Tryz.func110 rfl (by decide +kernel) (by simp [Tryz.ntmps110]) (veil fun E=>?_)
 simp only [go_sem]
 refine dX E (X:={ i:Nat // i≤l.length∧(l.take i).any p=false }) (fun x=>[(0,.d (.sl none (l.map i64))),(1,.d (.clo f caps)),(6,.d (.sl none (l.map i64))),(7,.d (i64 l.length)),(8,.d (i64 x.1))]) (fun x=>l.length-x.1) rfl ⟨0,Nat.zero_le _,by simp⟩ ?_ ?_
 ·simp only [go_sem]
  all_goals rfl
 rintro ⟨i,hi,hab⟩ E'
 simp only [go_sem]
 refine aj E' (fun h1=>?_) (fun h1=>?_)<;>simp only [go_sem]
 ·have h1':i<l.length:=by omega
  refine ⟨⟨by omega,by omega⟩,?_⟩
  rw [hget h1']
  simp only [go_sem]
  refine jl E' (hc l[i] (List.getElem_mem h1')) rfl rfl (by simp) ?_
  rintro _ rfl
  simp only [go_sem]
  refine aI E' (fun h2=>?_) (fun h2=>?_)<;>simp only [go_sem]
  ·refine ⟨_,rfl,?_⟩
   have:l.any p=true:=List.any_eq_true.2 ⟨l[i],List.getElem_mem h1',h2⟩
   rw [this]
   exact decide_eq_true (Int.natCast_nonneg _)
  ·refine ⟨⟨i+1,by omega,fG h1' hab h2⟩,by show l.length-(i+1)<_;omega,?_⟩
   rw [ao ⟨by omega,by omega⟩];rfl
 ·have h3:i=l.length:=by omega
  subst h3
  rw [List.take_length] at hab
  refine ⟨_,rfl,?_⟩
  rw [hab]
  decide
theorem EK {G} (l:List Int) (p:Int→Bool) (f:Nat) (caps:List D) (hl:l.length≤1000000) (hc:∀ x∈l,HP Tryz.prog G f (i64 x::caps) (fun r=>r=.d (.bool (p x)))) :
  HP Tryz.prog G 60 [.sl none (l.map i64),.clo f caps] (fun r=>r=.d (.bool (l.any p))):=by
 refine al Tryz.func60 rfl (by decide +kernel) (by simp [Tryz.ntmps60]) (veil fun E=>?_)
 simp only [go_sem]
 refine ag E (CV l p f caps hl hc) rfl rfl (by simp) ?_
 rintro _ ⟨z,rfl,hz⟩
 simp only [go_sem]
 rw [hz]
theorem D3 {G} (k:Int):HP Tryz.prog G 61 [i64 k] (fun r=>r=.d (.bool (!decide (k=1)))):=by
 refine al Tryz.func61 rfl (by decide +kernel) (by simp [Tryz.ntmps61]) (veil fun E=>?_)
 simp only [go_sem]
 by_cases h:k=1<;>simp [h]
theorem Da {G} (l:List EN) (p:EN→Bool) (f:Nat) (caps:List D) (hl:l.length≤1000000) (hc:∀ x∈l,HP Tryz.prog G f (enD x::caps) (fun r=>r=.d (.bool (p x)))) :
  HP Tryz.prog G 151 [.sl (some 9) (l.map enD),.clo f caps] (fun r=>∃ z:Int,r=.d (i64 z)∧decide (0≤z)=l.any p):=by
 have hget:∀ {i:Nat} (h:i<l.length),(l.map enD).getD i .nilp=.agg [i64 l[i].k,i64 l[i].a,i64 l[i].b,i64 l[i].c,i64 l[i].n,.str l[i].name,.str l[i].s,.sl (some 3) (l[i].l.map fD),i64 l[i].pos]:=fun h=>by simp [h,enD,efD]
 refine al Tryz.func151 rfl (by decide +kernel) (by simp [Tryz.ntmps151]) (veil fun E=>?_)
 simp only [go_sem]
 refine dX E (X:={ i:Nat // i≤l.length∧(l.take i).any p=false }) (fun x=>[(0,.d (.sl (some 9) (l.map enD))),(1,.d (.clo f caps)),(6,.d (.sl (some 9) (l.map enD))),(7,.d (i64 l.length)),(8,.d (i64 x.1))]) (fun x=>l.length-x.1) rfl ⟨0,Nat.zero_le _,by simp⟩ ?_ ?_
 ·simp only [go_sem]
  all_goals rfl
 rintro ⟨i,hi,hab⟩ E'
 simp only [go_sem]
 refine aj E' (fun h1=>?_) (fun h1=>?_)<;>simp only [go_sem]
 ·have h1':i<l.length:=by omega
  refine ⟨⟨by omega,by omega⟩,?_⟩
  rw [hget h1']
  simp only [go_sem]
  refine jl E' (hc l[i] (List.getElem_mem h1')) rfl rfl (by simp) ?_
  rintro _ rfl
  simp only [go_sem]
  refine aI E' (fun h2=>?_) (fun h2=>?_)<;>simp only [go_sem]
  ·refine ⟨_,rfl,?_⟩
   have:l.any p=true:=List.any_eq_true.2 ⟨l[i],List.getElem_mem h1',h2⟩
   rw [this]
   exact decide_eq_true (Int.natCast_nonneg _)
  ·refine ⟨⟨i+1,by omega,fG h1' hab h2⟩,by show l.length-(i+1)<_;omega,?_⟩
   rw [ao ⟨by omega,by omega⟩];rfl
 ·have h3:i=l.length:=by omega
  subst h3
  rw [List.take_length] at hab
  refine ⟨_,rfl,?_⟩
  rw [hab]
  decide
theorem CE {G} (l:List EN) (p:EN→Bool) (f:Nat) (caps:List D) (hl:l.length≤1000000) (hc:∀ x∈l,HP Tryz.prog G f (enD x::caps) (fun r=>r=.d (.bool (p x)))) :
  HP Tryz.prog G 101 [.sl (some 9) (l.map enD),.clo f caps] (fun r=>r=.d (.bool (l.any p))):=by
 refine al Tryz.func101 rfl (by decide +kernel) (by simp [Tryz.ntmps101]) (veil fun E=>?_)
 simp only [go_sem]
 refine ag E (Da l p f caps hl hc) rfl rfl (by simp) ?_
 rintro _ ⟨z,rfl,hz⟩
 simp only [go_sem]
 rw [hz]
theorem Cn {G} (n:EN):HP Tryz.prog G 102 [enD n] (fun r=>r=.d (.bool (decide (1048576<n.pos)))):=by
 unfold enD efD
 refine al Tryz.func102 rfl (by decide +kernel) (by simp [Tryz.ntmps102]) (veil fun E=>?_)
 simp only [go_sem]
def cT (ns:List EN) (i:Nat):List Int:=fJ (ns.take i) []
theorem oH (n:EN):∀ (a:List EN) (d:List Int),fJ (a++[n]) d=fJ a d++[s9 (fJ a d) n]
 | [],_=>rfl
 | _::r,_=>oH n r _
theorem j5 {ns:List EN} {i:Nat} (h:i<ns.length):cT ns (i+1)=cT ns i++[s9 (cT ns i) (ndE ns i)]:=by
 unfold cT
 rw [List.take_succ_eq_append_getElem h,oH,bj h]
def mx (d:List Int) (ks:List Int):Int:=ks.foldl (fun m k=>max m (d.getD k.toNat 0)) 0
theorem BN (d ks:List Int) (k:Int):mx d (ks++[k])=max (mx d ks) (d.getD k.toNat 0):=by simp [mx]
theorem uW (d:List Int) (n:EN):s9 d n=mx d (ak n)+1:=rfl
theorem DP {d:List Int} {M:Nat} (h:Bd M d) (ks:List Int):0≤mx d ks∧mx d ks≤(M:Int):=by
 suffices g:∀ (ks:List Int) (m:Int),0≤m∧m≤(M:Int)→0≤ks.foldl (fun m k=>max m (d.getD k.toNat 0)) m∧ks.foldl (fun m k=>max m (d.getD k.toNat 0)) m≤(M:Int) from g ks 0 ⟨Int.le_refl 0,by omega⟩
 intro ks
 induction ks with
 | nil=>exact fun m h=>h
 | cons k r ih =>
   intro m hm
   have:=h.get k.toNat
   exact ih (max m (d.getD k.toNat 0)) ⟨by omega,by omega⟩
theorem eL {ns:List EN}:∀ {i:Nat},i≤ns.length→(cT ns i).length=i∧Bd i (cT ns i)
 | 0,_=>by simp [cT,fJ,Bd]
 | i+1,h=>by
   obtain ⟨h1,h2⟩:=eL (ns:=ns) (i:=i) (by omega)
   rw [j5 (by omega)]
   refine ⟨by simp [h1],fun c hc=>?_⟩
   rcases List.mem_append.1 hc with hc | hc
   ·have:=h2 c hc;omega
   ·rw [List.mem_singleton.1 hc,uW]
    have:=DP h2 (ak (ndE ns i))
    omega
def eH (ns:List EN) (i:Nat) (m:Int):List Int:=cT ns i++m::List.replicate (ns.length-i-1) 0
theorem q3 {ns:List EN} {i:Nat} (hi:i<ns.length) (m:Int):(eH ns i m).getD i 0=m:=by
 have:=(eL (ns:=ns) (i:=i) (by omega)).1
 unfold eH
 rw [List.getD_eq_getElem?_getD,List.getElem?_append_right (by omega),this,Nat.sub_self]
 rfl
theorem yC {ns:List EN} {i k:Nat} (hi:i≤ns.length) (m:Int) (hk:k<i):(eH ns i m).getD k 0=(cT ns i).getD k 0:=by
 have:=(eL (ns:=ns) (i:=i) hi).1
 unfold eH
 rw [List.getD_eq_getElem?_getD,List.getD_eq_getElem?_getD,List.getElem?_append_left (by omega)]
theorem q6 {ns:List EN} {i:Nat} (hi:i<ns.length) (m x:Int):(eH ns i m).set i x=eH ns i x:=by
 have:=(eL (ns:=ns) (i:=i) (by omega)).1
 unfold eH
 rw [List.set_append_right _ _ (by omega),this,Nat.sub_self]
 rfl
theorem A0 {ns:List EN} {i:Nat} (hi:i<ns.length) (m:Int):(eH ns i m).length=ns.length:=by
 have:=(eL (ns:=ns) (i:=i) (by omega)).1
 unfold eH
 simp only [List.length_append,List.length_cons,List.length_replicate]
 omega
theorem xb {ns:List EN} {i:Nat} (hi:i+1<ns.length):eH ns i (s9 (cT ns i) (ndE ns i))=eH ns (i+1) 0:=by
 unfold eH
 rw [j5 (by omega),List.append_assoc,show ns.length-i-1=ns.length-(i+1)-1+1 by omega,List.replicate_succ]
 rfl
theorem Am {ns:List EN} {i:Nat} (hi:i+1=ns.length):eH ns i (s9 (cT ns i) (ndE ns i))=fJ ns []:=by
 have h1:=j5 (ns:=ns) (i:=i) (by omega)
 have h2:cT ns (i+1)=fJ ns []:=by unfold cT;rw [hi,List.take_length]
 rw [← h2,h1]
 unfold eH
 rw [show ns.length-i-1=0 by omega]
 rfl
def m8 (ns:List EN) (i:Nat):List Int:=if i<ns.length then eH ns i 0 else fJ ns []
theorem wu (ns:List EN):m8 ns 0=List.replicate ns.length 0:=by
 unfold m8
 split
 ·rename_i h
  unfold eH cT
  rw [List.take_zero,show ns.length=(ns.length-0-1)+1 by omega,List.replicate_succ]
  simp [fJ]
 ·rename_i h
  have:ns=[]:=List.length_eq_zero_iff.1 (by omega)
  subst this
  rfl
theorem xh {ns:List EN} {i:Nat} (hi:i<ns.length):eH ns i (s9 (cT ns i) (ndE ns i))=m8 ns (i+1):=by
 unfold m8
 split
 ·rename_i h;exact xb h
 ·exact Am (by omega)
theorem EP (a b:Int):(if a > b then a else b)=max b a:=by split<;>omega
theorem Ei {G} (ns:List EN) (hn:ns.length≤1000000) (hs:∀ n∈ns,n.l.length≤1000000) (hk:∀ i,i<ns.length→(ak (ndE ns i)).all (inB i)=true) :
  HP Tryz.prog G 62 [exD ns] (fun r=>r=.d (.sl none ((fJ ns []).map i64))):=by
 unfold exD
 refine bP Tryz.func62 rfl (by decide +kernel) (by simp [Tryz.ntmps62]) (veil fun E=>?_)
 simp only [go_sem]
 refine ⟨⟨by omega,by omega,by omega,by omega⟩,?_⟩
 refine eS E (X:={ i:Nat // i≤ns.length }) (fun x=>[(1,.at [1] 0),(2,.d .nils),(3,.vw [11] 0 ns.length),(13,.d (.sl (some 9) (ns.map enD))),(14,.d (i64 ns.length)),(15,.d (i64 x.1))])
  (fun x=>[([1],.box [.d (.sl (some 9) (ns.map enD))]),([11],.arr none ((m8 ns x.1).map i64))]) [11,1] (fun x=>ns.length-x.1) ⟨0,Nat.zero_le _⟩ ?_ ?_
 ·rw [wu,List.map_replicate]
  simp only [go_sem]
  all_goals rfl
 rintro ⟨i,hi⟩ E0
 refine aZ E0 fun Q' hQ E'=>?_
 simp only at hi ⊢
 simp only [go_sem]
 refine aj E' (fun g1=>?_) (fun g1=>?_)<;>simp only [go_sem]
 ·have hi':i<ns.length:=by omega
  refine ⟨⟨by omega,by omega⟩,?_⟩
  have hg:=bF hi'
  have hst:=xh hi'
  rw [uW] at hst
  have hki:=hk i hi'
  have hsi:=hs _ (by rw [bj hi'];exact List.getElem_mem hi':ndE ns i∈ns)
  obtain ⟨n,hne⟩:∃ n,n=ndE ns i:=⟨_,rfl⟩
  rw [← hne] at hg hst hki hsi
  rw [show m8 ns i=eH ns i 0 by unfold m8;rw [if_pos hi'],hg]
  obtain ⟨hd1,hd2⟩:=eL (ns:=ns) (i:=i) hi
  have hkc:=jJ (G:=G) n hsi
  obtain ⟨K,hK⟩:∃ K,K=ak n:=⟨_,rfl⟩
  have hKl:K.length≤1000003:=by rw [hK,bx];unfold bD;have:=ct n.k;split<;>omega
  rw [← hK] at hkc hki hst
  simp only [go_sem]
  refine ab E' [.d (enD n)] [] [] hkc rfl rfl ⟨by simp only [go_sem],by rw [aa];decide⟩ rfl (by simp only [go_sem]) (by simp only [go_sem]) ?_
  rintro _ _ ⟨rfl,rfl⟩
  simp only [go_sem]
  refine kl E' [21,0] none (K.map i64) rfl ?_
  simp only [go_sem]
  refine eS E' (X:={ q:Nat // q≤K.length }) (fun x=>[(1,.at [1] 0),(2,.d .nils),(3,.vw [11] 0 ns.length),(4,.d (i64 i)),(5,.at [5] 0),(13,.d (.sl (some 9) (ns.map enD))),(14,.d (i64 ns.length)),(15,.d (i64 i)),(21,.d (.sl none (K.map i64))),(22,.d (i64 K.length)),(23,.d (i64 x.1))])
   (fun x=>[([1],.box [.d (.sl (some 9) (ns.map enD))]),([11],.arr none ((eH ns i (mx (cT ns i) (K.take x.1))).map i64)),([5],.box [.d (i64 n.k),.d (i64 n.a),.d (i64 n.b),.d (i64 n.c),.d (i64 n.n),.d (.str n.name),.d (.str n.s),.d (.sl (some 3) (n.l.map fD)),.d (i64 n.pos)])]) [5,11,1] (fun x=>K.length-x.1) ⟨0,Nat.zero_le _⟩ ?_ ?_
  ·simp only [go_sem]
   all_goals rfl
  rintro ⟨q,hq⟩ E2
  refine aZ E2 fun Q2 hQ2 E3=>?_
  simp only at hq ⊢
  have hal:=A0 hi' (mx (cT ns i) (K.take q))
  have hmb:=DP hd2 (K.take q)
  simp only [go_sem]
  refine aj E3 (fun g2=>?_) (fun g2=>?_)<;>simp only [go_sem]
  ·have hq':q<K.length:=by omega
   have hkq:0≤K[q]∧K[q]<(i:Int):=by
    have:=List.all_eq_true.1 hki K[q] (List.getElem_mem hq')
    simpa [inB] using this
   refine ⟨⟨by omega,by omega⟩,?_⟩
   rw [bI hq',show K.getD q 0=K[q] by simp [hq']]
   simp only [go_sem]
   refine ah mixed E3 fun X=>?_
   simp only [go_sem]
   refine ⟨⟨by omega,by omega⟩,?_⟩
   rw [bI (by omega),q3 hi']
   simp only [go_sem]
   refine ⟨⟨by omega,by omega⟩,?_⟩
   rw [bI (by omega),yC hi _ (show K[q].toNat<i by omega)]
   simp only [go_sem]
   refine ⟨⟨by omega,by omega⟩,by decide +kernel,?_⟩
   rw [ao (n:=(q:Int)+1) ⟨by omega,by omega⟩]
   rw [show (List.map i64 (eH ns i (mx (cT ns i) (K.take q)))).set i (.int .i64 (if (cT ns i).getD K[q].toNat 0 > mx (cT ns i) (K.take q) then (cT ns i).getD K[q].toNat 0 else mx (cT ns i) (K.take q)))=(eH ns i (mx (cT ns i) (K.take (q+1)))).map i64 by
    rw [List.take_succ_eq_append_getElem hq',BN,EP,← List.map_set,q6 hi']]
   rw [hQ2]
   simp only [go_sem]
   refine ⟨⟨q+1,by omega⟩,by show K.length-(q+1)<_;omega,?_⟩
   first | rfl | exact ⟨rfl,rfl⟩
  ·rw [hQ2]
   have h3:q=K.length:=by omega
   subst h3
   rw [List.take_length] at *
   simp only [go_sem]
   refine ⟨⟨by omega,by omega⟩,?_⟩
   rw [bI (by omega),q3 hi']
   simp only [go_sem]
   refine ⟨⟨by omega,by omega⟩,?_⟩
   rw [ao (n:=mx (cT ns i) K+1) ⟨by omega,by omega⟩,ao (n:=(i:Int)+1) ⟨by omega,by omega⟩]
   rw [show (List.map i64 (eH ns i (mx (cT ns i) K))).set i (.int .i64 (mx (cT ns i) K+1))=(m8 ns (i+1)).map i64 by
    rw [← hst,← List.map_set,q6 hi']]
   rw [hQ]
   simp only [go_sem]
   refine ⟨⟨i+1,by omega⟩,by show ns.length-(i+1)<_;omega,?_⟩
   first | rfl | exact ⟨rfl,rfl⟩
 ·rw [hQ]
  have h3:i=ns.length:=by omega
  subst h3
  simp only [go_sem]
  refine ⟨[([11],none,(m8 ns ns.length).map i64)],?_⟩
  rw [show m8 ns ns.length=fJ ns [] by unfold m8;rw [if_neg (Nat.lt_irrefl _)]]
  simp only [go_sem]
  have hdl:=(eL (ns:=ns) (Nat.le_refl _)).1
  unfold cT at hdl
  rw [List.take_length] at hdl
  rw [List.take_of_length_le (by rw [List.length_map,hdl];exact Nat.le_refl _)]
end Go.Proofs.YtejpnabbmgpmaaaGreat

namespace Go.Proofs.YtejpnabbmgpmaaaGreat
open Go.Ab
theorem AS {cs:List Int} {k:Int} {j:Nat} (hj:j<cs.length) (hk:0≤k):(bump cs k).getD j 0=cs.getD j 0+(if k=(j:Int) then 1 else 0):=by
 unfold bump
 rw [List.getD_eq_getElem?_getD,List.getElem?_set]
 by_cases h:k.toNat=j
 ·rw [if_pos h,if_pos (by omega)]
  have:k=(j:Int):=by omega
  subst this
  simp [hj]
 ·rw [if_neg h,if_neg (by omega)]
  simp
theorem oO {j:Nat}:∀ (ks cs:List Int),j<cs.length→(∀ k∈ks,0≤k)→(bumps cs ks).getD j 0=cs.getD j 0+(ks.countP (fun x=>decide (x=(j:Int))):Nat)
 | [],cs,_,_=>by simp [bumps]
 | k::r,cs,hj,hk=>by
   show (bumps (bump cs k) r).getD j 0=_
   rw [oO r _ (by rw [rH];exact hj) (fun x hx=>hk x (List.mem_cons_of_mem _ hx)),AS hj (hk k List.mem_cons_self),List.countP_cons]
   by_cases h:k=(j:Int)<;>simp [h]<;>omega
theorem wO (cs a b:List Int):bumps cs (a++b)=bumps (bumps cs a) b:=by simp [bumps]
def cnts (ns:List EN) (i:Nat):List Int:=bumps (List.replicate ns.length 0) ((ns.take i).flatMap ak)
theorem jx (ns:List EN) (i:Nat):(cnts ns i).length=ns.length:=by unfold cnts;rw [ft,List.length_replicate]
theorem oA {ns:List EN} {i:Nat} (h:i<ns.length):cnts ns (i+1)=bumps (cnts ns i) (ak (ndE ns i)):=by
 unfold cnts
 rw [List.take_succ_eq_append_getElem h,List.flatMap_append,wO,bj h]
 simp
theorem uG {ns:List EN} (hs:∀ n∈ns,n.l.length≤1000000):∀ {i:Nat},i≤ns.length→Bd (i*1000003) (cnts ns i)
 | 0,_=>by
   intro c hc
   rw [show cnts ns 0=List.replicate ns.length 0 by simp [cnts,bumps],List.mem_replicate] at hc
   omega
 | i+1,h=>by
   have ih:=uG hs (i:=i) (by omega)
   rw [oA (by omega)]
   intro c hc
   have:=ih.bumps (ks:=ak (ndE ns i)) c hc
   have hl:(ak (ndE ns i)).length≤1000003:=by
    rw [bx];unfold bD
    have:=ct (ndE ns i).k
    have h2:(ndE ns i).l.length≤1000000:=by rw [bj (by omega)];exact hs _ (List.getElem_mem _)
    split<;>omega
   omega
theorem zo {ns:List EN} (hk:∀ i,i<ns.length→(ak (ndE ns i)).all (inB i)=true):((cnts ns ns.length).take (ns.length-1)).any (fun c=>!decide (c=1))=!oB ns:=by
 have hnn:∀ k∈ns.flatMap ak,0≤k:=fun k hkm=>by
  obtain ⟨n,hn,hkn⟩:=List.mem_flatMap.1 hkm
  obtain ⟨i,hi,rfl⟩:=List.mem_iff_getElem.1 hn
  have h1:=hk i hi
  rw [bj hi] at h1
  have:=List.all_eq_true.1 h1 k hkn
  simp only [inB,Bool.and_eq_true,decide_eq_true_eq] at this
  exact this.1
 have hget:∀ j,j<ns.length→(cnts ns ns.length).getD j 0=(rZ ns j:Int):=fun j hj=>by
  unfold cnts rZ
  rw [List.take_length,oO _ _ (by simpa using hj) hnn]
  simp [hj]
 have hl:=jx ns ns.length
 unfold oB
 rw [Bool.eq_iff_iff]
 simp only [List.any_eq_true,Bool.not_eq_true',decide_eq_false_iff_not,List.all_eq_false,List.mem_range,decide_eq_true_eq]
 constructor
 ·rintro ⟨c,hc,h1⟩
  obtain ⟨j,hj,rfl⟩:=List.mem_iff_getElem.1 hc
  rw [List.length_take] at hj
  refine ⟨j,by omega,fun h=>h1 ?_⟩
  have:=hget j (by omega)
  rw [h] at this
  rw [List.getElem_take]
  rw [List.getD_eq_getElem?_getD,List.getElem?_eq_getElem (by omega)] at this
  simpa using this
 ·rintro ⟨j,hj,h1⟩
  refine ⟨(cnts ns ns.length)[j],List.mem_iff_getElem.2 ⟨j,by rw [List.length_take];omega,by rw [List.getElem_take]⟩,fun h=>h1 ?_⟩
  have:=hget j (by omega)
  rw [List.getD_eq_getElem?_getD,List.getElem?_eq_getElem (by omega)] at this
  simp only [Option.getD_some,h] at this
  omega
theorem HP.clo {P:Program} {G:List (Nat × Obj)} {f:FuncId} {args:List AV} {ds:List D} {Q:AV→Prop} (hl:args.length=ds.length)
  (hr:∀ (i:Nat) x y,args[i]?=some x→ds[i]?=some y→x=.d y∨∃ g,x=.clo g []∧y=.clo g []) (h:HP P G f ds Q):HCall P G f args [] [] (fun r hp'=>Q r∧r.inU []=true∧hp'=[]):=by
 refine ⟨h.1,fun B β vs w h1 h2 h3 h4 h5=>h.2 B β vs w (h1.trans (by simpa using hl)) h2 h3 h4 { tms:=h5.tms,io:=h5.io,size:=h5.size,frame:=h5.frame,slots:=fun t=>?_,objs:=h5.objs,blocks:=h5.blocks,inj:=h5.inj,us:=h5.us,stay:=h5.stay }⟩
 have hv:=h5.slots t
 rw [dS,aM,if_pos (Nat.zero_le _),Nat.sub_zero] at hv ⊢
 show VR w.heap ((mk (aw 0 (ds.map .d)) [] []).own B.A β) [] _ β _ _
 rw [List.getElem?_map]
 cases hx:args[t]? with
 | none =>
   rw [List.getElem?_eq_none (by rw [← hl];exact List.getElem?_eq_none_iff.1 hx)]
   exact .un _
 | some x =>
   have hlt:=(List.getElem?_eq_some_iff.1 hx).1
   have hy:ds[t]?=some ds[t]:=List.getElem?_eq_getElem (by omega)
   rw [hx] at hv
   rw [hy]
   simp only [Option.map_some,Option.getD_some] at hv ⊢
   rcases hr t _ _ hx hy with e | ⟨g,e1,e2⟩
   ·rw [← e];exact hv
   ·rw [e1] at hv
    rw [e2]
    generalize vs.getD t undef=v at hv ⊢
    cases hv with
    | clo _ vs' _ hs hc=>exact .d _ _ (.clo _ _ _ hs (fun i d hd=>by simp at hd))
def okI (ns:List EN) (i:Nat):Bool:=bu (ndE ns i) && eN ns i
theorem uS {ns:List EN} {i:Nat} (h:eN ns i=true):(ak (ndE ns i)).all (inB i)=true:=by
 unfold eN at h
 rw [Bool.and_eq_true] at h
 exact h.1
set_option maxHeartbeats 1000000 in
theorem tB {G} (ns:List EN) (hs:∀ n∈ns,gL BIG n) (hN:ns.length≤1000000):HP Tryz.prog G 17 [exD ns] (fun r=>r=.d (i64 (jc ns))):=by
 generalize hb:jc ns=b
 unfold jc at hb
 unfold exD
 refine al Tryz.func17 rfl (by decide +kernel) (by simp [Tryz.ntmps17]) (veil fun E=>?_)
 simp only [go_sem]
 repeat (first
  | (apply gw E;(· simp only [go_sem]);(· intro h;(try simp only [bq] at h);simp only [↓h,go_sem];rfl);simp only [go_sem])
  | (apply cS E;(· simp only [go_sem]);(· intro h;(try simp only [bq] at h);simp only [↓h,go_sem];rfl);(· intro h;(try simp only [bq] at h);simp only [↓h,go_sem];rfl);simp only [go_sem])
  | (apply cL E;(· simp only [go_sem]);(· rfl);(· intro h h';(try simp only [bq] at h h');simp only [↓h,↓h',go_sem];rfl);simp only [go_sem])
  | (apply bG E;(· simp only [go_sem]);(· rfl);(· intro h h';(try simp only [bq] at h h');simp only [↓h,↓h',go_sem];rfl);(· intro h h';(try simp only [bq] at h h');simp only [↓h,↓h',go_sem];rfl);simp only [go_sem])
  | (apply eU E;(· decide);simp only [go_sem]))
 refine aI E (fun g=>?_) (fun g=>?_)<;>simp only [go_sem]
 ·simp only [Bool.or_eq_true,decide_eq_true_eq] at g
  rw [if_pos (by omega)] at hb
  rw [hb]
 have g':0<ns.length∧ns.length≤600:=by
  simp only [Bool.or_eq_false_iff,decide_eq_false_iff_not] at g
  omega
 rw [if_neg (by omega)] at hb
 refine ⟨⟨by omega,by omega,by omega,by omega⟩,?_⟩
 have hs':∀ n∈ns,n.l.length≤1000000:=fun n hn=>(hs n hn).l
 refine eS E (X:={ i:Nat // i≤ns.length∧∀ j,j<i→okI ns j=true }) (fun x=>[(1,.at [1] 0),(2,.d (i64 0)),(3,.vw [19] 0 ns.length),(21,.d (.sl (some 9) (ns.map enD))),(22,.d (i64 ns.length)),(23,.d (i64 x.1))])
  (fun x=>[([1],.box [.d (.sl (some 9) (ns.map enD))]),([19],.arr none ((cnts ns x.1).map i64))]) [19,1] (fun x=>ns.length-x.1) ⟨0,Nat.zero_le _,fun j h=>absurd h (Nat.not_lt_zero _)⟩ ?_ ?_
 ·rw [show cnts ns 0=List.replicate ns.length 0 by simp [cnts,bumps],List.map_replicate]
  simp only [go_sem]
  all_goals rfl
 rintro ⟨i,hi,hok⟩ E0
 refine aZ E0 fun Q' hQ E'=>?_
 simp only at hi hok ⊢
 simp only [go_sem]
 refine aj E' (fun g1=>?_) (fun g1=>?_)<;>simp only [go_sem]
 ·have hi':i<ns.length:=by omega
  refine ⟨⟨by omega,by omega⟩,?_⟩
  have hg:=bF hi'
  have hsn:=hs _ (by rw [bj hi'];exact List.getElem_mem hi':ndE ns i∈ns)
  have hc1:=D8 (G:=G) _ hsn
  have hc2:=Fo (G:=G) ns i (cnts ns i) (i*1000003) hi' hN (jx ns i) hsn.l (uG hs' hi) (by omega)
  have hok1:okI ns i=(bu (ndE ns i) && eN ns i):=rfl
  have hcs:=oA hi'
  rw [← hcs] at hc2
  have bad:okI ns i=false→okE ns=false:=fun h=>List.all_eq_false.2 ⟨i,List.mem_range.2 hi',by
   show ¬ okI ns i=true
   rw [h];decide⟩
  have good:okI ns i=true→∀ j,j<i+1→okI ns j=true:=fun h j hj=>by
   by_cases e:j=i
   ·rw [e];exact h
   ·exact hok j (by omega)
  generalize ndE ns i=n at hg hc1 hok1
  generalize bu n=x at hc1 hok1
  generalize eN ns i=y at hc2 hok1
  rw [hg]
  simp only [go_sem]
  refine ag E' hc1 rfl rfl (by simp) ?_
  rintro _ rfl
  simp only [go_sem]
  refine cY E' (fun h1=>?_) (fun h1=>?_)<;>simp only [go_sem]
  ·have hx:x=false:=by simpa using h1
   rw [hQ]
   simp only [go_sem]
   rw [bad (by rw [hok1,hx];rfl),Bool.false_and] at hb
   rw [← hb]
   rfl
  ·have hx:x=true:=by simpa using h1
   rw [j4]
   simp only [go_sem]
   refine aS E' (tau [([100],[19])]) [.d (exD ns),.d (i64 i),.vw [100] 0 ns.length] [([100],.arr none ((cnts ns i).map i64))] [100] hc2 rfl (by simp only [go_sem];try rfl) ⟨by simp only [go_sem],by rw [aa];decide⟩ rfl (by simp only [go_sem]) (by simp only [go_sem]) ?_
   rintro _ _ ⟨cs',hl',hcs',rfl,rfl⟩
   simp only [go_sem]
   refine ⟨by rw [jx,hl'];exact Nat.le_refl _,?_⟩
   refine aI E' (fun h2=>?_) (fun h2=>?_)<;>simp only [go_sem]
   ·rw [hQ]
    simp only [go_sem]
    rw [bad (by rw [hok1,show y=false by simpa using h2,Bool.and_false]),Bool.false_and] at hb
    rw [← hb]
    rfl
   ·have hy:y=true:=by simpa using h2
    rw [hQ,hcs' hy,ao (n:=(i:Int)+1) ⟨by omega,by omega⟩]
    simp only [go_sem]
    refine ⟨⟨i+1,by omega,good (by rw [hok1,hx,hy];rfl)⟩,by show ns.length-(i+1)<_;omega,?_⟩
    first | rfl | exact ⟨rfl,rfl⟩
 ·rw [hQ]
  have h3:i=ns.length:=by omega
  subst h3
  simp only [go_sem]
  rw [ao (n:=(ns.length:Int)-1) ⟨by omega,by omega⟩]
  refine ⟨⟨by omega,by omega⟩,?_⟩
  rw [show ((ns.length:Int)-1).toNat-0=ns.length-1 by omega]
  have hkk:∀ i,i<ns.length→(ak (ndE ns i)).all (inB i)=true:=fun i hi=>by
   have:=hok i hi
   unfold okI at this
   rw [Bool.and_eq_true] at this
   exact uS this.2
  have hokE:okE ns=true:=List.all_eq_true.2 fun j hj=>hok j (List.mem_range.1 hj)
  have hcl:=jx ns ns.length
  have hc3:=EK (G:=G) ((cnts ns ns.length).take (ns.length-1)) (fun c=>!decide (c=1)) 61 [] (by rw [List.length_take];omega) (fun x _=>D3 x)
  rw [zo hkk,List.map_take] at hc3
  have hc4:=HP.clo (args:=[.d (.sl none (((cnts ns ns.length).map i64).take (ns.length-1))),.clo 61 []]) rfl (fun i x y hx hy=>by
   rcases i with _ | _ | i
   ·cases hx;cases hy;exact .inl rfl
   ·cases hx;cases hy;exact .inr ⟨61,rfl,rfl⟩
   ·cases hx) hc3
  refine yR E [([19],none,(cnts ns ns.length).map i64)] [.d (.sl none (((cnts ns ns.length).map i64).take (ns.length-1))),.clo 61 []] [] [] hc4 (by rintro _ _ ⟨rfl,_,rfl⟩;exact ⟨rfl,rfl⟩) (by simp only [go_sem]) rfl (by simp only [go_sem];try rfl) ⟨by simp only [go_sem],by rw [aa];decide⟩ rfl (by simp only [go_sem]) (by simp only [go_sem]) ?_
  rintro _ _ ⟨rfl,_,rfl⟩
  simp only [go_sem]
  rw [hokE,Bool.true_and] at hb
  have hdl:=(eL (ns:=ns) (Nat.le_refl _)).1
  unfold cT at hdl
  rw [List.take_length] at hdl
  refine aI E (fun k1=>?_) (fun k1=>?_)<;>simp only [go_sem]
  ·have:oB ns=false:=by simpa using k1
   rw [this] at hb
   rw [← hb]
   rfl
  ·have:oB ns=true:=by simpa using k1
   rw [this,if_pos rfl] at hb
   unfold tx at hb
   have hc5:=Ei (G:=G) ns hN hs' hkk
   unfold exD at hc5
   refine ah mixed E fun X=>?_
   simp only [go_sem]
   refine bH X hc5 rfl rfl (by simp) ?_
   simp only [go_sem]
   rw [ao (n:=(ns.length:Int)-1) ⟨by omega,by omega⟩]
   refine ⟨⟨by omega,by rw [hdl];omega⟩,?_⟩
   rw [bI (by omega),show ((ns.length:Int)-1).toNat=ns.length-1 by omega]
   simp only [go_sem]
   refine ⟨by decide +kernel,?_⟩
   refine aj E (fun k2=>?_) (fun k2=>?_)<;>simp only [go_sem]
   ·rw [if_pos k2] at hb
    rw [← hb]
   ·rw [if_neg k2] at hb
    rw [← hb]
end Go.Proofs.YtejpnabbmgpmaaaGreat

namespace Go.Proofs.YtejpnabbmgpmaaaGreat
open Go.Ab
def Seg (N:Nat) (xs:Nat→List D) (n:Nat) (L:List Int):Prop:=n+L.length≤N∧∀ j,j<L.length→xs (n+j)=[i64 (L.getD j 0)]
theorem Seg.left {N:Nat} {xs:Nat→List D} {n:Nat} {a b:List Int} (h:Seg N xs n (a++b)):Seg N xs n a :=
 ⟨by have:=h.1;rw [List.length_append] at this;omega,fun j hj=>by
  rw [h.2 j (by rw [List.length_append];omega),List.getD_eq_getElem?_getD,List.getD_eq_getElem?_getD,List.getElem?_append_left hj]⟩
theorem Seg.right {N:Nat} {xs:Nat→List D} {n:Nat} {a b:List Int} (h:Seg N xs n (a++b)):Seg N xs (n+a.length) b :=
 ⟨by have:=h.1;rw [List.length_append] at this;omega,fun j hj=>by
  have:=h.2 (a.length+j) (by rw [List.length_append];omega)
  rw [← Nat.add_assoc] at this
  rw [this,List.getD_eq_getElem?_getD,List.getD_eq_getElem?_getD,List.getElem?_append_right (by omega)]
  simp⟩
end Go.Proofs.YtejpnabbmgpmaaaGreat

namespace Go.Proofs.YtejpnabbmgpmaaaGreat
open Go.Ab
structure Walk (ns:List EN) (its:List Int):Prop where
 nd:its.Nodup
 inn:∀ x∈its,0≤x∧x<(ns.length:Int)
 pre:∀ n (h:n<its.length),∀ k∈ak (ndE ns its[n].toNat),k∈its.take n
def tc (ns:List EN) (its:List Int) (x:Int):EN:=aK (ndE ns x.toNat) ((ak (ndE ns x.toNat)).map fun k=>(its.idxOf k:Int))
end Go.Proofs.YtejpnabbmgpmaaaGreat

namespace Go.Proofs.YtejpnabbmgpmaaaGreat
open Go.Ab
structure cU (ns:List EN):Prop where
 pos:0<ns.length
 few:ns.length≤600
 right:∀ i,i<ns.length→bu (ndE ns i)=true
 link:∀ i,i<ns.length→eN ns i=true
 once:oB ns=true
 deep:tx ns≤100
theorem G8 {ns:List EN} (h:jc ns=0):cU ns:=by
 unfold jc at h
 split at h
 ·exact absurd h (by decide)
 rename_i h1
 split at h
 ·rename_i h2
  split at h
  ·exact absurd h (by decide)
  ·rename_i h3
   rw [Bool.and_eq_true] at h2
   have h4:∀ i,i<ns.length→bu (ndE ns i)=true∧eN ns i=true:=fun i hi=>by
    have:=List.all_eq_true.1 h2.1 i (List.mem_range.2 hi)
    simpa [Bool.and_eq_true] using this
   exact ⟨by omega,by omega,fun i hi=>(h4 i hi).1,fun i hi=>(h4 i hi).2,h2.2,by omega⟩
 ·exact absurd h (by decide)
theorem cU.kids {ns:List EN} (h:cU ns):∀ i,i<ns.length→(ak (ndE ns i)).all (inB i)=true:=fun i hi=>uS (h.link i hi)
theorem vE {n:EN} (h:bu n=true):n.l.length≤30:=by
 unfold bu ee at h
 simp only [Bool.and_eq_true] at h
 have h1:=h.2.1.2
 split at h1
 ·simp only [Bool.and_eq_true,decide_eq_true_eq] at h1
  exact h1.2.1.2
 ·have:n.l=[]:=by simpa using h1
  rw [this];decide
theorem cU.l {ns:List EN} (h:cU ns):∀ n∈ns,n.l.length≤30:=fun n hn=>by
 obtain ⟨i,hi,rfl⟩:=List.mem_iff_getElem.1 hn
 have:=h.right i hi
 rw [bj hi] at this
 exact vE this
end Go.Proofs.YtejpnabbmgpmaaaGreat

namespace Go.Ab
section
variable {P:Program} {cf:Cf} {ops:Array Oper} {K:St→Ns→Prop} {r:List Oper} {s:St} {ns:Ns}
end
end Go.Ab

namespace Go.Proofs.YtejpnabbmgpmaaaGreat
open Go.Ab
end Go.Proofs.YtejpnabbmgpmaaaGreat

namespace Go.Proofs.YtejpnabbmgpmaaaGreat
open Go.Ab
def tF (n:EN):EN:={ n with l:=n.l.take 60 }
def sC (ns:List EN):List EN:=(ns.take 700).map tF
theorem E9 {G} (ns:List EN) (hl:ns.length≤9223372036854775807) (hll:∀ n∈ns,n.l.length≤9223372036854775807):HP Tryz.prog G 19 [exD ns] (fun r=>r=.d (exD (sC ns))):=by
 unfold exD
 refine bP Tryz.func19 rfl (by decide +kernel) (by simp [Tryz.ntmps19]) (veil fun E=>?_)
 simp only [go_sem]
 refine lG E [3] 0 99 (some 9) [.d .nils] rfl rfl (by rw [aa];decide) ?_
 simp only [go_sem]
 refine aG E (X:={ i:Nat // i≤ns.length∧i≤700 }) (fun x=>[(1,.at [1] 0),(2,.at [2] 0),(3,.at [3] 0),(4,.d (i64 x.1))])
  (fun x=>[([1],.box [.d (.sl (some 9) (ns.map enD))]),([2],.box [.d .nils]),([3],.box [.vw [99] 0 x.1]),([99],.arr (some 9) (((ns.take x.1).map tF).map enD))]) [1,2,3,99] (fun x=>ns.length-x.1) ⟨0,by simp⟩ id ?_ ?_
 ·simp only [go_sem]
  all_goals first | rfl | exact ⟨rfl,rfl⟩
 rintro ⟨i,hi,hi7⟩ E0
 refine aZ E0 fun Q' hQ E'=>?_
 simp only at hi hi7 ⊢
 simp only [go_sem]
 repeat (first
  | (apply gw E';(· simp only [go_sem]);(· intro h;(try simp only [bq] at h);simp only [↓h,go_sem];rfl);simp only [go_sem])
  | (apply cS E';(· simp only [go_sem]);(· intro h;(try simp only [bq] at h);simp only [↓h,go_sem];rfl);(· intro h;(try simp only [bq] at h);simp only [↓h,go_sem];rfl);simp only [go_sem])
  | (apply cL E';(· simp only [go_sem]);(· rfl);(· intro h h';(try simp only [bq] at h h');simp only [↓h,↓h',go_sem];rfl);simp only [go_sem])
  | (apply bG E';(· simp only [go_sem]);(· rfl);(· intro h h';(try simp only [bq] at h h');simp only [↓h,↓h',go_sem];rfl);(· intro h h';(try simp only [bq] at h h');simp only [↓h,↓h',go_sem];rfl);simp only [go_sem])
  | (apply eU E';(· decide);simp only [go_sem]))
 refine aI E' (fun g1=>?_) (fun g1=>?_)<;>simp only [go_sem]
 ·have g2:i<ns.length∧i<700:=by
   simp only [Bool.and_eq_true,decide_eq_true_eq] at g1
   omega
  refine ⟨⟨by omega,by omega⟩,?_⟩
  have hg:=bF g2.1
  have hmn:=hll _ (by rw [bj g2.1];exact List.getElem_mem g2.1:ndE ns i∈ns)
  obtain ⟨n,hne⟩:∃ n,n=ndE ns i:=⟨_,rfl⟩
  rw [← hne] at hg hmn
  rw [hg]
  simp only [go_sem]
  have h60:((0≤if (60:Int)<(n.l.length:Int) then 60 else (n.l.length:Int))∧(if (60:Int)<(n.l.length:Int) then 60 else (n.l.length:Int))≤(n.l.length:Int)):=by split<;>omega
  have ht:List.take ((if (60:Int)<(n.l.length:Int) then 60 else (n.l.length:Int)).toNat-0) (List.map fD n.l)=(n.l.take 60).map fD:=by
   rw [← List.map_take]
   split
   ·rfl
   ·rw [List.take_of_length_le (by omega),List.take_of_length_le (by omega)]
  refine ⟨h60,?_⟩
  rw [ht]
  refine ⟨by rw [List.length_map,List.length_take];omega,?_⟩
  refine jX E' [31] (some 3) ((n.l.take 60).map fD) rfl (by simp only [go_sem];rfl) ?_
  simp only [go_sem]
  refine ⟨by omega,?_⟩
  rw [ao ⟨by omega,by omega⟩]
  rw [show List.take i (List.map enD (List.map tF (List.take i ns)))++[.agg [i64 n.k,i64 n.a,i64 n.b,i64 n.c,i64 n.n,.str n.name,.str n.s,.sl (some 3) ((n.l.take 60).map fD),i64 n.pos]]=((ns.take (i+1)).map tF).map enD by
   rw [List.take_of_length_le (by simp;omega),List.take_succ_eq_append_getElem g2.1,List.map_append,List.map_append,← bj g2.1,← hne];rfl]
  rw [hQ]
  simp only [go_sem]
  refine ⟨⟨i+1,by omega,by omega⟩,by show ns.length-(i+1)<_;omega,tau [([99],[37])],?_⟩
  simp only [go_sem]
  all_goals first | rfl | exact ⟨rfl,rfl⟩
 ·rw [hQ]
  simp only [go_sem]
  refine ⟨[([99],some 9,((ns.take i).map tF).map enD)],?_⟩
  simp only [go_sem]
  have g2:¬ (i<ns.length∧i<700):=by
   rw [Bool.eq_false_iff] at g1
   intro h
   apply g1
   simp only [Bool.and_eq_true,decide_eq_true_eq]
   omega
  rw [List.take_of_length_le (l:=List.map enD _) (by simp;omega)]
  have:ns.take i=ns.take 700:=by
   by_cases h:i=700
   ·rw [h]
   ·rw [List.take_of_length_le (by omega),List.take_of_length_le (by omega)]
  rw [this]
  rfl
end Go.Proofs.YtejpnabbmgpmaaaGreat

namespace Go.Ab
section
variable {P:Program} {cf:Cf} {Q:Exit→St→Prop} {s:St} {k:List It}
theorem su (n cap:Nat) (h:n≤cap) (w:World):(Instr.sliceBounds true n cap none (some (.int .i64 n)) (some (.int .i64 n))).run P w=.ok (0,n,n) w:=by
 have hb:∀ code,(Instr.sliceBound (.int .i64 (n:Int)) cap code).run P w=.ok n w:=fun code=>by
  have:=ij (P:=P) .i64 (n:Int) cap code (by omega) (by omega) w
  simpa using this
 have hc:∀ code,(Instr.sliceBound (.int .i64 (n:Int)) n code).run P w=.ok n w:=fun code=>by
  have:=ij (P:=P) .i64 (n:Int) n code (by omega) (by omega) w
  simpa using this
 simp [Instr.sliceBounds,hb,hc]
theorem FE (E:Eng P cf Q) {d t e:Nat} {x h m:Operand} {ty:TypeId} {pos:String} {af:Array Edge} {wf:W} {xs:List D} (hk:(P.ti t).k=.slice e) (hw:(P.ti e).isW wf=true) (hd:d<cf.n)
  (hx:ev s x=.d (.sl wf xs)) (hh:ev s h=.d (.int .i64 xs.length)) (hm:ev s m=.d (.int .i64 xs.length)) (hr:E.run k (s.put d (.d (.slx wf xs)))) :
  E.stp { dst:=some d,op:=.slice t x none (some h) (some m),type:=ty,pos:=pos,after:=af,guard:=none } s k .no:=by
 refine gM E rfl hd (fun c hc=>by cases hc) (fun B β a w hs=>?_) hr
 have hvx:=hs.ev x
 have hvh:=hs.ev h
 have hvm:=hs.ev m
 rw [hx] at hvx
 rw [hh] at hvh
 rw [hm] at hvm
 obtain ⟨hg,hwd,_⟩:=bB hw
 have hu:=bf hk
 have hrep:=hvx.toD
 obtain ⟨a0,cap,hxv,hcap,hdd⟩:=hrep.qm
 have hb:=su (P:=P) xs.length cap hcap w
 have e1:(Instr.sliceAt t (a.eval x) none (some (a.eval h)) (some (a.eval m))).run P w=.ok (.slice a0 xs.length xs.length) w:=by
  rw [hxv,hvh.int,hvm.int]
  have e2:Option.map (fun x:Addr=>x.add 0) a0=a0:=by
   cases a0 with
   | none=>rfl
   | some q=>cases q;simp [Addr.add]
  simp only [Instr.sliceAt,Instr.slice,Sem.run_bind,run_underlying hu,Result.andThen_ok,hb,run_sizeOf hg,Sem.run_pure,Nat.sub_zero]
  simp only [Nat.zero_mul,e2,ite_self]
 refine ⟨.slice a0 xs.length xs.length,by simp [execOp,e1],.d _ _ (.slx _ _ _ ?_ ⟨a0,rfl⟩)⟩
 by_cases h0:xs=[]
 ·subst h0
  exact .sl0 _ _ _
 ·obtain ⟨b',o,c,e',fz,rfl,hb',hn,hz,hok,hc⟩:=hdd h0
  exact .sl b' o xs.length c e' fz wf xs hb' hn (Nat.le_refl _) hz hok hc
theorem Ew (E:Eng P cf Q) {d t e:Nat} {x y:Operand} {ty:TypeId} {pos:String} {af:Array Edge} {xs ys:List D} (hk:(P.ti t).k=.slice e) (hz:(P.ti e).zOk=true) (hw:(P.ti e).isW (P.ti e).w=true)
  (hd:d<cf.n∧d ∉ s.used) (hx:ev s x=.d (.slx (P.ti e).w xs)) (hy:bo (P.ti e).w s.hp (ev s y)=some ys) (h0:0<ys.length) (hl:(xs.length+ys.length)*(P.ti e).by1≤140737488355328)
  (h:E.run k ((s.add d (.arr (P.ti e).w (xs++ys))).put d (.vw [d] 0 (xs.length+ys.length)))) :
  E.stp { dst:=some d,op:=.call { callee:=.builtin .append,args:=#[x,y],argTypes:=#[t,t] },type:=ty,pos:=pos,after:=af,guard:=none } s k .no:=by
 rw [aB]
 rw [E.run_eq] at h
 intro B hB ds β a w hds hs Q'
 have hvx:=hs.ev x
 have hvy:=hs.ev y
 rw [hx] at hvx
 obtain ⟨hg,hwd,_⟩:=bB hw
 obtain ⟨z,hz,hzl⟩:∃ z,(P.ti e).z=some z∧z.length=(P.ti e).sz:=by
  unfold TI.zOk at hz
  split at hz
  ·rename_i z h1;exact ⟨z,h1,by simpa using hz⟩
  ·cases hz
 obtain ⟨zv,hr,hm,it,hi,hiz,his,hib⟩:=eB hz
 have hu:=bf hk
 have hby:(xs.length+ys.length)*it.bytes≤140737488355328∧xs.length+ys.length≤140737488355328:=by
  unfold TI.by1 at hl
  rw [hib]
  split at hl
  ·rename_i h0;rw [h0];simp at hl ⊢;exact hl
  ·exact ⟨hl,Nat.le_trans (Nat.le_mul_of_pos_right _ (by omega)) hl⟩
 have hrep:=hvx.toD
 obtain ⟨hsl,a0,hxv⟩:Rep w.heap (s.own B.A β) (a.eval x) (.sl (P.ti e).w xs)∧∃ a0,a.eval x=.slice a0 xs.length xs.length:=by
  generalize a.eval x=v at hrep
  cases hrep with
  | slx _ _ _ h1 h2=>exact ⟨h1,h2⟩
 obtain ⟨olds,hsx⟩:=cM (P:=P) hs (y:=.d (.sl (P.ti e).w xs)) (.d _ _ hsl) (wf:=(P.ti e).w) (ys:=xs) (by simp [bo])
 obtain ⟨news,hsy⟩:=cM (P:=P) hs hvy hy
 obtain ⟨nc,hnc,hrun⟩:=dk (P:=P) (t:=t) hu hi hiz ty (by rw [his,hwd]) hsx hsy hxv (by omega) hby.1 hby.2
 obtain ⟨r1,r2⟩:=kJ hsx hsy (Builtin.zeroCells zv.cells (nc-(xs.length+ys.length)))
 have hzs:zv.cells.size=wd (P.ti e).w:=by
  have:=(gi (H:=w.heap) (own:=s.own B.A β) hm).1
  simp at this;omega
 have hsz:(olds.toArray++news.toArray++Builtin.zeroCells zv.cells (nc-(xs.length+ys.length))).size=nc*wd (P.ti e).w:=by
  simp only [Array.size_append,List.size_toArray,hsx.size,hsy.size,size_zeroCells,hzs,← Nat.add_mul];congr 1;omega
 have hdn:d<B.n:=by rw [hB.1];exact hd.1
 have hnew:=dU (hs.lM (w':=w.drew) rfl rfl) hdn hd.2 (c:=olds.toArray++news.toArray++Builtin.zeroCells zv.cells (nc-(xs.length+ys.length))) (wf:=(P.ti e).w) (xs:=xs++ys) (cap:=nc) (by simpa using hnc)
  (by rw [hsz];exact Nat.le_refl _) r1 (fun i x j d hi hj=>r2 i x j d hi hj) e none rfl
 obtain ⟨β',hsim⟩:=hnew
 rw [List.length_append] at hsim
 exact az (v:=.slice (some ⟨w.heap.size,0,none⟩) (xs.length+ys.length) nc) (by simp) (by simp [execOp,resolve,invoke,builtin,hrun]) (.inl rfl) ⟨hds,_,β',aJ h,hsim⟩
end
end Go.Ab

namespace Go.Proofs.YtejpnabbmgpmaaaGreat
open Go.Ab
end Go.Proofs.YtejpnabbmgpmaaaGreat

namespace Go.Proofs.YtejpnabbmgpmaaaGreat
open Go.Ab
end Go.Proofs.YtejpnabbmgpmaaaGreat

namespace Go.Ab
section
variable {P:Program} {cf:Cf} {k:List It} {s:St} {Φ:Exit→Act→World→Prop} {I:Base→List Deferred→Prop}
end
section
variable {P:Program} {cf:Cf} {N:Nat} {xs:Nat→List D} {z:Itz} {k:List It} {s:St}
end
end Go.Ab

namespace Go.Proofs.YtejpnabbmgpmaaaGreat
open Go.Ab
end Go.Proofs.YtejpnabbmgpmaaaGreat

namespace Go.Proofs.YtejpnabbmgpmaaaGreat
open Go.Ab
theorem bm {ns:List EN} (h:cU ns):∀ i,i<ns.length→(ak (ndE ns i)).all (inB i)=true:=fun i hi=>by
 have:=h.link i hi
 unfold eN at this
 exact (Bool.and_eq_true_iff.1 this).1
end Go.Proofs.YtejpnabbmgpmaaaGreat

namespace Go.Proofs.YtejpnabbmgpmaaaGreat
open Go.Ab
def xQ (ks:List Int) (j:Nat) (p:List Int):List Int:=ks.foldl (fun p k=>p.set k.toNat (j:Int)) p
def nR (ns:List EN):Nat→List Int
 | 0=>List.replicate ns.length 0
 | j+1=>xQ (ak (ndE ns j)) j (nR ns j)
def As (ns:List EN):List Int:=(nR ns ns.length).set (ns.length-1) (-1)
theorem ym (ks:List Int) (j:Nat):∀ p:List Int,(xQ ks j p).length=p.length:=by
 unfold xQ
 induction ks with
 | nil=>intro p;rfl
 | cons k r ih=>intro p;rw [List.foldl_cons,ih,List.length_set]
theorem md (ns:List EN):∀ j,(nR ns j).length=ns.length
 | 0=>by simp [nR]
 | j+1=>by rw [nR,ym,md ns j]
end Go.Proofs.YtejpnabbmgpmaaaGreat

namespace Go.Proofs.YtejpnabbmgpmaaaGreat
open Go.Ab
theorem rI {j k:Nat}:∀ {ks p:List Int},k<p.length→(∀ x∈ks,0≤x)→(xQ ks j p).getD k 0=if (k:Int)∈ks then (j:Int) else p.getD k 0
 | [],p,_,_=>by simp [xQ]
 | x::r,p,hk,hx=>by
   show (xQ r j (p.set x.toNat j)).getD k 0=_
   rw [rI (by rw [List.length_set];exact hk) (fun y hy=>hx y (List.mem_cons_of_mem _ hy))]
   have hx0:=hx x List.mem_cons_self
   by_cases h1:(k:Int)∈r
   ·rw [if_pos h1,if_pos (List.mem_cons_of_mem _ h1)]
   rw [if_neg h1]
   by_cases h2:(k:Int)=x
   ·rw [if_pos (by rw [h2];exact List.mem_cons_self)]
    have:x.toNat=k:=by omega
    rw [this]
    simp [hk]
   ·rw [if_neg (by simp [h1,h2])]
    have:x.toNat≠k:=by omega
    simp [List.getD_eq_getElem?_getD,List.getElem?_set_ne this]
theorem aQ {ns:List EN} (hk:∀ i,i<ns.length→(ak (ndE ns i)).all (inB i)=true) {i:Nat} (hi:i<ns.length):∀ x∈ak (ndE ns i),0≤x∧x<(i:Int):=fun x hx=>by
 have:=List.all_eq_true.1 (hk i hi) x hx
 simpa [inB] using this
theorem sF {ns:List EN} (hk:∀ i,i<ns.length→(ak (ndE ns i)).all (inB i)=true) {k:Nat} (h:k<ns.length):∀ i,i≤ns.length→(∀ j,j<i→(k:Int) ∉ ak (ndE ns j))∨∃ j:Nat,j<i∧(k:Int)∈ak (ndE ns j)∧(nR ns i).getD k 0=(j:Int)
 | 0,_=>.inl fun j hj=>absurd hj (Nat.not_lt_zero _)
 | i+1,hi=>by
   have hg:(nR ns (i+1)).getD k 0=if (k:Int)∈ak (ndE ns i) then (i:Int) else (nR ns i).getD k 0:=rI (by rw [md];exact h) (fun x hx=>(aQ hk (by omega) x hx).1)
   by_cases h1:(k:Int)∈ak (ndE ns i)
   ·rw [if_pos h1] at hg
    exact .inr ⟨i,by omega,h1,hg⟩
   ·rw [if_neg h1] at hg
    rcases sF hk h i (by omega) with h2 | ⟨j,h2,h3,h4⟩
    ·refine .inl fun j hj=>?_
     rcases Nat.lt_or_ge j i with h3 | h3
     ·exact h2 j h3
     ·rw [show j=i by omega];exact h1
    ·exact .inr ⟨j,by omega,h3,hg.trans h4⟩
theorem vi {ns:List EN} (ht:cU ns) {k:Nat} (h:k<ns.length):(k=ns.length-1∧(As ns).getD k 0 = -1)∨∃ j:Nat,k<j∧j<ns.length∧(k:Int)∈ak (ndE ns j)∧(As ns).getD k 0=(j:Int):=by
 have hk:=bm ht
 unfold As
 by_cases hl:k=ns.length-1
 ·refine .inl ⟨hl,?_⟩
  rw [← hl]
  simp [List.getD_eq_getElem?_getD,md,h]
 refine .inr ?_
 have hne:ns.length-1≠k:=fun e=>hl e.symm
 rw [show ((nR ns ns.length).set (ns.length-1) (-1)).getD k 0=(nR ns ns.length).getD k 0 by
  simp [List.getD_eq_getElem?_getD,List.getElem?_set_ne hne]]
 rcases sF hk h ns.length (Nat.le_refl _) with h2 | ⟨j,h2,h3,h4⟩
 ·exfalso
  have hc:=List.all_eq_true.1 ht.once k (by simp;omega)
  have hc2:rZ ns k=1:=by simpa using hc
  unfold rZ at hc2
  obtain ⟨x,hx,hxk⟩:=List.countP_pos_iff.1 (by omega:0<List.countP (fun x=>decide (x=(k:Int))) (ns.flatMap ak))
  obtain ⟨n,hn,hxn⟩:=List.mem_flatMap.1 hx
  obtain ⟨j,hj,hjn⟩:=List.getElem_of_mem hn
  have hxk2:x=(k:Int):=by simpa using hxk
  refine h2 j hj ?_
  rw [bj hj,hjn,← hxk2]
  exact hxn
 ·exact ⟨j,by have:=(aQ hk h2 _ h3).2;omega,h2,h3,h4⟩
end Go.Proofs.YtejpnabbmgpmaaaGreat

namespace Go.Proofs.YtejpnabbmgpmaaaGreat
open Go.Ab
end Go.Proofs.YtejpnabbmgpmaaaGreat

namespace Go.Proofs.YtejpnabbmgpmaaaGreat
open Go.Ab
end Go.Proofs.YtejpnabbmgpmaaaGreat

namespace Go.Proofs.YtejpnabbmgpmaaaGreat
open Go.Ab
theorem kA {α:Type} {l:List α} {f:α→List Int} {p:Int→Bool} {j:Nat} (hj:j<l.length):(l.flatMap f).countP p=((l.take j).flatMap f).countP p+((f l[j]).countP p+((l.drop (j+1)).flatMap f).countP p):=by
 have:l.flatMap f=(l.take j).flatMap f++(f l[j]++(l.drop (j+1)).flatMap f):=by
  rw [← List.flatMap_cons,← List.drop_eq_getElem_cons hj,← List.flatMap_append,List.take_append_drop]
 rw [this,List.countP_append,List.countP_append]
theorem uO {ns:List EN} (ht:cU ns) {k:Nat} (h:k<ns.length-1):rZ ns k=1:=by
 have hc:=List.all_eq_true.1 ht.once k (by simp;omega)
 simpa using hc
theorem zj {ns:List EN} (ht:cU ns) {i k:Nat} (hi:i<ns.length) (h:k<ns.length-1):(ak (ndE ns i)).countP (fun x=>decide (x=(k:Int)))≤1:=by
 have h1:=uO ht h
 unfold rZ at h1
 rw [kA hi,← bj hi] at h1
 omega
theorem vu {ns:List EN} (ht:cU ns) {i j k:Nat} (hi:i<j) (hj:j<ns.length) (h1:(k:Int)∈ak (ndE ns i)) (h2:(k:Int)∈ak (ndE ns j)):False:=by
 have hk:=(aQ (bm ht) (show i<ns.length by omega) _ h1).2
 have h3:=uO ht (k:=k) (by omega)
 unfold rZ at h3
 rw [kA hj,← bj hj] at h3
 have h4:0<((ns.take j).flatMap ak).countP (fun x=>decide (x=(k:Int))):=by
  refine List.countP_pos_iff.2 ⟨k,List.mem_flatMap.2 ⟨ndE ns i,?_,h1⟩,by simp⟩
  rw [bj (show i<ns.length by omega)]
  exact List.mem_take_iff_getElem.2 ⟨i,by omega,rfl⟩
 have h5:0<(ak (ndE ns j)).countP (fun x=>decide (x=(k:Int))):=List.countP_pos_iff.2 ⟨k,h2,by simp⟩
 omega
theorem qa {ns:List EN} (ht:cU ns) {i k:Nat} (hi:i<ns.length) (h:(k:Int)∈ak (ndE ns i)):(As ns).getD k 0=(i:Int):=by
 have hk:=(aQ (bm ht) hi _ h).2
 rcases vi ht (k:=k) (by omega) with ⟨h1,_⟩ | ⟨j,_,h2,h3,h4⟩
 ·omega
 ·rw [h4]
  rcases Nat.lt_trichotomy i j with h5 | h5 | h5
  ·exact (vu ht h5 h2 h h3).elim
  ·rw [h5]
  ·exact (vu ht h5 hi h3 h).elim
end Go.Proofs.YtejpnabbmgpmaaaGreat

namespace Go.Proofs.YtejpnabbmgpmaaaGreat
open Go.Ab
theorem jK {ns:List EN} {m:Nat} {i x:Int}:x∈cK ns (m+1) i↔(∃ k∈ak (ndE ns i.toNat),x∈cK ns m k)∨x=i:=by
 show x∈(ak (ndE ns i.toNat)).flatMap (cK ns m)++[i]↔_
 rw [List.mem_append,List.mem_flatMap,List.mem_singleton]
end Go.Proofs.YtejpnabbmgpmaaaGreat

namespace Go.Proofs.YtejpnabbmgpmaaaGreat
open Go.Ab
theorem CH {L:List Int} {x:Int} (h:L.countP (fun y=>decide (y=x))≤1) {j j':Nat} (hjj:j<j') (h1:L[j]?=some x) (h2:L[j']?=some x):False:=by
 have h3:L.countP (fun y=>decide (y=x))=(L.take j').countP (fun y=>decide (y=x))+(L.drop j').countP (fun y=>decide (y=x)):=by
  rw [← List.countP_append,List.take_append_drop]
 obtain ⟨hl2,he2⟩:=List.getElem?_eq_some_iff.1 h2
 obtain ⟨hl1,he1⟩:=List.getElem?_eq_some_iff.1 h1
 have h4:0<(L.take j').countP (fun y=>decide (y=x)):=List.countP_pos_iff.2 ⟨x,List.mem_take_iff_getElem.2 ⟨j,by omega,he1⟩,by simp⟩
 have h5:0<(L.drop j').countP (fun y=>decide (y=x)):=List.countP_pos_iff.2 ⟨x,by rw [List.drop_eq_getElem_cons hl2,he2];exact List.mem_cons_self,by simp⟩
 omega
theorem ug {n:EN} (h:n.k=14):ak n=n.a::n.l.map (·.to):=by unfold ak aP aU;simp [h]
end Go.Proofs.YtejpnabbmgpmaaaGreat

namespace Go.Proofs.YtejpnabbmgpmaaaGreat
open Go.Ab
end Go.Proofs.YtejpnabbmgpmaaaGreat

namespace Go.Proofs.YtejpnabbmgpmaaaGreat
open Go.Ab
theorem qL {ns:List EN} (hk:∀ i,i<ns.length→(ak (ndE ns i)).all (inB i)=true) {j:Nat} {x:Int} (hx:x∈ak (ndE ns j)):∀ (m i:Nat),i<m→i<ns.length→(j:Int)∈cK ns m i→x∈cK ns m i
 | 0,_,h,_,_=>absurd h (Nat.not_lt_zero _)
 | m+1,i,him,hi,hj=>by
   rw [jK] at hj ⊢
   simp only [Int.toNat_natCast] at hj ⊢
   rcases hj with ⟨c,hc,hjc⟩ | hj
   ·obtain ⟨h1,h2⟩:=aQ hk hi c hc
    obtain ⟨c,rfl⟩:∃ k:Nat,c=(k:Int):=⟨c.toNat,by omega⟩
    exact .inl ⟨_,hc,qL hk hx m c (by omega) (by omega) hjc⟩
   ·have:j=i:=by omega
    subst this
    refine .inl ⟨x,hx,?_⟩
    obtain ⟨h1,h2⟩:=aQ hk hi x hx
    cases m with
    | zero=>omega
    | succ m=>exact jK.2 (.inr rfl)
end Go.Proofs.YtejpnabbmgpmaaaGreat

namespace Go.Proofs.YtejpnabbmgpmaaaGreat
open Go.Ab
end Go.Proofs.YtejpnabbmgpmaaaGreat

namespace Go.Proofs.YtejpnabbmgpmaaaGreat
open Go.Ab
end Go.Proofs.YtejpnabbmgpmaaaGreat

namespace Go.Proofs.YtejpnabbmgpmaaaGreat
open Go.Ab
end Go.Proofs.YtejpnabbmgpmaaaGreat

namespace Go.Proofs.YtejpnabbmgpmaaaGreat
open Go.Ab
theorem gJ {ns:List EN} (hk:∀ i,i<ns.length→(ak (ndE ns i)).all (inB i)=true):∀ (m i:Nat),i<ns.length→∀ x∈cK ns m i,0≤x∧x≤(i:Int)
 | 0,_,_,_,h=>by cases h
 | m+1,i,hi,x,h=>by
   rw [jK] at h
   simp only [Int.toNat_natCast] at h
   rcases h with ⟨c,hc,h⟩ | h
   ·obtain ⟨h1,h2⟩:=aQ hk hi c hc
    obtain ⟨c,rfl⟩:∃ k:Nat,c=(k:Int):=⟨c.toNat,by omega⟩
    have:=gJ hk m c (by omega) x h
    omega
   ·omega
theorem jw {ns:List EN} (ht:cU ns):∀ (m i:Nat),i<ns.length→∀ x:Nat,(x:Int)∈cK ns m i→x≠i→(As ns).getD x 0∈cK ns m i
 | 0,_,_,_,h,_=>by cases h
 | m+1,i,hi,x,h,hne=>by
   rw [jK] at h ⊢
   simp only [Int.toNat_natCast] at h ⊢
   rcases h with ⟨c,hc,h⟩ | h
   ·obtain ⟨h1,h2⟩:=aQ (bm ht) hi c hc
    obtain ⟨c,rfl⟩:∃ k:Nat,c=(k:Int):=⟨c.toNat,by omega⟩
    by_cases hxc:x=c
    ·subst hxc
     exact .inr (qa ht hi hc)
    ·exact .inl ⟨_,hc,jw ht m c (by omega) x h hxc⟩
   ·omega
theorem oX {ns:List EN} (ht:cU ns) {m i c d:Nat} (hi:i<ns.length) (hc:(c:Int)∈ak (ndE ns i)) (hd:(d:Int)∈ak (ndE ns i)) (hcd:c≠d):∀ (f x:Nat),i≤x+f→(x:Int)∈cK ns m c→(x:Int)∈cK ns m d→False
 | f,x,hf,h1,h2=>by
   have hk:=bm ht
   have hci:=(aQ hk hi _ hc).2
   have hdi:=(aQ hk hi _ hd).2
   have hxc:=(gJ hk m c (by omega) _ h1).2
   have hxd:=(gJ hk m d (by omega) _ h2).2
   by_cases e1:x=c
   ·subst e1
    have:=jw ht m d (by omega) x h2 hcd
    rw [qa ht hi hc] at this
    have:=(gJ hk m d (by omega) _ this).2
    omega
   by_cases e2:x=d
   ·subst e2
    have:=jw ht m c (by omega) x h1 (fun e=>hcd e.symm)
    rw [qa ht hi hd] at this
    have:=(gJ hk m c (by omega) _ this).2
    omega
   have p1:=jw ht m c (by omega) x h1 e1
   have p2:=jw ht m d (by omega) x h2 e2
   rcases vi ht (k:=x) (by omega) with ⟨h3,_⟩ | ⟨j,h3,_,_,h4⟩
   ·omega
   ·rw [h4] at p1 p2
    cases f with
    | zero=>omega
    | succ f=>exact oX ht hi hc hd hcd f j (by omega) p1 p2
theorem tA {ns:List EN} (ht:cU ns) {i:Nat} (hi:i<ns.length):(ak (ndE ns i)).Nodup:=by
 refine List.pairwise_iff_getElem.2 fun a b ha hb hab e=>?_
 have hm:=List.getElem_mem ha
 obtain ⟨h1,h2⟩:=aQ (bm ht) hi _ hm
 have hon:=zj ht (k:=((ak (ndE ns i))[a]).toNat) hi (by omega)
 rw [Int.toNat_of_nonneg h1] at hon
 exact CH hon hab (List.getElem?_eq_getElem ha) (by rw [List.getElem?_eq_getElem hb,e])
theorem ov {ns:List EN} (ht:cU ns):∀ (m i:Nat),i<ns.length→(cK ns m i).Nodup
 | 0,_,_=>List.Pairwise.nil
 | m+1,i,hi=>by
   have hk:=bm ht
   show (((ak (ndE ns (i:Int).toNat)).flatMap (cK ns m))++[(i:Int)]).Nodup
   rw [Int.toNat_natCast]
   refine List.pairwise_append.2 ⟨List.pairwise_flatMap.2 ⟨fun c hc=>?_,?_⟩,List.pairwise_singleton _ _,?_⟩
   ·obtain ⟨h1,h2⟩:=aQ hk hi c hc
    obtain ⟨c,rfl⟩:∃ k:Nat,c=(k:Int):=⟨c.toNat,by omega⟩
    exact ov ht m c (by omega)
   ·refine (tA ht hi).imp_of_mem fun {c d} hc hd hcd x hx y hy e=>?_
    subst e
    obtain ⟨h1,h2⟩:=aQ hk hi c hc
    obtain ⟨h3,h4⟩:=aQ hk hi d hd
    obtain ⟨c,rfl⟩:∃ k:Nat,c=(k:Int):=⟨c.toNat,by omega⟩
    obtain ⟨d,rfl⟩:∃ k:Nat,d=(k:Int):=⟨d.toNat,by omega⟩
    have hx0:=(gJ hk m c (by omega) _ hx).1
    obtain ⟨x,rfl⟩:∃ k:Nat,x=(k:Int):=⟨x.toNat,by omega⟩
    exact oX ht hi hc hd (by omega) i x (by omega) hx hy
   ·intro x hx y hy e
    rw [List.mem_singleton] at hy
    obtain ⟨c,hc,hxc⟩:=List.mem_flatMap.1 hx
    obtain ⟨h1,h2⟩:=aQ hk hi c hc
    obtain ⟨c,rfl⟩:∃ k:Nat,c=(k:Int):=⟨c.toNat,by omega⟩
    have:=(gJ hk m c (by omega) _ hxc).2
    omega
end Go.Proofs.YtejpnabbmgpmaaaGreat

namespace Go.Proofs.YtejpnabbmgpmaaaGreat
open Go.Ab
theorem mZ {α β:Type} {f g:α→List β}:∀ {l:List α},(∀ a∈l,f a=g a)→l.flatMap f=l.flatMap g
 | [],_=>rfl
 | x::r,h=>by rw [List.flatMap_cons,List.flatMap_cons,h x List.mem_cons_self,mZ (fun a ha=>h a (List.mem_cons_of_mem _ ha))]
theorem qJ {ns:List EN} (hk:∀ i,i<ns.length→(ak (ndE ns i)).all (inB i)=true):∀ (m m' i:Nat),i<m→i<m'→i<ns.length→cK ns m i=cK ns m' i
 | 0,_,_,h,_,_=>absurd h (Nat.not_lt_zero _)
 | _+1,0,_,_,h,_=>absurd h (Nat.not_lt_zero _)
 | m+1,m'+1,i,h1,h2,hi=>by
   show (ak (ndE ns (i:Int).toNat)).flatMap (cK ns m)++[(i:Int)]=(ak (ndE ns (i:Int).toNat)).flatMap (cK ns m')++[(i:Int)]
   rw [Int.toNat_natCast,mZ (fun c hc=>?_)]
   obtain ⟨h3,h4⟩:=aQ hk hi c hc
   obtain ⟨c,rfl⟩:∃ k:Nat,c=(k:Int):=⟨c.toNat,by omega⟩
   exact qJ hk m m' c (by omega) (by omega) (by omega)
end Go.Proofs.YtejpnabbmgpmaaaGreat

namespace Go.Proofs.YtejpnabbmgpmaaaGreat
open Go.Ab
def dL (ns:List EN) (i:Nat):List Int:=cK ns ns.length (i:Int)
def sbE (ns:List EN) (i:Nat):List EN:=(dL ns i).map (tc ns (dL ns i))
theorem qH {ns:List EN} (ht:cU ns) {i:Nat} (hi:i<ns.length):dL ns i=(ak (ndE ns i)).flatMap (cK ns ns.length)++[(i:Int)]:=by
 have hk:=bm ht
 obtain ⟨m,hm⟩:∃ m,ns.length=m+1:=⟨ns.length-1,by omega⟩
 unfold dL
 rw [hm]
 show (ak (ndE ns (i:Int).toNat)).flatMap (cK ns m)++[(i:Int)]=_
 rw [Int.toNat_natCast,mZ (fun c hc=>?_)]
 obtain ⟨h1,h2⟩:=aQ hk hi c hc
 obtain ⟨c,rfl⟩:∃ k:Nat,c=(k:Int):=⟨c.toNat,by omega⟩
 exact qJ hk m (m+1) c (by omega) (by omega) (by omega)
theorem tT {ns:List EN} (ht:cU ns) {i:Nat} (hi:i<ns.length):(dL ns i).Nodup:=ov ht _ _ hi
theorem yh {ns:List EN} {i:Nat} (hi:i<ns.length):(i:Int)∈dL ns i:=by
 obtain ⟨m,hm⟩:∃ m,ns.length=m+1:=⟨ns.length-1,by omega⟩
 unfold dL
 rw [hm]
 exact jK.2 (.inr rfl)
theorem AQ {ns:List EN} (ht:cU ns) {i:Nat} (hi:i<ns.length) {x:Int} (hx:x∈dL ns i):0≤x∧x≤(i:Int):=gJ (bm ht) _ _ hi x hx
theorem Ac {ns:List EN} (ht:cU ns) {i x:Nat} (hi:i<ns.length) (hx:(x:Int)∈dL ns i) {k:Int} (hk:k∈ak (ndE ns x)):k∈dL ns i:=qL (bm ht) hk _ _ hi hi hx
theorem s8 {n:EN} {ks:List Int} (p:Nat) (h:ks.length=bD n):aE p (aK n ks)=aK n (ks.map fun x:Int=>x+p):=by
 unfold aE
 rw [fw h,iC (by rw [List.length_map,h];exact Nat.le_refl _)]
theorem yM {ns:List EN} (ht:cU ns):∀ (ks P Q W rs:List Int),W=P++(ks.flatMap (cK ns ns.length)++Q)→W.Nodup→(∀ k∈ks,0≤k∧k<(ns.length:Int)) →
  bC (ks.map fun k=>sbE ns k.toNat) (P.map (tc ns W)) rs=((P++ks.flatMap (cK ns ns.length)).map (tc ns W),rs++ks.map (fun k=>(W.idxOf k:Int)))
 | [],P,Q,W,rs,_,_,_=>by simp [bC]
 | k::r,P,Q,W,rs,hW,hnd,hk=>by
   obtain ⟨h1,h2⟩:=hk k List.mem_cons_self
   obtain ⟨k,rfl⟩:∃ q:Nat,k=(q:Int):=⟨k.toNat,by omega⟩
   have hkl:k<ns.length:=by omega
   have hW2:W=P++(dL ns k++(r.flatMap (cK ns ns.length)++Q)):=by
    rw [hW,List.flatMap_cons]
    unfold dL
    simp only [List.append_assoc]
   have hnP:∀ c∈dL ns k,c ∉ P:=fun c hc hp=>by
    rw [hW2] at hnd
    exact (List.nodup_append.1 hnd).2.2 c hp c (List.mem_append_left _ hc) rfl
   have hix:∀ c∈dL ns k,W.idxOf c=P.length+(dL ns k).idxOf c:=fun c hc=>by
    rw [hW2,List.idxOf_append,if_neg (hnP c hc),List.idxOf_append,if_pos hc,Nat.add_comm]
   have key1:(sbE ns k).map (aE (P.map (tc ns W)).length)=(dL ns k).map (tc ns W):=by
    unfold sbE
    rw [List.map_map,List.length_map]
    refine List.map_congr_left fun x hx=>?_
    have hxi:=AQ ht hkl hx
    obtain ⟨x,rfl⟩:∃ q:Nat,x=(q:Int):=⟨x.toNat,by omega⟩
    show aE P.length (aK (ndE ns (x:Int).toNat) _)=aK (ndE ns (x:Int).toNat) _
    rw [s8 _ (by rw [List.length_map,bx]),List.map_map]
    congr 1
    refine List.map_congr_left fun c hc=>?_
    rw [Int.toNat_natCast] at hc
    show ((dL ns k).idxOf c:Int)+(P.length:Int)=(W.idxOf c:Int)
    rw [hix c (Ac ht hkl hx hc)]
    omega
   have key2:((((P.map (tc ns W)).length+(sbE ns k).length:Nat):Int)-1)=(W.idxOf (k:Int):Int):=by
    have hb:=qH ht hkl
    have hno:(k:Int) ∉ (ak (ndE ns k)).flatMap (cK ns ns.length):=fun hm=>by
     have:=tT ht hkl
     rw [hb] at this
     exact (List.nodup_append.1 this).2.2 _ hm _ (List.mem_singleton_self _) rfl
    rw [hix _ (yh hkl)]
    have h3:(dL ns k).idxOf (k:Int)=((ak (ndE ns k)).flatMap (cK ns ns.length)).length:=by
     rw [hb,List.idxOf_append,if_neg hno]
     simp
    have h4:(sbE ns k).length=((ak (ndE ns k)).flatMap (cK ns ns.length)).length+1:=by
     unfold sbE
     rw [List.length_map,hb,List.length_append]
     rfl
    rw [h3,h4,List.length_map]
    omega
   rw [List.map_cons,bC,Int.toNat_natCast,key1,← List.map_append,key2]
   rw [yM ht r (P++dL ns k) Q W _ (by rw [hW2];simp only [List.append_assoc]) hnd (fun c hc=>hk c (List.mem_cons_of_mem _ hc))]
   rw [List.flatMap_cons,List.map_cons]
   unfold dL
   simp only [List.append_assoc,List.singleton_append]
theorem Dn {ns:List EN} (ht:cU ns) {i:Nat} (hi:i<ns.length):sbE ns i=ax (ndE ns i) ((ak (ndE ns i)).map fun k=>sbE ns k.toNat):=by
 have hb:=qH ht hi
 have hc:=yM ht (ak (ndE ns i)) [] [(i:Int)] (dL ns i) [] (by rw [hb];rfl) (tT ht hi) (fun k hk=>by have:=aQ (bm ht) hi k hk;exact ⟨this.1,by omega⟩)
 rw [List.map_nil] at hc
 unfold ax
 rw [hc]
 show (dL ns i).map (tc ns (dL ns i))=_
 conv=>lhs;rw [hb]
 rw [List.map_append,← hb]
 rfl
inductive RT where
 | mk (n:EN) (ts:List RT)
mutual
def RT.enc:RT→List EN
 | .mk n ts=>ax n (RT.encs ts)
def RT.encs:List RT→List (List EN)
 | []=>[]
 | t::r=>t.enc::RT.encs r
end
theorem np:∀ ts:List RT,RT.encs ts=ts.map RT.enc
 | []=>rfl
 | t::r=>by rw [RT.encs,np r];rfl
def can (n:EN):EN:=aK n (List.replicate (bD n) 0)
theorem AJ {n:EN} {ks:List Int} (h:bD n≤ks.length):aK (can n) ks=aK n ks:=iC h
theorem y4 (ls:List (List EN)):(bC ls [] []).2.length=ls.length:=by
 obtain ⟨X,Y,e,h⟩:=iw ls [] []
 rw [e]
 simpa using h
theorem A5 {n:EN} {ls:List (List EN)} (h:bD n≤ls.length):ax (can n) ls=ax n ls:=by
 unfold ax
 rw [AJ (by rw [y4];exact h)]
def rtE (ns:List EN):Nat→Int→RT
 | 0,_=>.mk (can (ndE [] 0)) []
 | m+1,i=>.mk (can (ndE ns i.toNat)) ((ak (ndE ns i.toNat)).map (rtE ns m))
theorem Aw {ns:List EN} (ht:cU ns):∀ (m i:Nat),i<m→i<ns.length→(rtE ns m i).enc=sbE ns i
 | 0,_,h,_=>absurd h (Nat.not_lt_zero _)
 | m+1,i,him,hi=>by
   rw [rtE,RT.enc,Int.toNat_natCast,np,List.map_map,A5 (by rw [List.length_map,bx];exact Nat.le_refl _),Dn ht hi]
   congr 1
   refine List.map_congr_left fun k hk=>?_
   obtain ⟨h1,h2⟩:=aQ (bm ht) hi k hk
   obtain ⟨k,rfl⟩:∃ q:Nat,k=(q:Int):=⟨k.toNat,by omega⟩
   show (rtE ns m k).enc=_
   rw [Int.toNat_natCast]
   exact Aw ht m k (by omega) (by omega)
theorem vR {ns:List EN} (hk:∀ i,i<ns.length→(ak (ndE ns i)).all (inB i)=true):∀ (m m' i:Nat),i<m→i<m'→i<ns.length→rtE ns m i=rtE ns m' i
 | 0,_,_,h,_,_=>absurd h (Nat.not_lt_zero _)
 | _+1,0,_,_,h,_=>absurd h (Nat.not_lt_zero _)
 | m+1,m'+1,i,h1,h2,hi=>by
   rw [rtE,rtE,Int.toNat_natCast]
   congr 1
   refine List.map_congr_left fun k hkk=>?_
   obtain ⟨h3,h4⟩:=aQ hk hi k hkk
   obtain ⟨k,rfl⟩:∃ q:Nat,k=(q:Int):=⟨k.toNat,by omega⟩
   exact vR hk m m' k (by omega) (by omega) (by omega)
def trE (ns:List EN) (i:Nat):RT:=rtE ns ns.length i
theorem FG {ns:List EN} (hk:∀ i,i<ns.length→(ak (ndE ns i)).all (inB i)=true) {i:Nat} (hi:i<ns.length):trE ns i=.mk (can (ndE ns i)) ((ak (ndE ns i)).map fun k=>trE ns k.toNat):=by
 unfold trE
 obtain ⟨m,hm⟩:∃ m,ns.length=m+1:=⟨ns.length-1,by omega⟩
 conv=>lhs;rw [hm]
 rw [rtE,Int.toNat_natCast]
 congr 1
 refine List.map_congr_left fun k hkk=>?_
 obtain ⟨h3,h4⟩:=aQ hk hi k hkk
 obtain ⟨k,rfl⟩:∃ q:Nat,k=(q:Int):=⟨k.toNat,by omega⟩
 rw [Int.toNat_natCast]
 exact vR hk m ns.length k (by omega) (by omega) (by omega)
theorem Ev {ns:List EN} (ht:cU ns) {i:Nat} (hi:i<ns.length):(trE ns i).enc=sbE ns i:=Aw ht _ _ hi hi
end Go.Proofs.YtejpnabbmgpmaaaGreat

namespace Go.Proofs.YtejpnabbmgpmaaaGreat
open Go.Ab
mutual
def RT.ok:RT→Prop
 | .mk n ts=>(bD n=ts.length∧can n=n)∧RT.oks ts
def RT.oks:List RT→Prop
 | []=>True
 | t::r=>t.ok∧RT.oks r
end
end Go.Proofs.YtejpnabbmgpmaaaGreat

namespace Go.Proofs.YtejpnabbmgpmaaaGreat
open Go.Ab
theorem kq {β:Type} (g:EF→β) (hg:∀ (f:EF) (v:Int),g { f with to:=v }=g f) (ks:List Int) (o:Nat):∀ (l:List EF) (i:Nat),(aO ks o l i).map g=l.map g
 | [],_=>rfl
 | f::r,i=>by
   rw [aO,List.map_cons,List.map_cons,kq g hg ks o r (i+1)]
   split
   ·rw [hg]
   ·rfl
theorem all_map' {α:Type} (p:α→Bool):∀ l:List α,l.all p=(l.map p).all id
 | []=>rfl
 | x::r=>by rw [List.all_cons,List.map_cons,List.all_cons,all_map' p r];rfl
theorem sQ {n:EN} {ks:List Int} (h:bu n=true):bu (aK n ks)=true:=by
 unfold bu at h ⊢
 simp only [Bool.and_eq_true] at h
 obtain ⟨h1,⟨⟨h2,h3⟩,h4⟩,_⟩:=h
 have e1:gU (aK n ks)=gU n:=rfl
 have e2:dx (aK n ks)=dx n:=rfl
 have e3:ee (aK n ks)=true:=by
  unfold ee at h4 ⊢
  rw [lY]
  by_cases hp:aU n.k=true
  ·rw [if_pos hp] at h4 ⊢
   have hl:(aK n ks).l=aO ks (aP n.k) n.l 0:=by show (if aU n.k then _ else [])=_;rw [if_pos hp]
   rw [hl,all_map',kq (gP n.k) (fun f v=>by unfold gP;rfl),← all_map',dn,kq (·.nm) (fun _ _=>rfl)]
   exact h4
  ·rw [if_neg hp]
   have hl:(aK n ks).l=[]:=by show (if aU n.k then _ else [])=_;rw [if_neg hp]
   rw [hl]
   rfl
 have e4:fW (aK n ks)=true:=by
  unfold fW
  rw [lY]
  show ([if 0<aP n.k then ks.getD 0 0 else 0,if 1<aP n.k then ks.getD 1 0 else 0,if 2<aP n.k then ks.getD 2 0 else 0].drop (aP n.k)).all _=true
  have:=ct n.k
  generalize aP n.k=q at this
  match q,this with
  | 0,_=>simp
  | 1,_=>simp
  | 2,_=>simp
  | 3,_=>simp
 have e5:(aK n ks).pos=n.pos:=rfl
 rw [e1,e2,e3,e4,e5,lY,h2,h3]
 simp only [Bool.and_eq_true] at h1 ⊢
 exact ⟨h1,by simp⟩
theorem Ec (ns:List EN) (i:Nat):(sbE ns i).length=(dL ns i).length:=List.length_map ..
theorem Cy {ns:List EN} (ht:cU ns) {i:Nat} (hi:i<ns.length):(dL ns i).length≤ns.length:=by
 have:=List.Nodup.length_le_of_subset (l₂:=(List.range ns.length).map fun j:Nat=>(j:Int)) (tT ht hi) (fun x hx=>by
  have:=AQ ht hi hx
  exact List.mem_map.2 ⟨x.toNat,List.mem_range.2 (by omega),by omega⟩)
 simpa using this
end Go.Proofs.YtejpnabbmgpmaaaGreat

namespace Go.Proofs.YtejpnabbmgpmaaaGreat
open Go.Ab
def GL (n:EN):Prop:=bu n=true∧inR n.n
theorem GL.with {n:EN} (ks:List Int) (h:GL n):GL (aK n ks):=⟨sQ h.1,h.2⟩
mutual
def RT.rt:RT→Prop
 | .mk n ts=>GL n∧RT.rts ts
def RT.rts:List RT→Prop
 | []=>True
 | t::r=>t.rt∧RT.rts r
end
theorem qb {s:List UInt8} (h:gC s=true):s.length≤20:=by
 unfold gC eW at h
 simp only [Bool.and_eq_true,decide_eq_true_eq] at h
 exact h.1.1.1.2
theorem xW {s:List UInt8} (h:pX s=true):s.length≤20:=by
 unfold pX eW at h
 simp only [Bool.and_eq_true,decide_eq_true_eq] at h
 exact h.1.1.2
theorem vl {n:EN} (h:bu n=true):n.s.length≤200:=by
 unfold bu dx at h
 simp only [Bool.and_eq_true] at h
 have h1:=h.2.1.1.2
 (repeat' split at h1)<;>simp only [Bool.and_eq_true,decide_eq_true_eq,List.isEmpty_iff] at h1
 ·rw [h1];decide
 ·rw [h1.2];decide
 ·rw [h1.2];decide
 ·exact h1.2
 ·rw [h1.2];decide
theorem ud {n:EN} (h:bu n=true):gL BIG n:=by
 have hl:=vE h
 have hs:=vl h
 have hx:(20:Nat)≤BIG:=by unfold BIG;omega
 refine ⟨?_,by unfold BIG;omega,by omega,fun f hf=>?_⟩
 ·unfold bu gU at h
  simp only [Bool.and_eq_true] at h
  have h1:=h.2.1.1.1
  (repeat' split at h1)
  ·have:=qb h1;omega
  ·have:=xW h1;omega
  ·rw [List.isEmpty_iff] at h1
   rw [h1]
   exact Nat.zero_le _
 ·unfold bu ee at h
  simp only [Bool.and_eq_true] at h
  have h1:=h.2.1.2
  split at h1
  ·simp only [Bool.and_eq_true] at h1
   have h2:=List.all_eq_true.1 h1.1 f hf
   unfold gP at h2
   split at h2<;>simp only [Bool.and_eq_true,List.isEmpty_iff] at h2
   ·have:=qb h2.1
    rw [h2.2]
    exact ⟨by omega,Nat.zero_le _⟩
   ·have:=xW h2.1
    have:=qb h2.2
    exact ⟨by omega,by omega⟩
  ·rw [List.isEmpty_iff] at h1
   rw [h1] at hf
   cases hf
structure RT.good (t:RT):Prop where
 ok:t.ok
 rt:t.rt
def ld:RT:=.mk (can (ndE [] 0)) []
def RT.lab:RT→EN
 | .mk n _=>n
def RT.kids:RT→List RT
 | .mk _ ts=>ts
def RT.kid (t:RT) (j:Nat):RT:=t.kids.getD j ld
mutual
def FU:RT→Bool
 | .mk n ts=>if n.k=11∨n.k=13 then DX ts else decide (n.k=1) || decide (n.k=2) || decide (n.k=3) || decide (n.k=5)
def DX:List RT→Bool
 | []=>true
 | t::r=>FU t && DX r
end
def Fq (n:EN) (k:Nat) (x:List UInt8):Bool :=
 if n.k=5∨n.k=8 then n.name == x else if n.k=7 then (n.name == x) && decide (k=1) else if n.k=14 then decide (0<k) && ((fdE n.l (k-1)).var == x) else false
mutual
def x8 (x:List UInt8) (v:RT):RT→RT
 | .mk n ts=>if n.k=4∧n.name=x then v else .mk n (DW x v n 0 ts)
def DW (x:List UInt8) (v:RT) (n:EN):Nat→List RT→List RT
 | _,[]=>[]
 | k,t::r=>(if Fq n k x then t else x8 x v t)::DW x v n (k+1) r
end
def RT.sz (t:RT):Nat:=t.enc.length
def szs (ts:List RT):Nat:=(ts.map RT.sz).sum
theorem xx (ts:List RT):aV (RT.encs ts)=szs ts:=by
 unfold aV szs
 rw [np,List.map_map]
 rfl
theorem Gu (n:EN) (ts:List RT):(RT.mk n ts).sz=szs ts+1:=by
 unfold RT.sz
 rw [RT.enc,ch,xx]
def DR (n:EN):RT:=.mk (can n) []
def GV (n a b:EN):Int × RT :=
 if n.n=7 then (if a.k=3∧b.k=3 then (5,DR ⟨3,0,0,0,0,[],(a.s++b.s).take 200,[],n.pos⟩) else (4,ld))
 else if a.k=1∧b.k=1 then (if kG n.n b.n≠0 then (2,ld) else (5,DR ⟨if 5≤n.n then 2 else 1,0,0,0,jP n.n a.n b.n,[],[],[],n.pos⟩)) else (4,ld)
def BB (n:EN) (f:RT):RT :=
 if f.lab.name=n.name then f else .mk (can ⟨5,0,0,0,0,f.lab.name,[],[],f.lab.pos⟩) [.mk (can ⟨8,0,0,0,0,n.name,[],[],n.pos⟩) [f,f.kid 0]]
def fX (l:List EF) (x:List UInt8):Nat:=l.findIdx fun f=>f.nm == x
def EU (n:EN) (ts:List RT):Int × RT :=
 let c:=fun j=>ts.getD j ld
 if n.k=6 then (if (c 0).lab.k=5 then (5,x8 (c 0).lab.name (c 1) ((c 0).kid 0)) else (4,ld))
 else if n.k=7 then (5,x8 n.name (c 0) (c 1))
 else if n.k=8 then (5,x8 n.name (BB n (c 0)) (c 1))
 else if n.k=9 then (if (c 0).lab.k=2 then (5,if (c 0).lab.n=1 then c 1 else c 2) else (4,ld))
 else if n.k=10 then GV n (c 0).lab (c 1).lab
 else if n.k=12 then (if (c 0).lab.k=11∧fX (c 0).lab.l n.name<(c 0).lab.l.length then (5,(c 0).kid (fX (c 0).lab.l n.name)) else (4,ld))
 else if n.k=14 then (if (c 0).lab.k=13∧fX n.l (c 0).lab.name<n.l.length then (5,x8 (fdE n.l (fX n.l (c 0).lab.name)).var ((c 0).kid 0) (c (fX n.l (c 0).lab.name+1))) else (4,ld))
 else (4,ld)
def pb (n:EN) (k:Nat):Bool:=if n.k=6∨n.k=10∨n.k=11 then true else if n.k=7∨n.k=9∨n.k=12∨n.k=13∨n.k=14 then decide (k=0) else false
mutual
def stT:RT→Int × RT
 | .mk n ts=>match Gc n 0 ts with
   | none=>EU n ts
   | some (h,us)=>if h=5 then (5,.mk n us) else (h,ld)
def Gc (n:EN):Nat→List RT→Option (Int × List RT)
 | _,[]=>none
 | k,t::r=>if pb n k && !FU t then some ((stT t).1,(stT t).2::r) else (Gc n (k+1) r).map fun q=>(q.1,t::q.2)
end
end Go.Proofs.YtejpnabbmgpmaaaGreat

namespace Go.Proofs.YtejpnabbmgpmaaaGreat
open Go.Ab
mutual
def RT.lk:RT→Prop
 | .mk n ts=>(n.k=8→(ts.getD 0 ld).lab.k=5)∧RT.lks ts
def RT.lks:List RT→Prop
 | []=>True
 | t::r=>t.lk∧RT.lks r
end
theorem e8:inR 0:=⟨by decide,by decide⟩
theorem Bk {k a b:Int}:inR (jP k a b):=by
 unfold jP zy
 (repeat' split)<;>first | exact Fb _ | exact ⟨by omega,by omega⟩
end Go.Proofs.YtejpnabbmgpmaaaGreat

namespace Go.Proofs.YtejpnabbmgpmaaaGreat
open Go.Ab
def Er:List TS:=[.sl (some 9) [.int .i64,.int .i64,.int .i64,.int .i64,.int .i64,.str,.str,.sl (some 3) [.str,.str,.int .i64],.int .i64]]
def RwN (x:D) (n:EN):Prop:=∃ F,x=.agg [i64 n.k,i64 n.a,i64 n.b,i64 n.c,i64 n.n,.str n.name,.str n.s,F,i64 n.pos]∧(F=.nils∧n.l=[]∨F=efD n.l)
def RwL:List D→List EN→Prop
 | [],[]=>True
 | x::xs,n::ns=>RwN x n∧RwL xs ns
 | _,_=>False
theorem RwL.len:∀ {xs:List D} {ns:List EN},RwL xs ns→xs.length=ns.length
 | [],[],_=>rfl
 | _::_,_::_,h=>by simp [RwL.len h.2]
 | [],_::_,h=>h.elim
 | _::_,[],h=>h.elim
theorem RwL.get:∀ {xs:List D} {ns:List EN},RwL xs ns→∀ (i:Nat) x n,xs[i]?=some x→ns[i]?=some n→RwN x n
 | [],_,_,i,x,n,h,_=>by simp at h
 | _::_,[],h,_,_,_,_,_=>h.elim
 | x::xs,n::ns,h,0,_,_,h1,h2=>by simp at h1 h2;subst h1;subst h2;exact h.1
 | x::xs,n::ns,h,i+1,y,m,h1,h2=>h.2.get i y m (by simpa using h1) (by simpa using h2)
theorem EY (n:EN):okW (some 9) (enD n):=⟨rfl,by simp [efD,D.scal]⟩
theorem Gv {xs:List D} {ns:List EN} (h:RwL xs ns):Wk (.agg [.sl (some 9) xs]) (exD ns):=by
 refine Wk.agg rfl (by simp [D.scal]) fun i a b ha hb=>?_
 match i,ha,hb with
 | 0,ha,hb =>
   cases ha;cases hb
   refine Wk.sl (by simp [h.len]) (fun b hb=>by obtain ⟨n,_,rfl⟩:=List.mem_map.1 hb;exact EY n) fun i a b ha hb=>?_
   rw [List.getElem?_map,Option.map_eq_some_iff] at hb
   obtain ⟨n,hn,rfl⟩:=hb
   obtain ⟨F,rfl,hF⟩:=h.get i a n ha hn
   refine ⟨rfl,fun j c d hc hd=>?_⟩
   match j,hc,hd with
   | 0,hc,hd | 1,hc,hd | 2,hc,hd | 3,hc,hd | 4,hc,hd | 5,hc,hd | 6,hc,hd | 8,hc,hd=>cases hc;cases hd;exact .refl _
   | 7,hc,hd =>
     cases hc;cases hd
     rcases hF with ⟨rfl,hF⟩ | rfl
     ·rw [hF];exact .nils _
     ·exact .refl _
theorem oL:maxLen≤9223372036854775807:=by unfold maxLen;omega
theorem zL:∀ {xs:List D},(∀ x∈xs,okW (some 3) x∧oks [.str,.str,.int .i64] x.cells)→∃ l:List EF,xs=l.map fD∧∀ f∈l,f.nm.length≤maxLen∧f.var.length≤maxLen
 | [],_=>⟨[],rfl,by simp⟩
 | x::xs,h=>by
   obtain ⟨l,hl,hf⟩:=zL fun y hy=>h y (List.mem_cons_of_mem _ hy)
   obtain ⟨h1,h2⟩:=h x List.mem_cons_self
   cases x with
   | agg cs =>
     have h2:oks [.str,.str,.int .i64] cs:=h2
     match cs,h2 with
     | [.str s,.str v,.int k n],h2 =>
       obtain ⟨g1,g2,g3,_⟩:=h2
       obtain rfl:k=.i64:=g3.1
       exact ⟨⟨s,v,n⟩::l,by rw [hl];rfl,fun f hf'=>by
        rcases List.mem_cons.1 hf' with rfl | hf'
        ·exact ⟨g1,g2⟩
        ·exact hf f hf'⟩
   | _=>simp [okW] at h1
def InN (n:EN):Prop:=n.name.length≤maxLen∧n.s.length≤maxLen∧n.l.length≤maxLen∧∀ f∈n.l,f.nm.length≤maxLen∧f.var.length≤maxLen
theorem Gb {x:D} (h1:okW (some 9) x) (h2:oks [.int .i64,.int .i64,.int .i64,.int .i64,.int .i64,.str,.str,.sl (some 3) [.str,.str,.int .i64],.int .i64] x.cells):∃ n,RwN x n∧InN n:=by
 cases x with
 | agg cs =>
   have h2:oks [.int .i64,.int .i64,.int .i64,.int .i64,.int .i64,.str,.str,.sl (some 3) [.str,.str,.int .i64],.int .i64] cs:=h2
   match cs,h2 with
   | [.int k1 a,.int k2 b,.int k3 c,.int k4 d,.int k5 e,.str s,.str t,F,.int k6 p],h2 =>
     obtain ⟨g1,g2,g3,g4,g5,g6,g7,g8,g9,_⟩:=h2
     obtain rfl:k1=.i64:=g1.1
     obtain rfl:k2=.i64:=g2.1
     obtain rfl:k3=.i64:=g3.1
     obtain rfl:k4=.i64:=g4.1
     obtain rfl:k5=.i64:=g5.1
     obtain rfl:k6=.i64:=g9.1
     cases F with
     | nils=>exact ⟨⟨a,b,c,d,e,s,t,[],p⟩,⟨.nils,rfl,.inl ⟨rfl,rfl⟩⟩,g6,g7,by simp,by simp⟩
     | sl w xs =>
       obtain ⟨rfl,g10,g11⟩:=g8
       obtain ⟨l,rfl,hl⟩:=zL g11
       exact ⟨⟨a,b,c,d,e,s,t,l,p⟩,⟨_,rfl,.inr rfl⟩,g6,g7,by simpa using g10,hl⟩
     | _=>exact g8.elim
 | _=>simp [okW] at h1
theorem z5:∀ {xs:List D},(∀ x∈xs,okW (some 9) x∧oks [.int .i64,.int .i64,.int .i64,.int .i64,.int .i64,.str,.str,.sl (some 3) [.str,.str,.int .i64],.int .i64] x.cells)→∃ ns,RwL xs ns∧∀ n∈ns,InN n
 | [],_=>⟨[],trivial,by simp⟩
 | x::xs,h=>by
   obtain ⟨ns,h1,h2⟩:=z5 fun y hy=>h y (List.mem_cons_of_mem _ hy)
   obtain ⟨g1,g2⟩:=h x List.mem_cons_self
   obtain ⟨n,k1,k2⟩:=Gb g1 g2
   exact ⟨n::ns,⟨k1,h1⟩,fun m hm=>by
    rcases List.mem_cons.1 hm with rfl | hm
    ·exact k2
    ·exact h2 m hm⟩
theorem C1 (ns:List EN):(sC ns).length≤700:=by
 unfold sC
 rw [List.length_map,List.length_take]
 omega
def InF (ns:List EN):Prop:=ns.length≤700∧∀ n∈ns,gL BIG n∧n.l.length≤60
theorem EI {ns:List EN} (h:∀ n∈ns,InN n):InF (sC ns):=by
 refine ⟨C1 ns,fun n hn=>?_⟩
 unfold sC at hn
 obtain ⟨m,hm,rfl⟩:=List.mem_map.1 hn
 obtain ⟨h1,h2,h3,h4⟩:=h m (List.mem_of_mem_take hm)
 have hx:=oL
 have hl:(tF m).l.length≤60:=by unfold tF;simp only [List.length_take];omega
 exact ⟨⟨by show m.name.length≤9223372036854775807;omega,by show m.s.length≤9223372036854775807;omega,by omega,fun f hf=>by
  have:=h4 f (List.mem_of_mem_take hf)
  exact ⟨by show f.nm.length≤9223372036854775807;omega,by show f.var.length≤9223372036854775807;omega⟩⟩,hl⟩
end Go.Proofs.YtejpnabbmgpmaaaGreat

namespace Go.Ab
section
variable {P:Program} {cf:Cf} {Q:Exit→St→Prop} {s:St} {k:List It}
theorem bl (E:Eng P cf Q) {d:Nat} {x:Operand} {ty:TypeId} {pos:String} {af:Array Edge} {v:D} (hd:d<cf.n) (hx:ev s x=.d (.ptr v)) (h:E.run k (s.put d (.d (.ptr v)))) :
  E.stp { dst:=some d,op:=.nilCheck x,type:=ty,pos:=pos,after:=af,guard:=none } s k .no:=by
 refine gM E (x:=.d (.ptr v)) rfl hd (by simp) (fun B β a w hs=>⟨a.eval x,?_,hx ▸ hs.ev x⟩) h
 have hv:=hs.ev x
 rw [hx] at hv
 have hr:=hv.toD
 have he:∀ y,a.eval x=y→(∃ ad,y=.pointer (some ad))→(execOp a.eval { dst:=some d,op:=.nilCheck x,type:=ty,pos:=pos,after:=af,guard:=none }).run P w=.ok (.value y) w:=by
  rintro y hy ⟨ad,rfl⟩
  simp [execOp,hy]
 refine he _ rfl ?_
 generalize a.eval x=y at hr
 cases hr
 exact ⟨_,rfl⟩
end
end Go.Ab

namespace Go.Ab
inductive Fz where
 | A (p:Name) (w:W) (xs:List D)
 | B (p:Name) (d:D)
def Fz.nm:Fz→Name
 | .A p _ _=>p
 | .B p _=>p
def St.fz (s:St):Fz→St
 | .A p w xs=>s.eI p w xs
 | .B p d=>s.frB p d
def Fz.ok (s:St):Fz→Prop
 | .A p w xs=>s.hp p=some (.arr w xs)
 | .B p d=>s.hp p=some (.box (d.cells.map .d))∧(d.cells.all D.scal)=true
def St.fzL (s:St):List Fz→St
 | []=>s
 | q::L=>(s.fz q).fzL L
def wA (s:St):List Fz→Prop
 | []=>True
 | q::L=>q.ok s∧wA (s.fz q) L
theorem De (s:St):s.fzL []=s:=rfl
theorem FI (s:St) (p:Name) (w:W) (xs:List D) (L:List Fz):s.fzL (.A p w xs::L)=(s.eI p w xs).fzL L:=rfl
theorem FX (s:St) (p:Name) (d:D) (L:List Fz):s.fzL (.B p d::L)=(s.frB p d).fzL L:=rfl
theorem zt (s:St):wA s []=True:=rfl
theorem Fg (s:St) (p:Name) (w:W) (xs:List D) (L:List Fz):wA s (.A p w xs::L)=(s.hp p=some (.arr w xs)∧wA (s.eI p w xs) L):=rfl
theorem Fj (s:St) (p:Name) (d:D) (L:List Fz):wA s (.B p d::L)=((s.hp p=some (.box (d.cells.map .d))∧(d.cells.all D.scal)=true)∧wA (s.frB p d) L):=rfl
section
variable {P:Program} {cf:Cf} {Q:Exit→St→Prop} {s:St} {k:List It}
section
variable {ops:Array Oper} {K:St→Ns→Prop} {r:List Oper} {ns:Ns}
structure Alike (ns:List Name) (ts:List Nat) (s s':St):Prop where
 hp:∀ p∈ns,s'.hp p=s.hp p
 fr:∀ t∈ts,s'.fr t=s.fr t
end
end
attribute [go_sem] De FI FX zt Fg Fj Fz.nm
end Go.Ab
namespace Go.Ab
variable {P:Program} {cf:Cf} {Φ:Exit→Act→World→Prop} {I:Base→List Deferred→Prop} {k:List It} {s:St}
def cutq (P:Program) (cf:Cf) (Φ:Exit→Act→World→Prop) (I:Base→List Deferred→Prop) (k:List It) {X:Type} (S:X→St) (e:Exit) (s:St):Prop :=
 match e with
 | .normal=>∃ x τ,Le cf.U τ s (S x)
 | e=>yq P cf Φ I k e s
theorem yT {X:Type} (S:X→St):cutq P cf Φ I k S .ret s=ARX cf Φ I .ret s:=rfl
attribute [go_sem] yT
end Go.Ab

namespace Go.Ab
section
variable {P:Program} {cf:Cf} {ops:Array Oper} {K:St→Ns→Prop} {r:List Oper} {s:St} {ns:Ns}
theorem DZ (E:XEng P cf ops K) {d t:Nat} {x:Operand} {ty:TypeId} {pos:String} {af:Array Edge} {cs:List AV} (hx:bM (ev s x)=some cs) (hd:d<cf.n∧d ∉ s.used)
  (hk:E.run r ((s.add d (.box cs)).put d (.at [d] 0)) (ns++[([],[[d]],[d])])) :
  E.stp { dst:=some d,op:=.box t x,type:=ty,pos:=pos,after:=af,guard:=none } r s ns .no:=by
 have hgo:∀ s':St,(s'.add d (.box cs)).put d (.at [d] 0)=s'.go (some d) (.at [d] 0) ⟨[([d],some (.box cs))],[d]⟩:=fun s'=>by unfold St.go;rw [lO];rfl
 rw [E.stp_eq]
 refine ⟨.at [d] 0,([],⟨[([d],some (.box cs))],[d]⟩),fun s' hu hh he B hB ds' β a w hds hs Q'=>?_,fun q hq=>?_,hd.1,?_⟩
 ·have h1:bM (ev s' x)=some cs:=by rw [he x (by simp [Op.operands])];exact hx
  have hok:AOk P cf { dst:=some d,op:=.box t x,type:=ty,pos:=pos,after:=af,guard:=none } s' [] (fun _ s2=>s2=(s'.add d (.box cs)).put d (.at [d] 0)):=by
   refine db (o:={ dst:=some d,op:=.box t x,type:=ty,pos:=pos,after:=af,guard:=none }) rfl ?_
   have h3:opR P.ti cf.n (.box t x) (some d) s'=.ok ((s'.add d (.box cs)).put d (.at [d] 0)):=by
    unfold opR gl
    simp only [h1]
    have hdu:d<cf.n∧d ∉ s'.used:=⟨hd.1,hu d (by simp)⟩
    simp [hdu.1,hdu.2]
   show stp P cf (opR P.ti cf.n (.box t x) (some d) s') _ s' [] _
   rw [h3,uf,cj]
  refine Oper.wpIn_mono ?_ (hok B hB ds' β a w hds hs Q')
  rintro a' w' ⟨hd',s2,β',hrun,hs2⟩
  obtain ⟨_,s3,β3,rfl,hs3⟩:=hrun B hB ds' β' a' w' hd' hs2
  exact ⟨hd',β3,by rw [← hgo];exact hs3⟩
 ·obtain rfl:=List.mem_singleton.1 hq
  exact hd.2
 ·rw [← E.run_eq,← hgo]
  exact hk
end
end Go.Ab

namespace Go.Proofs.YtejpnabbmgpmaaaGreat
open Go.Ab
theorem oQ {ns:List EN} (ht:cU ns):∀ n∈ns,n.l.length≤900000:=fun n hn=>by have:=ht.l n hn;omega
theorem zi {ns:List EN} (ht:cU ns):∀ n∈ns,gL BIG n:=fun n hn=>by
 obtain ⟨i,hi,rfl⟩:=List.mem_iff_getElem.1 hn
 have:=ht.right i hi
 rw [bj hi] at this
 exact ud this
end Go.Proofs.YtejpnabbmgpmaaaGreat

namespace Go.Proofs.YtejpnabbmgpmaaaGreat
open Go.Ab
def aq (n:EN):List Int:=if n.k=6∨n.k=10∨n.k=11 then ak n else if n.k=7∨n.k=9∨n.k=12∨n.k=13∨n.k=14 then [n.a] else []
end Go.Proofs.YtejpnabbmgpmaaaGreat

namespace Go.Proofs.YtejpnabbmgpmaaaGreat
open Go.Ab
end Go.Proofs.YtejpnabbmgpmaaaGreat

namespace Go.Proofs.YtejpnabbmgpmaaaGreat
open Go.Ab
def GX (q:Int × RT):D:=if q.1=5 then exD q.2.enc else .agg [.nils]
theorem pP {h:Int} {t:RT} (hh:h≠5):GX (h,t)=.agg [.nils]:=if_neg hh
structure Run (xs:List EN):Prop where
 may:jc xs=0
 rng:∀ n∈xs,inR n.n
theorem Run.t {xs:List EN} (h:Run xs):cU xs:=G8 h.may
theorem FY {xs:List EN} (h:Run xs) {i:Nat} (hi:i<xs.length):(trE xs i).sz≤600:=by
 show (trE xs i).enc.length≤_
 rw [Ev h.t hi,Ec]
 exact Nat.le_trans (Cy h.t hi) h.t.few
theorem bW (n:EN):enD n=.agg [i64 n.k,i64 n.a,i64 n.b,i64 n.c,i64 n.n,.str n.name,.str n.s,.sl (some 3) (n.l.map fD),i64 n.pos]:=rfl
theorem du {xs:List EN} (ht:cU xs) {i:Nat} (hi:i<xs.length) {k:Int} (hk:k∈ak (ndE xs i)):∃ a:Nat,k=(a:Int)∧a<i:=by
 obtain ⟨h1,h2⟩:=aQ (bm ht) hi k hk
 exact ⟨k.toNat,by omega,by omega⟩
theorem uM {n:EN} (h:n.k=5∨n.k=12∨n.k=13):ak n=[n.a]:=by rcases h with h | h | h<;>simp [ak,h,aP,aU]
theorem mI {n:EN} (h:n.k=6∨n.k=7∨n.k=8∨n.k=10):ak n=[n.a,n.b]:=by rcases h with h | h | h | h<;>simp [ak,h,aP,aU]
theorem v7 {n:EN} (h:n.k=9):ak n=[n.a,n.b,n.c]:=by simp [ak,h,aP,aU]
end Go.Proofs.YtejpnabbmgpmaaaGreat

namespace Go.Proofs.YtejpnabbmgpmaaaGreat
open Go.Ab
def Bn (l:List EF) (p:EF→Bool):Int:=if l.findIdx p<l.length then (l.findIdx p:Int) else -1
theorem zz {l:List EF} {p:EF→Bool} {i:Nat} (hi:i<l.length) (ha:(l.take i).any p=false) (hp:p l[i]=true):l.findIdx p=i:=by
 refine (List.findIdx_eq hi).2 ⟨hp,fun j hji=>?_⟩
 have:=List.any_eq_false.1 ha l[j] (List.mem_take_iff_getElem.2 ⟨j,by omega,rfl⟩)
 simpa using this
theorem By {l:List EF} {p:EF→Bool} (ha:l.any p=false):¬ l.findIdx p<l.length:=fun h=>by
 have:=List.findIdx_getElem (w:=h)
 have:=List.any_eq_false.1 ha _ (List.getElem_mem h)
 simp_all
theorem Cj {G} (l:List EF) (p:EF→Bool) (f:Nat) (caps:List D) (hl:l.length≤1000000) (hc:∀ x∈l,HP Tryz.prog G f (fD x::caps) (fun r=>r=.d (.bool (p x)))) :
  HP Tryz.prog G 237 [.sl (some 3) (l.map fD),.clo f caps] (fun r=>r=.d (i64 (Bn l p))):=by
 have hget:∀ {i:Nat} (h:i<l.length),(l.map fD).getD i .nilp=.agg [.str l[i].nm,.str l[i].var,i64 l[i].to]:=fun h=>AU h
 refine al Tryz.func237 rfl (by decide +kernel) (by simp [Tryz.ntmps237]) (veil fun E=>?_)
 simp only [go_sem]
 refine dX E (X:={ i:Nat // i≤l.length∧(l.take i).any p=false }) (fun x=>[(0,.d (.sl (some 3) (l.map fD))),(1,.d (.clo f caps)),(6,.d (.sl (some 3) (l.map fD))),(7,.d (i64 l.length)),(8,.d (i64 x.1))]) (fun x=>l.length-x.1) rfl ⟨0,Nat.zero_le _,by simp⟩ ?_ ?_
 ·simp only [go_sem]
  all_goals rfl
 rintro ⟨i,hi,hab⟩ E'
 simp only [go_sem]
 refine aj E' (fun h1=>?_) (fun h1=>?_)<;>simp only [go_sem]
 ·have h1':i<l.length:=by omega
  refine ⟨⟨by omega,by omega⟩,?_⟩
  rw [hget h1']
  simp only [go_sem]
  refine jl E' (hc l[i] (List.getElem_mem h1')) rfl rfl (by simp) ?_
  rintro _ rfl
  simp only [go_sem]
  refine aI E' (fun h2=>?_) (fun h2=>?_)<;>simp only [go_sem]
  ·unfold Bn
   rw [zz h1' hab h2,if_pos h1']
  ·refine ⟨⟨i+1,by omega,fG h1' hab h2⟩,by show l.length-(i+1)<_;omega,?_⟩
   rw [ao ⟨by omega,by omega⟩];rfl
 ·have h3:i=l.length:=by omega
  subst h3
  rw [List.take_length] at hab
  unfold Bn
  rw [if_neg (By hab)]
end Go.Proofs.YtejpnabbmgpmaaaGreat

namespace Go.Proofs.YtejpnabbmgpmaaaGreat
open Go.Ab
end Go.Proofs.YtejpnabbmgpmaaaGreat

namespace Go.Proofs.YtejpnabbmgpmaaaGreat
open Go.Ab
end Go.Proofs.YtejpnabbmgpmaaaGreat

namespace Go.Proofs.YtejpnabbmgpmaaaGreat
open Go.Ab
end Go.Proofs.YtejpnabbmgpmaaaGreat

namespace Go.Proofs.YtejpnabbmgpmaaaGreat
open Go.Ab
end Go.Proofs.YtejpnabbmgpmaaaGreat

namespace Go.Proofs.YtejpnabbmgpmaaaGreat
open Go.Ab
theorem jd {n:EN}:(aq n).length≤(ak n).length∧∀ j,j<(ak n).length→((pb n j=true↔j<(aq n).length)∧((pb n j=true)→(aq n).getD j 0=(ak n).getD j 0)):=by
 unfold aq pb
 by_cases h1:n.k=6∨n.k=10∨n.k=11
 ·simp only [if_pos h1]
  exact ⟨Nat.le_refl _,fun j hj=>⟨by simp [hj],fun _=>by trivial⟩⟩
 simp only [if_neg h1]
 by_cases h2:n.k=7∨n.k=9∨n.k=12∨n.k=13∨n.k=14
 ·simp only [if_pos h2]
  obtain ⟨r,hr⟩:∃ r,ak n=n.a::r:=by
   rcases h2 with h | h | h | h | h
   ·exact ⟨_,mI (.inr (.inl h))⟩
   ·exact ⟨_,v7 h⟩
   ·exact ⟨_,uM (.inr (.inl h))⟩
   ·exact ⟨_,uM (.inr (.inr h))⟩
   ·exact ⟨_,ug h⟩
  rw [hr]
  refine ⟨by simp,fun j hj=>⟨by simp,fun h=>?_⟩⟩
  have:j=0:=by simpa using h
  subst this
  rfl
 ·simp only [if_neg h2]
  exact ⟨Nat.zero_le _,fun j hj=>⟨by simp,fun h=>by cases h⟩⟩
end Go.Proofs.YtejpnabbmgpmaaaGreat

