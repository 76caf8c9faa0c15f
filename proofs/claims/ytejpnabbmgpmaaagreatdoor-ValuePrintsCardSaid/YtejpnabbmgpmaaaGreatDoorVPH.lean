/-
  A primitive between operands, read. (with the parts that follow it)
-/
import Derived.Test.YtejpnabbmgpmaaaGreatDoorVPG
import Derived.Test.YtejpnabbmgpmaaaGreatDoorVPF
import Derived.Test.YtejpnabbmgpmaaaGreatDoorVPE
set_option linter.all false
namespace Go.Proofs.YtejpnabbmgpmaaaGreatDoor
open Go.Ab
abbrev OPS:=List (List UInt8 × Int)
def opL (l:OPS):D:=.sl (some 2) (l.map fun q=>.agg [.str q.1,i64 q.2])
def opN (s:PS) (l:OPS):EN:=match opS s l with | some n=>{ nd0 10 s.peek.pos with n:=n } | none=>nd0 0 0
def opR (s:PS) (l:OPS):PS:=match opS s l with | some _=>s.next | none=>s
theorem AU {s:PS} {l:OPS} {i:Nat} (h:i<l.length):opS s (l.drop i)=if s.sees 7 l[i].1 then some l[i].2 else opS s (l.drop (i+1)):=by
 rw [List.drop_eq_getElem_cons h,opS]
theorem pM {G} (s:PS) (l:OPS) (hl:s.l.length≤1000000) (hn:l.length≤1000):HCall Tryz.prog G 117 [.bx [100] 0,.d (opL l)] (RO s) [100,101] (fun r hp'=>r=.tup [.d (ndN (opN s l)),.d (.bool (opS s l).isSome)]∧hp'=RO (opR s l)):=by
 generalize hO:opS s l=o
 generalize hN:opN s l=N
 generalize hR:opR s l=R
 unfold RO TO ag opL
 refine an Tryz.func117 rfl (by decide +kernel) (by simp [Tryz.ntmps117]) (veil fun E=>?_)
 simp only [go_sem]
 refine ab E [.bx [101] 0] (TO s.l s.fin) [101] (cV s.l s.fin hl) rfl rfl ⟨by simp only [go_sem],by first | (rw [aa];decide) | (simp only [go_sem]<;>(try rw [aa])<;>decide)⟩ rfl (by unfold TO ag;simp only [go_sem]) (by unfold TO;simp only [go_sem]) ?_
 rintro _ _ ⟨rfl,rfl⟩
 unfold TO ag
 simp only [go_sem]
 refine aw E (X:={ i:Nat // i≤l.length∧opS s (l.drop i)=o }) (fun x=>[(0,.bx [100] 0),(4,.bx [4] 0),(5,.d (.bool false)),(6,.d (i64 (bF s.l s.fin).pos)),(15,.d (.sl (some 2) (l.map fun q=>.agg [.str q.1,i64 q.2]))),(16,.d (i64 l.length)),(17,.d (i64 x.1))])
  (fun x=>[([4],.box [.d (i64 0),.d (i64 0),.d (i64 0),.d (i64 0),.d (i64 0),.d (.str []),.d (.str []),.d .nils,.d (i64 0)]),([100],.box [.bx [101] 0,.d (i64 s.err),.d (i64 s.pos),.d (i64 s.nest)]),([101],.box [.d (.sl (some 4) (s.l.map fT)),.d (i64 s.fin)])]) [4,100,101] (fun x=>l.length-x.1) ⟨0,Nat.zero_le _,by rw [List.drop_zero];exact hO⟩ id ?_ ?_
 ·simp only [go_sem]
  all_goals rfl
 rintro ⟨i,hi,ho⟩ E0
 refine aH E0 fun Q' hQ E'=>?_
 simp only at hi ⊢
 simp only [go_sem]
 refine ah E' (fun h1=>?_) (fun h1=>?_)<;>simp only [go_sem]
 ·have h1':i<l.length:=by omega
  rw [AU h1'] at ho
  refine ⟨by omega,?_⟩
  rw [show (l.map fun q=>D.agg [.str q.1,i64 q.2]).getD i .nilp=.agg [.str l[i].1,i64 l[i].2] by simp [h1']]
  simp only [go_sem]
  have h0:=gW (G:=G) s l[i].1 hl
  generalize hb:s.sees 7 l[i].1=b at h0 ho
  generalize hM:s.may 7 l[i].1=M at h0
  refine ab E' [.bx [100] 0,.d (.str l[i].1)] (RO s) [100,101] (h0) rfl rfl ⟨by simp only [go_sem],by first | (rw [aa];decide) | (simp only [go_sem]<;>(try rw [aa])<;>decide)⟩ rfl (by unfold RO TO ag;simp only [go_sem]) (by unfold RO TO;simp only [go_sem]) ?_
  rintro _ _ ⟨rfl,rfl⟩
  unfold RO TO ag
  simp only [go_sem]
  refine aI E' (fun h=>?_) (fun h=>?_)<;>simp only [go_sem]
  ·rw [hQ]
   simp only [go_sem]
   rw [if_pos h] at ho
   refine ⟨_,_,[100,101],id,⟨rfl,rfl⟩,?_⟩
   simp only [go_sem]
   have hM':M=s.next:=by rw [← hM];unfold PS.may;rw [hb,h];rfl
   rw [← hN,← hR,hM',← ho]
   unfold opN opR
   rw [hO,← ho]
   exact ⟨rfl,rfl,rfl⟩
  ·rw [hQ]
   simp only [go_sem]
   rw [if_neg (by simpa using h)] at ho
   have hM':M=s:=by rw [← hM];unfold PS.may;rw [hb,h];rfl
   rw [hM',ai ⟨by omega,by omega⟩]
   refine ⟨⟨i+1,by omega,ho⟩,by show l.length-(i+1)<_;omega,id,?_⟩
   simp only [go_sem]
   all_goals rfl
 ·rw [hQ]
  have hi2:i=l.length:=by omega
  rw [hi2,List.drop_length] at ho
  simp only [go_sem]
  refine ⟨_,_,[100,101],id,⟨rfl,rfl⟩,?_⟩
  simp only [go_sem]
  rw [← hN,← hR]
  unfold opN opR
  rw [hO,← ho]
  exact ⟨rfl,rfl,rfl⟩
end Go.Proofs.YtejpnabbmgpmaaaGreatDoor

namespace Go.Proofs.YtejpnabbmgpmaaaGreatDoor
open Go.Ab
def Reads (f:Nat) (G:List (Nat × Obj)) (N:Nat) (sub:PS→PR):Prop:=∀ s:PS,s.l.length≤100000→s.nest=N→HCall Tryz.prog G f [.bx [100] 0] (RO s) [100,101] (fun r hp'=>r=.d (exD (sub s).1)∧hp'=RO (sub s).2)
theorem Cg {G} {N:Nat} {ex:PS→PR} (hex:∀ s,GP 1 s (ex s)) (hc:Reads 160 G N (kj ex)):Reads 145 G N (iB ex):=by
 intro s hl hN
 have hsg:=gM hex
 obtain ⟨sub,hsub⟩:∃ sub,sub=kj ex:=⟨_,rfl⟩
 have hF:iB ex s=iP eD sub (sub s).2.l.length.succ (sub s).1 (sub s).2:=by rw [hsub];rfl
 rw [hF]
 rw [← hsub] at hc hsg
 generalize hR:iP eD sub (sub s).2.l.length.succ (sub s).1 (sub s).2=R
 have h0:=hsg s
 obtain ⟨a0,s0,hs0⟩:∃ a0 s0,sub s=(a0,s0):=⟨_,_,rfl⟩
 have hc0:=hc s hl hN
 rw [hs0] at hR h0 hc0
 simp only at hR hc0
 unfold RO TO ag
 refine an Tryz.func145 rfl (by decide +kernel) (by simp [Tryz.ntmps145]) (veil fun E=>?_)
 simp only [go_sem]
 refine ab E [.bx [100] 0] (RO s) [100,101] (hc0) rfl rfl ⟨by simp only [go_sem],by first | (rw [aa];decide) | (simp only [go_sem]<;>(try rw [aa])<;>decide)⟩ rfl (by unfold RO TO ag;simp only [go_sem]) (by unfold RO TO;simp only [go_sem]) ?_
 rintro _ _ ⟨rfl,rfl⟩
 unfold RO TO ag
 simp only [go_sem]
 unfold exD
 simp only [go_sem]
 refine aw E (X:={ x:Nat × List EN × PS // iP eD sub x.1 x.2.1 x.2.2=R∧GP 1 s x.2∧x.2.2.l.length<x.1 }) (fun x=>[(0,.bx [100] 0),(2,.bx [2] 0),(3,.bx [3] 0)])
  (fun x=>[([2],.box [.d .nils]),([3],.box [.d (.sl (some 9) (x.1.2.1.map enD))]),([100],.box [.bx [101] 0,.d (i64 x.1.2.2.err),.d (i64 x.1.2.2.pos),.d (i64 x.1.2.2.nest)]),([101],.box [.d (.sl (some 4) (x.1.2.2.l.map fT)),.d (i64 x.1.2.2.fin)])]) [2,3,100,101] (fun x=>x.1.2.2.l.length) ⟨(s0.l.length.succ,a0,s0),hR,h0,Nat.lt_succ_self _⟩ id ?_ ?_
 ·simp only [go_sem]
  all_goals rfl
 rintro ⟨⟨m,a,q⟩,hb,hg,hm⟩ E0
 refine aH E0 fun Q' hQ E'=>?_
 simp only at hb hg hm ⊢
 have hql:q.l.length≤s.l.length:=hg.ss.len
 obtain ⟨m,rfl⟩:∃ k,m=k+1:=⟨m-1,by omega⟩
 rw [iP] at hb
 simp only [go_sem]
 refine yh E' [12] (some 2) [.agg [.str [42],i64 3],.agg [.str [47],i64 4]] rfl ?_
 rw [pw]
 simp only [go_sem]
 have h1:=pM (G:=G) q eD (by omega) (by decide)
 unfold opR opN at h1
 cases ho:opS q eD with
 | none =>
   rw [ho] at h1 hb
   simp only at h1 hb
   subst hb
   unfold ndN at h1
   refine ab E' [.bx [100] 0,.d (opL eD)] (RO q) [100,101] (h1) rfl rfl ⟨by simp only [go_sem],by first | (rw [aa];decide) | (simp only [go_sem]<;>(try rw [aa])<;>decide)⟩ rfl (by unfold RO TO ag;simp only [go_sem]) (by unfold RO TO;simp only [go_sem]) ?_
   rintro _ _ ⟨rfl,rfl⟩
   unfold RO TO ag
   simp only [go_sem]
   rw [hQ]
   simp only [go_sem]
   refine ⟨_,_,[100,101],id,⟨rfl,rfl⟩,?_⟩
   simp only [go_sem]
   rfl
 | some n =>
   rw [ho] at h1 hb
   simp only at h1 hb
   unfold ndN at h1
   refine ab E' [.bx [100] 0,.d (opL eD)] (RO q) [100,101] (h1) rfl rfl ⟨by simp only [go_sem],by first | (rw [aa];decide) | (simp only [go_sem]<;>(try rw [aa])<;>decide)⟩ rfl (by unfold RO TO ag;simp only [go_sem]) (by unfold RO TO;simp only [go_sem]) ?_
   rintro _ _ ⟨rfl,rfl⟩
   unfold RO TO ag
   simp only [go_sem]
   refine al mixed E' fun X=>?_
   simp only [go_sem]
   obtain ⟨b0,q1,hq1⟩:∃ b0 q1,sub q.next=(b0,q1):=⟨_,_,rfl⟩
   have h2:=hc q.next (by have:=(SS.next q).len;omega) ((SS.next q).nest.trans (hg.ss.nest.trans hN))
   have h3:=hsg q.next
   rw [hq1] at h2 h3 hb
   unfold exD at h2
   refine cg X [.bx [100] 0] (RO q.next) [100,101] _ _ h2 rfl rfl ⟨by simp only [go_sem],by rw [aa];decide⟩ rfl (by unfold RO TO ag;simp only [go_sem]) (by unfold RO TO;simp only [go_sem]) (by unfold RO TO;simp only [go_sem]) ?_
   unfold RO TO ag
   simp only [go_sem]
   have ht2:=h3.tr
   have hz1:=hg.sz
   have hz2:=h3.sz
   have hn2:=(SS.next q).len
   simp only at ht2 hz1 hz2
   have h4:=iy (G:=G) { nd0 10 q.peek.pos with n:=n } [a,b0] rfl (by simp) (by simp only [bg,List.map_cons,List.map_nil,List.sum_cons,List.sum_nil];omega)
    (fun l h=>by
     rcases List.mem_cons.1 h with rfl | h
     ·exact hg.tr.kids.2
     ·rw [List.mem_singleton.1 h];exact ht2.kids.2)
    (fun l h=>by
     rcases List.mem_cons.1 h with rfl | h
     ·exact hg.wd.mono (by omega)
     ·rw [List.mem_singleton.1 h];exact h3.wd.mono (by omega))
   have h5:=GP.qF (e:=1) (n:={ nd0 10 q.peek.pos with n:=n }) (s1:=s) (a:=(a,q)) (b:=(b0,q1)) hg h3 (SS.refl s) (SS.next q) rfl rfl (by have:=fy ho;simp only;omega)
   simp only at h5
   generalize aE { nd0 10 q.peek.pos with n:=n } [a,b0]=J at h4 h5 hb
   unfold exD at h4
   refine bX X 23 [23] (some 1) [.agg [.sl (some 9) (a.map enD)],.agg [.sl (some 9) (b0.map enD)]] h4 (fun _=>rfl) rfl rfl rfl (by simp) rfl (by simp only [go_sem]) ?_
   simp only [go_sem]
   refine ⟨by decide +kernel,?_⟩
   rw [hQ]
   simp only [go_sem]
   refine ⟨⟨(m,J,q1),hb,h5,by have:=fy ho;have:=h3.ss.len;show q1.l.length<m;simp only at this;omega⟩,by have:=fy ho;have:=h3.ss.len;show q1.l.length<q.l.length;simp only at this;omega,id,?_⟩
   simp only [go_sem]
   all_goals rfl
theorem CG {G} {N:Nat} {ex:PS→PR} (hex:∀ s,GP 1 s (ex s)) (hc:Reads 145 G N (iB ex)):Reads 116 G N (rZ ex):=by
 intro s hl hN
 have hsg:=eQ hex
 obtain ⟨sub,hsub⟩:∃ sub,sub=iB ex:=⟨_,rfl⟩
 have hF:rZ ex s=iP gC sub (sub s).2.l.length.succ (sub s).1 (sub s).2:=by rw [hsub];rfl
 rw [hF]
 rw [← hsub] at hc hsg
 generalize hR:iP gC sub (sub s).2.l.length.succ (sub s).1 (sub s).2=R
 have h0:=hsg s
 obtain ⟨a0,s0,hs0⟩:∃ a0 s0,sub s=(a0,s0):=⟨_,_,rfl⟩
 have hc0:=hc s hl hN
 rw [hs0] at hR h0 hc0
 simp only at hR hc0
 unfold RO TO ag
 refine an Tryz.func116 rfl (by decide +kernel) (by simp [Tryz.ntmps116]) (veil fun E=>?_)
 simp only [go_sem]
 refine ab E [.bx [100] 0] (RO s) [100,101] (hc0) rfl rfl ⟨by simp only [go_sem],by first | (rw [aa];decide) | (simp only [go_sem]<;>(try rw [aa])<;>decide)⟩ rfl (by unfold RO TO ag;simp only [go_sem]) (by unfold RO TO;simp only [go_sem]) ?_
 rintro _ _ ⟨rfl,rfl⟩
 unfold RO TO ag
 simp only [go_sem]
 unfold exD
 simp only [go_sem]
 refine aw E (X:={ x:Nat × List EN × PS // iP gC sub x.1 x.2.1 x.2.2=R∧GP 1 s x.2∧x.2.2.l.length<x.1 }) (fun x=>[(0,.bx [100] 0),(2,.bx [2] 0),(3,.bx [3] 0)])
  (fun x=>[([2],.box [.d .nils]),([3],.box [.d (.sl (some 9) (x.1.2.1.map enD))]),([100],.box [.bx [101] 0,.d (i64 x.1.2.2.err),.d (i64 x.1.2.2.pos),.d (i64 x.1.2.2.nest)]),([101],.box [.d (.sl (some 4) (x.1.2.2.l.map fT)),.d (i64 x.1.2.2.fin)])]) [2,3,100,101] (fun x=>x.1.2.2.l.length) ⟨(s0.l.length.succ,a0,s0),hR,h0,Nat.lt_succ_self _⟩ id ?_ ?_
 ·simp only [go_sem]
  all_goals rfl
 rintro ⟨⟨m,a,q⟩,hb,hg,hm⟩ E0
 refine aH E0 fun Q' hQ E'=>?_
 simp only at hb hg hm ⊢
 have hql:q.l.length≤s.l.length:=hg.ss.len
 obtain ⟨m,rfl⟩:∃ k,m=k+1:=⟨m-1,by omega⟩
 rw [iP] at hb
 simp only [go_sem]
 refine yh E' [13] (some 2) [.agg [.str [43],i64 1],.agg [.str [45],i64 2],.agg [.str [94],i64 7]] rfl ?_
 rw [pw]
 simp only [go_sem]
 have h1:=pM (G:=G) q gC (by omega) (by decide)
 unfold opR opN at h1
 cases ho:opS q gC with
 | none =>
   rw [ho] at h1 hb
   simp only at h1 hb
   subst hb
   unfold ndN at h1
   refine ab E' [.bx [100] 0,.d (opL gC)] (RO q) [100,101] (h1) rfl rfl ⟨by simp only [go_sem],by first | (rw [aa];decide) | (simp only [go_sem]<;>(try rw [aa])<;>decide)⟩ rfl (by unfold RO TO ag;simp only [go_sem]) (by unfold RO TO;simp only [go_sem]) ?_
   rintro _ _ ⟨rfl,rfl⟩
   unfold RO TO ag
   simp only [go_sem]
   rw [hQ]
   simp only [go_sem]
   refine ⟨_,_,[100,101],id,⟨rfl,rfl⟩,?_⟩
   simp only [go_sem]
   rfl
 | some n =>
   rw [ho] at h1 hb
   simp only at h1 hb
   unfold ndN at h1
   refine ab E' [.bx [100] 0,.d (opL gC)] (RO q) [100,101] (h1) rfl rfl ⟨by simp only [go_sem],by first | (rw [aa];decide) | (simp only [go_sem]<;>(try rw [aa])<;>decide)⟩ rfl (by unfold RO TO ag;simp only [go_sem]) (by unfold RO TO;simp only [go_sem]) ?_
   rintro _ _ ⟨rfl,rfl⟩
   unfold RO TO ag
   simp only [go_sem]
   refine al mixed E' fun X=>?_
   simp only [go_sem]
   obtain ⟨b0,q1,hq1⟩:∃ b0 q1,sub q.next=(b0,q1):=⟨_,_,rfl⟩
   have h2:=hc q.next (by have:=(SS.next q).len;omega) ((SS.next q).nest.trans (hg.ss.nest.trans hN))
   have h3:=hsg q.next
   rw [hq1] at h2 h3 hb
   unfold exD at h2
   refine cg X [.bx [100] 0] (RO q.next) [100,101] _ _ h2 rfl rfl ⟨by simp only [go_sem],by rw [aa];decide⟩ rfl (by unfold RO TO ag;simp only [go_sem]) (by unfold RO TO;simp only [go_sem]) (by unfold RO TO;simp only [go_sem]) ?_
   unfold RO TO ag
   simp only [go_sem]
   have ht2:=h3.tr
   have hz1:=hg.sz
   have hz2:=h3.sz
   have hn2:=(SS.next q).len
   simp only at ht2 hz1 hz2
   have h4:=iy (G:=G) { nd0 10 q.peek.pos with n:=n } [a,b0] rfl (by simp) (by simp only [bg,List.map_cons,List.map_nil,List.sum_cons,List.sum_nil];omega)
    (fun l h=>by
     rcases List.mem_cons.1 h with rfl | h
     ·exact hg.tr.kids.2
     ·rw [List.mem_singleton.1 h];exact ht2.kids.2)
    (fun l h=>by
     rcases List.mem_cons.1 h with rfl | h
     ·exact hg.wd.mono (by omega)
     ·rw [List.mem_singleton.1 h];exact h3.wd.mono (by omega))
   have h5:=GP.qF (e:=1) (n:={ nd0 10 q.peek.pos with n:=n }) (s1:=s) (a:=(a,q)) (b:=(b0,q1)) hg h3 (SS.refl s) (SS.next q) rfl rfl (by have:=fy ho;simp only;omega)
   simp only at h5
   generalize aE { nd0 10 q.peek.pos with n:=n } [a,b0]=J at h4 h5 hb
   unfold exD at h4
   refine bX X 24 [24] (some 1) [.agg [.sl (some 9) (a.map enD)],.agg [.sl (some 9) (b0.map enD)]] h4 (fun _=>rfl) rfl rfl rfl (by simp) rfl (by simp only [go_sem]) ?_
   simp only [go_sem]
   refine ⟨by decide +kernel,?_⟩
   rw [hQ]
   simp only [go_sem]
   refine ⟨⟨(m,J,q1),hb,h5,by have:=fy ho;have:=h3.ss.len;show q1.l.length<m;simp only at this;omega⟩,by have:=fy ho;have:=h3.ss.len;show q1.l.length<q.l.length;simp only at this;omega,id,?_⟩
   simp only [go_sem]
   all_goals rfl
end Go.Proofs.YtejpnabbmgpmaaaGreatDoor

namespace Go.Proofs.YtejpnabbmgpmaaaGreatDoor
open Go.Ab
theorem EP {G} {N:Nat} {ex:PS→PR} (hex:∀ s,GP 1 s (ex s)) (hc:Reads 116 G N (rZ ex)):Reads 80 G N (qk ex):=by
 intro s hl hN
 have hsg:=gP hex
 obtain ⟨sub,hsub⟩:∃ sub,sub=rZ ex:=⟨_,rfl⟩
 have hF:qk ex s=match opS (sub s).2 iL with
  | some n=>(aE { nd0 10 (sub s).2.peek.pos with n:=n } [(sub s).1,(sub (sub s).2.next).1],(sub (sub s).2.next).2)
  | none=>sub s:=by rw [hsub];rfl
 rw [hF]
 rw [← hsub] at hc hsg
 generalize hR:(match opS (sub s).2 iL with
  | some n=>(aE { nd0 10 (sub s).2.peek.pos with n:=n } [(sub s).1,(sub (sub s).2.next).1],(sub (sub s).2.next).2)
  | none=>sub s:PR)=R
 have hg:=hsg s
 obtain ⟨a,q,hs0⟩:∃ a q,sub s=(a,q):=⟨_,_,rfl⟩
 have hc0:=hc s hl hN
 rw [hs0] at hR hg hc0
 simp only at hR hc0
 have hql:q.l.length≤s.l.length:=hg.ss.len
 unfold exD at hc0
 have h1:=pM (G:=G) q iL (by omega) (by decide)
 unfold opR opN at h1
 unfold RO TO ag
 refine an Tryz.func80 rfl (by decide +kernel) (by simp [Tryz.ntmps80]) (veil fun E=>?_)
 simp only [go_sem]
 refine ab E [.bx [100] 0] (RO s) [100,101] (hc0) rfl rfl ⟨by simp only [go_sem],by first | (rw [aa];decide) | (simp only [go_sem]<;>(try rw [aa])<;>decide)⟩ rfl (by unfold RO TO ag;simp only [go_sem]) (by unfold RO TO;simp only [go_sem]) ?_
 rintro _ _ ⟨rfl,rfl⟩
 unfold RO TO ag
 simp only [go_sem]
 refine yh E [12] (some 2) [.agg [.str [60],i64 5],.agg [.str [61,61],i64 6]] rfl ?_
 rw [pw]
 simp only [go_sem]
 cases ho:opS q iL with
 | none =>
   rw [ho] at h1 hR
   simp only at h1 hR
   subst hR
   unfold ndN at h1
   refine ab E [.bx [100] 0,.d (opL iL)] (RO q) [100,101] (h1) rfl rfl ⟨by simp only [go_sem],by first | (rw [aa];decide) | (simp only [go_sem]<;>(try rw [aa])<;>decide)⟩ rfl (by unfold RO TO ag;simp only [go_sem]) (by unfold RO TO;simp only [go_sem]) ?_
   rintro _ _ ⟨rfl,rfl⟩
   unfold RO TO ag
   simp only [go_sem]
   refine ⟨_,_,[100,101],id,⟨rfl,rfl⟩,?_⟩
   simp only [go_sem]
   rfl
 | some n =>
   rw [ho] at h1 hR
   simp only at h1 hR
   unfold ndN at h1
   refine ab E [.bx [100] 0,.d (opL iL)] (RO q) [100,101] (h1) rfl rfl ⟨by simp only [go_sem],by first | (rw [aa];decide) | (simp only [go_sem]<;>(try rw [aa])<;>decide)⟩ rfl (by unfold RO TO ag;simp only [go_sem]) (by unfold RO TO;simp only [go_sem]) ?_
   rintro _ _ ⟨rfl,rfl⟩
   unfold RO TO ag
   simp only [go_sem]
   refine al mixed E fun X=>?_
   simp only [go_sem]
   obtain ⟨b0,q1,hq1⟩:∃ b0 q1,sub q.next=(b0,q1):=⟨_,_,rfl⟩
   have h2:=hc q.next (by have:=(SS.next q).len;omega) ((SS.next q).nest.trans (hg.ss.nest.trans hN))
   have h3:=hsg q.next
   rw [hq1] at h2 h3 hR
   unfold exD at h2
   refine cg X [.bx [100] 0] (RO q.next) [100,101] _ _ h2 rfl rfl ⟨by simp only [go_sem],by rw [aa];decide⟩ rfl (by unfold RO TO ag;simp only [go_sem]) (by unfold RO TO;simp only [go_sem]) (by unfold RO TO;simp only [go_sem]) ?_
   unfold RO TO ag
   simp only [go_sem]
   have ht2:=h3.tr
   have hz1:=hg.sz
   have hz2:=h3.sz
   have hn2:=(SS.next q).len
   simp only at ht2 hz1 hz2
   have h4:=iy (G:=G) { nd0 10 q.peek.pos with n:=n } [a,b0] rfl (by simp) (by simp only [bg,List.map_cons,List.map_nil,List.sum_cons,List.sum_nil];omega)
    (fun l h=>by
     rcases List.mem_cons.1 h with rfl | h
     ·exact hg.tr.kids.2
     ·rw [List.mem_singleton.1 h];exact ht2.kids.2)
    (fun l h=>by
     rcases List.mem_cons.1 h with rfl | h
     ·exact hg.wd.mono (by omega)
     ·rw [List.mem_singleton.1 h];exact h3.wd.mono (by omega))
   generalize aE { nd0 10 q.peek.pos with n:=n } [a,b0]=J at h4 hR
   unfold exD at h4
   refine bX X 21 [21] (some 1) [.agg [.sl (some 9) (a.map enD)],.agg [.sl (some 9) (b0.map enD)]] h4 (fun _=>rfl) rfl rfl rfl (by simp) rfl (by simp only [go_sem]) ?_
   simp only [go_sem]
   refine ⟨by decide +kernel,?_⟩
   rw [← hR]
   refine ⟨_,_,[100,101],id,⟨rfl,rfl⟩,?_⟩
   simp only [go_sem]
   rfl
end Go.Proofs.YtejpnabbmgpmaaaGreatDoor

namespace Go.Proofs.YtejpnabbmgpmaaaGreatDoor
open Go.Ab
theorem cI {s:PS} {k:Int} {t:List UInt8} (h:s.sees k t=true):s.may k t=s.next:=by unfold PS.may;rw [h];rfl
theorem dY {s:PS} {k:Int} {t:List UInt8} (h:s.sees k t=false):s.may k t=s:=by unfold PS.may;rw [h];rfl
theorem CX {G} {N:Nat} {ex:PS→PR} (hex:∀ s,GP 1 s (ex s)) (hc:Reads 178 G N (cS ex)):Reads 171 G N (cR ex):=by
 intro s hl hN
 have hg0:=jR hex s
 have hc0:=hc s hl hN
 have hF:cR ex s=eL (cS ex s).2.l.length.succ (cS ex s).1 (cS ex s).2:=rfl
 rw [hF]
 obtain ⟨a0,s0,hs0⟩:∃ a0 s0,cS ex s=(a0,s0):=⟨_,_,rfl⟩
 rw [hs0] at hg0 hc0 ⊢
 simp only at hc0 ⊢
 generalize hR:eL s0.l.length.succ a0 s0=R
 unfold exD at hc0
 unfold RO TO ag
 refine an Tryz.func171 rfl (by decide +kernel) (by simp [Tryz.ntmps171]) (veil fun E=>?_)
 simp only [go_sem]
 refine ab E [.bx [100] 0] (RO s) [100,101] (hc0) rfl rfl ⟨by simp only [go_sem],by first | (rw [aa];decide) | (simp only [go_sem]<;>(try rw [aa])<;>decide)⟩ rfl (by unfold RO TO ag;simp only [go_sem]) (by unfold RO TO;simp only [go_sem]) ?_
 rintro _ _ ⟨rfl,rfl⟩
 unfold RO TO ag
 simp only [go_sem]
 refine aw E (X:={ x:Nat × List EN × PS // eL x.1 x.2.1 x.2.2=R∧GQ s x.2∧x.2.2.l.length<x.1 }) (fun x=>[(0,.bx [100] 0),(2,.bx [2] 0),(3,.bx [3] 0)])
  (fun x=>[([2],.box [.d .nils]),([3],.box [.d (.sl (some 9) (x.1.2.1.map enD))]),([100],.box [.bx [101] 0,.d (i64 x.1.2.2.err),.d (i64 x.1.2.2.pos),.d (i64 x.1.2.2.nest)]),([101],.box [.d (.sl (some 4) (x.1.2.2.l.map fT)),.d (i64 x.1.2.2.fin)])]) [2,3,100,101] (fun x=>x.1.2.2.l.length) ⟨(s0.l.length.succ,a0,s0),hR,hg0,Nat.lt_succ_self _⟩ id ?_ ?_
 ·simp only [go_sem]
  all_goals rfl
 rintro ⟨⟨m,a,q⟩,hb,hg,hm⟩ E0
 refine aH E0 fun Q' hQ E'=>?_
 simp only at hb hg hm ⊢
 have hql:q.l.length≤s.l.length:=hg.1.ss.len
 obtain ⟨m,rfl⟩:∃ k,m=k+1:=⟨m-1,by omega⟩
 have hgn:=ki s 1 a q hg
 rw [eL] at hb
 rw [show eL 1 a q=if q.sees 7 [46] then (aE { nd0 12 q.peek.pos with name:=(q.next.of 2).1 } [a],(q.next.of 2).2) else (a,q) from rfl] at hgn
 simp only [go_sem]
 refine ab E' [.bx [101] 0] (TO q.l q.fin) [101] (cV q.l q.fin (by omega)) rfl rfl ⟨by simp only [go_sem],by first | (rw [aa];decide) | (simp only [go_sem]<;>(try rw [aa])<;>decide)⟩ rfl (by unfold TO ag;simp only [go_sem]) (by unfold TO;simp only [go_sem]) ?_
 rintro _ _ ⟨rfl,rfl⟩
 unfold TO ag
 simp only [go_sem]
 refine ab E' [.bx [100] 0,.d (.str [46])] (RO q) [100,101] (gW q [46] (by omega)) rfl rfl ⟨by simp only [go_sem],by first | (rw [aa];decide) | (simp only [go_sem]<;>(try rw [aa])<;>decide)⟩ rfl (by unfold RO TO ag;simp only [go_sem]) (by unfold RO TO;simp only [go_sem]) ?_
 rintro _ _ ⟨rfl,rfl⟩
 unfold RO TO ag
 simp only [go_sem]
 refine aI E' (fun h=>?_) (fun h=>?_)<;>simp only [go_sem]
 ·have h':q.sees 7 [46]=false:=by simpa using h
  rw [h'] at hb
  rw [dY h',hQ]
  simp only [Bool.false_eq_true,if_false] at hb
  subst hb
  simp only [go_sem]
  refine ⟨_,_,[100,101],id,⟨rfl,rfl⟩,?_⟩
  simp only [go_sem]
  rfl
 ·have h':q.sees 7 [46]=true:=by simpa using h
  have hsl:=aR h'
  rw [h'] at hb hgn
  simp only [if_true] at hb hgn
  rw [cI h']
  refine al mixed E' fun X=>?_
  simp only [go_sem]
  have h2:=kq (G:=G) q.next 2 (by omega)
  obtain ⟨nm,q1,hq1⟩:∃ nm q1,q.next.of 2=(nm,q1):=⟨_,_,rfl⟩
  have hq1l:=(SS.of q.next 2).len
  rw [hq1] at h2 hb hgn hq1l
  simp only at hq1l
  refine cg X [.bx [100] 0,.d (i64 2)] (RO q.next) [100,101] _ _ h2 rfl rfl ⟨by simp only [go_sem],by rw [aa];decide⟩ rfl (by unfold RO TO ag;simp only [go_sem]) (by unfold RO TO;simp only [go_sem]) (by unfold RO TO;simp only [go_sem]) ?_
  unfold RO TO ag
  simp only [go_sem]
  have hz1:=hg.1.sz
  simp only at hz1
  have h4:=iy (G:=G) { nd0 12 q.peek.pos with name:=nm } [a] rfl (by simp) (by simp only [bg,List.map_cons,List.map_nil,List.sum_cons,List.sum_nil];omega)
   (fun l h=>by rw [List.mem_singleton.1 h];exact hg.1.tr.kids.2)
   (fun l h=>by rw [List.mem_singleton.1 h];exact hg.1.wd.mono (by omega))
  simp only at hb hgn
  generalize aE { nd0 12 q.peek.pos with name:=nm } [a]=J at h4 hb hgn
  unfold exD at h4
  refine bX X 22 [22] (some 1) [.agg [.sl (some 9) (a.map enD)]] h4 (fun _=>rfl) rfl rfl rfl (by simp) rfl (by simp only [go_sem]) ?_
  simp only [go_sem]
  refine ⟨by decide +kernel,?_⟩
  rw [hQ]
  simp only [go_sem]
  refine ⟨⟨(m,J,q1),hb,hgn,by show q1.l.length<m;omega⟩,by show q1.l.length<q.l.length;omega,id,?_⟩
  simp only [go_sem]
  all_goals rfl
end Go.Proofs.YtejpnabbmgpmaaaGreatDoor

namespace Go.Proofs.YtejpnabbmgpmaaaGreatDoor
open Go.Ab
def DJ (k:Int) (t:List UInt8):Bool:=decide (k=4) || decide (k=5) || decide (k=2) || (decide (k=1) && (decide (t=gb) || decide (t=dC) || decide (t=jo))) || (decide (k=7) && (decide (t=[40]) || decide (t=[123])))
theorem u6 {G} (s:PS) (hl:s.l.length≤1000000):HCall Tryz.prog G 172 [.bx [100] 0] (RO s) [100,101] (fun r hp'=>r=.d (.bool s.begins)∧hp'=RO s):=by
 have hB:s.begins=DJ (bF s.l s.fin).k (bF s.l s.fin).s:=rfl
 rw [hB]
 have h0:=cV (G:=G) s.l s.fin hl
 generalize bF s.l s.fin=t at h0 ⊢
 generalize hb:DJ t.k t.s=b
 unfold DJ at hb
 unfold RO TO ag
 refine an Tryz.func172 rfl (by decide +kernel) (by simp [Tryz.ntmps172]) (veil fun E=>?_)
 simp only [go_sem]
 refine ab E [.bx [101] 0] (TO s.l s.fin) [101] (h0) rfl rfl ⟨by simp only [go_sem],by first | (rw [aa];decide) | (simp only [go_sem]<;>(try rw [aa])<;>decide)⟩ rfl (by unfold TO ag;simp only [go_sem]) (by unfold TO;simp only [go_sem]) ?_
 rintro _ _ ⟨rfl,rfl⟩
 unfold TO ag
 simp only [go_sem]
 refine ah E (fun h1=>?_) (fun h1=>?_)<;>simp only [go_sem]
 ·rw [decide_eq_true h1]
  simp only [go_sem]
  refine ⟨_,_,[100,101],id,⟨rfl,rfl⟩,?_⟩
  simp only [go_sem]
  simp [← hb,h1]
 refine ah E (fun h2=>?_) (fun h2=>?_)<;>simp only [go_sem]
 ·rw [decide_eq_true h2]
  simp only [go_sem]
  refine ⟨_,_,[100,101],id,⟨rfl,rfl⟩,?_⟩
  simp only [go_sem]
  simp [← hb,h2]
 refine ah E (fun h3=>?_) (fun h3=>?_)<;>simp only [go_sem]
 ·refine ⟨_,_,[100,101],id,⟨rfl,rfl⟩,?_⟩
  simp only [go_sem]
  simp [← hb,h3]
 refine ah E (fun h4=>?_) (fun h4=>?_)<;>simp only [go_sem]
 ·refine bl E (fun h6=>?_) (fun h6=>?_)<;>simp only [go_sem]
  ·refine ⟨_,_,[100,101],id,⟨rfl,rfl⟩,?_⟩
   simp only [go_sem]
   have h6':t.s=gb:=by simpa [gb] using h6
   simp [← hb,h4,h6']
  refine bl E (fun h7=>?_) (fun h7=>?_)<;>simp only [go_sem]
  ·refine ⟨_,_,[100,101],id,⟨rfl,rfl⟩,?_⟩
   simp only [go_sem]
   have h7':t.s=dC:=by simpa [dC] using h7
   simp [← hb,h4,h7']
  ·refine ⟨_,_,[100,101],id,⟨rfl,rfl⟩,?_⟩
   simp only [go_sem]
   have h6':¬ t.s=gb:=by simpa [gb] using h6
   have h7':¬ t.s=dC:=by simpa [dC] using h7
   by_cases h8:t.s=jo
   ·simp [← hb,h4,h8,jo]
   ·have h8':=h8;unfold jo at h8';simp [← hb,h4,h6',h7',h8,h8']
 refine ah E (fun h5=>?_) (fun h5=>?_)<;>simp only [go_sem]
 ·refine bl E (fun h6=>?_) (fun h6=>?_)<;>simp only [go_sem]
  ·refine ⟨_,_,[100,101],id,⟨rfl,rfl⟩,?_⟩
   simp only [go_sem]
   have h6':t.s=[40]:=by simpa using h6
   simp [← hb,h5,h6']
  ·refine ⟨_,_,[100,101],id,⟨rfl,rfl⟩,?_⟩
   simp only [go_sem]
   have h6':¬ t.s=[40]:=by simpa using h6
   by_cases h8:t.s=[123]<;>simp [← hb,h5,h6',h8]
 ·refine ⟨_,_,[100,101],id,⟨rfl,rfl⟩,?_⟩
  simp only [go_sem]
  simp [← hb,h1,h2,h3,h4,h5]
theorem Ci {G} {N:Nat} {ex:PS→PR} (hex:∀ s,GP 1 s (ex s)) (hc:Reads 171 G N (cR ex)):Reads 160 G N (kj ex):=by
 intro s hl hN
 generalize hR:kj ex s=R
 unfold kj PS.has at hR
 rw [ig] at hR
 have hsg:=dV hex
 have hpk:=cV (G:=G) s.l s.fin (by omega)
 generalize bF s.l s.fin=t at hpk hR
 unfold RO TO ag
 refine an Tryz.func160 rfl (by decide +kernel) (by simp [Tryz.ntmps160]) (veil fun E=>?_)
 simp only [go_sem]
 refine ab E [.bx [101] 0] (TO s.l s.fin) [101] (hpk) rfl rfl ⟨by simp only [go_sem],by first | (rw [aa];decide) | (simp only [go_sem]<;>(try rw [aa])<;>decide)⟩ rfl (by unfold TO ag;simp only [go_sem]) (by unfold TO;simp only [go_sem]) ?_
 rintro _ _ ⟨rfl,rfl⟩
 unfold TO ag
 simp only [go_sem]
 refine ab E [.bx [100] 0] (RO s) [100,101] (ef s) rfl rfl ⟨by simp only [go_sem],by first | (rw [aa];decide) | (simp only [go_sem]<;>(try rw [aa])<;>decide)⟩ rfl (by unfold RO TO ag;simp only [go_sem]) (by unfold RO TO;simp only [go_sem]) ?_
 rintro _ _ ⟨rfl,rfl⟩
 unfold RO TO ag
 simp only [go_sem]
 obtain ⟨a0,s0,hs0⟩:∃ a0 s0,cR ex s=(a0,s0):=⟨_,_,rfl⟩
 have h0:=(hsg s).1
 have hc0:=hc s hl hN
 rw [hs0] at h0 hc0
 unfold exD at hc0
 simp only [hs0] at hR
 refine ao E (fun h1=>?_) (fun h1=>?_)<;>simp only [go_sem]
 ·refine ah E (fun h2=>?_) (fun h2=>?_)<;>simp only [go_sem]
  ·simp only [decide_eq_true h1,decide_eq_true h2,Bool.and_self,if_true] at hR
   refine ab E [.bx [101] 0] (TO s.l s.fin) [101] (gY s.l s.fin (by omega)) rfl rfl ⟨by simp only [go_sem],by first | (rw [aa];decide) | (simp only [go_sem]<;>(try rw [aa])<;>decide)⟩ rfl (by unfold TO ag;simp only [go_sem]) (by unfold TO;simp only [go_sem]) ?_
   rintro _ _ ⟨rfl,rfl⟩
   unfold TO ag
   simp only [go_sem]
   refine al mixed E fun X=>?_
   simp only [go_sem]
   obtain ⟨b0,q1,hq1⟩:∃ b0 q1,cR ex s.next=(b0,q1):=⟨_,_,rfl⟩
   have hn2:=(SS.next s).len
   have g2:=hc s.next (by omega) ((SS.next s).nest.trans hN)
   have h3:=(hsg s.next).1
   rw [hq1] at g2 h3 hR
   unfold exD at g2
   refine cg X [.bx [100] 0] (RO s.next) [100,101] _ _ g2 rfl rfl ⟨by simp only [go_sem],by rw [aa];decide⟩ rfl (by unfold RO TO ag PS.next;simp only [go_sem]) (by unfold RO TO;simp only [go_sem]) (by unfold RO TO;simp only [go_sem]) ?_
   unfold RO TO ag
   simp only [go_sem]
   have ht2:=h3.tr
   have hz2:=h3.sz
   simp only at ht2 hz2 hR
   have h4:=iy (G:=G) { nd0 13 t.pos with name:=t.s } [b0] rfl (by simp) (by simp only [bg,List.map_cons,List.map_nil,List.sum_cons,List.sum_nil];omega)
    (fun l h=>by rw [List.mem_singleton.1 h];exact ht2.kids.2)
    (fun l h=>by rw [List.mem_singleton.1 h];exact h3.wd.mono (by omega))
   generalize aE { nd0 13 t.pos with name:=t.s } [b0]=J at h4 hR
   unfold exD at h4
   refine bX X 29 [29] (some 1) [.agg [.sl (some 9) (b0.map enD)]] h4 (fun _=>rfl) rfl rfl rfl (by simp) rfl (by simp only [go_sem]) ?_
   simp only [go_sem]
   refine ⟨by decide +kernel,?_⟩
   rw [← hR]
   refine ⟨_,_,[100,101],id,⟨rfl,rfl⟩,?_⟩
   simp only [go_sem]
   rfl
  ·simp only [decide_eq_true h1,decide_eq_false h2,Bool.and_false,Bool.false_eq_true,if_false] at hR
   refine ab E [.bx [100] 0] (RO s) [100,101] (hc0) rfl rfl ⟨by simp only [go_sem],by first | (rw [aa];decide) | (simp only [go_sem]<;>(try rw [aa])<;>decide)⟩ rfl (by unfold RO TO ag;simp only [go_sem]) (by unfold RO TO;simp only [go_sem]) ?_
   rintro _ _ ⟨rfl,rfl⟩
   unfold RO TO ag
   simp only [go_sem]
   refine aw E (X:={ x:Nat × List EN × PS // gm ex x.1 x.2.1 x.2.2=R∧GP 1 s x.2∧x.2.2.l.length<x.1 }) (fun x=>[(0,.bx [100] 0),(2,.bx [2] 0),(4,.bx [4] 0)])
    (fun x=>[([2],.box [.d .nils]),([4],.box [.d (.sl (some 9) (x.1.2.1.map enD))]),([100],.box [.bx [101] 0,.d (i64 x.1.2.2.err),.d (i64 x.1.2.2.pos),.d (i64 x.1.2.2.nest)]),([101],.box [.d (.sl (some 4) (x.1.2.2.l.map fT)),.d (i64 x.1.2.2.fin)])]) [2,4,100,101] (fun x=>x.1.2.2.l.length) ⟨(s0.l.length.succ,a0,s0),hR,h0,Nat.lt_succ_self _⟩ id ?_ ?_
   ·simp only [go_sem]
    all_goals rfl
   rintro ⟨⟨m,a,q⟩,hb,hg,hm⟩ E0
   refine aH E0 fun Q' hQ E'=>?_
   simp only at hb hg hm ⊢
   have hql:q.l.length≤s.l.length:=hg.ss.len
   obtain ⟨m,rfl⟩:∃ k,m=k+1:=⟨m-1,by omega⟩
   have hgn:=gZ hex s 1 a q hg
   rw [gm] at hb
   rw [show gm ex 1 a q=if decide (q.err=0) && q.begins then (aE (nd0 6 (gk a).pos) [a,(cR ex q).1],(cR ex q).2) else (a,q) from rfl] at hgn
   simp only [go_sem]
   refine ab E' [.bx [100] 0] (RO q) [100,101] (ef q) rfl rfl ⟨by simp only [go_sem],by first | (rw [aa];decide) | (simp only [go_sem]<;>(try rw [aa])<;>decide)⟩ rfl (by unfold RO TO ag;simp only [go_sem]) (by unfold RO TO;simp only [go_sem]) ?_
   rintro _ _ ⟨rfl,rfl⟩
   unfold RO TO ag
   simp only [go_sem]
   refine ao E' (fun g1=>?_) (fun g1=>?_)<;>simp only [go_sem]
   ·refine ab E' [.bx [100] 0] (RO q) [100,101] (u6 q (by omega)) rfl rfl ⟨by simp only [go_sem],by first | (rw [aa];decide) | (simp only [go_sem]<;>(try rw [aa])<;>decide)⟩ rfl (by unfold RO TO ag;simp only [go_sem]) (by unfold RO TO;simp only [go_sem]) ?_
    rintro _ _ ⟨rfl,rfl⟩
    unfold RO TO ag
    simp only [go_sem]
    refine aI E' (fun g2=>?_) (fun g2=>?_)<;>simp only [go_sem]
    ·simp only [decide_eq_true g1,g2,Bool.true_and,if_true] at hb hgn
     have hap:=hg.tr.kids.1
     have hz1:=hg.sz
     simp only at hap hz1
     refine al mixed E' fun X=>?_
     simp only [go_sem]
     rw [ai (n:=(a.length:Int)-1) ⟨by omega,by omega⟩]
     refine ⟨by omega,?_⟩
     rw [show ((a.length:Int)-1).toNat=a.length-1 by omega,cM (show a.length-1<a.length by omega)]
     have hrt:gk a=ndE a (a.length-1):=rfl
     rw [← hrt]
     generalize gk a=rt at hb hgn ⊢
     simp only [go_sem]
     obtain ⟨b0,q1,hq1⟩:∃ b0 q1,cR ex q=(b0,q1):=⟨_,_,rfl⟩
     have h2:=hc q (by omega) (hg.ss.nest.trans hN)
     have h3:=(hsg q).1
     have hlt:=jW hex g1 g2
     rw [hq1] at h2 h3 hb hgn hlt
     unfold exD at h2
     refine cg X [.bx [100] 0] (RO q) [100,101] _ _ h2 rfl rfl ⟨by simp only [go_sem],by rw [aa];decide⟩ rfl (by unfold RO TO ag;simp only [go_sem]) (by unfold RO TO;simp only [go_sem]) (by unfold RO TO;simp only [go_sem]) ?_
     unfold RO TO ag
     simp only [go_sem]
     have ht2:=h3.tr
     have hz2:=h3.sz
     simp only at ht2 hz2 hlt
     have h4:=iy (G:=G) (nd0 6 rt.pos) [a,b0] rfl (by simp) (by simp only [bg,List.map_cons,List.map_nil,List.sum_cons,List.sum_nil];omega)
      (fun l h=>by
       rcases List.mem_cons.1 h with rfl | h
       ·exact hg.tr.kids.2
       ·rw [List.mem_singleton.1 h];exact ht2.kids.2)
      (fun l h=>by
       rcases List.mem_cons.1 h with rfl | h
       ·exact hg.wd.mono (by omega)
       ·rw [List.mem_singleton.1 h];exact h3.wd.mono (by omega))
     simp only at hb hgn
     generalize aE (nd0 6 rt.pos) [a,b0]=J at h4 hb hgn
     unfold exD at h4
     refine bX X 52 [52] (some 1) [.agg [.sl (some 9) (a.map enD)],.agg [.sl (some 9) (b0.map enD)]] h4 (fun _=>rfl) rfl rfl rfl (by simp) rfl (by simp only [go_sem]) ?_
     simp only [go_sem]
     refine ⟨by decide +kernel,?_⟩
     rw [hQ]
     simp only [go_sem]
     refine ⟨⟨(m,J,q1),hb,hgn,by show q1.l.length<m;omega⟩,hlt,id,?_⟩
     simp only [go_sem]
     all_goals rfl
    ·simp only [g2,Bool.and_false,Bool.false_eq_true,if_false] at hb
     subst hb
     rw [hQ]
     simp only [go_sem]
     refine ⟨_,_,[100,101],id,⟨rfl,rfl⟩,?_⟩
     simp only [go_sem]
     rfl
   ·simp only [decide_eq_false g1,Bool.false_and,Bool.false_eq_true,if_false] at hb
    subst hb
    rw [hQ]
    simp only [go_sem]
    refine ⟨_,_,[100,101],id,⟨rfl,rfl⟩,?_⟩
    simp only [go_sem]
    rfl
 ·simp only [decide_eq_false h1,Bool.false_and,Bool.false_eq_true,if_false] at hR
  refine ab E [.bx [100] 0] (RO s) [100,101] (hc0) rfl rfl ⟨by simp only [go_sem],by first | (rw [aa];decide) | (simp only [go_sem]<;>(try rw [aa])<;>decide)⟩ rfl (by unfold RO TO ag;simp only [go_sem]) (by unfold RO TO;simp only [go_sem]) ?_
  rintro _ _ ⟨rfl,rfl⟩
  unfold RO TO ag
  simp only [go_sem]
  refine aw E (X:={ x:Nat × List EN × PS // gm ex x.1 x.2.1 x.2.2=R∧GP 1 s x.2∧x.2.2.l.length<x.1 }) (fun x=>[(0,.bx [100] 0),(2,.bx [2] 0),(4,.bx [4] 0)])
   (fun x=>[([2],.box [.d .nils]),([4],.box [.d (.sl (some 9) (x.1.2.1.map enD))]),([100],.box [.bx [101] 0,.d (i64 x.1.2.2.err),.d (i64 x.1.2.2.pos),.d (i64 x.1.2.2.nest)]),([101],.box [.d (.sl (some 4) (x.1.2.2.l.map fT)),.d (i64 x.1.2.2.fin)])]) [2,4,100,101] (fun x=>x.1.2.2.l.length) ⟨(s0.l.length.succ,a0,s0),hR,h0,Nat.lt_succ_self _⟩ id ?_ ?_
  ·simp only [go_sem]
   all_goals rfl
  rintro ⟨⟨m,a,q⟩,hb,hg,hm⟩ E0
  refine aH E0 fun Q' hQ E'=>?_
  simp only at hb hg hm ⊢
  have hql:q.l.length≤s.l.length:=hg.ss.len
  obtain ⟨m,rfl⟩:∃ k,m=k+1:=⟨m-1,by omega⟩
  have hgn:=gZ hex s 1 a q hg
  rw [gm] at hb
  rw [show gm ex 1 a q=if decide (q.err=0) && q.begins then (aE (nd0 6 (gk a).pos) [a,(cR ex q).1],(cR ex q).2) else (a,q) from rfl] at hgn
  simp only [go_sem]
  refine ab E' [.bx [100] 0] (RO q) [100,101] (ef q) rfl rfl ⟨by simp only [go_sem],by first | (rw [aa];decide) | (simp only [go_sem]<;>(try rw [aa])<;>decide)⟩ rfl (by unfold RO TO ag;simp only [go_sem]) (by unfold RO TO;simp only [go_sem]) ?_
  rintro _ _ ⟨rfl,rfl⟩
  unfold RO TO ag
  simp only [go_sem]
  refine ao E' (fun g1=>?_) (fun g1=>?_)<;>simp only [go_sem]
  ·refine ab E' [.bx [100] 0] (RO q) [100,101] (u6 q (by omega)) rfl rfl ⟨by simp only [go_sem],by first | (rw [aa];decide) | (simp only [go_sem]<;>(try rw [aa])<;>decide)⟩ rfl (by unfold RO TO ag;simp only [go_sem]) (by unfold RO TO;simp only [go_sem]) ?_
   rintro _ _ ⟨rfl,rfl⟩
   unfold RO TO ag
   simp only [go_sem]
   refine aI E' (fun g2=>?_) (fun g2=>?_)<;>simp only [go_sem]
   ·simp only [decide_eq_true g1,g2,Bool.true_and,if_true] at hb hgn
    have hap:=hg.tr.kids.1
    have hz1:=hg.sz
    simp only at hap hz1
    refine al mixed E' fun X=>?_
    simp only [go_sem]
    rw [ai (n:=(a.length:Int)-1) ⟨by omega,by omega⟩]
    refine ⟨by omega,?_⟩
    rw [show ((a.length:Int)-1).toNat=a.length-1 by omega,cM (show a.length-1<a.length by omega)]
    have hrt:gk a=ndE a (a.length-1):=rfl
    rw [← hrt]
    generalize gk a=rt at hb hgn ⊢
    simp only [go_sem]
    obtain ⟨b0,q1,hq1⟩:∃ b0 q1,cR ex q=(b0,q1):=⟨_,_,rfl⟩
    have h2:=hc q (by omega) (hg.ss.nest.trans hN)
    have h3:=(hsg q).1
    have hlt:=jW hex g1 g2
    rw [hq1] at h2 h3 hb hgn hlt
    unfold exD at h2
    refine cg X [.bx [100] 0] (RO q) [100,101] _ _ h2 rfl rfl ⟨by simp only [go_sem],by rw [aa];decide⟩ rfl (by unfold RO TO ag;simp only [go_sem]) (by unfold RO TO;simp only [go_sem]) (by unfold RO TO;simp only [go_sem]) ?_
    unfold RO TO ag
    simp only [go_sem]
    have ht2:=h3.tr
    have hz2:=h3.sz
    simp only at ht2 hz2 hlt
    have h4:=iy (G:=G) (nd0 6 rt.pos) [a,b0] rfl (by simp) (by simp only [bg,List.map_cons,List.map_nil,List.sum_cons,List.sum_nil];omega)
     (fun l h=>by
      rcases List.mem_cons.1 h with rfl | h
      ·exact hg.tr.kids.2
      ·rw [List.mem_singleton.1 h];exact ht2.kids.2)
     (fun l h=>by
      rcases List.mem_cons.1 h with rfl | h
      ·exact hg.wd.mono (by omega)
      ·rw [List.mem_singleton.1 h];exact h3.wd.mono (by omega))
    simp only at hb hgn
    generalize aE (nd0 6 rt.pos) [a,b0]=J at h4 hb hgn
    unfold exD at h4
    refine bX X 52 [52] (some 1) [.agg [.sl (some 9) (a.map enD)],.agg [.sl (some 9) (b0.map enD)]] h4 (fun _=>rfl) rfl rfl rfl (by simp) rfl (by simp only [go_sem]) ?_
    simp only [go_sem]
    refine ⟨by decide +kernel,?_⟩
    rw [hQ]
    simp only [go_sem]
    refine ⟨⟨(m,J,q1),hb,hgn,by show q1.l.length<m;omega⟩,hlt,id,?_⟩
    simp only [go_sem]
    all_goals rfl
   ·simp only [g2,Bool.and_false,Bool.false_eq_true,if_false] at hb
    subst hb
    rw [hQ]
    simp only [go_sem]
    refine ⟨_,_,[100,101],id,⟨rfl,rfl⟩,?_⟩
    simp only [go_sem]
    rfl
  ·simp only [decide_eq_false g1,Bool.false_and,Bool.false_eq_true,if_false] at hb
   subst hb
   rw [hQ]
   simp only [go_sem]
   refine ⟨_,_,[100,101],id,⟨rfl,rfl⟩,?_⟩
   simp only [go_sem]
   rfl
end Go.Proofs.YtejpnabbmgpmaaaGreatDoor

namespace Go.Proofs.YtejpnabbmgpmaaaGreatDoor
open Go.Ab
def p8 (f:Nat) (G:List (Nat × Obj)) (N:Nat) (sub:PS→Int→PR):Prop:=∀ (s:PS) (p:Int),s.l.length≤100000→s.nest=N→HCall Tryz.prog G f [.bx [100] 0,.d (i64 p)] (RO s) [100,101] (fun r hp'=>r=.d (exD (sub s p).1)∧hp'=RO (sub s p).2)
theorem DZ {G} {N:Nat} {ex:PS→PR} (hex:∀ s,GP 1 s (ex s)) (hc:Reads 34 G N ex):p8 79 G N (ifS ex):=by
 intro s p hl hN
 generalize hR:ifS ex s p=R
 unfold ifS at hR
 have ha:=hex s
 have ca:=hc s hl hN
 obtain ⟨a,sa,ea⟩:∃ a sa,ex s=(a,sa):=⟨_,_,rfl⟩
 rw [ea] at ha ca hR
 have la:=ha.ss.len
 have na:=ha.ss.nest
 have cm:=ec (G:=G) sa 1 l7 (by simp only at la;omega) (by decide)
 have hm:=SS.must sa 1 l7
 simp only at hR la na
 generalize sa.must 1 l7=s2 at hR cm hm
 have l2:=hm.len
 have n2:=hm.nest
 have hb:=hex s2
 have cb:=hc s2 (by omega) (by rw [n2,na,hN])
 obtain ⟨b,sb,eb⟩:∃ b sb,ex s2=(b,sb):=⟨_,_,rfl⟩
 rw [eb] at hb cb hR
 have lb:=hb.ss.len
 have nb:=hb.ss.nest
 simp only at hR lb nb
 have cm2:=ec (G:=G) sb 1 mL (by omega) (by decide)
 have hm2:=SS.must sb 1 mL
 generalize sb.must 1 mL=s3 at hR cm2 hm2
 have l3:=hm2.len
 have n3:=hm2.nest
 have hd:=hex s3
 have cd:=hc s3 (by omega) (by rw [n3,nb,n2,na,hN])
 obtain ⟨d,sd,ed⟩:∃ d sd,ex s3=(d,sd):=⟨_,_,rfl⟩
 rw [ed] at hd cd hR
 simp only at hR
 have za:=ha.sz
 have zb:=hb.sz
 have zd:=hd.sz
 simp only at za zb zd
 have h4:=iy (G:=G) (nd0 9 p) [a,b,d] rfl (by simp) (by simp only [bg,List.map_cons,List.map_nil,List.sum_cons,List.sum_nil];omega)
  (fun l h=>by
   simp only [List.mem_cons,List.mem_singleton,List.not_mem_nil,or_false] at h
   rcases h with rfl | rfl | rfl
   ·exact ha.tr.kids.2
   ·exact hb.tr.kids.2
   ·exact hd.tr.kids.2)
  (fun l h=>by
   simp only [List.mem_cons,List.mem_singleton,List.not_mem_nil,or_false] at h
   rcases h with rfl | rfl | rfl
   ·exact ha.wd.mono (by omega)
   ·exact hb.wd.mono (by omega)
   ·exact hd.wd.mono (by omega))
 generalize aE (nd0 9 p) [a,b,d]=J at h4 hR
 unfold exD at h4 ca cb cd
 subst hR
 unfold RO TO ag
 refine an Tryz.func79 rfl (by decide +kernel) (by simp [Tryz.ntmps79]) (veil fun E=>?_)
 simp only [go_sem]
 refine ab E [.bx [100] 0] (RO s) [100,101] (ca) rfl rfl ⟨by simp only [go_sem],by first | (rw [aa];decide) | (simp only [go_sem]<;>(try rw [aa])<;>decide)⟩ rfl (by unfold RO TO ag;simp only [go_sem]) (by unfold RO TO;simp only [go_sem]) ?_
 rintro _ _ ⟨rfl,rfl⟩
 unfold RO TO ag
 simp only [go_sem]
 refine ab E [.bx [100] 0,.d (i64 1),.d (.str l7)] (RO sa) [100,101] (cm) rfl rfl ⟨by simp only [go_sem],by first | (rw [aa];decide) | (simp only [go_sem]<;>(try rw [aa])<;>decide)⟩ rfl (by unfold RO TO ag;simp only [go_sem]) (by unfold RO TO;simp only [go_sem]) ?_
 rintro _ _ ⟨rfl,rfl⟩
 unfold RO TO ag
 simp only [go_sem]
 refine ab E [.bx [100] 0] (RO s2) [100,101] (cb) rfl rfl ⟨by simp only [go_sem],by first | (rw [aa];decide) | (simp only [go_sem]<;>(try rw [aa])<;>decide)⟩ rfl (by unfold RO TO ag;simp only [go_sem]) (by unfold RO TO;simp only [go_sem]) ?_
 rintro _ _ ⟨rfl,rfl⟩
 unfold RO TO ag
 simp only [go_sem]
 refine ab E [.bx [100] 0,.d (i64 1),.d (.str mL)] (RO sb) [100,101] (cm2) rfl rfl ⟨by simp only [go_sem],by first | (rw [aa];decide) | (simp only [go_sem]<;>(try rw [aa])<;>decide)⟩ rfl (by unfold RO TO ag;simp only [go_sem]) (by unfold RO TO;simp only [go_sem]) ?_
 rintro _ _ ⟨rfl,rfl⟩
 unfold RO TO ag
 simp only [go_sem]
 refine al mixed E fun X=>?_
 simp only [go_sem]
 refine cg X [.bx [100] 0] (RO s3) [100,101] _ _ cd rfl rfl ⟨by simp only [go_sem],by rw [aa];decide⟩ rfl (by unfold RO TO ag;simp only [go_sem]) (by unfold RO TO;simp only [go_sem]) (by unfold RO TO;simp only [go_sem]) ?_
 unfold RO TO ag
 simp only [go_sem]
 refine bX X 21 [21] (some 1) [.agg [.sl (some 9) (a.map enD)],.agg [.sl (some 9) (b.map enD)],.agg [.sl (some 9) (d.map enD)]] h4 (fun _=>rfl) rfl rfl rfl (by simp) rfl (by simp only [go_sem]) ?_
 simp only [go_sem]
 refine ⟨by decide +kernel,?_⟩
 refine ⟨_,_,[100,101],id,⟨rfl,rfl⟩,?_⟩
 simp only [go_sem]
 rfl
end Go.Proofs.YtejpnabbmgpmaaaGreatDoor

namespace Go.Proofs.YtejpnabbmgpmaaaGreatDoor
open Go.Ab
theorem Ec {G} {N:Nat} {ex:PS→PR} (hex:∀ s,GP 1 s (ex s)) (hc:Reads 34 G N ex):p8 78 G N (p7 ex):=by
 intro s p hl hN
 generalize hR:p7 ex s p=R
 unfold p7 at hR
 have cw:=iO (G:=G) s iJ (by omega)
 have hw:=SS.may s 1 iJ
 obtain ⟨c,hcc⟩:∃ c,c=s.sees 1 iJ:=⟨_,rfl⟩
 rw [← hcc] at cw
 simp only [← hcc] at hR
 generalize s.may 1 iJ=s1 at hR cw hw
 have l1:=hw.len
 have n1:=hw.nest
 have co:=kq (G:=G) s1 2 (by omega)
 have ho:=SS.of s1 2
 obtain ⟨nm,so,eo⟩:∃ nm so,s1.of 2=(nm,so):=⟨_,_,rfl⟩
 rw [eo] at co ho hR
 simp only at co ho hR
 have lo:=ho.len
 have no:=ho.nest
 have cm:=ec (G:=G) so 7 [61] (by omega) (by decide)
 have hm:=SS.must so 7 [61]
 generalize so.must 7 [61]=s2 at hR cm hm
 have l2:=hm.len
 have n2:=hm.nest
 have cp:=cV (G:=G) s2.l s2.fin (by omega)
 rw [ig] at hR
 generalize bF s2.l s2.fin=t at hR cp
 have ha:=hex s2
 have ca:=hc s2 (by omega) (by rw [n2,no,n1,hN])
 obtain ⟨a,sa,ea⟩:∃ a sa,ex s2=(a,sa):=⟨_,_,rfl⟩
 rw [ea] at ha ca hR
 have la:=ha.ss.len
 have na:=ha.ss.nest
 simp only at hR la na
 have hap:=ha.tr.kids.1
 have za:=ha.sz
 simp only at hap za
 have cf:=lS (G:=G) sa 5 t.pos
 have key:∀ s3:PS,s3.l=sa.l→s3.nest=sa.nest→∀ k:Int,(aE { nd0 k p with name:=nm } [a,(ex (s3.must 1 bIn)).1],(ex (s3.must 1 bIn)).2)=R →
   HCall Tryz.prog G 76 [.bx [100] 0,.d (i64 1),.d (.str bIn)] (RO s3) [100,101] (fun r hp'=>r=.tup []∧hp'=RO (s3.must 1 bIn))∧∃ b sb J,R=(J,sb) ∧
   HCall Tryz.prog G 34 [.bx [100] 0] (RO (s3.must 1 bIn)) [100,101] (fun r hp'=>r=.d (.agg [.sl (some 9) (b.map enD)])∧hp'=RO sb) ∧
   HP Tryz.prog G 77 [ndN { nd0 k p with name:=nm },.sl (some 1) ([a,b].map exD)] (fun r=>r=.d (.agg [.sl (some 9) (J.map enD)])):=by
  intro s3 e1 e2 k hk
  have cm3:=ec (G:=G) s3 1 bIn (by rw [e1];omega) (by decide)
  have hm3:=SS.must s3 1 bIn
  generalize s3.must 1 bIn=s4 at hk cm3 hm3 ⊢
  have l4:=hm3.len
  have n4:=hm3.nest
  rw [e1] at l4
  have hb:=hex s4
  have cb:=hc s4 (by omega) (by rw [n4,e2,na,n2,no,n1,hN])
  obtain ⟨b,sb,eb⟩:∃ b sb,ex s4=(b,sb):=⟨_,_,rfl⟩
  rw [eb] at hb cb hk
  have zb:=hb.sz
  simp only at zb hk
  have h4:=iy (G:=G) { nd0 k p with name:=nm } [a,b] rfl (by simp) (by simp only [bg,List.map_cons,List.map_nil,List.sum_cons,List.sum_nil];omega)
   (fun l h=>by
    simp only [List.mem_cons,List.mem_singleton,List.not_mem_nil,or_false] at h
    rcases h with rfl | rfl
    ·exact ha.tr.kids.2
    ·exact hb.tr.kids.2)
   (fun l h=>by
    simp only [List.mem_cons,List.mem_singleton,List.not_mem_nil,or_false] at h
    rcases h with rfl | rfl
    ·exact ha.wd.mono (by omega)
    ·exact hb.wd.mono (by omega))
  exact ⟨cm3,b,sb,_,hk.symm,cb,h4⟩
 unfold exD at ca
 unfold RO TO ag
 refine an Tryz.func78 rfl (by decide +kernel) (by simp [Tryz.ntmps78]) (veil fun E=>?_)
 simp only [go_sem]
 refine ab E [.bx [100] 0,.d (.str iJ)] (RO s) [100,101] (cw) rfl rfl ⟨by simp only [go_sem],by first | (rw [aa];decide) | (simp only [go_sem]<;>(try rw [aa])<;>decide)⟩ rfl (by unfold RO TO ag;simp only [go_sem]) (by unfold RO TO;simp only [go_sem]) ?_
 rintro _ _ ⟨rfl,rfl⟩
 unfold RO TO ag
 simp only [go_sem]
 refine aI E (fun g=>?_) (fun g=>?_)<;>simp only [go_sem]
 ·rw [if_pos g] at hR
  refine ab E [.bx [100] 0,.d (i64 2)] (RO s1) [100,101] (co) rfl rfl ⟨by simp only [go_sem],by first | (rw [aa];decide) | (simp only [go_sem]<;>(try rw [aa])<;>decide)⟩ rfl (by unfold RO TO ag;simp only [go_sem]) (by unfold RO TO;simp only [go_sem]) ?_
  rintro _ _ ⟨rfl,rfl⟩
  unfold RO TO ag
  simp only [go_sem]
  refine ab E [.bx [100] 0,.d (i64 7),.d (.str [61])] (RO so) [100,101] (cm) rfl rfl ⟨by simp only [go_sem],by first | (rw [aa];decide) | (simp only [go_sem]<;>(try rw [aa])<;>decide)⟩ rfl (by unfold RO TO ag;simp only [go_sem]) (by unfold RO TO;simp only [go_sem]) ?_
  rintro _ _ ⟨rfl,rfl⟩
  unfold RO TO ag
  simp only [go_sem]
  refine ab E [.bx [101] 0] (TO s2.l s2.fin) [101] (cp) rfl rfl ⟨by simp only [go_sem],by first | (rw [aa];decide) | (simp only [go_sem]<;>(try rw [aa])<;>decide)⟩ rfl (by unfold TO ag;simp only [go_sem]) (by unfold TO;simp only [go_sem]) ?_
  rintro _ _ ⟨rfl,rfl⟩
  unfold TO ag
  simp only [go_sem]
  refine ab E [.bx [100] 0] (RO s2) [100,101] (ca) rfl rfl ⟨by simp only [go_sem],by first | (rw [aa];decide) | (simp only [go_sem]<;>(try rw [aa])<;>decide)⟩ rfl (by unfold RO TO ag;simp only [go_sem]) (by unfold RO TO;simp only [go_sem]) ?_
  rintro _ _ ⟨rfl,rfl⟩
  unfold RO TO ag
  simp only [go_sem]
  rw [ai (n:=(a.length:Int)-1) ⟨by omega,by omega⟩]
  refine ⟨by omega,?_⟩
  rw [show ((a.length:Int)-1).toNat=a.length-1 by omega,cM (show a.length-1<a.length by omega)]
  have hrt:gk a=ndE a (a.length-1):=rfl
  rw [← hrt]
  simp only [go_sem]
  refine ah E (fun h=>?_) (fun h=>?_)<;>simp only [go_sem]
  ·rw [if_pos ⟨rfl,h⟩] at hR
   refine ab E [.bx [100] 0,.d (i64 5),.d (i64 t.pos)] (RO sa) [100,101] (cf) rfl rfl ⟨by simp only [go_sem],by first | (rw [aa];decide) | (simp only [go_sem]<;>(try rw [aa])<;>decide)⟩ rfl (by unfold RO TO ag;simp only [go_sem]) (by unfold RO TO;simp only [go_sem]) ?_
   rintro _ _ ⟨rfl,rfl⟩
   unfold RO TO ag
   simp only [go_sem]
   obtain ⟨k1,b,sb,J,eR,k2,k3⟩:=key (sa.fail 5 t.pos) (mU _ _ _) (by unfold PS.fail;split<;>rfl) 8 hR
   subst eR
   refine ab E [.bx [100] 0,.d (i64 1),.d (.str bIn)] (RO (sa.fail 5 t.pos)) [100,101] (k1) rfl rfl ⟨by simp only [go_sem],by first | (rw [aa];decide) | (simp only [go_sem]<;>(try rw [aa])<;>decide)⟩ rfl (by unfold RO TO ag;simp only [go_sem]) (by unfold RO TO;simp only [go_sem]) ?_
   rintro _ _ ⟨rfl,rfl⟩
   unfold RO TO ag
   simp only [go_sem]
   refine al mixed E fun X=>?_
   simp only [go_sem]
   refine cg X [.bx [100] 0] (RO ((sa.fail 5 t.pos).must 1 bIn)) [100,101] _ _ k2 rfl rfl ⟨by simp only [go_sem],by rw [aa];decide⟩ rfl (by unfold RO TO ag;simp only [go_sem]) (by unfold RO TO;simp only [go_sem]) (by unfold RO TO;simp only [go_sem]) ?_
   unfold RO TO ag
   simp only [go_sem]
   refine bX X 50 [50] (some 1) [.agg [.sl (some 9) (a.map enD)],.agg [.sl (some 9) (b.map enD)]] k3 (fun _=>rfl) rfl rfl rfl (by simp) rfl (by simp only [go_sem]) ?_
   simp only [go_sem]
   refine ⟨by decide +kernel,?_⟩
   refine ⟨_,_,[100,101],id,⟨rfl,rfl⟩,?_⟩
   simp only [go_sem]
   rfl
  ·rw [if_neg (fun q=>h q.2)] at hR
   obtain ⟨k1,b,sb,J,eR,k2,k3⟩:=key sa rfl rfl 8 hR
   subst eR
   refine ab E [.bx [100] 0,.d (i64 1),.d (.str bIn)] (RO sa) [100,101] (k1) rfl rfl ⟨by simp only [go_sem],by first | (rw [aa];decide) | (simp only [go_sem]<;>(try rw [aa])<;>decide)⟩ rfl (by unfold RO TO ag;simp only [go_sem]) (by unfold RO TO;simp only [go_sem]) ?_
   rintro _ _ ⟨rfl,rfl⟩
   unfold RO TO ag
   simp only [go_sem]
   refine al mixed E fun X=>?_
   simp only [go_sem]
   refine cg X [.bx [100] 0] (RO (sa.must 1 bIn)) [100,101] _ _ k2 rfl rfl ⟨by simp only [go_sem],by rw [aa];decide⟩ rfl (by unfold RO TO ag;simp only [go_sem]) (by unfold RO TO;simp only [go_sem]) (by unfold RO TO;simp only [go_sem]) ?_
   unfold RO TO ag
   simp only [go_sem]
   refine bX X 50 [50] (some 1) [.agg [.sl (some 9) (a.map enD)],.agg [.sl (some 9) (b.map enD)]] k3 (fun _=>rfl) rfl rfl rfl (by simp) rfl (by simp only [go_sem]) ?_
   simp only [go_sem]
   refine ⟨by decide +kernel,?_⟩
   refine ⟨_,_,[100,101],id,⟨rfl,rfl⟩,?_⟩
   simp only [go_sem]
   rfl
 ·rw [if_neg (by rw [g];decide)] at hR
  refine ab E [.bx [100] 0,.d (i64 2)] (RO s1) [100,101] (co) rfl rfl ⟨by simp only [go_sem],by first | (rw [aa];decide) | (simp only [go_sem]<;>(try rw [aa])<;>decide)⟩ rfl (by unfold RO TO ag;simp only [go_sem]) (by unfold RO TO;simp only [go_sem]) ?_
  rintro _ _ ⟨rfl,rfl⟩
  unfold RO TO ag
  simp only [go_sem]
  refine ab E [.bx [100] 0,.d (i64 7),.d (.str [61])] (RO so) [100,101] (cm) rfl rfl ⟨by simp only [go_sem],by first | (rw [aa];decide) | (simp only [go_sem]<;>(try rw [aa])<;>decide)⟩ rfl (by unfold RO TO ag;simp only [go_sem]) (by unfold RO TO;simp only [go_sem]) ?_
  rintro _ _ ⟨rfl,rfl⟩
  unfold RO TO ag
  simp only [go_sem]
  refine ab E [.bx [101] 0] (TO s2.l s2.fin) [101] (cp) rfl rfl ⟨by simp only [go_sem],by first | (rw [aa];decide) | (simp only [go_sem]<;>(try rw [aa])<;>decide)⟩ rfl (by unfold TO ag;simp only [go_sem]) (by unfold TO;simp only [go_sem]) ?_
  rintro _ _ ⟨rfl,rfl⟩
  unfold TO ag
  simp only [go_sem]
  refine ab E [.bx [100] 0] (RO s2) [100,101] (ca) rfl rfl ⟨by simp only [go_sem],by first | (rw [aa];decide) | (simp only [go_sem]<;>(try rw [aa])<;>decide)⟩ rfl (by unfold RO TO ag;simp only [go_sem]) (by unfold RO TO;simp only [go_sem]) ?_
  rintro _ _ ⟨rfl,rfl⟩
  unfold RO TO ag
  simp only [go_sem]
  rw [if_neg (fun q=>absurd q.1 (by decide))] at hR
  obtain ⟨k1,b,sb,J,eR,k2,k3⟩:=key sa rfl rfl 7 hR
  subst eR
  refine ab E [.bx [100] 0,.d (i64 1),.d (.str bIn)] (RO sa) [100,101] (k1) rfl rfl ⟨by simp only [go_sem],by first | (rw [aa];decide) | (simp only [go_sem]<;>(try rw [aa])<;>decide)⟩ rfl (by unfold RO TO ag;simp only [go_sem]) (by unfold RO TO;simp only [go_sem]) ?_
  rintro _ _ ⟨rfl,rfl⟩
  unfold RO TO ag
  simp only [go_sem]
  refine al mixed E fun X=>?_
  simp only [go_sem]
  refine cg X [.bx [100] 0] (RO (sa.must 1 bIn)) [100,101] _ _ k2 rfl rfl ⟨by simp only [go_sem],by rw [aa];decide⟩ rfl (by unfold RO TO ag;simp only [go_sem]) (by unfold RO TO;simp only [go_sem]) (by unfold RO TO;simp only [go_sem]) ?_
  unfold RO TO ag
  simp only [go_sem]
  refine bX X 50 [50] (some 1) [.agg [.sl (some 9) (a.map enD)],.agg [.sl (some 9) (b.map enD)]] k3 (fun _=>rfl) rfl rfl rfl (by simp) rfl (by simp only [go_sem]) ?_
  simp only [go_sem]
  refine ⟨by decide +kernel,?_⟩
  refine ⟨_,_,[100,101],id,⟨rfl,rfl⟩,?_⟩
  simp only [go_sem]
  rfl
end Go.Proofs.YtejpnabbmgpmaaaGreatDoor

namespace Go.Proofs.YtejpnabbmgpmaaaGreatDoor
open Go.Ab
theorem j9 {α:Type} {l:List α} {p:α→Bool} {i:Nat} (h:i<l.length) (ha:(l.take i).any p=false) (hb:p l[i]=false):(l.take (i+1)).any p=false:=by
 rw [List.take_succ_eq_append_getElem h,List.any_append,ha]
 simp [hb]
theorem DX {l:List EF} {i:Nat} (h:i<l.length):(l.map fD).getD i .nilp=.agg [.str l[i].nm,.str l[i].var,i64 l[i].to]:=by simp [h,fD]
theorem CA {G} (l:List EF) (p:EF→Bool) (f:Nat) (caps:List D) (hl:l.length≤1000000) (hc:∀ x∈l,HP Tryz.prog G f (fD x::caps) (fun r=>r=.d (.bool (p x)))) :
  HP Tryz.prog G 148 [.sl (some 3) (l.map fD),.clo f caps] (fun r=>∃ z:Int,r=.d (i64 z)∧decide (0≤z)=l.any p):=by
 have hget:∀ {i:Nat} (h:i<l.length),(l.map fD).getD i .nilp=.agg [.str l[i].nm,.str l[i].var,i64 l[i].to]:=fun h=>DX h
 refine aj Tryz.func148 rfl (by decide +kernel) (by simp [Tryz.ntmps148]) (veil fun E=>?_)
 simp only [go_sem]
 refine cB E (X:={ i:Nat // i≤l.length∧(l.take i).any p=false }) (fun x=>[(0,.d (.sl (some 3) (l.map fD))),(1,.d (.clo f caps)),(6,.d (.sl (some 3) (l.map fD))),(7,.d (i64 l.length)),(8,.d (i64 x.1))]) (fun x=>l.length-x.1) rfl ⟨0,Nat.zero_le _,by simp⟩ ?_ ?_
 ·simp only [go_sem]
  all_goals rfl
 rintro ⟨i,hi,hab⟩ E'
 simp only [go_sem]
 refine ah E' (fun h1=>?_) (fun h1=>?_)<;>simp only [go_sem]
 ·have h1':i<l.length:=by omega
  refine ⟨by omega,?_⟩
  rw [hget h1']
  simp only [go_sem]
  refine lI E' (hc l[i] (List.getElem_mem h1')) rfl rfl (by simp) ?_
  rintro _ rfl
  simp only [go_sem]
  refine aI E' (fun h2=>?_) (fun h2=>?_)<;>simp only [go_sem]
  ·refine ⟨_,rfl,?_⟩
   have:l.any p=true:=List.any_eq_true.2 ⟨l[i],List.getElem_mem h1',h2⟩
   rw [this]
   exact decide_eq_true (Int.natCast_nonneg _)
  ·refine ⟨⟨i+1,by omega,j9 h1' hab h2⟩,by show l.length-(i+1)<_;omega,?_⟩
   rw [ai ⟨by omega,by omega⟩];rfl
 ·have h3:i=l.length:=by omega
  subst h3
  rw [List.take_length] at hab
  refine ⟨_,rfl,?_⟩
  rw [hab]
  decide
theorem va {G} (l:List EF) (p:EF→Bool) (f:Nat) (caps:List D) (hl:l.length≤1000000) (hc:∀ x∈l,HP Tryz.prog G f (fD x::caps) (fun r=>r=.d (.bool (p x)))) :
  HP Tryz.prog G 120 [.sl (some 3) (l.map fD),.clo f caps] (fun r=>r=.d (.bool (l.any p))):=by
 refine aj Tryz.func120 rfl (by decide +kernel) (by simp [Tryz.ntmps120]) (veil fun E=>?_)
 simp only [go_sem]
 refine ae E (CA l p f caps hl hc) rfl rfl (by simp) ?_
 rintro _ ⟨z,rfl,hz⟩
 simp only [go_sem]
 rw [hz]
theorem BK {G} (x:EF) (t:Tok):HP Tryz.prog G 187 [fD x,.ptr (fT t)] (fun r=>r=.d (.bool (decide (x.nm=t.s)))):=by
 unfold fD
 rw [show fT t=.agg [i64 t.k,.str t.s,i64 t.n,i64 t.pos] from rfl]
 refine bz Tryz.func187 rfl (by decide +kernel) (by simp [Tryz.ntmps187]) (veil fun E=>?_)
 simp only [go_sem]
 refine ⟨[],?_⟩
 simp only [go_sem]
 by_cases h:x.nm=t.s<;>simp [h]
end Go.Proofs.YtejpnabbmgpmaaaGreatDoor

namespace Go.Proofs.YtejpnabbmgpmaaaGreatDoor
open Go.Ab
theorem C8 {G} (l:List Int) (p:Int→Bool) (f:Nat) (caps:List D) (hl:l.length≤1000000) (hc:∀ x∈l,HP Tryz.prog G f (i64 x::caps) (fun r=>r=.d (.bool (p x)))) :
  HP Tryz.prog G 107 [.sl none (l.map i64),.clo f caps] (fun r=>∃ z:Int,r=.d (i64 z)∧decide (0≤z)=l.any p):=by
 have hget:∀ {i:Nat} (h:i<l.length),(l.map i64).getD i .nilp=i64 l[i]:=fun h=>by simp [h]
 refine aj Tryz.func107 rfl (by decide +kernel) (by simp [Tryz.ntmps107]) (veil fun E=>?_)
 simp only [go_sem]
 refine cB E (X:={ i:Nat // i≤l.length∧(l.take i).any p=false }) (fun x=>[(0,.d (.sl none (l.map i64))),(1,.d (.clo f caps)),(6,.d (.sl none (l.map i64))),(7,.d (i64 l.length)),(8,.d (i64 x.1))]) (fun x=>l.length-x.1) rfl ⟨0,Nat.zero_le _,by simp⟩ ?_ ?_
 ·simp only [go_sem]
  all_goals rfl
 rintro ⟨i,hi,hab⟩ E'
 simp only [go_sem]
 refine ah E' (fun h1=>?_) (fun h1=>?_)<;>simp only [go_sem]
 ·have h1':i<l.length:=by omega
  refine ⟨by omega,?_⟩
  rw [hget h1']
  simp only [go_sem]
  refine lI E' (hc l[i] (List.getElem_mem h1')) rfl rfl (by simp) ?_
  rintro _ rfl
  simp only [go_sem]
  refine aI E' (fun h2=>?_) (fun h2=>?_)<;>simp only [go_sem]
  ·refine ⟨_,rfl,?_⟩
   have:l.any p=true:=List.any_eq_true.2 ⟨l[i],List.getElem_mem h1',h2⟩
   rw [this]
   exact decide_eq_true (Int.natCast_nonneg _)
  ·refine ⟨⟨i+1,by omega,j9 h1' hab h2⟩,by show l.length-(i+1)<_;omega,?_⟩
   rw [ai ⟨by omega,by omega⟩];rfl
 ·have h3:i=l.length:=by omega
  subst h3
  rw [List.take_length] at hab
  refine ⟨_,rfl,?_⟩
  rw [hab]
  decide
theorem EZ {G} (l:List Int) (p:Int→Bool) (f:Nat) (caps:List D) (hl:l.length≤1000000) (hc:∀ x∈l,HP Tryz.prog G f (i64 x::caps) (fun r=>r=.d (.bool (p x)))) :
  HP Tryz.prog G 56 [.sl none (l.map i64),.clo f caps] (fun r=>r=.d (.bool (l.any p))):=by
 refine aj Tryz.func56 rfl (by decide +kernel) (by simp [Tryz.ntmps56]) (veil fun E=>?_)
 simp only [go_sem]
 refine ae E (C8 l p f caps hl hc) rfl rfl (by simp) ?_
 rintro _ ⟨z,rfl,hz⟩
 simp only [go_sem]
 rw [hz]
theorem DO {G} (k:Int):HP Tryz.prog G 57 [i64 k] (fun r=>r=.d (.bool (!decide (k=1)))):=by
 refine aj Tryz.func57 rfl (by decide +kernel) (by simp [Tryz.ntmps57]) (veil fun E=>?_)
 simp only [go_sem]
 by_cases h:k=1<;>simp [h]
theorem BH {G} (l:List EN) (p:EN→Bool) (f:Nat) (caps:List D) (hl:l.length≤1000000) (hc:∀ x∈l,HP Tryz.prog G f (enD x::caps) (fun r=>r=.d (.bool (p x)))) :
  HP Tryz.prog G 118 [.sl (some 9) (l.map enD),.clo f caps] (fun r=>∃ z:Int,r=.d (i64 z)∧decide (0≤z)=l.any p):=by
 have hget:∀ {i:Nat} (h:i<l.length),(l.map enD).getD i .nilp=.agg [i64 l[i].k,i64 l[i].a,i64 l[i].b,i64 l[i].c,i64 l[i].n,.str l[i].name,.str l[i].s,.sl (some 3) (l[i].l.map fD),i64 l[i].pos]:=fun h=>by simp [h,enD,efD]
 refine aj Tryz.func118 rfl (by decide +kernel) (by simp [Tryz.ntmps118]) (veil fun E=>?_)
 simp only [go_sem]
 refine cB E (X:={ i:Nat // i≤l.length∧(l.take i).any p=false }) (fun x=>[(0,.d (.sl (some 9) (l.map enD))),(1,.d (.clo f caps)),(6,.d (.sl (some 9) (l.map enD))),(7,.d (i64 l.length)),(8,.d (i64 x.1))]) (fun x=>l.length-x.1) rfl ⟨0,Nat.zero_le _,by simp⟩ ?_ ?_
 ·simp only [go_sem]
  all_goals rfl
 rintro ⟨i,hi,hab⟩ E'
 simp only [go_sem]
 refine ah E' (fun h1=>?_) (fun h1=>?_)<;>simp only [go_sem]
 ·have h1':i<l.length:=by omega
  refine ⟨by omega,?_⟩
  rw [hget h1']
  simp only [go_sem]
  refine lI E' (hc l[i] (List.getElem_mem h1')) rfl rfl (by simp) ?_
  rintro _ rfl
  simp only [go_sem]
  refine aI E' (fun h2=>?_) (fun h2=>?_)<;>simp only [go_sem]
  ·refine ⟨_,rfl,?_⟩
   have:l.any p=true:=List.any_eq_true.2 ⟨l[i],List.getElem_mem h1',h2⟩
   rw [this]
   exact decide_eq_true (Int.natCast_nonneg _)
  ·refine ⟨⟨i+1,by omega,j9 h1' hab h2⟩,by show l.length-(i+1)<_;omega,?_⟩
   rw [ai ⟨by omega,by omega⟩];rfl
 ·have h3:i=l.length:=by omega
  subst h3
  rw [List.take_length] at hab
  refine ⟨_,rfl,?_⟩
  rw [hab]
  decide
theorem DP {G} (l:List EN) (p:EN→Bool) (f:Nat) (caps:List D) (hl:l.length≤1000000) (hc:∀ x∈l,HP Tryz.prog G f (enD x::caps) (fun r=>r=.d (.bool (p x)))) :
  HP Tryz.prog G 81 [.sl (some 9) (l.map enD),.clo f caps] (fun r=>r=.d (.bool (l.any p))):=by
 refine aj Tryz.func81 rfl (by decide +kernel) (by simp [Tryz.ntmps81]) (veil fun E=>?_)
 simp only [go_sem]
 refine ae E (BH l p f caps hl hc) rfl rfl (by simp) ?_
 rintro _ ⟨z,rfl,hz⟩
 simp only [go_sem]
 rw [hz]
theorem DY {G} (n:EN):HP Tryz.prog G 82 [enD n] (fun r=>r=.d (.bool (decide (1048576<n.pos)))):=by
 unfold enD efD
 refine aj Tryz.func82 rfl (by decide +kernel) (by simp [Tryz.ntmps82]) (veil fun E=>?_)
 simp only [go_sem]
def cP (ns:List EN) (i:Nat):List Int:=eS (ns.take i) []
theorem nZ (n:EN):∀ (a:List EN) (d:List Int),eS (a++[n]) d=eS a d++[tz (eS a d) n]
 | [],_=>rfl
 | _::r,_=>nZ n r _
theorem j2 {ns:List EN} {i:Nat} (h:i<ns.length):cP ns (i+1)=cP ns i++[tz (cP ns i) (ndE ns i)]:=by
 unfold cP
 rw [List.take_succ_eq_append_getElem h,nZ,dA h]
def mx (d:List Int) (ks:List Int):Int:=ks.foldl (fun m k=>max m (d.getD k.toNat 0)) 0
theorem Bk (d ks:List Int) (k:Int):mx d (ks++[k])=max (mx d ks) (d.getD k.toNat 0):=by simp [mx]
theorem vb (d:List Int) (n:EN):tz d n=mx d (ar n)+1:=rfl
theorem DD {d:List Int} {M:Nat} (h:Bd M d) (ks:List Int):0≤mx d ks∧mx d ks≤(M:Int):=by
 suffices g:∀ (ks:List Int) (m:Int),0≤m∧m≤(M:Int)→0≤ks.foldl (fun m k=>max m (d.getD k.toNat 0)) m∧ks.foldl (fun m k=>max m (d.getD k.toNat 0)) m≤(M:Int) from g ks 0 ⟨Int.le_refl 0,by omega⟩
 intro ks
 induction ks with
 | nil=>exact fun m h=>h
 | cons k r ih =>
   intro m hm
   have:=h.get k.toNat
   exact ih (max m (d.getD k.toNat 0)) ⟨by omega,by omega⟩
theorem eI {ns:List EN}:∀ {i:Nat},i≤ns.length→(cP ns i).length=i∧Bd i (cP ns i)
 | 0,_=>by simp [cP,eS,Bd]
 | i+1,h=>by
   obtain ⟨h1,h2⟩:=eI (ns:=ns) (i:=i) (by omega)
   rw [j2 (by omega)]
   refine ⟨by simp [h1],fun c hc=>?_⟩
   rcases List.mem_append.1 hc with hc | hc
   ·have:=h2 c hc;omega
   ·rw [List.mem_singleton.1 hc,vb]
    have:=DD h2 (ar (ndE ns i))
    omega
def eB (ns:List EN) (i:Nat) (m:Int):List Int:=cP ns i++m::List.replicate (ns.length-i-1) 0
theorem rX {ns:List EN} {i:Nat} (hi:i<ns.length) (m:Int):(eB ns i m).getD i 0=m:=by
 have:=(eI (ns:=ns) (i:=i) (by omega)).1
 unfold eB
 rw [List.getD_eq_getElem?_getD,List.getElem?_append_right (by omega),this,Nat.sub_self]
 rfl
theorem xR {ns:List EN} {i k:Nat} (hi:i≤ns.length) (m:Int) (hk:k<i):(eB ns i m).getD k 0=(cP ns i).getD k 0:=by
 have:=(eI (ns:=ns) (i:=i) hi).1
 unfold eB
 rw [List.getD_eq_getElem?_getD,List.getD_eq_getElem?_getD,List.getElem?_append_left (by omega)]
theorem qx {ns:List EN} {i:Nat} (hi:i<ns.length) (m x:Int):(eB ns i m).set i x=eB ns i x:=by
 have:=(eI (ns:=ns) (i:=i) (by omega)).1
 unfold eB
 rw [List.set_append_right _ _ (by omega),this,Nat.sub_self]
 rfl
theorem AS {ns:List EN} {i:Nat} (hi:i<ns.length) (m:Int):(eB ns i m).length=ns.length:=by
 have:=(eI (ns:=ns) (i:=i) (by omega)).1
 unfold eB
 simp only [List.length_append,List.length_cons,List.length_replicate]
 omega
theorem vR {ns:List EN} {i:Nat} (hi:i+1<ns.length):eB ns i (tz (cP ns i) (ndE ns i))=eB ns (i+1) 0:=by
 unfold eB
 rw [j2 (by omega),List.append_assoc,show ns.length-i-1=ns.length-(i+1)-1+1 by omega,List.replicate_succ]
 rfl
theorem zm {ns:List EN} {i:Nat} (hi:i+1=ns.length):eB ns i (tz (cP ns i) (ndE ns i))=eS ns []:=by
 have h1:=j2 (ns:=ns) (i:=i) (by omega)
 have h2:cP ns (i+1)=eS ns []:=by unfold cP;rw [hi,List.take_length]
 rw [← h2,h1]
 unfold eB
 rw [show ns.length-i-1=0 by omega]
 rfl
def lW (ns:List EN) (i:Nat):List Int:=if i<ns.length then eB ns i 0 else eS ns []
theorem vH (ns:List EN):lW ns 0=List.replicate ns.length 0:=by
 unfold lW
 split
 ·rename_i h
  unfold eB cP
  rw [List.take_zero,show ns.length=(ns.length-0-1)+1 by omega,List.replicate_succ]
  simp [eS]
 ·rename_i h
  have:ns=[]:=List.length_eq_zero_iff.1 (by omega)
  subst this
  rfl
theorem vI {ns:List EN} {i:Nat} (hi:i<ns.length):eB ns i (tz (cP ns i) (ndE ns i))=lW ns (i+1):=by
 unfold lW
 split
 ·rename_i h;exact vR h
 ·exact zm (by omega)
theorem Ei (a b:Int):(if a > b then a else b)=max b a:=by split<;>omega
theorem DK {G} (ns:List EN) (hn:ns.length≤1000000) (hs:∀ n∈ns,n.l.length≤1000000) (hk:∀ i,i<ns.length→(ar (ndE ns i)).all (inB i)=true) :
  HP Tryz.prog G 58 [exD ns] (fun r=>r=.d (.sl none ((eS ns []).map i64))):=by
 unfold exD
 refine bz Tryz.func58 rfl (by decide +kernel) (by simp [Tryz.ntmps58]) (veil fun E=>?_)
 simp only [go_sem]
 refine ⟨⟨by omega,by omega,by omega,by omega⟩,?_⟩
 refine eE E (X:={ i:Nat // i≤ns.length }) (fun x=>[(1,.bx [1] 0),(2,.d .nils),(3,.vw [11] 0 ns.length),(13,.d (.sl (some 9) (ns.map enD))),(14,.d (i64 ns.length)),(15,.d (i64 x.1))])
  (fun x=>[([1],.box [.d (.sl (some 9) (ns.map enD))]),([11],.arr none ((lW ns x.1).map i64))]) [11,1] (fun x=>ns.length-x.1) ⟨0,Nat.zero_le _⟩ ?_ ?_
 ·rw [vH,List.map_replicate]
  simp only [go_sem]
  all_goals rfl
 rintro ⟨i,hi⟩ E0
 refine aH E0 fun Q' hQ E'=>?_
 simp only at hi ⊢
 simp only [go_sem]
 refine ah E' (fun g1=>?_) (fun g1=>?_)<;>simp only [go_sem]
 ·have hi':i<ns.length:=by omega
  refine ⟨by omega,?_⟩
  have hg:=cM hi'
  have hst:=vI hi'
  rw [vb] at hst
  have hki:=hk i hi'
  have hsi:=hs _ (by rw [dA hi'];exact List.getElem_mem hi':ndE ns i∈ns)
  obtain ⟨n,hne⟩:∃ n,n=ndE ns i:=⟨_,rfl⟩
  rw [← hne] at hg hst hki hsi
  rw [show lW ns i=eB ns i 0 by unfold lW;rw [if_pos hi'],hg]
  obtain ⟨hd1,hd2⟩:=eI (ns:=ns) (i:=i) hi
  have hkc:=mW (G:=G) n hsi
  obtain ⟨K,hK⟩:∃ K,K=ar n:=⟨_,rfl⟩
  have hKl:K.length≤1000003:=by rw [hK,dU];unfold cn;have:=da n.k;split<;>omega
  rw [← hK] at hkc hki hst
  simp only [go_sem]
  refine ab E' [.d (enD n)] [] [] hkc rfl rfl ⟨by simp only [go_sem],by rw [aa];decide⟩ rfl (by simp only [go_sem]) (by simp only [go_sem]) ?_
  rintro _ _ ⟨rfl,rfl⟩
  simp only [go_sem]
  refine ky E' [21,0] none (K.map i64) rfl ?_
  simp only [go_sem]
  refine eE E' (X:={ q:Nat // q≤K.length }) (fun x=>[(1,.bx [1] 0),(2,.d .nils),(3,.vw [11] 0 ns.length),(4,.d (i64 i)),(5,.bx [5] 0),(13,.d (.sl (some 9) (ns.map enD))),(14,.d (i64 ns.length)),(15,.d (i64 i)),(21,.d (.sl none (K.map i64))),(22,.d (i64 K.length)),(23,.d (i64 x.1))])
   (fun x=>[([1],.box [.d (.sl (some 9) (ns.map enD))]),([11],.arr none ((eB ns i (mx (cP ns i) (K.take x.1))).map i64)),([5],.box [.d (i64 n.k),.d (i64 n.a),.d (i64 n.b),.d (i64 n.c),.d (i64 n.n),.d (.str n.name),.d (.str n.s),.d (.sl (some 3) (n.l.map fD)),.d (i64 n.pos)])]) [5,11,1] (fun x=>K.length-x.1) ⟨0,Nat.zero_le _⟩ ?_ ?_
  ·simp only [go_sem]
   all_goals rfl
  rintro ⟨q,hq⟩ E2
  refine aH E2 fun Q2 hQ2 E3=>?_
  simp only at hq ⊢
  have hal:=AS hi' (mx (cP ns i) (K.take q))
  have hmb:=DD hd2 (K.take q)
  simp only [go_sem]
  refine ah E3 (fun g2=>?_) (fun g2=>?_)<;>simp only [go_sem]
  ·have hq':q<K.length:=by omega
   have hkq:0≤K[q]∧K[q]<(i:Int):=by
    have:=List.all_eq_true.1 hki K[q] (List.getElem_mem hq')
    simpa [inB] using this
   refine ⟨by omega,?_⟩
   rw [b9 hq',show K.getD q 0=K[q] by simp [hq']]
   simp only [go_sem]
   refine al mixed E3 fun X=>?_
   simp only [go_sem]
   refine ⟨by omega,?_⟩
   rw [b9 (by omega),rX hi']
   simp only [go_sem]
   refine ⟨by omega,?_⟩
   rw [b9 (by omega),xR hi _ (show K[q].toNat<i by omega)]
   simp only [go_sem]
   refine ⟨⟨by omega,by omega⟩,by decide +kernel,?_⟩
   rw [ai (n:=(q:Int)+1) ⟨by omega,by omega⟩]
   rw [show (List.map i64 (eB ns i (mx (cP ns i) (K.take q)))).set i (.int .i64 (if (cP ns i).getD K[q].toNat 0 > mx (cP ns i) (K.take q) then (cP ns i).getD K[q].toNat 0 else mx (cP ns i) (K.take q)))=(eB ns i (mx (cP ns i) (K.take (q+1)))).map i64 by
    rw [List.take_succ_eq_append_getElem hq',Bk,Ei,← List.map_set,qx hi']]
   rw [hQ2]
   simp only [go_sem]
   refine ⟨⟨q+1,by omega⟩,by show K.length-(q+1)<_;omega,?_⟩
   first | rfl | exact ⟨rfl,rfl⟩
  ·rw [hQ2]
   have h3:q=K.length:=by omega
   subst h3
   rw [List.take_length] at *
   simp only [go_sem]
   refine ⟨by omega,?_⟩
   rw [b9 (by omega),rX hi']
   simp only [go_sem]
   refine ⟨by omega,?_⟩
   rw [ai (n:=mx (cP ns i) K+1) ⟨by omega,by omega⟩,ai (n:=(i:Int)+1) ⟨by omega,by omega⟩]
   rw [show (List.map i64 (eB ns i (mx (cP ns i) K))).set i (.int .i64 (mx (cP ns i) K+1))=(lW ns (i+1)).map i64 by
    rw [← hst,← List.map_set,qx hi']]
   rw [hQ]
   simp only [go_sem]
   refine ⟨⟨i+1,by omega⟩,by show ns.length-(i+1)<_;omega,?_⟩
   first | rfl | exact ⟨rfl,rfl⟩
 ·rw [hQ]
  have h3:i=ns.length:=by omega
  subst h3
  simp only [go_sem]
  refine ⟨[([11],none,(lW ns ns.length).map i64)],?_⟩
  rw [show lW ns ns.length=eS ns [] by unfold lW;rw [if_neg (Nat.lt_irrefl _)]]
  simp only [go_sem]
  have hdl:=(eI (ns:=ns) (Nat.le_refl _)).1
  unfold cP at hdl
  rw [List.take_length] at hdl
  rw [List.take_of_length_le (by rw [List.length_map,hdl];exact Nat.le_refl _)]
end Go.Proofs.YtejpnabbmgpmaaaGreatDoor

namespace Go.Proofs.YtejpnabbmgpmaaaGreatDoor
open Go.Ab
theorem zD {cs:List Int} {k:Int} {j:Nat} (hj:j<cs.length) (hk:0≤k):(bump cs k).getD j 0=cs.getD j 0+(if k=(j:Int) then 1 else 0):=by
 unfold bump
 rw [List.getD_eq_getElem?_getD,List.getElem?_set]
 by_cases h:k.toNat=j
 ·rw [if_pos h,if_pos (by omega)]
  have:k=(j:Int):=by omega
  subst this
  simp [hj]
 ·rw [if_neg h,if_neg (by omega)]
  simp
theorem oI {j:Nat}:∀ (ks cs:List Int),j<cs.length→(∀ k∈ks,0≤k)→(bumps cs ks).getD j 0=cs.getD j 0+(ks.countP (fun x=>decide (x=(j:Int))):Nat)
 | [],cs,_,_=>by simp [bumps]
 | k::r,cs,hj,hk=>by
   show (bumps (bump cs k) r).getD j 0=_
   rw [oI r _ (by rw [rv];exact hj) (fun x hx=>hk x (List.mem_cons_of_mem _ hx)),zD hj (hk k List.mem_cons_self),List.countP_cons]
   by_cases h:k=(j:Int)<;>simp [h]<;>omega
theorem wP (cs a b:List Int):bumps cs (a++b)=bumps (bumps cs a) b:=by simp [bumps]
def cnts (ns:List EN) (i:Nat):List Int:=bumps (List.replicate ns.length 0) ((ns.take i).flatMap ar)
theorem jq (ns:List EN) (i:Nat):(cnts ns i).length=ns.length:=by unfold cnts;rw [e7,List.length_replicate]
theorem ot {ns:List EN} {i:Nat} (h:i<ns.length):cnts ns (i+1)=bumps (cnts ns i) (ar (ndE ns i)):=by
 unfold cnts
 rw [List.take_succ_eq_append_getElem h,List.flatMap_append,wP,dA h]
 simp
theorem um {ns:List EN} (hs:∀ n∈ns,n.l.length≤1000000):∀ {i:Nat},i≤ns.length→Bd (i*1000003) (cnts ns i)
 | 0,_=>by
   intro c hc
   rw [show cnts ns 0=List.replicate ns.length 0 by simp [cnts,bumps],List.mem_replicate] at hc
   omega
 | i+1,h=>by
   have ih:=um hs (i:=i) (by omega)
   rw [ot (by omega)]
   intro c hc
   have:=ih.bumps (ks:=ar (ndE ns i)) c hc
   have hl:(ar (ndE ns i)).length≤1000003:=by
    rw [dU];unfold cn
    have:=da (ndE ns i).k
    have h2:(ndE ns i).l.length≤1000000:=by rw [dA (by omega)];exact hs _ (List.getElem_mem _)
    split<;>omega
   omega
theorem zH {ns:List EN} (hk:∀ i,i<ns.length→(ar (ndE ns i)).all (inB i)=true):((cnts ns ns.length).take (ns.length-1)).any (fun c=>!decide (c=1))=!n9 ns:=by
 have hnn:∀ k∈ns.flatMap ar,0≤k:=fun k hkm=>by
  obtain ⟨n,hn,hkn⟩:=List.mem_flatMap.1 hkm
  obtain ⟨i,hi,rfl⟩:=List.mem_iff_getElem.1 hn
  have h1:=hk i hi
  rw [dA hi] at h1
  have:=List.all_eq_true.1 h1 k hkn
  simp only [inB,Bool.and_eq_true,decide_eq_true_eq] at this
  exact this.1
 have hget:∀ j,j<ns.length→(cnts ns ns.length).getD j 0=(ED ns j:Int):=fun j hj=>by
  unfold cnts ED
  rw [List.take_length,oI _ _ (by simpa using hj) hnn]
  simp [hj]
 have hl:=jq ns ns.length
 unfold n9
 rw [Bool.eq_iff_iff]
 simp only [List.any_eq_true,Bool.not_eq_true',decide_eq_false_iff_not,List.all_eq_false,List.mem_range,decide_eq_true_eq]
 constructor
 ·rintro ⟨c,hc,h1⟩
  obtain ⟨j,hj,rfl⟩:=List.mem_iff_getElem.1 hc
  rw [List.length_take] at hj
  refine ⟨j,by omega,fun h=>h1 ?_⟩
  have:=hget j (by omega)
  rw [h] at this
  rw [List.getElem_take]
  rw [List.getD_eq_getElem?_getD,List.getElem?_eq_getElem (by omega)] at this
  simpa using this
 ·rintro ⟨j,hj,h1⟩
  refine ⟨(cnts ns ns.length)[j],List.mem_iff_getElem.2 ⟨j,by rw [List.length_take];omega,by rw [List.getElem_take]⟩,fun h=>h1 ?_⟩
  have:=hget j (by omega)
  rw [List.getD_eq_getElem?_getD,List.getElem?_eq_getElem (by omega)] at this
  simp only [Option.getD_some,h] at this
  omega
theorem HP.clo {P:Program} {G:List (Nat × Obj)} {f:FuncId} {args:List AV} {ds:List D} {Q:AV→Prop} (hl:args.length=ds.length)
  (hr:∀ (i:Nat) x y,args[i]?=some x→ds[i]?=some y→x=.d y∨∃ g,x=.clo g []∧y=.clo g []) (h:HP P G f ds Q):HCall P G f args [] [] (fun r hp'=>Q r∧r.inU []=true∧hp'=[]):=by
 refine ⟨h.1,fun B β vs w h1 h2 h3 h4 h5=>h.2 B β vs w (h1.trans (by simpa using hl)) h2 h3 h4 { tms:=h5.tms,io:=h5.io,size:=h5.size,frame:=h5.frame,slots:=fun t=>?_,objs:=h5.objs,blocks:=h5.blocks,inj:=h5.inj,us:=h5.us,stay:=h5.stay }⟩
 have hv:=h5.slots t
 rw [dH,aS,if_pos (Nat.zero_le _),Nat.sub_zero] at hv ⊢
 show VR w.heap ((mk (az 0 (ds.map .d)) [] []).own B.A β) [] _ β _ _
 rw [List.getElem?_map]
 cases hx:args[t]? with
 | none =>
   rw [List.getElem?_eq_none (by rw [← hl];exact List.getElem?_eq_none_iff.1 hx)]
   exact .un _
 | some x =>
   have hlt:=(List.getElem?_eq_some_iff.1 hx).1
   have hy:ds[t]?=some ds[t]:=List.getElem?_eq_getElem (by omega)
   rw [hx] at hv
   rw [hy]
   simp only [Option.map_some,Option.getD_some] at hv ⊢
   rcases hr t _ _ hx hy with e | ⟨g,e1,e2⟩
   ·rw [← e];exact hv
   ·rw [e1] at hv
    rw [e2]
    generalize vs.getD t undef=v at hv ⊢
    cases hv with
    | clo _ vs' _ hs hc=>exact .d _ _ (.clo _ _ _ hs (fun i d hd=>by simp at hd))
def okI (ns:List EN) (i:Nat):Bool:=a8 (ndE ns i) && eX ns i
theorem uW {ns:List EN} {i:Nat} (h:eX ns i=true):(ar (ndE ns i)).all (inB i)=true:=by
 unfold eX at h
 rw [Bool.and_eq_true] at h
 exact h.1
set_option maxHeartbeats 1000000 in
theorem sO {G} (ns:List EN) (hs:∀ n∈ns,iW BIG n) (hN:ns.length≤1000000):HP Tryz.prog G 27 [exD ns] (fun r=>r=.d (i64 (jL ns))):=by
 generalize hb:jL ns=b
 unfold jL at hb
 unfold exD
 refine aj Tryz.func27 rfl (by decide +kernel) (by simp [Tryz.ntmps27]) (veil fun E=>?_)
 simp only [go_sem]
 repeat (first
  | (apply dP E;(· simp only [go_sem]);(· intro h;(try simp only [bq] at h);simp only [↓h,go_sem];rfl);simp only [go_sem])
  | (apply bJ E;(· simp only [go_sem]);(· intro h;(try simp only [bq] at h);simp only [↓h,go_sem];rfl);(· intro h;(try simp only [bq] at h);simp only [↓h,go_sem];rfl);simp only [go_sem])
  | (apply bK E;(· simp only [go_sem]);(· rfl);(· intro h h';(try simp only [bq] at h h');simp only [↓h,↓h',go_sem];rfl);simp only [go_sem])
  | (apply bj E;(· simp only [go_sem]);(· rfl);(· intro h h';(try simp only [bq] at h h');simp only [↓h,↓h',go_sem];rfl);(· intro h h';(try simp only [bq] at h h');simp only [↓h,↓h',go_sem];rfl);simp only [go_sem])
  | (apply dv E;(· decide);simp only [go_sem]))
 refine aI E (fun g=>?_) (fun g=>?_)<;>simp only [go_sem]
 ·simp only [Bool.or_eq_true,decide_eq_true_eq] at g
  rw [if_pos (by omega)] at hb
  rw [hb]
 have g':0<ns.length∧ns.length≤600:=by
  simp only [Bool.or_eq_false_iff,decide_eq_false_iff_not] at g
  omega
 rw [if_neg (by omega)] at hb
 refine ⟨⟨by omega,by omega,by omega,by omega⟩,?_⟩
 have hs':∀ n∈ns,n.l.length≤1000000:=fun n hn=>(hs n hn).l
 refine eE E (X:={ i:Nat // i≤ns.length∧∀ j,j<i→okI ns j=true }) (fun x=>[(1,.bx [1] 0),(2,.d (i64 0)),(3,.vw [19] 0 ns.length),(21,.d (.sl (some 9) (ns.map enD))),(22,.d (i64 ns.length)),(23,.d (i64 x.1))])
  (fun x=>[([1],.box [.d (.sl (some 9) (ns.map enD))]),([19],.arr none ((cnts ns x.1).map i64))]) [19,1] (fun x=>ns.length-x.1) ⟨0,Nat.zero_le _,fun j h=>absurd h (Nat.not_lt_zero _)⟩ ?_ ?_
 ·rw [show cnts ns 0=List.replicate ns.length 0 by simp [cnts,bumps],List.map_replicate]
  simp only [go_sem]
  all_goals rfl
 rintro ⟨i,hi,hok⟩ E0
 refine aH E0 fun Q' hQ E'=>?_
 simp only at hi hok ⊢
 simp only [go_sem]
 refine ah E' (fun g1=>?_) (fun g1=>?_)<;>simp only [go_sem]
 ·have hi':i<ns.length:=by omega
  refine ⟨by omega,?_⟩
  have hg:=cM hi'
  have hsn:=hs _ (by rw [dA hi'];exact List.getElem_mem hi':ndE ns i∈ns)
  have hc1:=Ez (G:=G) _ hsn
  have hc2:=Ff (G:=G) ns i (cnts ns i) (i*1000003) hi' hN (jq ns i) hsn.l (um hs' hi) (by omega)
  have hok1:okI ns i=(a8 (ndE ns i) && eX ns i):=rfl
  have hcs:=ot hi'
  rw [← hcs] at hc2
  have bad:okI ns i=false→okE ns=false:=fun h=>List.all_eq_false.2 ⟨i,List.mem_range.2 hi',by
   show ¬ okI ns i=true
   rw [h];decide⟩
  have good:okI ns i=true→∀ j,j<i+1→okI ns j=true:=fun h j hj=>by
   by_cases e:j=i
   ·rw [e];exact h
   ·exact hok j (by omega)
  generalize ndE ns i=n at hg hc1 hok1
  generalize a8 n=x at hc1 hok1
  generalize eX ns i=y at hc2 hok1
  rw [hg]
  simp only [go_sem]
  refine ae E' hc1 rfl rfl (by simp) ?_
  rintro _ rfl
  simp only [go_sem]
  refine bl E' (fun h1=>?_) (fun h1=>?_)<;>simp only [go_sem]
  ·have hx:x=false:=by simpa using h1
   rw [hQ]
   simp only [go_sem]
   rw [bad (by rw [hok1,hx];rfl),Bool.false_and] at hb
   rw [← hb]
   rfl
  ·have hx:x=true:=by simpa using h1
   rw [jM]
   simp only [go_sem]
   refine bp E' (tau [([100],[19])]) [.d (exD ns),.d (i64 i),.vw [100] 0 ns.length] [([100],.arr none ((cnts ns i).map i64))] [100] hc2 rfl (by simp only [go_sem];try rfl) ⟨by simp only [go_sem],by rw [aa];decide⟩ rfl (by simp only [go_sem]) (by simp only [go_sem]) ?_
   rintro _ _ ⟨cs',hl',hcs',rfl,rfl⟩
   simp only [go_sem]
   refine ⟨by rw [jq,hl'];exact Nat.le_refl _,?_⟩
   refine aI E' (fun h2=>?_) (fun h2=>?_)<;>simp only [go_sem]
   ·rw [hQ]
    simp only [go_sem]
    rw [bad (by rw [hok1,show y=false by simpa using h2,Bool.and_false]),Bool.false_and] at hb
    rw [← hb]
    rfl
   ·have hy:y=true:=by simpa using h2
    rw [hQ,hcs' hy,ai (n:=(i:Int)+1) ⟨by omega,by omega⟩]
    simp only [go_sem]
    refine ⟨⟨i+1,by omega,good (by rw [hok1,hx,hy];rfl)⟩,by show ns.length-(i+1)<_;omega,?_⟩
    first | rfl | exact ⟨rfl,rfl⟩
 ·rw [hQ]
  have h3:i=ns.length:=by omega
  subst h3
  simp only [go_sem]
  rw [ai (n:=(ns.length:Int)-1) ⟨by omega,by omega⟩]
  refine ⟨by omega,?_⟩
  rw [show ((ns.length:Int)-1).toNat-0=ns.length-1 by omega]
  have hkk:∀ i,i<ns.length→(ar (ndE ns i)).all (inB i)=true:=fun i hi=>by
   have:=hok i hi
   unfold okI at this
   rw [Bool.and_eq_true] at this
   exact uW this.2
  have hokE:okE ns=true:=List.all_eq_true.2 fun j hj=>hok j (List.mem_range.1 hj)
  have hcl:=jq ns ns.length
  have hc3:=EZ (G:=G) ((cnts ns ns.length).take (ns.length-1)) (fun c=>!decide (c=1)) 57 [] (by rw [List.length_take];omega) (fun x _=>DO x)
  rw [zH hkk,List.map_take] at hc3
  have hc4:=HP.clo (args:=[.d (.sl none (((cnts ns ns.length).map i64).take (ns.length-1))),.clo 57 []]) rfl (fun i x y hx hy=>by
   rcases i with _ | _ | i
   ·cases hx;cases hy;exact .inl rfl
   ·cases hx;cases hy;exact .inr ⟨57,rfl,rfl⟩
   ·cases hx) hc3
  refine yQ E [([19],none,(cnts ns ns.length).map i64)] [.d (.sl none (((cnts ns ns.length).map i64).take (ns.length-1))),.clo 57 []] [] [] hc4 (by rintro _ _ ⟨rfl,_,rfl⟩;exact ⟨rfl,rfl⟩) (by simp only [go_sem]) rfl (by simp only [go_sem];try rfl) ⟨by simp only [go_sem],by rw [aa];decide⟩ rfl (by simp only [go_sem]) (by simp only [go_sem]) ?_
  rintro _ _ ⟨rfl,_,rfl⟩
  simp only [go_sem]
  rw [hokE,Bool.true_and] at hb
  have hdl:=(eI (ns:=ns) (Nat.le_refl _)).1
  unfold cP at hdl
  rw [List.take_length] at hdl
  refine aI E (fun k1=>?_) (fun k1=>?_)<;>simp only [go_sem]
  ·have:n9 ns=false:=by simpa using k1
   rw [this] at hb
   rw [← hb]
   rfl
  ·have:n9 ns=true:=by simpa using k1
   rw [this,if_pos rfl] at hb
   unfold td at hb
   have hc5:=DK (G:=G) ns hN hs' hkk
   unfold exD at hc5
   refine al mixed E fun X=>?_
   simp only [go_sem]
   refine aF X hc5 rfl rfl (by simp) ?_
   simp only [go_sem]
   rw [ai (n:=(ns.length:Int)-1) ⟨by omega,by omega⟩]
   refine ⟨⟨by omega,by rw [hdl];omega⟩,?_⟩
   rw [b9 (by omega),show ((ns.length:Int)-1).toNat=ns.length-1 by omega]
   simp only [go_sem]
   refine ⟨by decide +kernel,?_⟩
   refine ah E (fun k2=>?_) (fun k2=>?_)<;>simp only [go_sem]
   ·rw [if_pos k2] at hb
    rw [← hb]
   ·rw [if_neg k2] at hb
    rw [← hb]
end Go.Proofs.YtejpnabbmgpmaaaGreatDoor

namespace Go.Proofs.YtejpnabbmgpmaaaGreatDoor
open Go.Ab
def Seg (N:Nat) (xs:Nat→List D) (n:Nat) (L:List Int):Prop:=n+L.length≤N∧∀ j,j<L.length→xs (n+j)=[i64 (L.getD j 0)]
theorem Seg.left {N:Nat} {xs:Nat→List D} {n:Nat} {a b:List Int} (h:Seg N xs n (a++b)):Seg N xs n a :=
 ⟨by have:=h.1;rw [List.length_append] at this;omega,fun j hj=>by
  rw [h.2 j (by rw [List.length_append];omega),List.getD_eq_getElem?_getD,List.getD_eq_getElem?_getD,List.getElem?_append_left hj]⟩
theorem Seg.right {N:Nat} {xs:Nat→List D} {n:Nat} {a b:List Int} (h:Seg N xs n (a++b)):Seg N xs (n+a.length) b :=
 ⟨by have:=h.1;rw [List.length_append] at this;omega,fun j hj=>by
  have:=h.2 (a.length+j) (by rw [List.length_append];omega)
  rw [← Nat.add_assoc] at this
  rw [this,List.getD_eq_getElem?_getD,List.getD_eq_getElem?_getD,List.getElem?_append_right (by omega)]
  simp⟩
end Go.Proofs.YtejpnabbmgpmaaaGreatDoor

namespace Go.Proofs.YtejpnabbmgpmaaaGreatDoor
open Go.Ab
structure Walk (ns:List EN) (its:List Int):Prop where
 nd:its.Nodup
 inn:∀ x∈its,0≤x∧x<(ns.length:Int)
 pre:∀ n (h:n<its.length),∀ k∈ar (ndE ns its[n].toNat),k∈its.take n
def F2 (ns:List EN) (its:List Int) (x:Int):EN:=aZ (ndE ns x.toNat) ((ar (ndE ns x.toNat)).map fun k=>(its.idxOf k:Int))
def Gz (ns:List EN) (its:List Int) (n:Nat):List EN:=(its.take n).map (F2 ns its)
end Go.Proofs.YtejpnabbmgpmaaaGreatDoor

namespace Go.Proofs.YtejpnabbmgpmaaaGreatDoor
open Go.Ab
structure fb (ns:List EN):Prop where
 pos:0<ns.length
 few:ns.length≤600
 right:∀ i,i<ns.length→a8 (ndE ns i)=true
 link:∀ i,i<ns.length→eX ns i=true
 once:n9 ns=true
 deep:td ns≤100
theorem Gj {ns:List EN} (h:jL ns=0):fb ns:=by
 unfold jL at h
 split at h
 ·exact absurd h (by decide)
 rename_i h1
 split at h
 ·rename_i h2
  split at h
  ·exact absurd h (by decide)
  ·rename_i h3
   rw [Bool.and_eq_true] at h2
   have h4:∀ i,i<ns.length→a8 (ndE ns i)=true∧eX ns i=true:=fun i hi=>by
    have:=List.all_eq_true.1 h2.1 i (List.mem_range.2 hi)
    simpa [Bool.and_eq_true] using this
   exact ⟨by omega,by omega,fun i hi=>(h4 i hi).1,fun i hi=>(h4 i hi).2,h2.2,by omega⟩
 ·exact absurd h (by decide)
theorem fb.kids {ns:List EN} (h:fb ns):∀ i,i<ns.length→(ar (ndE ns i)).all (inB i)=true:=fun i hi=>uW (h.link i hi)
theorem pV {n:EN} (h:a8 n=true):n.l.length≤30:=by
 unfold a8 cD at h
 simp only [Bool.and_eq_true] at h
 have h1:=h.2.1.2
 split at h1
 ·simp only [Bool.and_eq_true,decide_eq_true_eq] at h1
  exact h1.2.1.2
 ·have:n.l=[]:=by simpa using h1
  rw [this];decide
theorem fb.l {ns:List EN} (h:fb ns):∀ n∈ns,n.l.length≤30:=fun n hn=>by
 obtain ⟨i,hi,rfl⟩:=List.mem_iff_getElem.1 hn
 have:=h.right i hi
 rw [dA hi] at this
 exact pV this
theorem Tr.sub {ns:List EN} (h:Tr ns):Gz ns (qj ns ns.length ((ns.length:Int)-1)) (qj ns ns.length ((ns.length:Int)-1)).length=ns:=by
 have h1:=h.norm
 have h0:=h.kids.1
 unfold DH at h1
 rw [show ((ns.length:Int)-1).toNat+1=ns.length by omega] at h1
 unfold Gz F2
 rw [List.take_length]
 exact h1
end Go.Proofs.YtejpnabbmgpmaaaGreatDoor

namespace Go.Ab
section
variable {P:Program} {cf:Cf} {ops:Array Oper} {K:St→Ns→Prop} {r:List Oper} {s:St} {ns:Ns}
end
end Go.Ab

namespace Go.Proofs.YtejpnabbmgpmaaaGreatDoor
open Go.Ab
end Go.Proofs.YtejpnabbmgpmaaaGreatDoor

namespace Go.Proofs.YtejpnabbmgpmaaaGreatDoor
open Go.Ab
end Go.Proofs.YtejpnabbmgpmaaaGreatDoor

namespace Go.Proofs.YtejpnabbmgpmaaaGreatDoor
open Go.Ab
theorem gR {ns:List EN} (h:fb ns):∀ i,i<ns.length→(ar (ndE ns i)).all (inB i)=true:=fun i hi=>by
 have:=h.link i hi
 unfold eX at this
 exact (Bool.and_eq_true_iff.1 this).1
end Go.Proofs.YtejpnabbmgpmaaaGreatDoor

namespace Go.Proofs.YtejpnabbmgpmaaaGreatDoor
open Go.Ab
end Go.Proofs.YtejpnabbmgpmaaaGreatDoor

namespace Go.Proofs.YtejpnabbmgpmaaaGreatDoor
open Go.Ab
theorem lF {ns:List EN} (hk:∀ i,i<ns.length→(ar (ndE ns i)).all (inB i)=true) {i:Nat} (hi:i<ns.length):∀ x∈ar (ndE ns i),0≤x∧x<(i:Int):=fun x hx=>by
 have:=List.all_eq_true.1 (hk i hi) x hx
 simpa [inB] using this
end Go.Proofs.YtejpnabbmgpmaaaGreatDoor

namespace Go.Proofs.YtejpnabbmgpmaaaGreatDoor
open Go.Ab
end Go.Proofs.YtejpnabbmgpmaaaGreatDoor

namespace Go.Proofs.YtejpnabbmgpmaaaGreatDoor
open Go.Ab
end Go.Proofs.YtejpnabbmgpmaaaGreatDoor

namespace Go.Proofs.YtejpnabbmgpmaaaGreatDoor
open Go.Ab
end Go.Proofs.YtejpnabbmgpmaaaGreatDoor

namespace Go.Proofs.YtejpnabbmgpmaaaGreatDoor
open Go.Ab
end Go.Proofs.YtejpnabbmgpmaaaGreatDoor

namespace Go.Proofs.YtejpnabbmgpmaaaGreatDoor
open Go.Ab
inductive RT where
 | mk (n:EN) (ts:List RT)
mutual
def RT.enc:RT→List EN
 | .mk n ts=>aE n (RT.encs ts)
def RT.encs:List RT→List (List EN)
 | []=>[]
 | t::r=>t.enc::RT.encs r
end
def can (n:EN):EN:=aZ n (List.replicate (cn n) 0)
def rtE (ns:List EN):Nat→Int→RT
 | 0,_=>.mk (can (ndE [] 0)) []
 | m+1,i=>.mk (can (ndE ns i.toNat)) ((ar (ndE ns i.toNat)).map (rtE ns m))
theorem ve {ns:List EN} (hk:∀ i,i<ns.length→(ar (ndE ns i)).all (inB i)=true):∀ (m m' i:Nat),i<m→i<m'→i<ns.length→rtE ns m i=rtE ns m' i
 | 0,_,_,h,_,_=>absurd h (Nat.not_lt_zero _)
 | _+1,0,_,_,h,_=>absurd h (Nat.not_lt_zero _)
 | m+1,m'+1,i,h1,h2,hi=>by
   rw [rtE,rtE,Int.toNat_natCast]
   congr 1
   refine List.map_congr_left fun k hkk=>?_
   obtain ⟨h3,h4⟩:=lF hk hi k hkk
   obtain ⟨k,rfl⟩:∃ q:Nat,k=(q:Int):=⟨k.toNat,by omega⟩
   exact ve hk m m' k (by omega) (by omega) (by omega)
def trE (ns:List EN) (i:Nat):RT:=rtE ns ns.length i
theorem Dn {ns:List EN} (hk:∀ i,i<ns.length→(ar (ndE ns i)).all (inB i)=true) {i:Nat} (hi:i<ns.length):trE ns i=.mk (can (ndE ns i)) ((ar (ndE ns i)).map fun k=>trE ns k.toNat):=by
 unfold trE
 obtain ⟨m,hm⟩:∃ m,ns.length=m+1:=⟨ns.length-1,by omega⟩
 conv=>lhs;rw [hm]
 rw [rtE,Int.toNat_natCast]
 congr 1
 refine List.map_congr_left fun k hkk=>?_
 obtain ⟨h3,h4⟩:=lF hk hi k hkk
 obtain ⟨k,rfl⟩:∃ q:Nat,k=(q:Int):=⟨k.toNat,by omega⟩
 rw [Int.toNat_natCast]
 exact ve hk m ns.length k (by omega) (by omega) (by omega)
end Go.Proofs.YtejpnabbmgpmaaaGreatDoor

namespace Go.Proofs.YtejpnabbmgpmaaaGreatDoor
open Go.Ab
mutual
def RT.ok:RT→Prop
 | .mk n ts=>(cn n=ts.length∧can n=n)∧RT.oks ts
def RT.oks:List RT→Prop
 | []=>True
 | t::r=>t.ok∧RT.oks r
end
end Go.Proofs.YtejpnabbmgpmaaaGreatDoor

namespace Go.Proofs.YtejpnabbmgpmaaaGreatDoor
open Go.Ab
theorem ic {β:Type} (g:EF→β) (hg:∀ (f:EF) (v:Int),g { f with to:=v }=g f) (ks:List Int) (o:Nat):∀ (l:List EF) (i:Nat),(aP ks o l i).map g=l.map g
 | [],_=>rfl
 | f::r,i=>by
   rw [aP,List.map_cons,List.map_cons,ic g hg ks o r (i+1)]
   split
   ·rw [hg]
   ·rfl
theorem all_map' {α:Type} (p:α→Bool):∀ l:List α,l.all p=(l.map p).all id
 | []=>rfl
 | x::r=>by rw [List.all_cons,List.map_cons,List.all_cons,all_map' p r];rfl
theorem sI {n:EN} {ks:List Int} (h:a8 n=true):a8 (aZ n ks)=true:=by
 unfold a8 at h ⊢
 simp only [Bool.and_eq_true] at h
 obtain ⟨h1,⟨⟨h2,h3⟩,h4⟩,_⟩:=h
 have e1:fP (aZ n ks)=fP n:=rfl
 have e2:cE (aZ n ks)=cE n:=rfl
 have e3:cD (aZ n ks)=true:=by
  unfold cD at h4 ⊢
  rw [lD]
  by_cases hp:aL n.k=true
  ·rw [if_pos hp] at h4 ⊢
   have hl:(aZ n ks).l=aP ks (aU n.k) n.l 0:=by show (if aL n.k then _ else [])=_;rw [if_pos hp]
   rw [hl,all_map',ic (fc n.k) (fun f v=>by unfold fc;rfl),← all_map',cW,ic (·.nm) (fun _ _=>rfl)]
   exact h4
  ·rw [if_neg hp]
   have hl:(aZ n ks).l=[]:=by show (if aL n.k then _ else [])=_;rw [if_neg hp]
   rw [hl]
   rfl
 have e4:fR (aZ n ks)=true:=by
  unfold fR
  rw [lD]
  show ([if 0<aU n.k then ks.getD 0 0 else 0,if 1<aU n.k then ks.getD 1 0 else 0,if 2<aU n.k then ks.getD 2 0 else 0].drop (aU n.k)).all _=true
  have:=da n.k
  generalize aU n.k=q at this
  match q,this with
  | 0,_=>simp
  | 1,_=>simp
  | 2,_=>simp
  | 3,_=>simp
 have e5:(aZ n ks).pos=n.pos:=rfl
 rw [e1,e2,e3,e4,e5,lD,h2,h3]
 simp only [Bool.and_eq_true] at h1 ⊢
 exact ⟨h1,by simp⟩
end Go.Proofs.YtejpnabbmgpmaaaGreatDoor

namespace Go.Proofs.YtejpnabbmgpmaaaGreatDoor
open Go.Ab
def GL (n:EN):Prop:=a8 n=true∧inR n.n
theorem GL.with {n:EN} (ks:List Int) (h:GL n):GL (aZ n ks):=⟨sI h.1,h.2⟩
mutual
def RT.rt:RT→Prop
 | .mk n ts=>GL n∧RT.rts ts
def RT.rts:List RT→Prop
 | []=>True
 | t::r=>t.rt∧RT.rts r
end
theorem fZ {s:List UInt8} (h:aD s=true):s.length≤20:=by
 unfold aD br at h
 simp only [Bool.and_eq_true,decide_eq_true_eq] at h
 exact h.1.1.1.2
theorem pc {s:List UInt8} (h:eY s=true):s.length≤20:=by
 unfold eY br at h
 simp only [Bool.and_eq_true,decide_eq_true_eq] at h
 exact h.1.1.2
theorem u4 {n:EN} (h:a8 n=true):n.s.length≤200:=by
 unfold a8 cE at h
 simp only [Bool.and_eq_true] at h
 have h1:=h.2.1.1.2
 (repeat' split at h1)<;>simp only [Bool.and_eq_true,decide_eq_true_eq,List.isEmpty_iff] at h1
 ·rw [h1];decide
 ·rw [h1.2];decide
 ·rw [h1.2];decide
 ·exact h1.2
 ·rw [h1.2];decide
theorem sY {n:EN} (h:a8 n=true):iW BIG n:=by
 have hl:=pV h
 have hs:=u4 h
 have hx:(20:Nat)≤BIG:=by unfold BIG;omega
 refine ⟨?_,by unfold BIG;omega,by omega,fun f hf=>?_⟩
 ·unfold a8 fP at h
  simp only [Bool.and_eq_true] at h
  have h1:=h.2.1.1.1
  (repeat' split at h1)
  ·have:=fZ h1;omega
  ·have:=pc h1;omega
  ·rw [List.isEmpty_iff] at h1
   rw [h1]
   exact Nat.zero_le _
 ·unfold a8 cD at h
  simp only [Bool.and_eq_true] at h
  have h1:=h.2.1.2
  split at h1
  ·simp only [Bool.and_eq_true] at h1
   have h2:=List.all_eq_true.1 h1.1 f hf
   unfold fc at h2
   split at h2<;>simp only [Bool.and_eq_true,List.isEmpty_iff] at h2
   ·have:=fZ h2.1
    rw [h2.2]
    exact ⟨by omega,Nat.zero_le _⟩
   ·have:=pc h2.1
    have:=fZ h2.2
    exact ⟨by omega,by omega⟩
  ·rw [List.isEmpty_iff] at h1
   rw [h1] at hf
   cases hf
structure RT.good (t:RT):Prop where
 ok:t.ok
 rt:t.rt
def k9:RT:=.mk (can (ndE [] 0)) []
def RT.lab:RT→EN
 | .mk n _=>n
def RT.kids:RT→List RT
 | .mk _ ts=>ts
def RT.kid (t:RT) (j:Nat):RT:=t.kids.getD j k9
mutual
def ft:RT→Bool
 | .mk n ts=>if n.k=11∨n.k=13 then rW ts else decide (n.k=1) || decide (n.k=2) || decide (n.k=3) || decide (n.k=5)
def rW:List RT→Bool
 | []=>true
 | t::r=>ft t && rW r
end
theorem nV:∀ ts:List RT,rW ts=ts.all ft
 | []=>by rw [rW];rfl
 | t::r=>by rw [rW,nV r];rfl
def ER (n:EN) (k:Nat) (x:List UInt8):Bool :=
 if n.k=5∨n.k=8 then n.name == x else if n.k=7 then (n.name == x) && decide (k=1) else if n.k=14 then decide (0<k) && ((fdE n.l (k-1)).var == x) else false
mutual
def ym (x:List UInt8) (v:RT):RT→RT
 | .mk n ts=>if n.k=4∧n.name=x then v else .mk n (Dp x v n 0 ts)
def Dp (x:List UInt8) (v:RT) (n:EN):Nat→List RT→List RT
 | _,[]=>[]
 | k,t::r=>(if ER n k x then t else ym x v t)::Dp x v n (k+1) r
end
def RT.sz (t:RT):Nat:=t.enc.length
def szs (ts:List RT):Nat:=(ts.map RT.sz).sum
def Dl (n:EN):RT:=.mk (can n) []
def Gi (n a b:EN):Int × RT :=
 if n.n=7 then (if a.k=3∧b.k=3 then (5,Dl ⟨3,0,0,0,0,[],(a.s++b.s).take 200,[],n.pos⟩) else (4,k9))
 else if a.k=1∧b.k=1 then (if F5 n.n b.n≠0 then (2,k9) else (5,Dl ⟨if 5≤n.n then 2 else 1,0,0,0,FI n.n a.n b.n,[],[],[],n.pos⟩)) else (4,k9)
def Bt (n:EN) (f:RT):RT :=
 if f.lab.name=n.name then f else .mk (can ⟨5,0,0,0,0,f.lab.name,[],[],f.lab.pos⟩) [.mk (can ⟨8,0,0,0,0,n.name,[],[],n.pos⟩) [f,f.kid 0]]
def yJ (l:List EF) (x:List UInt8):Nat:=l.findIdx fun f=>f.nm == x
def DV (n:EN) (ts:List RT):Int × RT :=
 let c:=fun j=>ts.getD j k9
 if n.k=6 then (if (c 0).lab.k=5 then (5,ym (c 0).lab.name (c 1) ((c 0).kid 0)) else (4,k9))
 else if n.k=7 then (5,ym n.name (c 0) (c 1))
 else if n.k=8 then (5,ym n.name (Bt n (c 0)) (c 1))
 else if n.k=9 then (if (c 0).lab.k=2 then (5,if (c 0).lab.n=1 then c 1 else c 2) else (4,k9))
 else if n.k=10 then Gi n (c 0).lab (c 1).lab
 else if n.k=12 then (if (c 0).lab.k=11∧yJ (c 0).lab.l n.name<(c 0).lab.l.length then (5,(c 0).kid (yJ (c 0).lab.l n.name)) else (4,k9))
 else if n.k=14 then (if (c 0).lab.k=13∧yJ n.l (c 0).lab.name<n.l.length then (5,ym (fdE n.l (yJ n.l (c 0).lab.name)).var ((c 0).kid 0) (c (yJ n.l (c 0).lab.name+1))) else (4,k9))
 else (4,k9)
def E7 (n:EN) (k:Nat):Bool:=if n.k=6∨n.k=10∨n.k=11 then true else if n.k=7∨n.k=9∨n.k=12∨n.k=13∨n.k=14 then decide (k=0) else false
mutual
def stT:RT→Int × RT
 | .mk n ts=>match FC n 0 ts with
   | none=>DV n ts
   | some (h,us)=>if h=5 then (5,.mk n us) else (h,k9)
def FC (n:EN):Nat→List RT→Option (Int × List RT)
 | _,[]=>none
 | k,t::r=>if E7 n k && !ft t then some ((stT t).1,(stT t).2::r) else (FC n (k+1) r).map fun q=>(q.1,t::q.2)
end
end Go.Proofs.YtejpnabbmgpmaaaGreatDoor

namespace Go.Proofs.YtejpnabbmgpmaaaGreatDoor
open Go.Ab
mutual
def RT.lk:RT→Prop
 | .mk n ts=>(n.k=8→(ts.getD 0 k9).lab.k=5)∧RT.lks ts
def RT.lks:List RT→Prop
 | []=>True
 | t::r=>t.lk∧RT.lks r
end
theorem mw (n:EN):(can n).k=n.k:=rfl
theorem Ak (n:EN):(can n).name=n.name:=rfl
theorem FV (n:EN):(can n).s=n.s:=rfl
theorem Dy (n:EN):(can n).n=n.n:=rfl
end Go.Proofs.YtejpnabbmgpmaaaGreatDoor

namespace Go.Proofs.YtejpnabbmgpmaaaGreatDoor
open Go.Ab
structure Tk where
 k:Int
 s:List UInt8
 n:Int
inductive Pc where
 | tok (t:Tk)
 | sp
def kwP (s:List UInt8):Pc:=.tok ⟨1,s,0⟩
def nmP (s:List UInt8):Pc:=.tok ⟨2,s,0⟩
def tgP (s:List UInt8):Pc:=.tok ⟨3,s,0⟩
def sgP (s:List UInt8):Pc:=.tok ⟨7,s,0⟩
def Gm (op:Int):List UInt8:=if op=1 then [43] else if op=2 then [45] else if op=3 then [42] else if op=4 then [47] else if op=5 then [60] else if op=6 then [61,61] else if op=7 then [94] else []
def sB (n:EN):Nat :=
 if n.k=5∨n.k=7∨n.k=8∨n.k=9 then 0
 else if n.k=10 then (if n.n=5∨n.n=6 then 1 else if n.n=3∨n.n=4 then 3 else 2)
 else if n.k=13 then 4 else if n.k=6 then 5 else if n.k=12 then 6 else 7
def atP (least:Nat) (q:Nat × List Pc):List Pc:=if least≤q.1 then q.2 else sgP [40]::(q.2++[sgP [41]])
def Dw (sep:List Pc):List (List Pc)→List Pc
 | []=>[]
 | a::r=>a++r.flatMap (sep++·)
def GC (f:EF) (q:Nat × List Pc):List Pc:=[nmP f.nm,.sp,sgP [61],.sp]++q.2
def GR (f:EF) (q:Nat × List Pc):List Pc:=[tgP f.nm,.sp,nmP f.var,.sp,sgP bTo,.sp]++q.2
def iQ (ks:List (Nat × List Pc)) (j least:Nat):List Pc:=atP least (ks.getD j (0,[]))
def pcN (n:EN) (ks:List (Nat × List Pc)):List Pc :=
 if n.k=1 then [.tok ⟨4,[],n.n⟩]
 else if n.k=2 then [kwP (if n.n=1 then gb else dC)]
 else if n.k=3 then [.tok ⟨5,n.s,0⟩]
 else if n.k=4 then [nmP n.name]
 else if n.k=5 then [kwP Br,.sp,nmP n.name,.sp,sgP bTo,.sp]++iQ ks 0 0
 else if n.k=6 then iQ ks 0 5++([.sp]++iQ ks 1 6)
 else if n.k=7 then [kwP zf,.sp,nmP n.name,.sp,sgP [61],.sp]++(iQ ks 0 0++([.sp,kwP bIn,.sp]++iQ ks 1 0))
 else if n.k=8 then [kwP zf,.sp,kwP iJ,.sp,nmP n.name,.sp,sgP [61],.sp]++(iQ ks 0 0++([.sp,kwP bIn,.sp]++iQ ks 1 0))
 else if n.k=9 then [kwP bIf,.sp]++(iQ ks 0 0++([.sp,kwP l7,.sp]++(iQ ks 1 0++([.sp,kwP mL,.sp]++iQ ks 2 0))))
 else if n.k=10 then iQ ks 0 (max (sB n) 2)++([.sp,sgP (Gm n.n),.sp]++iQ ks 1 (sB n+1))
 else if n.k=11 then [sgP [123]]++(Dw [sgP [44],.sp] (List.zipWith GC n.l ks)++[sgP [125]])
 else if n.k=12 then iQ ks 0 6++[sgP [46],nmP n.name]
 else if n.k=13 then [tgP n.name,.sp]++iQ ks 0 6
 else [kwP jo,.sp]++(iQ ks 0 0++([.sp,kwP bOf,.sp]++(Dw [.sp,sgP [124],.sp] (List.zipWith GR n.l (ks.drop 1))++[.sp,kwP x5])))
mutual
def RT.pcs:RT→List Pc
 | .mk n ts=>pcN n (RT.pcss ts)
def RT.pcss:List RT→List (Nat × List Pc)
 | []=>[]
 | t::r=>(sB t.lab,t.pcs)::RT.pcss r
end
mutual
def RT.dep:RT→Nat
 | .mk _ ts=>RT.deps ts+1
def RT.deps:List RT→Nat
 | []=>0
 | t::r=>max t.dep (RT.deps r)
end
mutual
def RT.np:RT→RT
 | .mk n ts=>.mk { n with pos:=0 } (RT.nps ts)
def RT.nps:List RT→List RT
 | []=>[]
 | t::r=>t.np::RT.nps r
end
end Go.Proofs.YtejpnabbmgpmaaaGreatDoor

namespace Go.Proofs.YtejpnabbmgpmaaaGreatDoor
open Go.Ab
theorem iC:∀ (m m':Nat) (l:List UInt8),l.length<m→l.length<m'→dn m l=dn m' l
 | 0,_,_,h,_=>absurd h (Nat.not_lt_zero _)
 | _,0,_,_,h=>absurd h (Nat.not_lt_zero _)
 | m+1,m'+1,[],_,_=>rfl
 | m+1,m'+1,c::r,h,h'=>by
   simp only [List.length_cons] at h h'
   unfold dn
   by_cases hb:c=32∨c=9∨c=10
   ·rw [if_pos hb,if_pos hb,iC m m' r (by omega) (by omega)]
   rw [if_neg hb,if_neg hb]
   by_cases hr:c=35
   ·rw [if_pos hr,if_pos hr]
    cases hf:cF (c::r) with
    | none=>rfl
    | some k =>
      have hk:=nA (by rw [hr];decide) hf
      simp only
      rw [iC m m' ((c::r).drop k) (by rw [List.length_drop,List.length_cons];omega) (by rw [List.length_drop,List.length_cons];omega)]
   ·rw [if_neg hr,if_neg hr]
theorem tv {c:UInt8} {r:List UInt8} (hb:c=32∨c=9∨c=10):aK (c::r)=aK r+1:=by
 unfold aK
 rw [Nat.succ_eq_add_one,dn,if_pos hb]
 rfl
theorem vV {c:UInt8} {r:List UInt8} (hb:¬ (c=32∨c=9∨c=10)) (hr:¬ c=35):aK (c::r)=0:=by
 unfold aK
 rw [Nat.succ_eq_add_one,dn,if_neg hb,if_neg hr]
def qm (l:List UInt8):Nat:=match cF l with
 | none=>l.length
 | some k=>k+aK (l.drop k)
theorem zu {r:List UInt8}:aK (35::r)=qm (35::r):=by
 unfold qm
 have h:=dn.eq_3 (35::r).length 35 r
 unfold aK
 rw [Nat.succ_eq_add_one,dn,if_neg (by decide),if_pos rfl]
 cases hf:cF (35::r) with
 | none=>rfl
 | some k =>
   simp only
   have hk:=nA (by decide) hf
   rw [iC (35::r).length ((35::r).drop k).length.succ ((35::r).drop k) (by rw [List.length_drop,List.length_cons];omega) (Nat.lt_succ_self _)]
theorem EB {c:UInt8} {r:List UInt8} (hc:¬ c=10):qm (c::r)=qm r+1:=by
 unfold qm
 rw [show cF (c::r)=(cF r).map (·+1) by conv=>lhs;unfold cF;rw [if_neg hc]]
 cases cF r with
 | none=>rfl
 | some k =>
   simp only [Option.map_some,List.drop_succ_cons]
   omega
theorem drop_cons {s:List UInt8} {i:Nat} (h:i<s.length):s.drop i=s.getD i 0::s.drop (i+1):=by
 rw [List.drop_eq_getElem_cons h]
 simp [h]
structure AI (s:List UInt8) (j i:Nat):Prop where
 hi:i≤s.length
 ti:TI s j (i+aK (s.drop i))
 ok:∀ q∈(aA s).take j,q.2.e=0
theorem AI.init (s:List UInt8):AI s 0 0:=⟨Nat.zero_le _,by rw [List.drop_zero,Nat.zero_add];exact TI.init s,fun q h=>by rw [List.take_zero] at h;cases h⟩
theorem AI.blank {s:List UInt8} {j i:Nat} (h:AI s j i) (hi:i<s.length) (hb:s.getD i 0=32∨s.getD i 0=9∨s.getD i 0=10):AI s j (i+1):=by
 refine ⟨by omega,?_,h.ok⟩
 have:=h.ti
 rw [drop_cons hi,tv hb] at this
 rwa [show i+1+aK (s.drop (i+1))=i+(aK (s.drop (i+1))+1) by omega]
structure RI (s:List UInt8) (j i:Nat):Prop where
 hi:i≤s.length
 ti:TI s j (i+qm (s.drop i))
 ok:∀ q∈(aA s).take j,q.2.e=0
theorem AI.rem {s:List UInt8} {j i:Nat} (h:AI s j i) (hi:i<s.length) (hr:s.getD i 0=35):RI s j i:=by
 refine ⟨h.hi,?_,h.ok⟩
 have:=h.ti
 rw [drop_cons hi,hr,zu] at this
 rwa [drop_cons hi,hr]
theorem RI.on {s:List UInt8} {j i:Nat} (h:RI s j i) (hi:i<s.length) (hc:¬ s.getD i 0=10):RI s j (i+1):=by
 refine ⟨by omega,?_,h.ok⟩
 have:=h.ti
 rw [drop_cons hi,EB hc] at this
 rwa [show i+1+qm (s.drop (i+1))=i+(qm (s.drop (i+1))+1) by omega]
theorem xL {l:List (Nat × Fnd)}:(∀ q∈l,q.2.e=0)→eZ l=none:=by
 induction l with
 | nil=>intro _;rfl
 | cons a r ih =>
   intro h
   unfold eZ
   rw [if_neg (by simp [h a List.mem_cons_self]),ih fun q hq=>h q (List.mem_cons_of_mem _ hq)]
theorem rf {a:Nat × Fnd} (ha:a.2.e≠0):∀ {l:List (Nat × Fnd)},(∀ q∈l,q.2.e=0)→eZ (l++[a])=some (a.1,a.2.e)
 | [],_=>by
   show eZ [a]=_
   unfold eZ
   rw [if_pos ha]
 | x::r,h=>by
   rw [List.cons_append,eZ,if_neg (by simp [h x List.mem_cons_self])]
   exact rf ha fun q hq=>h q (List.mem_cons_of_mem _ hq)
theorem AI.fin {s:List UInt8} {j i:Nat} (h:AI s j i) (hi:s.length≤i):cG s=(((aA s).take j).map mF,s.length,0):=by
 have hp:=h.ti
 rw [List.drop_eq_nil_of_le hi] at hp
 rcases hp.next with ⟨_,h2⟩ | ⟨h2,_⟩
 ·have hl:(aA s).length≤j:=List.drop_eq_nil_iff.1 h2
  have ho:=h.ok
  rw [List.take_of_length_le hl] at ho ⊢
  unfold cG
  rw [xL ho]
 ·have:=aK (([]:List UInt8))
  omega
theorem AI.tok {s:List UInt8} {j i:Nat} (h:AI s j i) (hi:i<s.length) (hb:¬ (s.getD i 0=32∨s.getD i 0=9∨s.getD i 0=10)) (hr:¬ s.getD i 0=35) :
  ((bN (s.drop i)).e≠0∧cG s=([],i,(bN (s.drop i)).e)) ∨
  ((bN (s.drop i)).e=0∧1≤(bN (s.drop i)).n∧(aA s).take (j+1)=(aA s).take j++[(i,bN (s.drop i))]∧j<(aA s).length∧AI s (j+1) (i+(bN (s.drop i)).n)):=by
 have ht:=h.ti
 rw [drop_cons hi,vV hb hr,Nat.add_zero] at ht
 obtain ⟨_,hget,hcase⟩:=ht.next.resolve_left (fun g=>by omega)
 obtain ⟨hj,hge⟩:=List.getElem?_eq_some_iff.1 hget
 have htk:(aA s).take (j+1)=(aA s).take j++[(i,bN (s.drop i))]:=by
  rw [List.take_succ_eq_append_getElem hj,hge]
 rcases hcase with ⟨he,hl⟩ | ⟨he,hn,hn1,hT⟩
 ·refine .inl ⟨he,?_⟩
  have ho:=h.ok
  have hall:aA s=(aA s).take j++[(i,bN (s.drop i))]:=by rw [← htk,List.take_of_length_le (by omega)]
  unfold cG
  rw [hall,rf (a:=(i,bN (s.drop i))) he ho]
 ·refine .inr ⟨he,hn1,htk,hj,by omega,hT,fun q hq=>?_⟩
  rw [htk] at hq
  rcases List.mem_append.1 hq with hq | hq
  ·exact h.ok q hq
  ·rw [List.mem_singleton.1 hq];exact he
end Go.Proofs.YtejpnabbmgpmaaaGreatDoor

namespace Go.Proofs.YtejpnabbmgpmaaaGreatDoor
open Go.Ab
def cO (n:Nat):UInt8:=iE.getD n 0
def quC (c:UInt8):List UInt8:=if eK c then [c] else if c=34∨c=92 then [92,c] else if c=10 then [92,110] else if c=9 then [92,116] else [92,120,cO (c.toNat / 16),cO (c.toNat % 16)]
def quS (s:List UInt8):List UInt8:=34::(s.flatMap quC++[34])
end Go.Proofs.YtejpnabbmgpmaaaGreatDoor

namespace Go.Proofs.YtejpnabbmgpmaaaGreatDoor
open Go.Ab
inductive VT where
 | mk (k n:Int) (s:List UInt8) (nms:List (List UInt8)) (vs:List VT)
def VT.k:VT→Int
 | .mk k _ _ _ _=>k
def VT.n:VT→Int
 | .mk _ n _ _ _=>n
def VT.s:VT→List UInt8
 | .mk _ _ s _ _=>s
def VT.nms:VT→List (List UInt8)
 | .mk _ _ _ nms _=>nms
def VT.vs:VT→List VT
 | .mk _ _ _ _ vs=>vs
def noV:VT:=.mk 0 0 [] [] []
def VT.kid (v:VT) (i:Nat):VT:=v.vs.getD i noV
def VT.nm (v:VT) (i:Nat):List UInt8:=v.nms.getD i []
def vfD (nm:List UInt8) (d:D):D:=.agg (.str nm::d.cells)
mutual
def VT.dat:VT→D
 | .mk k n s nms vs=>.agg [i64 k,i64 n,.str s,.sl (some 5) (List.zipWith vfD nms (VT.dats vs))]
def VT.dats:List VT→List D
 | []=>[]
 | v::r=>v.dat::VT.dats r
end
theorem b8:∀ l:List VT,VT.dats l=l.map VT.dat
 | []=>rfl
 | v::r=>by rw [VT.dats,b8 r];rfl
mutual
def VT.wf:VT→Prop
 | .mk _ _ s nms vs=>(nms.length=vs.length∧vs.length≤1000∧s.length≤9223372036854775807∧∀ x∈nms,x.length≤9223372036854775807)∧VT.wfs vs
def VT.wfs:List VT→Prop
 | []=>True
 | v::r=>v.wf∧VT.wfs r
end
theorem jh:∀ l:List VT,VT.wfs l↔∀ v∈l,v.wf
 | []=>by simp [VT.wfs]
 | v::r=>by rw [VT.wfs,jh r];simp
structure VT.Ok (v:VT):Prop where
 len:v.nms.length=v.vs.length
 few:v.vs.length≤1000
 sl:v.s.length≤9223372036854775807
 nl:∀ x∈v.nms,x.length≤9223372036854775807
 kids:∀ u∈v.vs,u.wf
theorem VT.wf.ok {v:VT} (h:v.wf):v.Ok:=by
 cases v with
 | mk k n s nms vs =>
   rw [VT.wf,jh] at h
   exact ⟨h.1.1,h.1.2.1,h.1.2.2.1,h.1.2.2.2,h.2⟩
def VT.ps (v:VT):List D:=List.zipWith vfD v.nms (VT.dats v.vs)
theorem aq (v:VT):v.dat=.agg [i64 v.k,i64 v.n,.str v.s,.sl (some 5) v.ps]:=by
 cases v;rfl
theorem VT.Ok.b6 {v:VT} (h:v.Ok):v.ps.length=v.vs.length:=by
 unfold VT.ps
 rw [List.length_zipWith,b8,List.length_map,h.len,Nat.min_self]
theorem bh {v:VT} {i:Nat} (hi:i<v.vs.length):v.kid i∈v.vs:=by
 unfold VT.kid
 rw [List.getD_eq_getElem?_getD,List.getElem?_eq_getElem hi]
 exact List.getElem_mem hi
theorem ek {v:VT} {i:Nat} (hi:i<v.nms.length):v.nm i∈v.nms:=by
 unfold VT.nm
 rw [List.getD_eq_getElem?_getD,List.getElem?_eq_getElem hi]
 exact List.getElem_mem hi
theorem VT.Ok.bD {v:VT} (h:v.Ok) {i:Nat} (hi:i<v.vs.length):v.ps.getD i .nilp=.agg [.str (v.nm i),i64 (v.kid i).k,i64 (v.kid i).n,.str (v.kid i).s,.sl (some 5) (v.kid i).ps]:=by
 have hn:i<v.nms.length:=by rw [h.len];exact hi
 have hd:(VT.dats v.vs)[i]?=some (v.kid i).dat:=by
  rw [b8,List.getElem?_map,List.getElem?_eq_getElem hi]
  unfold VT.kid
  rw [List.getD_eq_getElem?_getD,List.getElem?_eq_getElem hi];rfl
 unfold VT.ps
 rw [List.getD_eq_getElem?_getD,List.getElem?_zipWith,List.getElem?_eq_getElem hn,hd]
 simp only [Option.getD_some]
 unfold vfD
 rw [aq]
 unfold VT.nm
 rw [List.getD_eq_getElem?_getD,List.getElem?_eq_getElem hn]
 rfl
mutual
def VT.hg:VT→Nat
 | .mk _ _ _ _ vs=>VT.hgs vs+1
def VT.hgs:List VT→Nat
 | []=>0
 | v::r=>max v.hg (VT.hgs r)
end
theorem xW:∀ {l:List VT} {v:VT},v∈l→v.hg≤VT.hgs l
 | [],_,h=>by cases h
 | u::r,v,h=>by
   rw [VT.hgs]
   rcases List.mem_cons.1 h with rfl | h
   ·omega
   ·have:=xW h;omega
theorem gJ {v u:VT} (h:u∈v.vs):u.hg<v.hg:=by
 cases v with
 | mk k n s nms vs =>
   have:=xW h
   rw [VT.hg]
   exact Nat.lt_succ_of_le this
mutual
def VT.sz:VT→Nat
 | .mk _ _ _ _ vs=>VT.szs vs+1
def VT.szs:List VT→Nat
 | []=>0
 | v::r=>v.sz+VT.szs r
end
theorem uJ:∀ l:List VT,VT.szs l=(l.map VT.sz).sum
 | []=>rfl
 | v::r=>by rw [VT.szs,uJ r];simp
theorem zR (v:VT):v.sz=(v.vs.map VT.sz).sum+1:=by
 cases v with
 | mk k n s nms vs=>rw [VT.sz,uJ];rfl
def ba (k n:Int) (s:List UInt8) (nms:List (List UInt8)):Bool :=
 if k=1 then (s == []) && decide (nms.length=0)
 else if k=2 then (decide (n=0) || decide (n=1)) && (s == []) && decide (nms.length=0)
 else if k=3 then decide (n=0) && decide (nms.length=0)
 else if k=4 then decide (n=0) && (s == []) && decide (nms.length=0)
 else if k=5 then decide (n=0) && (s == [])
 else if k=6 then decide (n=0) && eY s && decide (nms.length=1) && (nms.getD 0 [] == [])
 else false
mutual
def VT.may:VT→Bool
 | .mk k n s nms vs=>ba k n s nms && (VT.mays vs && (decide (k≠5) || nms.all aD) && decide nms.Nodup)
def VT.mays:List VT→Bool
 | []=>true
 | v::r=>v.may && VT.mays r
end
theorem mz:∀ l:List VT,VT.mays l=l.all VT.may
 | []=>rfl
 | v::r=>by rw [VT.mays,mz r];rfl
theorem dF (v:VT):v.may=(ba v.k v.n v.s v.nms && (v.vs.all VT.may && (decide (v.k≠5) || v.nms.all aD) && decide v.nms.Nodup)):=by
 cases v with
 | mk k n s nms vs=>rw [VT.may,mz];rfl
def ei:List UInt8:=[44,32]
def eqB:List UInt8:=[32,61,32]
def bY (sep:List UInt8):List (List UInt8)→List UInt8
 | []=>[]
 | a::r=>a++r.flatMap (sep++·)
def FT:List UInt8:=[60,102,117,110,62]
def qy (k n:Int) (s:List UInt8) (nms:List (List UInt8)) (ks:List Int) (ts:List (List UInt8)):List UInt8 :=
 if k=1 then eh n
 else if k=2 then (if n=1 then gb else dC)
 else if k=3 then quS s
 else if k=4 then FT
 else if k=6 then s++32::(if ks.getD 0 0=6 then 40::(ts.getD 0 []++[41]) else ts.getD 0 [])
 else 123::(bY ei (List.zipWith (fun nm t=>nm++eqB++t) nms ts)++[125])
mutual
def VT.txt:VT→List UInt8
 | .mk k n s nms vs=>qy k n s nms (vs.map VT.k) (VT.txts vs)
def VT.txts:List VT→List (List UInt8)
 | []=>[]
 | v::r=>v.txt::VT.txts r
end
theorem q0:∀ l:List VT,VT.txts l=l.map VT.txt
 | []=>rfl
 | v::r=>by rw [VT.txts,q0 r];rfl
theorem jQ (v:VT):v.txt=qy v.k v.n v.s v.nms (v.vs.map VT.k) (v.vs.map VT.txt):=by
 cases v with
 | mk k n s nms vs=>rw [VT.txt,q0];rfl
mutual
def VT.eq:VT→VT→Bool
 | .mk k n s nms vs,.mk k' n' s' nms' vs'=>decide (k=k') && decide (n=n') && decide (s=s') && (decide (nms=nms') && VT.eqs vs vs')
def VT.eqs:List VT→List VT→Bool
 | [],[]=>true
 | v::r,w::q=>v.eq w && VT.eqs r q
 | _,_=>false
end
mutual
theorem eq_iff:∀ a b:VT,a.eq b=true↔a=b
 | .mk k n s nms vs,.mk k' n' s' nms' vs'=>by
   rw [VT.eq]
   simp only [Bool.and_eq_true,decide_eq_true_eq,uq vs vs',VT.mk.injEq]
   constructor
   ·rintro ⟨⟨⟨h1,h2⟩,h3⟩,h4,h5⟩;exact ⟨h1,h2,h3,h4,h5⟩
   ·rintro ⟨h1,h2,h3,h4,h5⟩;exact ⟨⟨⟨h1,h2⟩,h3⟩,h4,h5⟩
theorem uq:∀ a b:List VT,VT.eqs a b=true↔a=b
 | [],[]=>by simp [VT.eqs]
 | [],w::q=>by simp [VT.eqs]
 | v::r,[]=>by simp [VT.eqs]
 | v::r,w::q=>by
   rw [VT.eqs]
   simp only [Bool.and_eq_true,eq_iff v w,uq r q,List.cons.injEq]
end
end Go.Proofs.YtejpnabbmgpmaaaGreatDoor

namespace Go.Proofs.YtejpnabbmgpmaaaGreatDoor
open Go.Ab
theorem gy (v:VT):1≤v.hg:=by
 cases v with
 | mk k n s nms vs=>rw [VT.hg];omega
def VT.cs (v:VT):List D:=[i64 v.k,i64 v.n,.str v.s,.sl (some 5) v.ps]
def eT (l:List VT):Nat:=(l.map VT.sz).sum
theorem mi {l:List VT} {i:Nat} (h:i<l.length):eT (l.take (i+1))=eT (l.take i)+(l.getD i noV).sz:=by
 unfold eT
 rw [List.take_succ_eq_append_getElem h,List.map_append,List.sum_append,List.getD_eq_getElem?_getD,List.getElem?_eq_getElem h]
 simp
theorem sV (l:List VT) (i:Nat):eT (l.take i)≤eT l:=by
 have h:eT l=eT (l.take i)+eT (l.drop i):=by
  unfold eT
  rw [← List.sum_append,← List.map_append,List.take_append_drop]
 omega
theorem xB {v:VT} {i:Nat} (h:i<v.vs.length):(v.kid i).sz<v.sz:=by
 have h1:=mi h
 have h2:=sV v.vs (i+1)
 have h3:=zR v
 unfold eT at h1 h2
 unfold VT.kid
 omega
theorem yP {G}:∀ (m:Nat) (v:VT),v.hg≤m→v.wf→v.sz≤1000000000→HP Tryz.prog G 52 [v.dat] (fun r=>r=.d (i64 (v.sz:Nat)))
 | 0,v,h,_,_=>absurd (gy v) (by omega)
 | m+1,v,h,hw,hs=>by
   have ok:=hw.ok
   have hpl:=ok.b6
   have hf:=ok.few
   have hsz:v.sz=eT v.vs+1:=zR v
   have hkid:∀ i,i<v.vs.length→HP Tryz.prog G 52 [.agg [i64 (v.kid i).k,i64 (v.kid i).n,.str (v.kid i).s,.sl (some 5) (v.kid i).ps]] (fun r=>r=.d (i64 ((v.kid i).sz:Nat))):=fun i hi=>by
    have h1:=gJ (bh hi)
    have h2:=xB hi
    have:=yP (G:=G) m (v.kid i) (by omega) (ok.kids _ (bh hi)) (by omega)
    rw [aq] at this
    exact this
   rw [aq]
   refine aj Tryz.func52 rfl (by decide +kernel) (by simp [Tryz.ntmps52]) (veil fun E=>?_)
   simp only [go_sem]
   refine aw E (X:={ i:Nat // i≤v.vs.length }) (fun x=>[(1,.bx [1] 0),(3,.d (i64 ((1+eT (v.vs.take x.1):Nat):Int))),(7,.d (.sl (some 5) v.ps)),(8,.d (i64 (v.ps.length:Nat))),(9,.d (i64 x.1))])
    (fun _=>[([1],.box [.d (i64 v.k),.d (i64 v.n),.d (.str v.s),.d (.sl (some 5) v.ps)])]) [1] (fun x=>v.vs.length-x.1) ⟨0,Nat.zero_le _⟩ id ?_ ?_
   ·simp only [go_sem]
    all_goals ((repeat' apply And.intro)<;>first | rfl | trivial)
   rintro ⟨i,hi⟩ E0
   refine aH E0 fun Q' hQ E'=>?_
   simp only at hi ⊢
   simp only [go_sem]
   refine ah E' (fun g=>?_) (fun g=>?_)<;>simp only [go_sem]
   ·have hi':i<v.vs.length:=by omega
    refine ⟨by omega,?_⟩
    rw [ok.bD hi']
    simp only [go_sem]
    refine ae E' (hkid i hi') rfl rfl (by simp) ?_
    rintro _ rfl
    have hst:=mi hi'
    have hle:=sV v.vs (i+1)
    unfold VT.kid at *
    generalize (v.vs.getD i noV).sz=z at *
    simp only [go_sem]
    rw [hQ]
    simp only [go_sem]
    rw [ai (n:=((1+eT (v.vs.take i):Nat):Int)+(z:Int)) ⟨by omega,by omega⟩,ai (n:=(i:Int)+1) ⟨by omega,by omega⟩]
    refine ⟨⟨i+1,by omega⟩,by show v.vs.length-(i+1)<v.vs.length-i;omega,id,?_⟩
    simp only [go_sem]
    rw [show ((1+eT (v.vs.take (i+1)):Nat):Int)=((1+eT (v.vs.take i):Nat):Int)+(z:Int) by omega]
    all_goals ((repeat' apply And.intro)<;>first | rfl | trivial)
   ·have hi':i=v.vs.length:=by omega
    subst hi'
    rw [hQ]
    simp only [go_sem]
    rw [hsz,Nat.add_comm]
theorem x6 {G}:∀ (m:Nat) (v:VT),v.hg≤m→v.wf→v.sz≤1000000000→HP Tryz.prog G 20 [v.dat] (fun r=>r=.d (i64 (v.sz:Nat)))
 | 0,v,h,_,_=>absurd (gy v) (by omega)
 | m+1,v,h,hw,hs=>by
   have ok:=hw.ok
   have hpl:=ok.b6
   have hf:=ok.few
   have hsz:v.sz=eT v.vs+1:=zR v
   have hkid:∀ i,i<v.vs.length→HP Tryz.prog G 20 [.agg [i64 (v.kid i).k,i64 (v.kid i).n,.str (v.kid i).s,.sl (some 5) (v.kid i).ps]] (fun r=>r=.d (i64 ((v.kid i).sz:Nat))):=fun i hi=>by
    have h1:=gJ (bh hi)
    have h2:=xB hi
    have:=x6 (G:=G) m (v.kid i) (by omega) (ok.kids _ (bh hi)) (by omega)
    rw [aq] at this
    exact this
   rw [aq]
   refine aj Tryz.func20 rfl (by decide +kernel) (by simp [Tryz.ntmps20]) (veil fun E=>?_)
   simp only [go_sem]
   refine aw E (X:={ i:Nat // i≤v.vs.length }) (fun x=>[(1,.bx [1] 0),(3,.d (i64 ((1+eT (v.vs.take x.1):Nat):Int))),(4,.d (i64 x.1))])
    (fun _=>[([1],.box [.d (i64 v.k),.d (i64 v.n),.d (.str v.s),.d (.sl (some 5) v.ps)])]) [1] (fun x=>v.vs.length-x.1) ⟨0,Nat.zero_le _⟩ id ?_ ?_
   ·simp only [go_sem]
    all_goals ((repeat' apply And.intro)<;>first | rfl | trivial)
   rintro ⟨i,hi⟩ E0
   refine aH E0 fun Q' hQ E'=>?_
   simp only at hi ⊢
   simp only [go_sem]
   refine ah E' (fun g=>?_) (fun g=>?_)<;>simp only [go_sem]
   ·have hi':i<v.vs.length:=by omega
    refine ⟨by omega,?_⟩
    rw [ok.bD hi']
    simp only [go_sem]
    refine ae E' (hkid i hi') rfl rfl (by simp) ?_
    rintro _ rfl
    have hst:=mi hi'
    have hle:=sV v.vs (i+1)
    unfold VT.kid at *
    generalize (v.vs.getD i noV).sz=z at *
    simp only [go_sem]
    rw [hQ]
    simp only [go_sem]
    rw [ai (n:=((1+eT (v.vs.take i):Nat):Int)+(z:Int)) ⟨by omega,by omega⟩,ai (n:=(i:Int)+1) ⟨by omega,by omega⟩]
    refine ⟨⟨i+1,by omega⟩,by show v.vs.length-(i+1)<v.vs.length-i;omega,id,?_⟩
    simp only [go_sem]
    rw [show ((1+eT (v.vs.take (i+1)):Nat):Int)=((1+eT (v.vs.take i):Nat):Int)+(z:Int) by omega]
    all_goals ((repeat' apply And.intro)<;>first | rfl | trivial)
   ·have hi':i=v.vs.length:=by omega
    subst hi'
    rw [hQ]
    simp only [go_sem]
    rw [hsz,Nat.add_comm]
theorem EY {G} (v:VT) (hw:v.wf):HP Tryz.prog G 44 [v.dat] (fun r=>r=.d (.bool (ba v.k v.n v.s v.nms))):=by
 have ok:=hw.ok
 have hpl:=ok.b6
 have hnl:=ok.len
 have hf:=ok.few
 have hsl:=ok.sl
 have htag:=sL (G:=G) v.s hsl
 have hg0:v.nms.length=1→v.ps.getD 0 .nilp=.agg [.str (v.nms.getD 0 []),i64 (v.kid 0).k,i64 (v.kid 0).n,.str (v.kid 0).s,.sl (some 5) (v.kid 0).ps]:=fun h=>ok.bD (by omega)
 generalize hR:ba v.k v.n v.s v.nms=R
 unfold ba at hR
 rw [aq]
 have hps:v.ps.length=v.nms.length:=by omega
 generalize v.ps=ps at hps hg0 ⊢
 generalize eY v.s=tb at htag hR
 refine aj Tryz.func44 rfl (by decide +kernel) (by simp [Tryz.ntmps44]) (veil fun E=>?_)
 simp only [go_sem]
 refine ah E (fun h=>?_) (fun h=>?_)<;>simp only [go_sem]
 ·rw [if_pos h] at hR
  repeat (first
   | (apply dP E;(· simp only [go_sem]);(· intro h;(try simp only [bq] at h);simp only [↓h,go_sem];rfl);simp only [go_sem])
   | (apply bJ E;(· simp only [go_sem]);(· intro h;(try simp only [bq] at h);simp only [↓h,go_sem];rfl);(· intro h;(try simp only [bq] at h);simp only [↓h,go_sem];rfl);simp only [go_sem])
   | (apply bK E;(· simp only [go_sem]);(· rfl);(· intro h h';(try simp only [bq] at h h');simp only [↓h,↓h',go_sem];rfl);simp only [go_sem])
   | (apply bj E;(· simp only [go_sem]);(· rfl);(· intro h h';(try simp only [bq] at h h');simp only [↓h,↓h',go_sem];rfl);(· intro h h';(try simp only [bq] at h h');simp only [↓h,↓h',go_sem];rfl);simp only [go_sem])
   | (apply dv E;(· decide);simp only [go_sem]))
  rw [← hR]
  simp [hps]
 rw [if_neg h] at hR
 refine ah E (fun h=>?_) (fun h=>?_)<;>simp only [go_sem]
 ·rw [if_pos h] at hR
  repeat (first
   | (apply dP E;(· simp only [go_sem]);(· intro h;(try simp only [bq] at h);simp only [↓h,go_sem];rfl);simp only [go_sem])
   | (apply bJ E;(· simp only [go_sem]);(· intro h;(try simp only [bq] at h);simp only [↓h,go_sem];rfl);(· intro h;(try simp only [bq] at h);simp only [↓h,go_sem];rfl);simp only [go_sem])
   | (apply bK E;(· simp only [go_sem]);(· rfl);(· intro h h';(try simp only [bq] at h h');simp only [↓h,↓h',go_sem];rfl);simp only [go_sem])
   | (apply bj E;(· simp only [go_sem]);(· rfl);(· intro h h';(try simp only [bq] at h h');simp only [↓h,↓h',go_sem];rfl);(· intro h h';(try simp only [bq] at h h');simp only [↓h,↓h',go_sem];rfl);simp only [go_sem])
   | (apply dv E;(· decide);simp only [go_sem]))
  rw [← hR]
  simp [hps]
 rw [if_neg h] at hR
 refine ah E (fun h=>?_) (fun h=>?_)<;>simp only [go_sem]
 ·rw [if_pos h] at hR
  repeat (first
   | (apply dP E;(· simp only [go_sem]);(· intro h;(try simp only [bq] at h);simp only [↓h,go_sem];rfl);simp only [go_sem])
   | (apply bJ E;(· simp only [go_sem]);(· intro h;(try simp only [bq] at h);simp only [↓h,go_sem];rfl);(· intro h;(try simp only [bq] at h);simp only [↓h,go_sem];rfl);simp only [go_sem])
   | (apply bK E;(· simp only [go_sem]);(· rfl);(· intro h h';(try simp only [bq] at h h');simp only [↓h,↓h',go_sem];rfl);simp only [go_sem])
   | (apply bj E;(· simp only [go_sem]);(· rfl);(· intro h h';(try simp only [bq] at h h');simp only [↓h,↓h',go_sem];rfl);(· intro h h';(try simp only [bq] at h h');simp only [↓h,↓h',go_sem];rfl);simp only [go_sem])
   | (apply dv E;(· decide);simp only [go_sem]))
  rw [← hR]
  simp [hps]
 rw [if_neg h] at hR
 refine ah E (fun h=>?_) (fun h=>?_)<;>simp only [go_sem]
 ·rw [if_pos h] at hR
  repeat (first
   | (apply dP E;(· simp only [go_sem]);(· intro h;(try simp only [bq] at h);simp only [↓h,go_sem];rfl);simp only [go_sem])
   | (apply bJ E;(· simp only [go_sem]);(· intro h;(try simp only [bq] at h);simp only [↓h,go_sem];rfl);(· intro h;(try simp only [bq] at h);simp only [↓h,go_sem];rfl);simp only [go_sem])
   | (apply bK E;(· simp only [go_sem]);(· rfl);(· intro h h';(try simp only [bq] at h h');simp only [↓h,↓h',go_sem];rfl);simp only [go_sem])
   | (apply bj E;(· simp only [go_sem]);(· rfl);(· intro h h';(try simp only [bq] at h h');simp only [↓h,↓h',go_sem];rfl);(· intro h h';(try simp only [bq] at h h');simp only [↓h,↓h',go_sem];rfl);simp only [go_sem])
   | (apply dv E;(· decide);simp only [go_sem]))
  rw [← hR]
  simp [hps]
 rw [if_neg h] at hR
 refine ah E (fun h=>?_) (fun h=>?_)<;>simp only [go_sem]
 ·rw [if_pos h] at hR
  repeat (first
   | (apply dP E;(· simp only [go_sem]);(· intro h;(try simp only [bq] at h);simp only [↓h,go_sem];rfl);simp only [go_sem])
   | (apply bJ E;(· simp only [go_sem]);(· intro h;(try simp only [bq] at h);simp only [↓h,go_sem];rfl);(· intro h;(try simp only [bq] at h);simp only [↓h,go_sem];rfl);simp only [go_sem])
   | (apply bK E;(· simp only [go_sem]);(· rfl);(· intro h h';(try simp only [bq] at h h');simp only [↓h,↓h',go_sem];rfl);simp only [go_sem])
   | (apply bj E;(· simp only [go_sem]);(· rfl);(· intro h h';(try simp only [bq] at h h');simp only [↓h,↓h',go_sem];rfl);(· intro h h';(try simp only [bq] at h h');simp only [↓h,↓h',go_sem];rfl);simp only [go_sem])
   | (apply dv E;(· decide);simp only [go_sem]))
  rw [← hR]
 rw [if_neg h] at hR
 refine ah E (fun h=>?_) (fun h=>?_)<;>simp only [go_sem]
 ·rw [if_pos h] at hR
  refine ao E (fun g1=>?_) (fun g1=>?_)<;>simp only [go_sem]
  ·refine ae E htag rfl rfl (by simp) ?_
   rintro _ rfl
   simp only [go_sem]
   refine bl E (fun g2=>?_) (fun g2=>?_)<;>simp only [go_sem]
   ·refine ao E (fun g3=>?_) (fun g3=>?_)<;>simp only [go_sem]
    ·have h1:v.nms.length=1:=by omega
     refine ⟨by omega,?_⟩
     rw [hg0 h1]
     simp only [go_sem]
     rw [← hR]
     simp [g1,g2,h1]
    ·have h1:¬ v.nms.length=1:=by omega
     rw [← hR]
     simp [h1]
   ·rw [← hR]
    simp [g2]
  ·rw [← hR]
   simp [g1]
 rw [if_neg h] at hR
 rw [← hR]
end Go.Proofs.YtejpnabbmgpmaaaGreatDoor

