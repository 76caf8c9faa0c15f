/-
  Steps, one after the other, on both sides. (with the parts that follow it)
-/
import Derived.Test.YtejpnabbmgpmaaaGreatSCJ
import Derived.Test.YtejpnabbmgpmaaaGreatSCH
import Derived.Test.YtejpnabbmgpmaaaGreatSCF
import Derived.Test.YtejpnabbmgpmaaaGreatSCG
import Derived.Test.YtejpnabbmgpmaaaGreatSCI
import Derived.Test.YtejpnabbmgpmaaaGreatSCC
import Derived.Test.YtejpnabbmgpmaaaGreatRows
import Derived.ProofKit
import Derived.JoinedOf
import Derived.ChangeMaps5
set_option linter.unusedSimpArgs false
namespace Go.Proofs.YtejpnabbmgpmaaaGreat
open Go.Ab
def kY:Nat→List EN→Int→List EN × Int × Int × Int
 | 0,e,d=>if (ar e).2.1=1∨(ar e).2.1=4 then ((ar e).1,(ar e).2.1,d,0) else (e,3,d,0)
 | m+1,e,d=>if (ar e).2.1=1∨(ar e).2.1=4 then ((ar e).1,(ar e).2.1,d,0) else
   if (ar e).2.2≠0 then ([],0,d,(ar e).2.2) else if (ar e).2.1=2 then ((ar e).1,2,d+1,0) else kY m (ar e).1 (d+1)
def nT (ns:List EN) (n:Int):List EN × Int × Int × Int:=if n<0 then ([],0,0,2) else if bB ns≠0 then ([],0,0,bB ns) else kY n.toNat (e6 ns) 0
def bF (q:List EN × Int × Int × Int):AV:=.tup [.d (if q.2.2.2=0 then exD q.1 else .agg [.nils]),.d (i64 q.2.1),.d (i64 q.2.2.1),.d (i64 q.2.2.2)]
theorem Run.any {e:List EN} (h:Run e):Any e:=⟨iJ h.t,by have:=h.t.few;omega,h.rng⟩
theorem ng {e:List EN} (h:Run e) (h0:(ar e).2.2=0):Run (ar e).1:=by
 have hp:=h.t.pos
 have hi:e.length-1<e.length:=by omega
 have hn:Run (e6 e):=nU h hi
 have hf:=uS h
 have hm:=h.may
 unfold ar at h0 ⊢
 rw [if_neg (by simp [hm])] at h0 ⊢
 cases hv:dm (trE e (e.length-1)) with
 | true=>rw [if_pos rfl];exact hn
 | false =>
   rw [hv,if_neg (by decide)] at h0
   rw [if_neg (by decide)]
   by_cases h5:(stT (trE e (e.length-1))).1=5
   ·rw [if_neg (by simp [h5])] at h0 ⊢
    obtain ⟨g1,_⟩:=hf hv h5
    by_cases hy:bB (stT (trE e (e.length-1))).2.enc=0
    ·rw [if_neg (by simp [hy])]
     exact ⟨hy,g1.rng⟩
    ·rw [if_pos hy] at h0
     exact absurd h0 hy
   ·rw [if_pos h5]
    exact hn
theorem nr {e:List EN} (h0:(ar e).2.2≠0):(ar e).1=[]∧(ar e).2.1=0:=by
 unfold ar at h0 ⊢
 by_cases hm:bB e≠0
 ·rw [if_pos hm]
  exact ⟨rfl,rfl⟩
 rw [if_neg hm] at h0 ⊢
 cases hv:dm (trE e (e.length-1)) with
 | true=>rw [hv,if_pos rfl] at h0;exact absurd rfl h0
 | false =>
   rw [hv,if_neg (by decide)] at h0
   rw [if_neg (by decide)]
   by_cases h5:(stT (trE e (e.length-1))).1=5
   ·rw [if_neg (by simp [h5])] at h0 ⊢
    by_cases hy:bB (stT (trE e (e.length-1))).2.enc=0
    ·rw [if_neg (by simp [hy])] at h0
     exact absurd rfl h0
    ·rw [if_pos hy]
     exact ⟨rfl,rfl⟩
   ·rw [if_pos h5] at h0
    exact absurd rfl h0
theorem Cs {n d:Nat} {e:List EN} (hd:d≤n):kY (n-d) e d =
  if (ar e).2.1=1∨(ar e).2.1=4 then ((ar e).1,(ar e).2.1,(d:Int),0) else if d=n then (e,3,(d:Int),0) else
  if (ar e).2.2≠0 then ([],0,(d:Int),(ar e).2.2) else if (ar e).2.1=2 then ((ar e).1,2,(d:Int)+1,0) else kY (n-(d+1)) (ar e).1 ((d+1:Nat):Int):=by
 by_cases h:d=n
 ·subst h
  rw [Nat.sub_self,kY,if_pos rfl]
 ·rw [show n-d=(n-(d+1))+1 by omega,kY,if_neg h]
  rfl
theorem G4 {G} (e0:List EN) (n:Nat) (h:Run e0) (hn:(n:Int)≤9223372036854775807):HP Tryz.prog G 77 [exD e0,i64 (n:Int),.clo 32 []] (fun r=>r=bF (kY n e0 0)):=by
 obtain ⟨R,hR⟩:∃ R,R=bF (kY n e0 0):=⟨_,rfl⟩
 rw [← hR]
 unfold exD
 refine aR Tryz.func77 rfl (by decide +kernel) (by simp [Tryz.ntmps77]) (veil fun E=>?_)
 simp only [go_sem]
 refine a9 E (X:={ y:List EN × Nat // Run y.1∧y.2≤n∧kY n e0 0=kY (n-y.2) y.1 y.2 }) (fun y=>[(1,.d (i64 n)),(2,.d (.clo 32 [])),(3,.at [3] 0),(6,.at [6] 0),(7,.d (i64 0)),(8,.d (i64 0)),(9,.d (i64 0)),(10,.d (i64 y.1.2))])
  (fun y=>[([3],.box [.d (.sl (some 9) (y.1.1.map enD))]),([6],.box [.d .nils])]) [3,6] (fun y=>n-y.1.2) ⟨(e0,0),h,Nat.zero_le _,by rw [Nat.sub_zero];rfl⟩ id ?_ ?_
 ·simp only [go_sem]
  all_goals ((repeat' apply And.intro)<;>first | rfl | trivial)
 rintro ⟨⟨e,d⟩,he,hd,hRe⟩ E0
 refine bb E0 fun Q' hQ E'=>?_
 simp only at he hd hRe ⊢
 have hcs:=v9 (G:=G) e he.any
 rw [Cs hd] at hRe
 have hru:=ng he
 have her:=nr (e:=e)
 generalize ar e=s at *
 obtain ⟨x,how,f⟩:=s
 simp only at hRe hru her
 rw [hRe] at hR
 simp only [go_sem]
 by_cases hf:f=0
 ·subst hf
  have hru:=hru rfl
  unfold m8 exD at hcs
  dsimp only at hcs
  rw [if_pos rfl] at hcs
  refine jk E' hcs rfl rfl (by simp) ?_
  rintro _ rfl
  simp only [go_sem]
  repeat (first
   | (apply fg E';(· simp only [go_sem]);(· intro h;(try simp only [bq] at h);simp only [↓h,go_sem];rfl);simp only [go_sem])
   | (apply cD E';(· simp only [go_sem]);(· intro h;(try simp only [bq] at h);simp only [↓h,go_sem];rfl);(· intro h;(try simp only [bq] at h);simp only [↓h,go_sem];rfl);simp only [go_sem])
   | (apply cC E';(· simp only [go_sem]);(· rfl);(· intro h h';(try simp only [bq] at h h');simp only [↓h,↓h',go_sem];rfl);simp only [go_sem])
   | (apply bC E';(· simp only [go_sem]);(· rfl);(· intro h h';(try simp only [bq] at h h');simp only [↓h,↓h',go_sem];rfl);(· intro h h';(try simp only [bq] at h h');simp only [↓h,↓h',go_sem];rfl);simp only [go_sem])
   | (apply eI E';(· decide);simp only [go_sem]))
  refine aZ E' (fun g=>?_) (fun g=>?_)<;>simp only [go_sem]
  ·simp only [Bool.or_eq_true,decide_eq_true_eq] at g
   rw [if_pos g] at hR
   unfold bF exD at hR
   rw [if_pos rfl] at hR
   rw [hQ]
   simp only [go_sem]
   subst hR
   refine ⟨[],?_⟩
   simp only [go_sem]
  simp only [Bool.or_eq_false_iff,decide_eq_false_iff_not] at g
  rw [if_neg (by omega)] at hR hRe
  refine ai E' (fun gn=>?_) (fun gn=>?_)<;>simp only [go_sem]
  ·rw [if_pos (by omega)] at hR
   unfold bF exD at hR
   rw [if_pos rfl] at hR
   rw [hQ]
   simp only [go_sem]
   subst hR
   refine ⟨[],?_⟩
   simp only [go_sem]
  rw [if_neg (by omega),if_neg (by simp)] at hR hRe
  refine ai E' (fun g2=>?_) (fun g2=>?_)<;>simp only [go_sem]
  ·rw [if_pos g2] at hR
   subst g2
   unfold bF exD at hR
   rw [if_pos rfl] at hR
   rw [ak (n:=(d:Int)+1) ⟨by omega,by omega⟩]
   rw [hQ]
   simp only [go_sem]
   subst hR
   refine ⟨[],?_⟩
   simp only [go_sem]
  ·rw [if_neg g2] at hRe
   rw [ak (n:=(d:Int)+1) ⟨by omega,by omega⟩]
   rw [hQ]
   simp only [go_sem]
   refine ⟨⟨(x,d+1),hru,by omega,hRe⟩,by show n-(d+1)<n-d;omega,id,?_⟩
   simp only [go_sem]
   all_goals ((repeat' apply And.intro)<;>first | rfl | trivial)
 ·have her:=her hf
  obtain ⟨h1,h2⟩:=her
  subst h1
  subst h2
  unfold m8 at hcs
  dsimp only at hcs
  rw [if_neg hf] at hcs
  refine jk E' hcs rfl rfl (by simp) ?_
  rintro _ rfl
  simp only [go_sem]
  rw [if_neg (by omega)] at hR
  refine ai E' (fun gn=>?_) (fun gn=>?_)<;>simp only [go_sem]
  ·rw [if_pos (by omega)] at hR
   unfold bF exD at hR
   rw [if_pos rfl] at hR
   rw [hQ]
   simp only [go_sem]
   subst hR
   refine ⟨[],?_⟩
   simp only [go_sem]
  rw [if_neg (by omega),if_pos hf] at hR
  rw [decide_eq_true hf]
  simp only [go_sem]
  unfold bF at hR
  rw [if_neg hf] at hR
  rw [hQ]
  simp only [go_sem]
  subst hR
  refine ⟨[],?_⟩
  simp only [go_sem]
theorem Ai {G} (ns:List EN) (n:Int) (ha:Any ns) (hn:n≤9223372036854775807):HP Tryz.prog G 36 [exD ns,i64 n] (fun r=>r=bF (nT ns n)):=by
 obtain ⟨R,hR⟩:∃ R,R=bF (nT ns n):=⟨_,rfl⟩
 rw [← hR]
 unfold nT at hR
 by_cases h0:n<0
 ·rw [if_pos h0] at hR
  unfold bF at hR
  rw [if_neg (by show ¬ (2:Int)=0;decide)] at hR
  subst hR
  unfold exD
  refine aR Tryz.func36 rfl (by decide +kernel) (by simp [Tryz.ntmps36]) (veil fun E=>?_)
  simp only [go_sem]
  rw [decide_eq_true h0]
  simp only [go_sem]
  refine ⟨[],?_⟩
  simp only [go_sem]
 rw [if_neg h0] at hR
 by_cases hm:bB ns=0
 ·have h:Run ns:=⟨hm,ha.rng⟩
  have hp:=h.t.pos
  rw [if_neg (by simp [hm])] at hR
  have c1:=xA (G:=G) h.t hm
  have c2:=G4 (G:=G) (e6 ns) n.toNat (nU h (by omega)) (by omega)
  rw [show ((n.toNat:Nat):Int)=n by omega,← hR] at c2
  generalize kY n.toNat (e6 ns) 0=q at *
  unfold bF at hR
  obtain ⟨S,hS⟩:∃ S,(if q.2.2.2=0 then exD q.1 else .agg [.nils])=.agg [S]:=by
   unfold exD
   split<;>exact ⟨_,rfl⟩
  rw [hS] at hR
  subst hR
  generalize e6 ns=X at *
  unfold exD at *
  have c3:=HP.clo (args:=[.d (.agg [.sl (some 9) (X.map enD)]),.d (i64 n),.clo 32 []]) rfl (fun i x y hx hy=>by
   rcases i with _ | _ | _ | i
   ·cases hx;cases hy;exact .inl rfl
   ·cases hx;cases hy;exact .inl rfl
   ·cases hx;cases hy;exact .inr ⟨32,rfl,rfl⟩
   ·cases hx) c2
  refine aR Tryz.func36 rfl (by decide +kernel) (by simp [Tryz.ntmps36]) (veil fun E=>?_)
  simp only [go_sem]
  rw [decide_eq_false h0]
  simp only [go_sem]
  refine ae E (c1) rfl rfl (by simp) ?_
  rintro _ rfl
  simp only [go_sem]
  refine ab E _ [] [] c3 rfl rfl ⟨by simp only [go_sem],by rw [aa];decide⟩ rfl (by simp only [go_sem]) (by simp only [go_sem]) ?_
  rintro _ _ ⟨rfl,_,rfl⟩
  simp only [go_sem]
  refine ⟨[],?_⟩
  simp only [go_sem]
 ·rw [if_pos hm] at hR
  unfold bF at hR
  rw [if_neg hm] at hR
  subst hR
  have c1:=xy (G:=G) hm ha.sane ha.few
  generalize bB ns=m at *
  unfold exD at *
  refine aR Tryz.func36 rfl (by decide +kernel) (by simp [Tryz.ntmps36]) (veil fun E=>?_)
  simp only [go_sem]
  rw [decide_eq_false h0]
  simp only [go_sem]
  refine ae E (c1) rfl rfl (by simp) ?_
  rintro _ rfl
  simp only [go_sem]
  rw [decide_eq_true hm]
  simp only [go_sem]
  refine ⟨[],?_⟩
  simp only [go_sem]
end Go.Proofs.YtejpnabbmgpmaaaGreat

namespace Go.Proofs.YtejpnabbmgpmaaaGreat
open Go.Ab
def FO (s:PS) (l:List EF):List (Name × Ob):=([103],.arr (some 3) (l.map fD))::RO s
theorem w5 {G} (s:PS) (t:Tok) (n:EN) (l:List EF) (hl:l.length≤100000):HCall Tryz.prog G 355 [.at [100] 0,.d (.agg [i64 t.k,.str t.s,i64 t.n,i64 t.pos]),.agg [.d (i64 n.k),.d (i64 n.a),.d (i64 n.b),.d (i64 n.c),.d (i64 n.n),.d (.str n.name),.d (.str n.s),.vw [103] 0 l.length,.d (i64 n.pos)]] (FO s l) [100,101,103] (fun r hp'=>r=.tup []∧hp'=FO (s.parted t l) l):=by
 generalize hR:s.parted t l=R
 unfold PS.parted at hR
 have c8:=nP (G:=G) s 8 t.pos
 have c5:=nP (G:=G) s 5 t.pos
 unfold FO RO TO ag
 refine aq Tryz.func355 rfl (by decide +kernel) (by simp [Tryz.ntmps355]) (veil fun E=>?_)
 simp only [go_sem]
 refine ab E [.at [100] 0] (RO s) [100,101] (fa s) rfl rfl ⟨by simp only [go_sem],by first | (rw [aa];decide) | (simp only [go_sem]<;>(try rw [aa])<;>decide)⟩ rfl (by unfold RO TO ag;simp only [go_sem]) (by unfold RO TO;simp only [go_sem]) ?_
 rintro _ _ ⟨rfl,rfl⟩
 unfold RO TO ag
 simp only [go_sem]
 refine aZ E (fun h1=>?_) (fun h1=>?_)<;>simp only [go_sem]
 ·rw [if_pos (by simpa using h1)] at hR
  rw [← hR]
  refine ⟨_,_,[100,101,103],id,⟨rfl,rfl⟩,?_⟩
  simp only [go_sem]
 rw [if_neg (by simpa using h1)] at hR
 refine ai E (fun h2=>?_) (fun h2=>?_)<;>simp only [go_sem]
 ·rw [if_pos (by omega)] at hR
  refine ab E [.at [100] 0,.d (i64 8),.d (i64 t.pos)] (RO s) [100,101] (c8) rfl rfl ⟨by simp only [go_sem],by first | (rw [aa];decide) | (simp only [go_sem]<;>(try rw [aa])<;>decide)⟩ rfl (by unfold RO TO ag;simp only [go_sem]) (by unfold RO TO;simp only [go_sem]) ?_
  rintro _ _ ⟨rfl,rfl⟩
  unfold RO TO ag
  simp only [go_sem]
  rw [← hR]
  refine ⟨_,_,[100,101,103],id,⟨rfl,rfl⟩,?_⟩
  simp only [go_sem]
 ·rw [if_neg (by omega)] at hR
  refine qG E [4] (.agg [i64 t.k,.str t.s,i64 t.n,i64 t.pos]) rfl rfl ?_
  simp only [go_sem]
  refine q9 E [([103],some 3,l.map fD)] (wB l (fun x=>decide (x.nm=t.s)) 371 [.ptr (.agg [i64 t.k,.str t.s,i64 t.n,i64 t.pos])] (by omega) (fun x _=>Gf x t)) (by rintro _ rfl;rfl) (by simp only [go_sem]) rfl (by simp only [go_sem]) (by simp) ?_
  rintro _ rfl
  simp only [go_sem]
  refine aZ E (fun h3=>?_) (fun h3=>?_)<;>simp only [go_sem]
  ·rw [if_pos h3] at hR
   refine ab E [.at [100] 0,.d (i64 5),.d (i64 t.pos)] (RO s) [100,101] (c5) rfl rfl ⟨by simp only [go_sem],by first | (rw [aa];decide) | (simp only [go_sem]<;>(try rw [aa])<;>decide)⟩ rfl (by unfold RO TO ag;simp only [go_sem]) (by unfold RO TO;simp only [go_sem]) ?_
   rintro _ _ ⟨rfl,rfl⟩
   unfold RO TO ag
   simp only [go_sem]
   rw [← hR]
   refine ⟨_,_,[100,101,103],id,⟨rfl,rfl⟩,?_⟩
   simp only [go_sem]
  ·rw [if_neg (by rw [h3];decide)] at hR
   rw [← hR]
   refine ⟨_,_,[100,101,103],id,⟨rfl,rfl⟩,?_⟩
   simp only [go_sem]
end Go.Proofs.YtejpnabbmgpmaaaGreat

namespace Go.Proofs.YtejpnabbmgpmaaaGreat
open Go.Ab
def NO (s:PS) (n:EN) (l:List EF):List (Name × Ob):=([105],.box [.at [100] 0])::([102],.box [.d (i64 n.k),.d (i64 n.a),.d (i64 n.b),.d (i64 n.c),.d (i64 n.n),.d (.str n.name),.d (.str n.s),.vw [103] 0 l.length,.d (i64 n.pos)])::FO s l
def qK (s:PS) (t:Tok) (l:List EF):EF × PS:=(⟨(s.of 2).1,[],0⟩,(((s.of 2).2.parted t l).must 7 [61]))
def mL (s:PS) (t:Tok) (l:List EF):EF × PS:=(⟨(s.of 3).1,(((s.of 3).2.parted t l).of 2).1,0⟩,(((s.of 3).2.parted t l).of 2).2.must 7 bTo)
theorem tD (s:PS) (t:Tok) (l:List EF):(s.parted t l).l=s.l:=by
 unfold PS.parted
 split
 ·rfl
 split
 ·exact nz _ _ _
 split
 ·exact nz _ _ _
 ·rfl
def AP (G:List (Nat × Obj)) (f:Nat) (part:PS→Tok→List EF→EF × PS):Prop:=∀ (s:PS) (t:Tok) (n:EN) (l:List EF),s.l.length≤100000→l.length≤100000 →
 HCall Tryz.prog G f [.d (.agg [i64 t.k,.str t.s,i64 t.n,i64 t.pos]),.at [105] 0,.at [102] 0] (NO s n l) [100,101,102,103,105] (fun r hp'=>r=.d (fD (part s t l).1)∧hp'=NO (part s t l).2 n l)
theorem EV {G}:AP G 354 qK:=by
 intro s t n l hs hl
 generalize hR:qK s t l=R
 unfold qK at hR
 have c1:=lB (G:=G) s 2 (by omega)
 have h1:=SS.of s 2
 obtain ⟨nm,s1,e1⟩:∃ nm s1,s.of 2=(nm,s1):=⟨_,_,rfl⟩
 rw [e1] at c1 h1 hR
 simp only at c1 h1 hR
 have l1:=h1.len
 have c2:=w5 (G:=G) s1 t n l hl
 have l2:=tD s1 t l
 generalize s1.parted t l=s2 at c2 l2 hR
 have c3:=eY (G:=G) s2 7 [61] (by rw [l2];omega) (by decide)
 generalize s2.must 7 [61]=s3 at c3 hR
 subst hR
 unfold NO FO RO TO ag
 refine aq Tryz.func354 rfl (by decide +kernel) (by simp [Tryz.ntmps354]) (veil fun E=>?_)
 simp only [go_sem]
 refine ab E [.at [100] 0,.d (i64 2)] (RO s) [100,101] (c1) rfl rfl ⟨by simp only [go_sem],by first | (rw [aa];decide) | (simp only [go_sem]<;>(try rw [aa])<;>decide)⟩ rfl (by unfold RO TO ag;simp only [go_sem]) (by unfold RO TO;simp only [go_sem]) ?_
 rintro _ _ ⟨rfl,rfl⟩
 unfold RO TO ag
 simp only [go_sem]
 refine ab E [.at [100] 0,.d (.agg [i64 t.k,.str t.s,i64 t.n,i64 t.pos]),.agg [.d (i64 n.k),.d (i64 n.a),.d (i64 n.b),.d (i64 n.c),.d (i64 n.n),.d (.str n.name),.d (.str n.s),.vw [103] 0 l.length,.d (i64 n.pos)]] (FO s1 l) [100,101,103] (c2) rfl rfl ⟨by simp only [go_sem],by first | (rw [aa];decide) | (simp only [go_sem]<;>(try rw [aa])<;>decide)⟩ rfl (by unfold FO RO TO ag;simp only [go_sem]) (by unfold FO RO TO;simp only [go_sem]) ?_
 rintro _ _ ⟨rfl,rfl⟩
 unfold FO RO TO ag
 simp only [go_sem]
 refine ⟨Nat.le_refl _,?_⟩
 refine ab E [.at [100] 0,.d (i64 7),.d (.str [61])] (RO s2) [100,101] (c3) rfl rfl ⟨by simp only [go_sem],by first | (rw [aa];decide) | (simp only [go_sem]<;>(try rw [aa])<;>decide)⟩ rfl (by unfold RO TO ag;simp only [go_sem]) (by unfold RO TO;simp only [go_sem]) ?_
 rintro _ _ ⟨rfl,rfl⟩
 unfold RO TO ag
 simp only [go_sem]
 refine ⟨_,_,[100,101,102,103,105],id,⟨rfl,rfl⟩,?_⟩
 simp only [go_sem]
 all_goals rfl
theorem D8 {G}:AP G 356 mL:=by
 intro s t n l hs hl
 generalize hR:mL s t l=R
 unfold mL at hR
 have c1:=lB (G:=G) s 3 (by omega)
 have h1:=SS.of s 3
 obtain ⟨nm,s1,e1⟩:∃ nm s1,s.of 3=(nm,s1):=⟨_,_,rfl⟩
 rw [e1] at c1 h1 hR
 simp only at c1 h1 hR
 have l1:=h1.len
 have c2:=w5 (G:=G) s1 t n l hl
 have l2:=tD s1 t l
 generalize s1.parted t l=s2 at c2 l2 hR
 have co:=lB (G:=G) s2 2 (by rw [l2];omega)
 have ho:=SS.of s2 2
 obtain ⟨nv,so,eo⟩:∃ nv so,s2.of 2=(nv,so):=⟨_,_,rfl⟩
 rw [eo] at co ho hR
 simp only at co ho hR
 have lo:=ho.len
 rw [l2] at lo
 have c3:=eY (G:=G) so 7 bTo (by omega) (by decide)
 generalize so.must 7 bTo=s3 at c3 hR
 subst hR
 unfold NO FO RO TO ag
 refine aq Tryz.func356 rfl (by decide +kernel) (by simp [Tryz.ntmps356]) (veil fun E=>?_)
 simp only [go_sem]
 refine ab E [.at [100] 0,.d (i64 3)] (RO s) [100,101] (c1) rfl rfl ⟨by simp only [go_sem],by first | (rw [aa];decide) | (simp only [go_sem]<;>(try rw [aa])<;>decide)⟩ rfl (by unfold RO TO ag;simp only [go_sem]) (by unfold RO TO;simp only [go_sem]) ?_
 rintro _ _ ⟨rfl,rfl⟩
 unfold RO TO ag
 simp only [go_sem]
 refine ab E [.at [100] 0,.d (.agg [i64 t.k,.str t.s,i64 t.n,i64 t.pos]),.agg [.d (i64 n.k),.d (i64 n.a),.d (i64 n.b),.d (i64 n.c),.d (i64 n.n),.d (.str n.name),.d (.str n.s),.vw [103] 0 l.length,.d (i64 n.pos)]] (FO s1 l) [100,101,103] (c2) rfl rfl ⟨by simp only [go_sem],by first | (rw [aa];decide) | (simp only [go_sem]<;>(try rw [aa])<;>decide)⟩ rfl (by unfold FO RO TO ag;simp only [go_sem]) (by unfold FO RO TO;simp only [go_sem]) ?_
 rintro _ _ ⟨rfl,rfl⟩
 unfold FO RO TO ag
 simp only [go_sem]
 refine ⟨Nat.le_refl _,?_⟩
 refine ab E [.at [100] 0,.d (i64 2)] (RO s2) [100,101] (co) rfl rfl ⟨by simp only [go_sem],by first | (rw [aa];decide) | (simp only [go_sem]<;>(try rw [aa])<;>decide)⟩ rfl (by unfold RO TO ag;simp only [go_sem]) (by unfold RO TO;simp only [go_sem]) ?_
 rintro _ _ ⟨rfl,rfl⟩
 unfold RO TO ag
 simp only [go_sem]
 refine ab E [.at [100] 0,.d (i64 7),.d (.str bTo)] (RO so) [100,101] (c3) rfl rfl ⟨by simp only [go_sem],by first | (rw [aa];decide) | (simp only [go_sem]<;>(try rw [aa])<;>decide)⟩ rfl (by unfold RO TO ag;simp only [go_sem]) (by unfold RO TO;simp only [go_sem]) ?_
 rintro _ _ ⟨rfl,rfl⟩
 unfold RO TO ag
 simp only [go_sem]
 refine ⟨_,_,[100,101,102,103,105],id,⟨rfl,rfl⟩,?_⟩
 simp only [go_sem]
 all_goals rfl
end Go.Proofs.YtejpnabbmgpmaaaGreat

namespace Go.Proofs.YtejpnabbmgpmaaaGreat
open Go.Ab
def NQ (s:PS) (n:EN) (l:List EF) (ks:List (List EN)):List (Name × Ob):=([105],.box [.at [100] 0])::([102],.box [.d (i64 n.k),.d (i64 n.a),.d (i64 n.b),.d (i64 n.c),.d (i64 n.n),.d (.str n.name),.d (.str n.s),.vw [106] 0 l.length,.d (i64 n.pos)])::([106],.arr (some 3) (l.map fD))::([107],.arr (some 1) (ks.map exD))::RO s
theorem xi {G} {N:Nat} {ex:PS→PR} {f:Nat} {part:PS→Tok→List EF→EF × PS} {b:List UInt8} (hex:∀ s,GP 1 s (ex s)) (hc:Reads 53 G N ex) (hp:AP G f part) (hps:∀ s l,SS s (part s s.peek l).2)
  (s:PS) (n:EN) (hl:s.l.length≤100000) (hN:s.nest=N) :
  HCall Tryz.prog G 353 [.at [100] 0,.at [102] 0,.d (.str b),.clo f [.at [105] 0,.at [102] 0]] (NO s n []) [100,101,102,103,105]
   (fun r hp'=>r=.vw [107] 0 (bt ex b (fun s l=>part s s.peek l) s.l.length.succ s [] []).2.1.length∧hp'=NQ (bt ex b (fun s l=>part s s.peek l) s.l.length.succ s [] []).2.2 n (bt ex b (fun s l=>part s s.peek l) s.l.length.succ s [] []).1 (bt ex b (fun s l=>part s s.peek l) s.l.length.succ s [] []).2.1):=by
 generalize hR:bt ex b (fun s l=>part s s.peek l) s.l.length.succ s [] []=R
 unfold NO FO RO TO ag
 refine aq Tryz.func353 rfl (by decide +kernel) (by simp [Tryz.ntmps353]) (veil fun E=>?_)
 simp only [go_sem]
 refine lQ E 9 98 (some 1) rfl (by rw [aa];decide) ?_
 simp only [go_sem]
 refine a9 E (X:={ x:Nat × PS × List EF × List (List EN) // bt ex b (fun s l=>part s s.peek l) x.1 x.2.1 x.2.2.1 x.2.2.2=R∧(x.2.1.l.length<x.1∧x.2.2.1.length=x.2.2.2.length∧x.2.2.1.length+x.2.1.l.length≤s.l.length∧x.2.1.nest=N) })
  (fun x=>[(0,.at [100] 0),(1,.at [102] 0),(2,.d (.str b)),(3,.clo f [.at [105] 0,.at [102] 0]),(8,.d .nils),(9,.vw [98] 0 x.1.2.2.2.length)])
  (fun x=>[([105],.box [.at [100] 0]),([102],.box [.d (i64 n.k),.d (i64 n.a),.d (i64 n.b),.d (i64 n.c),.d (i64 n.n),.d (.str n.name),.d (.str n.s),.vw [97] 0 x.1.2.2.1.length,.d (i64 n.pos)]),([97],.arr (some 3) (x.1.2.2.1.map fD)),([98],.arr (some 1) (x.1.2.2.2.map exD)),([100],.box [.at [101] 0,.d (i64 x.1.2.1.err),.d (i64 x.1.2.1.pos),.d (i64 x.1.2.1.nest)]),([101],.box [.d (.sl (some 4) (x.1.2.1.l.map gp)),.d (i64 x.1.2.1.fin)])]) [97,98,100,101,102,103,105] (fun x=>x.1.2.1.l.length) ⟨(s.l.length.succ,s,[],[]),hR,Nat.lt_succ_self _,rfl,by simp,hN⟩ (tau [([97],[103])]) ?_ ?_
 ·simp only [go_sem]
  all_goals rfl
 rintro ⟨⟨m,q,l,ks⟩,hb,hm,hlk,hls,hqn⟩ E0
 refine bb E0 fun Q' hQ E'=>?_
 simp only at hb hm hlk hls hqn ⊢
 obtain ⟨m,rfl⟩:∃ k,m=k+1:=⟨m-1,by omega⟩
 rw [bt] at hb
 simp only [go_sem]
 have h1:=hp q q.peek n l (by omega) (by omega)
 have g1:=hps q l
 obtain ⟨fd,s1,e1⟩:∃ fd s1,part q q.peek l=(fd,s1):=⟨_,_,rfl⟩
 rw [e1] at h1 g1 hb
 simp only at h1 g1 hb
 rw [show fD fd=.agg [.str fd.nm,.str fd.var,i64 fd.to] from rfl] at h1
 have n1:=g1.len
 have h2:=hc s1 (by omega) (g1.nest.trans hqn)
 have g2:=hex s1
 obtain ⟨x1,s2,e2⟩:∃ x1 s2,ex s1=(x1,s2):=⟨_,_,rfl⟩
 rw [e2] at h2 g2 hb
 simp only at h2 hb
 have n2:=g2.ss.len
 have z2:=g2.ss.nest
 simp only at n2 z2
 have h3:=jq (G:=G) s2 b (by omega)
 unfold exD at h2
 refine ab E' [.at [101] 0] (TO q.l q.fin) [101] (dC q.l q.fin (by omega)) rfl rfl ⟨by simp only [go_sem],by first | (rw [aa];decide) | (simp only [go_sem]<;>(try rw [aa])<;>decide)⟩ rfl (by unfold TO ag;simp only [go_sem]) (by unfold TO;simp only [go_sem]) ?_
 rintro _ _ ⟨rfl,rfl⟩
 unfold TO ag
 simp only [go_sem]
 refine cL E' (tau [([103],[97])]) [.d (.agg [i64 q.peek.k,.str q.peek.s,i64 q.peek.n,i64 q.peek.pos]),.at [105] 0,.at [102] 0] (NO q n l) [100,101,102,103,105] (h1) rfl (by simp only [go_sem];try rfl) ⟨by simp only [go_sem],by first | (rw [aa];decide) | (simp only [go_sem]<;>(try rw [aa])<;>decide)⟩ rfl (by unfold NO FO RO TO ag;simp only [go_sem]) (by unfold NO FO RO TO;simp only [go_sem]) ?_
 rintro _ _ ⟨rfl,rfl⟩
 unfold NO FO RO TO ag
 simp only [go_sem]
 refine ⟨Nat.le_refl _,?_⟩
 refine ab E' [.at [100] 0] (RO s1) [100,101] (h2) rfl rfl ⟨by simp only [go_sem],by first | (rw [aa];decide) | (simp only [go_sem]<;>(try rw [aa])<;>decide)⟩ rfl (by unfold RO TO ag;simp only [go_sem]) (by unfold RO TO;simp only [go_sem]) ?_
 rintro _ _ ⟨rfl,rfl⟩
 unfold RO TO ag
 simp only [go_sem]
 refine ⟨by omega,?_⟩
 rw [show List.map exD ks++[.agg [.sl (some 9) (List.map enD x1)]]=(ks++[x1]).map exD by rw [List.map_append];rfl]
 refine aj mixed E' fun X=>?_
 simp only [go_sem]
 refine bS X (d:=27) [102] 0 none [.d (i64 n.k),.d (i64 n.a),.d (i64 n.b),.d (i64 n.c),.d (i64 n.n),.d (.str n.name),.d (.str n.s),.vw [97] 0 l.length,.d (i64 n.pos)] (by simp only [go_sem]) rfl rfl ?_
 simp only [go_sem]
 rw [show List.map fD l++[.agg [.str fd.nm,.str fd.var,i64 fd.to]]=(l++[fd]).map fD by rw [List.map_append];rfl]
 refine ⟨by omega,?_⟩
 refine bS X (d:=33) [102] 0 none [.d (i64 n.k),.d (i64 n.a),.d (i64 n.b),.d (i64 n.c),.d (i64 n.n),.d (.str n.name),.d (.str n.s),.vw [97] 0 l.length,.d (i64 n.pos)] (by simp only [go_sem]) rfl rfl ?_
 simp only [go_sem]
 refine ⟨by decide +kernel,?_⟩
 refine ab E' [.at [100] 0,.d (.str b)] (RO s2) [100,101] (h3) rfl rfl ⟨by simp only [go_sem],by first | (rw [aa];decide) | (simp only [go_sem]<;>(try rw [aa])<;>decide)⟩ rfl (by unfold RO TO ag;simp only [go_sem]) (by unfold RO TO;simp only [go_sem]) ?_
 rintro _ _ ⟨rfl,rfl⟩
 unfold RO TO ag
 simp only [go_sem]
 refine aZ E' (fun h=>?_) (fun h=>?_)<;>simp only [go_sem]
 ·have h':s2.sees 7 b=false:=by simpa using h
  rw [fb h',hQ]
  rw [if_neg (by rw [h'];decide)] at hb
  subst hb
  simp only [go_sem]
  refine ⟨_,_,[100,101,102,103,105,106,107],tau [([106],[32]),([107],[24])],⟨rfl,rfl⟩,?_⟩
  unfold NQ RO TO ag
  simp only [go_sem]
  simp only [List.length_append,List.length_singleton,and_self]
 ·have h':s2.sees 7 b=true:=by simpa using h
  have hsl:=ba h'
  rw [dq h',hQ]
  rw [if_pos h'] at hb
  simp only [go_sem]
  refine ⟨⟨(m,s2.next,l++[fd],ks++[x1]),hb,by show s2.next.l.length<m;omega,by simp [hlk],by show (l++[fd]).length+s2.next.l.length≤_;rw [List.length_append,List.length_singleton];omega,by show s2.next.nest=N;rw [← hqn,← g1.nest,← z2];rfl⟩,by show s2.next.l.length<q.l.length;omega,tau [([97],[32]),([98],[24])],?_,?_,?_,?_,?_⟩<;>simp only [go_sem]
  all_goals simp only [List.length_append,List.length_singleton,and_self]
end Go.Proofs.YtejpnabbmgpmaaaGreat

namespace Go.Proofs.YtejpnabbmgpmaaaGreat
open Go.Ab
theorem Ea {G} {N:Nat} {ex:PS→PR} (hex:∀ s,GP 1 s (ex s)) (hc:Reads 53 G N ex):qT 340 G N (er ex):=by
 intro s p hl hN
 generalize hR:er ex s p=R
 unfold er at hR
 have h0:=jq (G:=G) s [125] (by omega)
 have hg:=eW hex [44] gY SS.field s.l.length.succ s [] [] rfl (fun _ h=>by cases h)
 have hp:=xi (G:=G) (b:=[44]) hex hc (EV (G:=G)) (fun s l=>SS.field s l) s (nd0 11 p) hl hN
 rw [show (fun s l=>qK s s.peek l)=gY from rfl] at hp
 obtain ⟨F,hF⟩:∃ F,F=bt ex [44] gY s.l.length.succ s [] []:=⟨_,rfl⟩
 rw [← hF] at hg hp
 simp only [← hF] at hR
 obtain ⟨fl,ks,q⟩:=F
 simp only at hp hR
 have g1:=hg.sz
 have g2:=hg.ln
 have g3:=hg.ss.len
 have g4:=hg.eq
 simp only [bg,List.map_nil,List.sum_nil,List.length_nil] at g1 g2 g3 g4
 have hm:=eY (G:=G) q 7 [125] (by omega) (by decide)
 have h4:=oF (G:=G) { nd0 11 p with l:=fl } ks (by simp only;omega) (by omega) (by simp only [bg];omega)
  (fun l h=>(hg.tr l h).kids.2) (fun l h=>(hg.wd (s.l.length+1) (fun _ h=>by cases h) (by simp only;omega) l h).mono (by omega))
 unfold RO TO ag
 refine aq Tryz.func340 rfl (by decide +kernel) (by simp [Tryz.ntmps340]) (veil fun E=>?_)
 simp only [go_sem]
 refine ab E [.at [100] 0,.d (.str [125])] (RO s) [100,101] (h0) rfl rfl ⟨by simp only [go_sem],by first | (rw [aa];decide) | (simp only [go_sem]<;>(try rw [aa])<;>decide)⟩ rfl (by unfold RO TO ag;simp only [go_sem]) (by unfold RO TO;simp only [go_sem]) ?_
 rintro _ _ ⟨rfl,rfl⟩
 unfold RO TO ag
 simp only [go_sem]
 refine aZ E (fun h=>?_) (fun h=>?_)<;>simp only [go_sem]
 ·rw [if_pos h] at hR
  rw [dq h]
  have hlf:=fG (G:=G) (nd0 11 p) rfl
  generalize bz (nd0 11 p)=L at hlf hR
  unfold exD at hlf
  refine ae E hlf rfl rfl (by simp) ?_
  rintro _ rfl
  simp only [go_sem]
  subst hR
  refine ⟨_,_,[100,101],id,⟨rfl,rfl⟩,?_⟩
  simp only [go_sem]
  rfl
 ·rw [if_neg (by rw [h];decide)] at hR
  rw [fb h]
  refine xO E [5] 7 98 (some 3) [.d (i64 11),.d (i64 0),.d (i64 0),.d (i64 0),.d (i64 0),.d (.str []),.d (.str []),.d .nils,.d (i64 p)] rfl rfl (by rw [aa];decide) rfl ?_
  simp only [go_sem]
  refine cL E (tau [([105],[2]),([102],[5]),([103],[98])]) [.at [100] 0,.at [102] 0,.d (.str [44]),.clo 354 [.at [105] 0,.at [102] 0]] (NO s (nd0 11 p) []) [100,101,102,103,105] (hp) rfl (by simp only [go_sem];try rfl) ⟨by simp only [go_sem],by first | (rw [aa];decide) | (simp only [go_sem]<;>(try rw [aa])<;>decide)⟩ rfl (by unfold NO FO RO TO ag;simp only [go_sem];try rfl) (by unfold NO FO RO TO;simp only [go_sem]) ?_
  rintro _ _ ⟨rfl,rfl⟩
  unfold NQ NO FO RO TO ag nd0
  simp only [go_sem]
  refine ab E [.at [100] 0,.d (i64 7),.d (.str [125])] (RO q) [100,101] (hm) rfl rfl ⟨by simp only [go_sem],by first | (rw [aa];decide) | (simp only [go_sem]<;>(try rw [aa])<;>decide)⟩ rfl (by unfold RO TO ag;simp only [go_sem]) (by unfold RO TO;simp only [go_sem]) ?_
  rintro _ _ ⟨rfl,rfl⟩
  unfold RO TO ag
  simp only [go_sem]
  refine iZ E [15,107] (some 1) (ks.map exD) rfl (by simp only [go_sem];rfl) ?_
  simp only [go_sem]
  refine iZ E [15,106] (some 3) (fl.map fD) rfl (by simp only [go_sem];rfl) ?_
  simp only [go_sem]
  generalize aD { nd0 11 p with l:=fl } ks=J at h4 hR
  unfold exD at h4
  refine ae E h4 rfl rfl (by simp) ?_
  rintro _ rfl
  simp only [go_sem]
  subst hR
  refine ⟨_,_,[100,101],id,⟨rfl,rfl⟩,?_⟩
  simp only [go_sem]
  rfl
theorem D6 {G} {N:Nat} {ex:PS→PR} (hex:∀ s,GP 1 s (ex s)) (hc:Reads 53 G N ex):qT 341 G N (gy ex):=by
 intro s p hl hN
 generalize hR:gy ex s p=R
 unfold gy at hR
 have ce:=hc s hl hN
 have he:=hex s
 obtain ⟨e,s0,e0⟩:∃ e s0,ex s=(e,s0):=⟨_,_,rfl⟩
 rw [e0] at ce he hR
 simp only at ce hR
 have le:=he.ss.len
 have ne:=he.ss.nest
 have ze:=he.sz
 simp only at le ne ze
 have cm:=eY (G:=G) s0 1 bOf (by omega) (by decide)
 have hm:=SS.must s0 1 bOf
 generalize s0.must 1 bOf=s1 at cm hm hR
 have lm:=hm.len
 have nm:=hm.nest
 have hg:=eW hex [124] eJ SS.branch s1.l.length.succ s1 [] [] rfl (fun _ h=>by cases h)
 have hp:=xi (G:=G) (b:=[124]) hex hc (D8 (G:=G)) (fun s l=>SS.branch s l) s1 (nd0 14 p) (by omega) (by rw [nm,ne,hN])
 rw [show (fun s l=>mL s s.peek l)=eJ from rfl] at hp
 obtain ⟨F,hF⟩:∃ F,F=bt ex [124] eJ s1.l.length.succ s1 [] []:=⟨_,rfl⟩
 rw [← hF] at hg hp
 simp only [← hF] at hR
 obtain ⟨fl,ks,q⟩:=F
 simp only at hp hR
 have g1:=hg.sz
 have g2:=hg.ln
 have g3:=hg.ss.len
 have g4:=hg.eq
 simp only [bg,List.map_nil,List.sum_nil,List.length_nil] at g1 g2 g3 g4
 have cx:=eY (G:=G) q 1 EZ (by omega) (by decide)
 have h4:=oF (G:=G) { nd0 14 p with l:=fl } (e::ks) (by simp only;omega) (by rw [List.length_cons];omega) (by simp only [bg,List.map_cons,List.sum_cons];omega)
  (fun l h=>by
   rcases List.mem_cons.1 h with rfl | h
   ·exact he.tr.kids.2
   ·exact (hg.tr l h).kids.2)
  (fun l h=>by
   rcases List.mem_cons.1 h with rfl | h
   ·exact he.wd.mono (by omega)
   ·exact (hg.wd (s1.l.length+1) (fun _ h=>by cases h) (by simp only;omega) l h).mono (by omega))
 unfold exD at ce
 unfold RO TO ag
 refine aq Tryz.func341 rfl (by decide +kernel) (by simp [Tryz.ntmps341]) (veil fun E=>?_)
 simp only [go_sem]
 refine ab E [.at [100] 0] (RO s) [100,101] (ce) rfl rfl ⟨by simp only [go_sem],by first | (rw [aa];decide) | (simp only [go_sem]<;>(try rw [aa])<;>decide)⟩ rfl (by unfold RO TO ag;simp only [go_sem]) (by unfold RO TO;simp only [go_sem]) ?_
 rintro _ _ ⟨rfl,rfl⟩
 unfold RO TO ag
 simp only [go_sem]
 refine ab E [.at [100] 0,.d (i64 1),.d (.str bOf)] (RO s0) [100,101] (cm) rfl rfl ⟨by simp only [go_sem],by first | (rw [aa];decide) | (simp only [go_sem]<;>(try rw [aa])<;>decide)⟩ rfl (by unfold RO TO ag;simp only [go_sem]) (by unfold RO TO;simp only [go_sem]) ?_
 rintro _ _ ⟨rfl,rfl⟩
 unfold RO TO ag
 simp only [go_sem]
 refine xO E [5] 7 98 (some 3) [.d (i64 14),.d (i64 0),.d (i64 0),.d (i64 0),.d (i64 0),.d (.str []),.d (.str []),.d .nils,.d (i64 p)] rfl rfl (by rw [aa];decide) rfl ?_
 simp only [go_sem]
 refine cL E (tau [([105],[2]),([102],[5]),([103],[98])]) [.at [100] 0,.at [102] 0,.d (.str [124]),.clo 356 [.at [105] 0,.at [102] 0]] (NO s1 (nd0 14 p) []) [100,101,102,103,105] (hp) rfl (by simp only [go_sem];try rfl) ⟨by simp only [go_sem],by first | (rw [aa];decide) | (simp only [go_sem]<;>(try rw [aa])<;>decide)⟩ rfl (by unfold NO FO RO TO ag;simp only [go_sem];try rfl) (by unfold NO FO RO TO;simp only [go_sem]) ?_
 rintro _ _ ⟨rfl,rfl⟩
 unfold NQ NO FO RO TO ag nd0
 simp only [go_sem]
 refine ab E [.at [100] 0,.d (i64 1),.d (.str EZ)] (RO q) [100,101] (cx) rfl rfl ⟨by simp only [go_sem],by first | (rw [aa];decide) | (simp only [go_sem]<;>(try rw [aa])<;>decide)⟩ rfl (by unfold RO TO ag;simp only [go_sem]) (by unfold RO TO;simp only [go_sem]) ?_
 rintro _ _ ⟨rfl,rfl⟩
 unfold RO TO ag
 simp only [go_sem]
 refine fF E [16,107] (some 1) (ks.map exD) rfl ?_
 simp only [go_sem]
 refine fF E [16,106] (some 3) (fl.map fD) rfl ?_
 simp only [go_sem]
 refine aj mixed E fun X=>?_
 simp only [go_sem]
 refine ⟨by omega,?_⟩
 generalize aD { nd0 14 p with l:=fl } (e::ks)=J at h4 hR
 unfold exD at h4
 refine b9 X 23 [23] (some 1) (.agg [.sl (some 9) (e.map enD)]::ks.map exD) h4 (fun _=>rfl) rfl rfl rfl (by simp) (by rw [List.drop_zero,List.take_of_length_le (by simp;omega)];rfl) (by simp only [go_sem]) ?_
 simp only [go_sem]
 refine ⟨by decide +kernel,?_⟩
 subst hR
 refine ⟨_,_,[100,101],id,⟨rfl,rfl⟩,?_⟩
 simp only [go_sem]
 rfl
end Go.Proofs.YtejpnabbmgpmaaaGreat

namespace Go.Proofs.YtejpnabbmgpmaaaGreat
open Go.Ab
theorem FD {G} {N:Nat} {ex:PS→PR} (hex:∀ s,GP 1 s (ex s)) (hc:Reads 53 G N ex):Reads 329 G N (dy ex):=by
 intro s hl hN
 generalize hR:dy ex s=R
 unfold dy at hR
 rw [jg] at hR
 have hpk:=dC (G:=G) s.l s.fin (by omega)
 generalize bQ s.l s.fin=t at hpk hR
 simp only at hR
 have hnx:s.next.nest=N:=hN
 have hnl:s.next.l.length≤100000:=by have:=(SS.next s).len;omega
 have c1:=jL (G:=G) s kS (by omega)
 have c2:=jL (G:=G) s gJ (by omega)
 have c3:=jq (G:=G) s [40] (by omega)
 have c4:=jq (G:=G) s [123] (by omega)
 have c5:=jL (G:=G) s mu (by omega)
 have cr:=Ea (G:=G) hex hc s.next t.pos hnl hnx
 have cc:=D6 (G:=G) hex hc s.next t.pos hnl hnx
 have ce:=hc s.next hnl hnx
 have he:=hex s.next
 generalize er ex s.next t.pos=R1 at hR cr
 generalize gy ex s.next t.pos=R2 at hR cc
 obtain ⟨e0,s0,h0⟩:∃ e0 s0,ex s.next=(e0,s0):=⟨_,_,rfl⟩
 rw [h0] at ce hR he
 have ln:=he.ss.len
 simp only at hR ce ln
 have cm:=eY (G:=G) s0 7 [41] (by omega) (by decide)
 unfold exD at cr cc ce
 unfold RO TO ag
 refine aq Tryz.func329 rfl (by decide +kernel) (by simp [Tryz.ntmps329]) (veil fun E=>?_)
 simp only [go_sem]
 refine ab E [.at [101] 0] (TO s.l s.fin) [101] (hpk) rfl rfl ⟨by simp only [go_sem],by first | (rw [aa];decide) | (simp only [go_sem]<;>(try rw [aa])<;>decide)⟩ rfl (by unfold TO ag;simp only [go_sem]) (by unfold TO;simp only [go_sem]) ?_
 rintro _ _ ⟨rfl,rfl⟩
 unfold TO ag
 simp only [go_sem]
 refine ab E [.at [100] 0] (RO s) [100,101] (fa s) rfl rfl ⟨by simp only [go_sem],by first | (rw [aa];decide) | (simp only [go_sem]<;>(try rw [aa])<;>decide)⟩ rfl (by unfold RO TO ag;simp only [go_sem]) (by unfold RO TO;simp only [go_sem]) ?_
 rintro _ _ ⟨rfl,rfl⟩
 unfold RO TO ag
 simp only [go_sem]
 refine aZ E (fun h=>?_) (fun h=>?_)<;>simp only [go_sem]
 ·rw [if_pos (by simpa using h)] at hR
  refine ab E [.at [100] 0] (RO s) [100,101] (ot s (by omega)) rfl rfl ⟨by simp only [go_sem],by first | (rw [aa];decide) | (simp only [go_sem]<;>(try rw [aa])<;>decide)⟩ rfl (by unfold RO TO ag;simp only [go_sem]) (by unfold RO TO;simp only [go_sem]) ?_
  rintro _ _ ⟨rfl,rfl⟩
  unfold RO TO ag
  simp only [go_sem]
  have hlf:=fG (G:=G) (nd0 1 0) rfl
  unfold noE at hR
  generalize bz (nd0 1 0)=L at hlf hR
  unfold exD at hlf
  refine ae E hlf rfl rfl (by simp) ?_
  rintro _ rfl
  simp only [go_sem]
  subst hR
  refine ⟨_,_,[100,101],id,⟨rfl,rfl⟩,?_⟩
  simp only [go_sem]
  all_goals first | rfl | exact ⟨rfl,rfl,rfl⟩
 rw [if_neg (by simpa using h)] at hR
 refine ai E (fun h=>?_) (fun h=>?_)<;>simp only [go_sem]
 ·rw [if_pos h] at hR
  refine ab E [.at [101] 0] (TO s.l s.fin) [101] (js s.l s.fin (by omega)) rfl rfl ⟨by simp only [go_sem],by first | (rw [aa];decide) | (simp only [go_sem]<;>(try rw [aa])<;>decide)⟩ rfl (by unfold TO ag;simp only [go_sem]) (by unfold TO;simp only [go_sem]) ?_
  rintro _ _ ⟨rfl,rfl⟩
  unfold TO ag
  simp only [go_sem]
  have hlf:=fG (G:=G) ({ nd0 1 t.pos with n:=t.n }) rfl
  generalize bz ({ nd0 1 t.pos with n:=t.n })=L at hlf hR
  unfold exD at hlf
  refine ae E hlf rfl rfl (by simp) ?_
  rintro _ rfl
  simp only [go_sem]
  subst hR
  refine ⟨_,_,[100,101],id,⟨rfl,rfl⟩,?_⟩
  simp only [go_sem]
  all_goals first | rfl | exact ⟨rfl,rfl,rfl⟩
 rw [if_neg h] at hR
 refine ai E (fun h=>?_) (fun h=>?_)<;>simp only [go_sem]
 ·rw [if_pos h] at hR
  refine ab E [.at [101] 0] (TO s.l s.fin) [101] (js s.l s.fin (by omega)) rfl rfl ⟨by simp only [go_sem],by first | (rw [aa];decide) | (simp only [go_sem]<;>(try rw [aa])<;>decide)⟩ rfl (by unfold TO ag;simp only [go_sem]) (by unfold TO;simp only [go_sem]) ?_
  rintro _ _ ⟨rfl,rfl⟩
  unfold TO ag
  simp only [go_sem]
  have hlf:=fG (G:=G) ({ nd0 3 t.pos with s:=t.s }) rfl
  generalize bz ({ nd0 3 t.pos with s:=t.s })=L at hlf hR
  unfold exD at hlf
  refine ae E hlf rfl rfl (by simp) ?_
  rintro _ rfl
  simp only [go_sem]
  subst hR
  refine ⟨_,_,[100,101],id,⟨rfl,rfl⟩,?_⟩
  simp only [go_sem]
  all_goals first | rfl | exact ⟨rfl,rfl,rfl⟩
 rw [if_neg h] at hR
 refine ai E (fun h=>?_) (fun h=>?_)<;>simp only [go_sem]
 ·rw [if_pos h] at hR
  refine ab E [.at [101] 0] (TO s.l s.fin) [101] (js s.l s.fin (by omega)) rfl rfl ⟨by simp only [go_sem],by first | (rw [aa];decide) | (simp only [go_sem]<;>(try rw [aa])<;>decide)⟩ rfl (by unfold TO ag;simp only [go_sem]) (by unfold TO;simp only [go_sem]) ?_
  rintro _ _ ⟨rfl,rfl⟩
  unfold TO ag
  simp only [go_sem]
  have hlf:=fG (G:=G) ({ nd0 4 t.pos with name:=t.s }) rfl
  generalize bz ({ nd0 4 t.pos with name:=t.s })=L at hlf hR
  unfold exD at hlf
  refine ae E hlf rfl rfl (by simp) ?_
  rintro _ rfl
  simp only [go_sem]
  subst hR
  refine ⟨_,_,[100,101],id,⟨rfl,rfl⟩,?_⟩
  simp only [go_sem]
  all_goals first | rfl | exact ⟨rfl,rfl,rfl⟩
 rw [if_neg h] at hR
 refine ab E [.at [100] 0,.d (.str kS)] (RO s) [100,101] (c1) rfl rfl ⟨by simp only [go_sem],by first | (rw [aa];decide) | (simp only [go_sem]<;>(try rw [aa])<;>decide)⟩ rfl (by unfold RO TO ag;simp only [go_sem]) (by unfold RO TO;simp only [go_sem]) ?_
 rintro _ _ ⟨rfl,rfl⟩
 unfold RO TO ag
 simp only [go_sem]
 refine aZ E (fun h=>?_) (fun h=>?_)<;>simp only [go_sem]
 ·rw [if_pos h] at hR
  rw [dq h]
  have hlf:=fG (G:=G) ({ nd0 2 t.pos with n:=1 }) rfl
  generalize bz ({ nd0 2 t.pos with n:=1 })=L at hlf hR
  unfold exD at hlf
  refine ae E hlf rfl rfl (by simp) ?_
  rintro _ rfl
  simp only [go_sem]
  subst hR
  refine ⟨_,_,[100,101],id,⟨rfl,rfl⟩,?_⟩
  simp only [go_sem]
  all_goals first | rfl | exact ⟨rfl,rfl,rfl⟩
 rw [if_neg (by rw [h];decide)] at hR
 rw [fb h]
 refine ab E [.at [100] 0,.d (.str gJ)] (RO s) [100,101] (c2) rfl rfl ⟨by simp only [go_sem],by first | (rw [aa];decide) | (simp only [go_sem]<;>(try rw [aa])<;>decide)⟩ rfl (by unfold RO TO ag;simp only [go_sem]) (by unfold RO TO;simp only [go_sem]) ?_
 rintro _ _ ⟨rfl,rfl⟩
 unfold RO TO ag
 simp only [go_sem]
 refine aZ E (fun h=>?_) (fun h=>?_)<;>simp only [go_sem]
 ·rw [if_pos h] at hR
  rw [dq h]
  have hlf:=fG (G:=G) (nd0 2 t.pos) rfl
  generalize bz (nd0 2 t.pos)=L at hlf hR
  unfold exD at hlf
  refine ae E hlf rfl rfl (by simp) ?_
  rintro _ rfl
  simp only [go_sem]
  subst hR
  refine ⟨_,_,[100,101],id,⟨rfl,rfl⟩,?_⟩
  simp only [go_sem]
  all_goals first | rfl | exact ⟨rfl,rfl,rfl⟩
 rw [if_neg (by rw [h];decide)] at hR
 rw [fb h]
 refine ab E [.at [100] 0,.d (.str [40])] (RO s) [100,101] (c3) rfl rfl ⟨by simp only [go_sem],by first | (rw [aa];decide) | (simp only [go_sem]<;>(try rw [aa])<;>decide)⟩ rfl (by unfold RO TO ag;simp only [go_sem]) (by unfold RO TO;simp only [go_sem]) ?_
 rintro _ _ ⟨rfl,rfl⟩
 unfold RO TO ag
 simp only [go_sem]
 refine aZ E (fun h=>?_) (fun h=>?_)<;>simp only [go_sem]
 ·rw [if_pos h] at hR
  rw [dq h]
  refine ab E [.at [100] 0] (RO s.next) [100,101] (ce) rfl rfl ⟨by simp only [go_sem],by first | (rw [aa];decide) | (simp only [go_sem]<;>(try rw [aa])<;>decide)⟩ rfl (by unfold RO TO ag;simp only [go_sem]) (by unfold RO TO;simp only [go_sem]) ?_
  rintro _ _ ⟨rfl,rfl⟩
  unfold RO TO ag
  simp only [go_sem]
  refine ab E [.at [100] 0,.d (i64 7),.d (.str [41])] (RO s0) [100,101] (cm) rfl rfl ⟨by simp only [go_sem],by first | (rw [aa];decide) | (simp only [go_sem]<;>(try rw [aa])<;>decide)⟩ rfl (by unfold RO TO ag;simp only [go_sem]) (by unfold RO TO;simp only [go_sem]) ?_
  rintro _ _ ⟨rfl,rfl⟩
  unfold RO TO ag
  simp only [go_sem]
  subst hR
  refine ⟨_,_,[100,101],id,⟨rfl,rfl⟩,?_⟩
  simp only [go_sem]
  all_goals rfl
 rw [if_neg (by rw [h];decide)] at hR
 rw [fb h]
 refine ab E [.at [100] 0,.d (.str [123])] (RO s) [100,101] (c4) rfl rfl ⟨by simp only [go_sem],by first | (rw [aa];decide) | (simp only [go_sem]<;>(try rw [aa])<;>decide)⟩ rfl (by unfold RO TO ag;simp only [go_sem]) (by unfold RO TO;simp only [go_sem]) ?_
 rintro _ _ ⟨rfl,rfl⟩
 unfold RO TO ag
 simp only [go_sem]
 refine aZ E (fun h=>?_) (fun h=>?_)<;>simp only [go_sem]
 ·rw [if_pos h] at hR
  rw [dq h]
  refine ab E [.at [100] 0,.d (i64 t.pos)] (RO s.next) [100,101] (cr) rfl rfl ⟨by simp only [go_sem],by first | (rw [aa];decide) | (simp only [go_sem]<;>(try rw [aa])<;>decide)⟩ rfl (by unfold RO TO ag;simp only [go_sem]) (by unfold RO TO;simp only [go_sem]) ?_
  rintro _ _ ⟨rfl,rfl⟩
  unfold RO TO ag
  simp only [go_sem]
  subst hR
  refine ⟨_,_,[100,101],id,⟨rfl,rfl⟩,?_⟩
  simp only [go_sem]
  all_goals rfl
 rw [if_neg (by rw [h];decide)] at hR
 rw [fb h]
 refine ab E [.at [100] 0,.d (.str mu)] (RO s) [100,101] (c5) rfl rfl ⟨by simp only [go_sem],by first | (rw [aa];decide) | (simp only [go_sem]<;>(try rw [aa])<;>decide)⟩ rfl (by unfold RO TO ag;simp only [go_sem]) (by unfold RO TO;simp only [go_sem]) ?_
 rintro _ _ ⟨rfl,rfl⟩
 unfold RO TO ag
 simp only [go_sem]
 refine aZ E (fun h=>?_) (fun h=>?_)<;>simp only [go_sem]
 ·rw [if_pos h] at hR
  rw [dq h]
  refine ab E [.at [100] 0,.d (i64 t.pos)] (RO s.next) [100,101] (cc) rfl rfl ⟨by simp only [go_sem],by first | (rw [aa];decide) | (simp only [go_sem]<;>(try rw [aa])<;>decide)⟩ rfl (by unfold RO TO ag;simp only [go_sem]) (by unfold RO TO;simp only [go_sem]) ?_
  rintro _ _ ⟨rfl,rfl⟩
  unfold RO TO ag
  simp only [go_sem]
  subst hR
  refine ⟨_,_,[100,101],id,⟨rfl,rfl⟩,?_⟩
  simp only [go_sem]
  all_goals rfl
 rw [if_neg (by rw [h];decide)] at hR
 rw [fb h]
 refine ab E [.at [100] 0] (RO s) [100,101] (ot s (by omega)) rfl rfl ⟨by simp only [go_sem],by first | (rw [aa];decide) | (simp only [go_sem]<;>(try rw [aa])<;>decide)⟩ rfl (by unfold RO TO ag;simp only [go_sem]) (by unfold RO TO;simp only [go_sem]) ?_
 rintro _ _ ⟨rfl,rfl⟩
 unfold RO TO ag
 simp only [go_sem]
 have hlf:=fG (G:=G) (nd0 1 0) rfl
 unfold noE at hR
 generalize bz (nd0 1 0)=L at hlf hR
 unfold exD at hlf
 refine ae E hlf rfl rfl (by simp) ?_
 rintro _ rfl
 simp only [go_sem]
 subst hR
 refine ⟨_,_,[100,101],id,⟨rfl,rfl⟩,?_⟩
 simp only [go_sem]
 all_goals first | rfl | exact ⟨rfl,rfl,rfl⟩
end Go.Proofs.YtejpnabbmgpmaaaGreat

namespace Go.Proofs.YtejpnabbmgpmaaaGreat
open Go.Ab
theorem Dj (s:PS) (e p:Int) (he:e≠0):(s.fail e p).err≠0:=by
 unfold PS.fail
 split
 ·exact he
 ·assumption
theorem AR {G}:Reads 53 G 100 (ia 0):=by
 intro s hl hN
 generalize hR:ia 0 s=R
 unfold ia at hR
 rw [jg] at hR
 have hpk:=dC (G:=G) s.l s.fin (by omega)
 generalize bQ s.l s.fin=t at hpk hR
 have hf:=nP (G:=G) s 6 t.pos
 have hne:=Dj s 6 t.pos (by decide)
 generalize s.fail 6 t.pos=s2 at hf hne hR
 unfold noE at hR
 have hlf:=fG (G:=G) (nd0 1 0) rfl
 generalize bz (nd0 1 0)=L at hlf hR
 subst hR
 unfold exD at hlf
 unfold RO TO ag
 refine xB Tryz.func53 rfl (by decide +kernel) (by simp [Tryz.ntmps53]) fun B0 hB0=>?_
 refine aB (al fun E=>?_)
 simp only [go_sem]
 refine aB (al fun E=>?_)
 simp only [go_sem]
 refine ab E [.at [101] 0] (TO s.l s.fin) [101] (hpk) rfl rfl ⟨by simp only [go_sem],by first | (rw [aa];decide) | (simp only [go_sem]<;>(try rw [aa])<;>decide)⟩ rfl (by unfold TO ag;simp only [go_sem]) (by unfold TO;simp only [go_sem]) ?_
 rintro _ _ ⟨rfl,rfl⟩
 unfold TO ag
 simp only [go_sem]
 refine aB (al fun E=>?_)
 simp only [go_sem]
 refine ai E (fun h=>?_) (fun h=>absurd (by omega) h)<;>simp only [go_sem]
 refine ab E [.at [100] 0,.d (i64 6),.d (i64 t.pos)] (RO s) [100,101] (hf) rfl rfl ⟨by simp only [go_sem],by first | (rw [aa];decide) | (simp only [go_sem]<;>(try rw [aa])<;>decide)⟩ rfl (by unfold RO TO ag;simp only [go_sem]) (by unfold RO TO;simp only [go_sem]) ?_
 rintro _ _ ⟨rfl,rfl⟩
 unfold RO TO ag
 simp only [go_sem]
 refine aB (al fun E=>?_)
 simp only [go_sem]
 refine ab E [.at [100] 0] (RO s2) [100,101] (fa s2) rfl rfl ⟨by simp only [go_sem],by first | (rw [aa];decide) | (simp only [go_sem]<;>(try rw [aa])<;>decide)⟩ rfl (by unfold RO TO ag;simp only [go_sem]) (by unfold RO TO;simp only [go_sem]) ?_
 rintro _ _ ⟨rfl,rfl⟩
 unfold RO TO ag
 simp only [go_sem]
 refine aZ E (fun g=>?_) (fun g=>absurd (by simpa using g) hne)<;>simp only [go_sem]
 refine ae E hlf rfl rfl (by simp) ?_
 rintro _ rfl
 simp only [go_sem]
 refine xz (.inl rfl) hB0 ?_
 simp only [go_sem]
 refine ⟨_,_,[100,101],id,⟨rfl,rfl⟩,?_⟩
 simp only [go_sem]
 rfl
def Bb (ex:PS→PR) (s:PS):PR:=if s.err≠0 then (noE,s) else
 let r:=oK ex { s with nest:=s.nest+1 }
 (r.1,{ r.2 with nest:=s.nest })
set_option maxHeartbeats 1000000 in
theorem AB {G} {N:Nat} {ex:PS→PR} (hN0:N<100) (hex:∀ s,GP 1 s (ex s)) (hc:Reads 53 G (N+1) ex):Reads 53 G N (Bb ex):=by
 intro s hl hN
 generalize hR:Bb ex s=R
 unfold Bb oK at hR
 have hp1:({ s with nest:=s.nest+1 }:PS).peek=bQ s.l s.fin:=rfl
 obtain ⟨s1,hs1⟩:∃ s1:PS,s1={ s with nest:=s.nest+1 }:=⟨_,rfl⟩
 rw [← hs1] at hp1
 simp only [← hs1,hp1] at hR
 have hpk:=dC (G:=G) s.l s.fin (by omega)
 generalize bQ s.l s.fin=t at hpk hR
 have l1:s1.l.length≤100000:=by rw [hs1];exact hl
 have n1:s1.nest=N+1:=by rw [hs1];show s.nest+1=_;rw [hN]
 have hlf:=fG (G:=G) (nd0 1 0) rfl
 unfold noE at hR
 generalize bz (nd0 1 0)=L at hlf hR
 have c1:=jL (G:=G) s1 HZ (by omega)
 have c2:=jL (G:=G) s1 Hv (by omega)
 have c3:=jL (G:=G) s1 bIf (by omega)
 have nn:=(SS.next s1).nest
 have ln:=(SS.next s1).len
 have c4:=Hi (G:=G) hex hc s1.next t.pos (by omega) (nn.trans n1)
 have c5:=G8 (G:=G) hex hc s1.next t.pos (by omega) (nn.trans n1)
 have c6:=FQ (G:=G) hex (DR hex (Gh hex (Er hex (Ex hex (FD hex hc))))) s1 l1 n1
 have g4:=(uy hex s1.next t.pos).ss.nest
 have g5:=(yu hex s1.next t.pos).ss.nest
 have g6:=(uP hex s1).ss.nest
 generalize rN ex s1.next t.pos=R4 at c4 g4 hR
 generalize ifS ex s1.next t.pos=R5 at c5 g5 hR
 generalize sR ex s1=R6 at c6 g6 hR
 have c7:=lB (G:=G) s1.next 2 (by omega)
 have g7:=SS.of s1.next 2
 obtain ⟨nm,s2,e2⟩:∃ nm s2,s1.next.of 2=(nm,s2):=⟨_,_,rfl⟩
 rw [e2] at c7 g7
 simp only [e2] at hR
 simp only at c7 g7
 have l2:=g7.len
 have n2:=g7.nest
 have c8:=eY (G:=G) s2 7 bTo (by omega) (by decide)
 have g8:=SS.must s2 7 bTo
 generalize s2.must 7 bTo=s3 at c8 g8 hR
 have l3:=g8.len
 have n3:=g8.nest
 have c9:=hc s3 (by omega) (by rw [n3,n2,nn,n1])
 have g9:=hex s3
 obtain ⟨b,s4,e4⟩:∃ b s4,ex s3=(b,s4):=⟨_,_,rfl⟩
 rw [e4] at c9 g9
 simp only [e4] at hR
 have n4:=g9.ss.nest
 have z4:=g9.sz
 simp only at n4 z4
 have h4:=iK (G:=G) { nd0 5 t.pos with name:=nm } [b] rfl (by simp) (by simp only [bg,List.map_cons,List.map_nil,List.sum_cons,List.sum_nil];omega)
  (fun l h=>by rw [List.mem_singleton.1 h];exact g9.tr.kids.2)
  (fun l h=>by rw [List.mem_singleton.1 h];exact g9.wd.mono (by omega))
 generalize aD { nd0 5 t.pos with name:=nm } [b]=J at h4 hR
 unfold exD at hlf c4 c5 c6 c9 h4
 unfold RO TO ag
 refine xB Tryz.func53 rfl (by decide +kernel) (by simp [Tryz.ntmps53]) fun B0 hB0=>?_
 refine aB (al fun E=>?_)
 simp only [go_sem]
 refine aB (al fun E=>?_)
 simp only [go_sem]
 refine ab E [.at [101] 0] (TO s.l s.fin) [101] (hpk) rfl rfl ⟨by simp only [go_sem],by first | (rw [aa];decide) | (simp only [go_sem]<;>(try rw [aa])<;>decide)⟩ rfl (by unfold TO ag;simp only [go_sem]) (by unfold TO;simp only [go_sem]) ?_
 rintro _ _ ⟨rfl,rfl⟩
 unfold TO ag
 simp only [go_sem]
 refine aB (al fun E=>?_)
 simp only [go_sem]
 refine ai E (fun h=>absurd h (by omega)) (fun h=>?_)<;>simp only [go_sem]
 refine aB (al fun E=>?_)
 simp only [go_sem]
 refine ab E [.at [100] 0] (RO s) [100,101] (fa s) rfl rfl ⟨by simp only [go_sem],by first | (rw [aa];decide) | (simp only [go_sem]<;>(try rw [aa])<;>decide)⟩ rfl (by unfold RO TO ag;simp only [go_sem]) (by unfold RO TO;simp only [go_sem]) ?_
 rintro _ _ ⟨rfl,rfl⟩
 unfold RO TO ag
 simp only [go_sem]
 refine aZ E (fun g=>?_) (fun g=>?_)<;>simp only [go_sem]
 ·rw [if_pos (by simpa using g)] at hR
  refine ae E hlf rfl rfl (by simp) ?_
  rintro _ rfl
  simp only [go_sem]
  subst hR
  refine xz (.inl rfl) hB0 ?_
  simp only [go_sem]
  refine ⟨_,_,[100,101],id,⟨rfl,rfl⟩,?_⟩
  simp only [go_sem]
  all_goals first | rfl | exact ⟨rfl,rfl⟩ | exact ⟨rfl,rfl,rfl⟩
 rw [if_neg (by simpa using g)] at hR
 refine aB (al fun E=>?_)
 simp only [go_sem]
 rw [ak (n:=(s.nest:Int)+1) ⟨by omega,by omega⟩]
 rw [show s.err=s1.err by rw [hs1],show s.pos=s1.pos by rw [hs1],show s.l=s1.l by rw [hs1],show s.fin=s1.fin by rw [hs1],show (s.nest:Int)+1=(s1.nest:Int) by rw [n1,← hN];rfl]
 refine aB (fM ?_)
 refine kR rfl ?_
 simp only [go_sem]
 refine Fa [[1]] rfl rfl (by intro p hp;rw [List.mem_singleton.1 hp];exact ⟨_,rfl⟩) ?_
 refine ma ?_
 refine aB (al fun E=>?_)
 simp only [go_sem]
 refine ab E [.at [100] 0,.d (.str HZ)] (RO s1) [100,101] (c1) rfl rfl ⟨by simp only [go_sem],by first | (rw [aa];decide) | (simp only [go_sem]<;>(try rw [aa])<;>decide)⟩ rfl (by unfold RO TO ag;simp only [go_sem]) (by unfold RO TO;simp only [go_sem]) ?_
 rintro _ _ ⟨rfl,rfl⟩
 unfold RO TO ag
 simp only [go_sem]
 refine aZ E (fun h=>?_) (fun h=>?_)<;>simp only [go_sem]
 ·rw [if_pos h] at hR
  rw [dq h]
  refine ab E [.at [100] 0,.d (i64 2)] (RO s1.next) [100,101] (c7) rfl rfl ⟨by simp only [go_sem],by first | (rw [aa];decide) | (simp only [go_sem]<;>(try rw [aa])<;>decide)⟩ rfl (by unfold RO TO ag;simp only [go_sem]) (by unfold RO TO;simp only [go_sem]) ?_
  rintro _ _ ⟨rfl,rfl⟩
  unfold RO TO ag
  simp only [go_sem]
  refine ab E [.at [100] 0,.d (i64 7),.d (.str bTo)] (RO s2) [100,101] (c8) rfl rfl ⟨by simp only [go_sem],by first | (rw [aa];decide) | (simp only [go_sem]<;>(try rw [aa])<;>decide)⟩ rfl (by unfold RO TO ag;simp only [go_sem]) (by unfold RO TO;simp only [go_sem]) ?_
  rintro _ _ ⟨rfl,rfl⟩
  unfold RO TO ag
  simp only [go_sem]
  refine aj mixed E fun X=>?_
  simp only [go_sem]
  refine aM X [.at [100] 0] (RO s3) [100,101] _ _ c9 rfl rfl ⟨by simp only [go_sem],by rw [aa];decide⟩ rfl (by unfold RO TO ag;simp only [go_sem]) (by unfold RO TO;simp only [go_sem]) (by unfold RO TO;simp only [go_sem]) ?_
  unfold RO TO ag
  simp only [go_sem]
  refine b9 X 45 [45] (some 1) [.agg [.sl (some 9) (b.map enD)]] h4 (fun _=>rfl) rfl rfl rfl (by simp) rfl (by simp only [go_sem]) ?_
  simp only [go_sem]
  refine ⟨by decide +kernel,?_⟩
  subst hR
  refine rb (ns:=[[1]]) (.inl rfl) hB0 Tryz.func94 rfl (by decide +kernel) (by simp [Tryz.ntmps94]) (by intro p hp;rw [List.mem_singleton.1 hp];simp only [go_sem]) (veil fun E=>?_)
  simp only [go_sem]
  rw [ja]
  simp only [go_sem]
  rw [ak (n:=(s4.nest:Int)-1) ⟨by omega,by omega⟩]
  refine ⟨p3 (gO (by simp only [go_sem])),?_⟩
  simp only [ja]
  simp only [go_sem]
  refine ⟨_,_,[100,101],id,⟨rfl,rfl⟩,?_⟩
  simp only [go_sem]
  have hq:(s4.nest:Int)-1=(s.nest:Int):=by omega
  rw [hq]
  exact ⟨rfl,rfl⟩
 rw [if_neg (by rw [h];decide)] at hR
 rw [fb h]
 refine ab E [.at [100] 0,.d (.str Hv)] (RO s1) [100,101] (c2) rfl rfl ⟨by simp only [go_sem],by first | (rw [aa];decide) | (simp only [go_sem]<;>(try rw [aa])<;>decide)⟩ rfl (by unfold RO TO ag;simp only [go_sem]) (by unfold RO TO;simp only [go_sem]) ?_
 rintro _ _ ⟨rfl,rfl⟩
 unfold RO TO ag
 simp only [go_sem]
 refine aZ E (fun h=>?_) (fun h=>?_)<;>simp only [go_sem]
 ·rw [if_pos h] at hR
  rw [dq h]
  refine ab E [.at [100] 0,.d (i64 t.pos)] (RO s1.next) [100,101] (c4) rfl rfl ⟨by simp only [go_sem],by first | (rw [aa];decide) | (simp only [go_sem]<;>(try rw [aa])<;>decide)⟩ rfl (by unfold RO TO ag;simp only [go_sem]) (by unfold RO TO;simp only [go_sem]) ?_
  rintro _ _ ⟨rfl,rfl⟩
  unfold RO TO ag
  simp only [go_sem]
  subst hR
  refine rb (ns:=[[1]]) (.inl rfl) hB0 Tryz.func94 rfl (by decide +kernel) (by simp [Tryz.ntmps94]) (by intro p hp;rw [List.mem_singleton.1 hp];simp only [go_sem]) (veil fun E=>?_)
  simp only [go_sem]
  rw [ja]
  simp only [go_sem]
  rw [ak (n:=(R4.2.nest:Int)-1) ⟨by omega,by omega⟩]
  refine ⟨p3 (gO (by simp only [go_sem])),?_⟩
  simp only [ja]
  simp only [go_sem]
  refine ⟨_,_,[100,101],id,⟨rfl,rfl⟩,?_⟩
  simp only [go_sem]
  have hq:(R4.2.nest:Int)-1=(s.nest:Int):=by omega
  rw [hq]
  exact ⟨rfl,rfl⟩
 rw [if_neg (by rw [h];decide)] at hR
 rw [fb h]
 refine ab E [.at [100] 0,.d (.str bIf)] (RO s1) [100,101] (c3) rfl rfl ⟨by simp only [go_sem],by first | (rw [aa];decide) | (simp only [go_sem]<;>(try rw [aa])<;>decide)⟩ rfl (by unfold RO TO ag;simp only [go_sem]) (by unfold RO TO;simp only [go_sem]) ?_
 rintro _ _ ⟨rfl,rfl⟩
 unfold RO TO ag
 simp only [go_sem]
 refine aZ E (fun h=>?_) (fun h=>?_)<;>simp only [go_sem]
 ·rw [if_pos h] at hR
  rw [dq h]
  refine ab E [.at [100] 0,.d (i64 t.pos)] (RO s1.next) [100,101] (c5) rfl rfl ⟨by simp only [go_sem],by first | (rw [aa];decide) | (simp only [go_sem]<;>(try rw [aa])<;>decide)⟩ rfl (by unfold RO TO ag;simp only [go_sem]) (by unfold RO TO;simp only [go_sem]) ?_
  rintro _ _ ⟨rfl,rfl⟩
  unfold RO TO ag
  simp only [go_sem]
  subst hR
  refine rb (ns:=[[1]]) (.inl rfl) hB0 Tryz.func94 rfl (by decide +kernel) (by simp [Tryz.ntmps94]) (by intro p hp;rw [List.mem_singleton.1 hp];simp only [go_sem]) (veil fun E=>?_)
  simp only [go_sem]
  rw [ja]
  simp only [go_sem]
  rw [ak (n:=(R5.2.nest:Int)-1) ⟨by omega,by omega⟩]
  refine ⟨p3 (gO (by simp only [go_sem])),?_⟩
  simp only [ja]
  simp only [go_sem]
  refine ⟨_,_,[100,101],id,⟨rfl,rfl⟩,?_⟩
  simp only [go_sem]
  have hq:(R5.2.nest:Int)-1=(s.nest:Int):=by omega
  rw [hq]
  exact ⟨rfl,rfl⟩
 rw [if_neg (by rw [h];decide)] at hR
 rw [fb h]
 refine al fun E=>?_
 simp only [go_sem]
 refine ab E [.at [100] 0] (RO s1) [100,101] (c6) rfl rfl ⟨by simp only [go_sem],by first | (rw [aa];decide) | (simp only [go_sem]<;>(try rw [aa])<;>decide)⟩ rfl (by unfold RO TO ag;simp only [go_sem]) (by unfold RO TO;simp only [go_sem]) ?_
 rintro _ _ ⟨rfl,rfl⟩
 unfold RO TO ag
 simp only [go_sem]
 subst hR
 refine rb (ns:=[[1]]) (.inl rfl) hB0 Tryz.func94 rfl (by decide +kernel) (by simp [Tryz.ntmps94]) (by intro p hp;rw [List.mem_singleton.1 hp];simp only [go_sem]) (veil fun E=>?_)
 simp only [go_sem]
 rw [ja]
 simp only [go_sem]
 rw [ak (n:=(R6.2.nest:Int)-1) ⟨by omega,by omega⟩]
 refine ⟨p3 (gO (by simp only [go_sem])),?_⟩
 simp only [ja]
 simp only [go_sem]
 refine ⟨_,_,[100,101],id,⟨rfl,rfl⟩,?_⟩
 simp only [go_sem]
 have hq:(R6.2.nest:Int)-1=(s.nest:Int):=by omega
 rw [hq]
 exact ⟨rfl,rfl⟩
theorem At {G}:∀ (m N:Nat),N+m=100→Reads 53 G N (ia m)
 | 0,N,h=>by
   obtain rfl:N=100:=by omega
   exact AR
 | m+1,N,h=>AB (by omega) (fK m) (At m (N+1) (by omega))
end Go.Proofs.YtejpnabbmgpmaaaGreat

namespace Go.Proofs.YtejpnabbmgpmaaaGreat
open Go.Ab
def nF (s:PS) (ns:List EN):List EN × Int × Int :=
 if s.err≠0 then ([],s.pos,s.err) else if ns.any (fun n=>decide (1048576<n.pos)) then ([],0,7) else if bB ns≠0 then ([],0,bB ns) else (ns,0,0)
def lu (l:List Tok) (n:Int):PS:=⟨l,n,0,0,0⟩
def u6 (s:PS):PS:=if s.l.isEmpty then s else s.wrong
def bL (s:List UInt8):List EN × Int × Int :=
 if (da s).2.2≠0 then ([],(da s).2.1,(da s).2.2)
 else nF (u6 (ia 100 (lu (da s).1 (da s).2.1)).2) (ia 100 (lu (da s).1 (da s).2.1)).1
theorem SS.done (s:PS):SS s (u6 s):=by
 unfold u6
 split
 ·exact SS.refl s
 ·exact SS.wrong s
end Go.Proofs.YtejpnabbmgpmaaaGreat

namespace Go.Proofs.YtejpnabbmgpmaaaGreat
open Go.Ab
def Fm (B:Nat) (f:EF):Prop:=f.nm.length≤B∧f.var.length≤B
def Nm (B:Nat) (n:EN):Prop:=n.name.length≤B∧n.s.length≤B∧∀ f∈n.l,Fm B f
def Sm (B:Nat) (ns:List EN):Prop:=∀ n∈ns,Nm B n
def Tm (B:Nat) (s:PS):Prop:=∀ t∈s.l,t.s.length≤B
section
variable {B:Nat}
theorem tC (ks:List Int) (o:Nat):∀ (l:List EF) (i:Nat),(∀ f∈l,Fm B f)→∀ f∈aW ks o l i,Fm B f
 | [],_,_,f,hf=>by simp [aW] at hf
 | g::r,i,h,f,hf=>by
   rw [aW] at hf
   rcases List.mem_cons.1 hf with rfl | hf
   ·have:=h g List.mem_cons_self
    split<;>exact this
   ·exact tC ks o r (i+1) (fun x hx=>h x (List.mem_cons_of_mem _ hx)) f hf
theorem Nm.with {n:EN} (h:Nm B n) (ks:List Int):Nm B (aI n ks):=by
 refine ⟨h.1,h.2.1,fun f hf=>?_⟩
 have hf:f∈(if aw n.k then aW ks (aH n.k) n.l 0 else []):=hf
 split at hf
 ·exact tC _ _ _ _ h.2.2 f hf
 ·cases hf
theorem B6:∀ (ls:List (List EN)) (acc:List EN) (rs:List Int),(∀ l∈ls,Sm B l)→Sm B acc→Sm B (bl ls acc rs).1
 | [],_,_,_,h=>h
 | l::r,acc,rs,hl,h=>by
   refine B6 r _ _ (fun x hx=>hl x (List.mem_cons_of_mem _ hx)) fun n hn=>?_
   rcases List.mem_append.1 hn with hn | hn
   ·exact h n hn
   ·obtain ⟨m,hm,rfl⟩:=List.mem_map.1 hn
    exact (hl l List.mem_cons_self m hm).with _
theorem de {n:EN} {ls:List (List EN)} (hn:Nm B n) (hl:∀ l∈ls,Sm B l):Sm B (aD n ls):=by
 intro m hm
 rcases List.mem_append.1 hm with hm | hm
 ·exact B6 ls [] [] hl (fun _ h=>by cases h) m hm
 ·rw [List.mem_singleton.1 hm];exact hn.with _
theorem ou (k p:Int):Nm B (nd0 k p):=⟨Nat.zero_le _,Nat.zero_le _,fun _ h=>by cases h⟩
theorem gz {n:EN} (hn:Nm B n):Sm B (bz n):=de hn fun _ h=>by cases h
theorem xa:Sm B noE:=gz (ou 1 0)
theorem Tm.ss {s r:PS} (h:SS s r) (g:Tm B s):Tm B r:=by
 obtain ⟨k,hk⟩:=h.suf
 intro t ht
 rw [hk] at ht
 exact g t (List.mem_of_mem_drop ht)
theorem Tm.peek {s:PS} (g:Tm B s):s.peek.s.length≤B:=by
 unfold PS.peek
 split
 ·exact Nat.zero_le _
 ·rename_i t r e
  exact g t (by rw [e];exact List.mem_cons_self)
theorem Tm.of {s:PS} (g:Tm B s) (k:Int):(s.of k).1.length≤B:=by
 unfold PS.of
 split
 ·exact g.peek
 ·exact Nat.zero_le _
variable {ex:PS→PR} (hex:∀ s,GP 1 s (ex s)) (hx:∀ s,Tm B s→Sm B (ex s).1)
include hex hx
omit hex hx in
theorem BK {s:PS} (g:Tm B s) (l:List EF):Fm B (gY s l).1:=⟨g.of 2,Nat.zero_le _⟩
omit hex hx in
theorem y6 {s:PS} (g:Tm B s) (l:List EF):Fm B (eJ s l).1 :=
 ⟨g.of 3,Tm.of (g.ss (SS.partp (s:=s) (SS.of s 3) s.peek l fun _ h=>ki h)) 2⟩
theorem oP (between:List UInt8) (part:PS→List EF→EF × PS) (hp:∀ s l,SS s (part s l).2) (hf:∀ s l,Tm B s→Fm B (part s l).1):∀ (m:Nat) (s:PS) (l:List EF) (ks:List (List EN)),Tm B s→(∀ f∈l,Fm B f)→(∀ k∈ks,Sm B k) →
  (∀ f∈(bt ex between part m s l ks).1,Fm B f)∧(∀ k∈(bt ex between part m s l ks).2.1,Sm B k)
 | 0,s,l,ks,_,h1,h2=>⟨h1,h2⟩
 | m+1,s,l,ks,g,h1,h2=>by
   have g1:=g.ss (hp s l)
   have g2:=g1.ss (hex (part s l).2).ss
   have a1:∀ f∈l++[(part s l).1],Fm B f:=fun f h=>by
    rcases List.mem_append.1 h with h | h
    ·exact h1 f h
    ·rw [List.mem_singleton.1 h];exact hf s l g
   have a2:∀ k∈ks++[(ex (part s l).2).1],Sm B k:=fun k h=>by
    rcases List.mem_append.1 h with h | h
    ·exact h2 k h
    ·rw [List.mem_singleton.1 h];exact hx _ g1
   unfold bt
   simp only
   split
   ·exact oP between part hp hf m _ _ _ (g2.ss (SS.next _)) a1 a2
   ·exact ⟨a1,a2⟩
theorem zn (s:PS) (g:Tm B s) (pos:Int):Sm B (er ex s pos).1:=by
 unfold er
 split
 ·exact gz (ou 11 pos)
 ·have h:=oP hex hx [44] gY SS.field (fun s l g=>BK g l) s.l.length.succ s [] [] g (fun _ h=>by cases h) (fun _ h=>by cases h)
  exact de ⟨Nat.zero_le _,Nat.zero_le _,h.1⟩ h.2
theorem Ch (s:PS) (g:Tm B s) (pos:Int):Sm B (gy ex s pos).1:=by
 unfold gy
 have g1:=(g.ss (hex s).ss).ss (SS.must (ex s).2 1 bOf)
 simp only
 have h:=oP hex hx [124] eJ SS.branch (fun s l g=>y6 g l) ((ex s).2.must 1 bOf).l.length.succ _ [] [] g1 (fun _ h=>by cases h) (fun _ h=>by cases h)
 refine de ⟨Nat.zero_le _,Nat.zero_le _,h.1⟩ fun l hl=>?_
 rcases List.mem_cons.1 hl with rfl | hl
 ·exact hx s g
 ·exact h.2 l hl
theorem FG (s:PS) (g:Tm B s):Sm B (dy ex s).1:=by
 have gn:=g.ss (SS.next s)
 unfold dy
 simp only
 repeat' split
 ·exact xa
 ·exact gz ⟨Nat.zero_le _,Nat.zero_le _,fun _ h=>by cases h⟩
 ·exact gz ⟨Nat.zero_le _,g.peek,fun _ h=>by cases h⟩
 ·exact gz ⟨g.peek,Nat.zero_le _,fun _ h=>by cases h⟩
 ·exact gz ⟨Nat.zero_le _,Nat.zero_le _,fun _ h=>by cases h⟩
 ·exact gz (ou _ _)
 ·exact hx _ gn
 ·exact zn hex hx _ gn _
 ·exact Ch hex hx _ gn _
 ·exact xa
omit hex hx in
theorem xq:∀ (m:Nat) (a:List EN) (s:PS),Sm B a→Tm B s→Sm B (gf m a s).1
 | 0,_,_,h,_=>h
 | m+1,a,s,h,g=>by
   unfold gf
   split
   ·exact xq m _ _ (de ⟨(g.ss (SS.next s)).of 2,Nat.zero_le _,fun _ h=>by cases h⟩ fun l hl=>by rw [List.mem_singleton.1 hl];exact h) ((g.ss (SS.next s)).ss (SS.of _ 2))
   ·exact h
theorem r8 (s:PS) (g:Tm B s):Sm B (dv ex s).1:=xq _ _ _ (FG hex hx s g) (g.ss (lT hex s).1.ss)
theorem x7:∀ (m:Nat) (a:List EN) (s:PS),Sm B a→Tm B s→Sm B (gZ ex m a s).1
 | 0,_,_,h,_=>h
 | m+1,a,s,h,g=>by
   unfold gZ
   split
   ·refine x7 m _ _ (de (ou _ _) fun l hl=>?_) (g.ss (eS hex s).1.ss)
    rcases List.mem_cons.1 hl with rfl | hl
    ·exact h
    ·rw [List.mem_singleton.1 hl];exact r8 hex hx s g
   ·exact h
theorem A9 (s:PS) (g:Tm B s):Sm B (l8 ex s).1:=by
 unfold l8
 simp only
 split
 ·exact de ⟨g.peek,Nat.zero_le _,fun _ h=>by cases h⟩ fun l hl=>by rw [List.mem_singleton.1 hl];exact r8 hex hx _ (g.ss (SS.next s))
 ·exact x7 hex hx _ _ _ (r8 hex hx s g) (g.ss (eS hex s).1.ss)
omit hex hx in
theorem vm (ops:List (List UInt8 × Int)) (sub:PS→PR) (h1:∀ s,SS s (sub s).2) (h2:∀ s,Tm B s→Sm B (sub s).1):∀ (m:Nat) (a:List EN) (s:PS),Sm B a→Tm B s→Sm B (jM ops sub m a s).1
 | 0,_,_,h,_=>h
 | m+1,a,s,h,g=>by
   unfold jM
   split
   ·have gn:=g.ss (SS.next s)
    refine vm ops sub h1 h2 m _ _ (de ⟨Nat.zero_le _,Nat.zero_le _,fun _ h=>by cases h⟩ fun l hl=>?_) (gn.ss (h1 _))
    rcases List.mem_cons.1 hl with rfl | hl
    ·exact h
    ·rw [List.mem_singleton.1 hl];exact h2 _ gn
   ·exact h
theorem yG (s:PS) (g:Tm B s):Sm B (jD ex s).1:=vm _ _ (fun s=>(iv hex s).ss) (A9 hex hx) _ _ _ (A9 hex hx s g) (g.ss (iv hex s).ss)
theorem vO (s:PS) (g:Tm B s):Sm B (u7 ex s).1:=vm _ _ (fun s=>(fV hex s).ss) (yG hex hx) _ _ _ (yG hex hx s g) (g.ss (fV hex s).ss)
theorem HU (s:PS) (g:Tm B s):Sm B (sR ex s).1:=by
 unfold sR
 simp only
 split
 ·refine de ⟨Nat.zero_le _,Nat.zero_le _,fun _ h=>by cases h⟩ fun l hl=>?_
  rcases List.mem_cons.1 hl with rfl | hl
  ·exact vO hex hx s g
  ·rw [List.mem_singleton.1 hl];exact vO hex hx _ ((g.ss (iN hex s).ss).ss (SS.next _))
 ·exact vO hex hx s g
theorem HI (s:PS) (g:Tm B s) (pos:Int):Sm B (rN ex s pos).1:=by
 unfold rN
 simp only
 obtain ⟨k,hk⟩:∃ k:Int,k=if s.sees 1 kQ=true then 8 else 7:=⟨_,rfl⟩
 rw [← hk]
 have g1:=g.ss (SS.may s 1 kQ)
 have g2:=g1.ss (SS.of _ 2)
 have g3:=g2.ss (SS.must _ 7 [61])
 have g4:=g3.ss (hex _).ss
 refine de ⟨g1.of 2,Nat.zero_le _,fun _ h=>by cases h⟩ fun l hl=>?_
 rcases List.mem_cons.1 hl with rfl | hl
 ·exact hx _ g3
 ·rw [List.mem_singleton.1 hl]
  refine hx _ (Tm.ss (SS.must _ 1 bIn) ?_)
  split
  ·intro t ht
   rw [nz] at ht
   exact g4 t ht
  ·exact g4
theorem IT (s:PS) (g:Tm B s) (pos:Int):Sm B (ifS ex s pos).1:=by
 unfold ifS
 simp only
 have g1:=(g.ss (hex _).ss).ss (SS.must _ 1 qq)
 have g2:=(g1.ss (hex _).ss).ss (SS.must _ 1 pP)
 refine de (ou _ _) fun l hl=>?_
 simp only [List.mem_cons,List.not_mem_nil,or_false] at hl
 rcases hl with rfl | rfl | rfl
 ·exact hx _ g
 ·exact hx _ g1
 ·exact hx _ g2
theorem FR (s:PS) (g:Tm B s):Sm B (oK ex s).1:=by
 have gn:=g.ss (SS.next s)
 unfold oK
 simp only
 repeat' split
 ·exact de ⟨gn.of 2,Nat.zero_le _,fun _ h=>by cases h⟩ fun l hl=>by rw [List.mem_singleton.1 hl];exact hx _ ((gn.ss (SS.of _ 2)).ss (SS.must _ 7 bTo))
 ·exact HI hex hx _ gn _
 ·exact IT hex hx _ gn _
 ·exact HU hex hx s g
end
theorem rv {B:Nat}:∀ (m:Nat) (s:PS),Tm B s→Sm B (ia m s).1
 | 0,s,_=>xa
 | m+1,s,g=>by
   unfold ia
   split
   ·exact xa
   ·exact FR (fK m) (rv m) _ g
theorem q5:∀ (m:Nat) (r:List UInt8) (i:Nat) (acc:List UInt8),(dQ m r i acc).1.length≤200
 | 0,_,_,_=>Nat.zero_le _
 | _+1,[],_,_=>Nat.zero_le _
 | m+1,c::r,i,acc=>by
   unfold dQ
   split
   ·split
    ·exact Nat.zero_le _
    ·simp only;omega
   split
   ·split
    ·exact Nat.zero_le _
    ·exact q5 m _ _ _
   split
   ·exact q5 m _ _ _
   ·exact Nat.zero_le _
theorem GM (s:List UInt8):(dG s).t.s.length≤200:=by
 unfold dG
 split
 ·unfold nM
  repeat' split
  ·exact Nat.zero_le _
  all_goals (show (s.take _).length≤_;rw [List.length_take];omega)
 split
 ·unfold ux
  repeat' split
  ·exact Nat.zero_le _
  ·exact Nat.zero_le _
  ·show ((s.drop 1).take _).length≤_;rw [List.length_take];omega
 split
 ·exact Nat.zero_le _
 split
 ·unfold uN cS
  repeat' split
  ·exact Nat.zero_le _
  ·exact q5 _ _ _ _
  ·exact Nat.zero_le _
 ·unfold m6
  repeat' split
  ·show (s.take _).length≤_;rw [List.length_take];omega
  ·exact Nat.zero_le _
  ·show (s.take _).length≤_;rw [List.length_take];omega
theorem Cz:∀ (m:Nat) (s:List UInt8) (a:Nat),∀ q∈ec m s a,q.2.t.s.length≤200
 | 0,_,_,_,h=>by simp [ec] at h
 | m+1,s,a,q,h=>by
   unfold ec at h
   split at h
   ·cases h
   split at h
   ·rw [List.mem_singleton.1 h];exact GM _
   ·rcases List.mem_cons.1 h with rfl | h
    ·exact GM _
    ·exact Cz m _ _ q h
theorem GA (s:List UInt8):∀ t∈(da s).1,t.s.length≤200:=by
 unfold da
 split
 ·intro _ h;cases h
 ·intro t ht
  obtain ⟨q,hq,rfl⟩:=List.mem_map.1 ht
  exact Cz _ _ _ q hq
end Go.Proofs.YtejpnabbmgpmaaaGreat

namespace Go.Proofs.YtejpnabbmgpmaaaGreat
open Go.Ab
def fQ (q:List EN × Int × Int):AV:=.tup [.d (if q.2.2=0 then exD q.1 else .agg [.nils]),.d (i64 q.2.1),.d (i64 q.2.2)]
theorem Hs {G} (s:PS) (ns:List EN) (hN:ns.length≤1000000) (hs:∀ n∈ns,fO BIG n):HCall Tryz.prog G 56 [.at [100] 0,.d (exD ns)] (RO s) [100,101] (fun r hp'=>r=fQ (nF s ns)∧hp'=RO s):=by
 generalize hR:nF s ns=R
 unfold nF at hR
 have c1:=EP (G:=G) ns (fun n=>decide (1048576<n.pos)) 102 [] hN (fun x _=>FU x)
 have c2:=jO (G:=G) ns hs hN
 generalize (ns.any fun n=>decide (1048576<n.pos))=b at c1 hR
 generalize bB ns=m at c2 hR
 have c3:=HP.clo (args:=[.d (.sl (some 9) (ns.map enD)),.clo 102 []]) rfl (fun i x y hx hy=>by
  rcases i with _ | _ | i
  ·cases hx;cases hy;exact .inl rfl
  ·cases hx;cases hy;exact .inr ⟨102,rfl,rfl⟩
  ·cases hx) c1
 unfold exD at *
 unfold RO TO ag
 refine aq Tryz.func56 rfl (by decide +kernel) (by simp [Tryz.ntmps56]) (veil fun E=>?_)
 simp only [go_sem]
 refine ab E [.at [100] 0] (RO s) [100,101] (fa s) rfl rfl ⟨by simp only [go_sem],by first | (rw [aa];decide) | (simp only [go_sem]<;>(try rw [aa])<;>decide)⟩ rfl (by unfold RO TO ag;simp only [go_sem]) (by unfold RO TO;simp only [go_sem]) ?_
 rintro _ _ ⟨rfl,rfl⟩
 unfold RO TO ag
 simp only [go_sem]
 refine aZ E (fun h=>?_) (fun h=>?_)<;>simp only [go_sem]
 ·have h':¬ s.err=0:=by simpa using h
  rw [if_pos h'] at hR
  refine aj mixed E fun X=>?_
  simp only [go_sem]
  refine bS X (d:=13) [100] 0 none [.at [101] 0,.d (i64 s.err),.d (i64 s.pos),.d (i64 s.nest)] (by simp only [go_sem]) rfl rfl ?_
  simp only [go_sem]
  refine bS X (d:=17) [100] 0 none [.at [101] 0,.d (i64 s.err),.d (i64 s.pos),.d (i64 s.nest)] (by simp only [go_sem]) rfl rfl ?_
  simp only [go_sem]
  refine ⟨by decide +kernel,?_⟩
  subst hR
  have he:fQ ([],s.pos,s.err)=.tup [.d (.agg [.nils]),.d (i64 s.pos),.d (i64 s.err)]:=by unfold fQ;rw [if_neg h']
  rw [he]
  refine ⟨_,_,[100,101],id,⟨rfl,rfl⟩,?_⟩
  simp only [go_sem]
 rw [if_neg (by simpa using h)] at hR
 refine ab E [.d (.sl (some 9) (ns.map enD)),.clo 102 []] [] [] c3 rfl rfl ⟨by simp only [go_sem],by rw [aa];decide⟩ rfl (by simp only [go_sem]) (by simp only [go_sem]) ?_
 rintro _ _ ⟨rfl,_,rfl⟩
 simp only [go_sem]
 refine aZ E (fun h=>?_) (fun h=>?_)<;>simp only [go_sem]
 ·rw [if_pos h] at hR
  subst hR
  have he:fQ ([],0,7)=.tup [.d (.agg [.nils]),.d (i64 0),.d (i64 7)]:=by unfold fQ;rw [if_neg (by decide)]
  rw [he]
  refine ⟨_,_,[100,101],id,⟨rfl,rfl⟩,?_⟩
  simp only [go_sem]
 rw [if_neg (by rw [h];decide)] at hR
 refine ae E c2 rfl rfl (by simp) ?_
 rintro _ rfl
 simp only [go_sem]
 refine aZ E (fun h=>?_) (fun h=>?_)<;>simp only [go_sem]
 ·have h':¬ m=0:=by simpa using h
  rw [if_pos h'] at hR
  subst hR
  have he:fQ ([],0,m)=.tup [.d (.agg [.nils]),.d (i64 0),.d (i64 m)]:=by unfold fQ;rw [if_neg h']
  rw [he]
  refine ⟨_,_,[100,101],id,⟨rfl,rfl⟩,?_⟩
  simp only [go_sem]
 ·have h':m=0:=by simpa using h
  rw [if_neg (by simpa using h')] at hR
  subst hR
  have he:fQ (ns,0,0)=.tup [.d (.agg [.sl (some 9) (ns.map enD)]),.d (i64 0),.d (i64 0)]:=by unfold fQ;rw [if_pos rfl];rfl
  rw [he]
  refine ⟨_,_,[100,101],id,⟨rfl,rfl⟩,?_⟩
  simp only [go_sem]
theorem Fj {G} (l:List Tok) (fin:Int) (hl:l.length≤1000000):HCall Tryz.prog G 52 [.d (ag l),.d (i64 fin)] [] [] (fun r hp'=>r=.at [101] 0∧hp'=[([101],.box [.vw [102] 0 l.length,.d (i64 fin)]),([102],.arr (some 4) (l.map gp))]):=by
 unfold ag
 refine aq Tryz.func52 rfl (by decide +kernel) (by simp [Tryz.ntmps52]) (veil fun E=>?_)
 simp only [go_sem]
 refine ⟨by omega,?_⟩
 refine ⟨_,_,[101,102],tau [([101],[9]),([102],[6])],⟨rfl,rfl⟩,?_⟩
 simp only [go_sem]
 all_goals rfl
theorem Hk {G} (l:List Tok) (fin:Int) (hl:l.length≤1000000):HCall Tryz.prog G 52 [.d (ag l),.d (i64 fin)] [] [] (fun r hp'=>r=.at [101] 0∧hp'=TO l fin) :=
 HCall.fA (Fj l fin hl) [102] (by
  rintro r hp' ⟨rfl,rfl⟩
  refine ⟨some 4,l.map gp,by simp only [go_sem],by simp only [go_sem],?_⟩
  unfold TO ag
  simp only [go_sem])
theorem yz {s:PS} {ns:List EN} {r:PS} (h:GP 1 s (ns,r)) (hl:s.l.length≤100000) (hn:Sm 200 ns):ns.length≤1000000∧∀ n∈ns,fO BIG n:=by
 have h1:=h.sz
 have h2:=h.wd
 simp only at h1
 refine ⟨by omega,fun n hm=>?_⟩
 obtain ⟨a,b,c⟩:=hn n hm
 have:=h2 n hm
 simp only at this
 exact ⟨by unfold BIG;omega,by unfold BIG;omega,by omega,fun f hf=>⟨by have:=(c f hf).1;unfold BIG;omega,by have:=(c f hf).2;unfold BIG;omega⟩⟩
set_option maxHeartbeats 1000000 in
theorem He {G} (s:List UInt8) (hl:s.length≤100000):HP Tryz.prog G 15 [.str s] (fun r=>r=fQ (bL s)):=by
 generalize hR:bL s=R
 unfold bL at hR
 obtain ⟨hl1,hl2,hl3,hl4⟩:=Ap s
 have hls:=GA s
 cases hb:kI (aQ s) with
 | some q =>
   obtain ⟨i,e⟩:=q
   have c1:=F4 (G:=G) s (by omega) hb
   have hne:=su hb
   have hlx:da s=([],i,e):=by unfold da;rw [hb]
   rw [hlx,if_pos hne] at hR
   simp only at hR hne
   have he:fQ R=.tup [.d (.agg [.nils]),.d (i64 i),.d (i64 e)]:=by rw [← hR];unfold fQ;rw [if_neg hne]
   rw [he]
   refine aR Tryz.func15 rfl (by decide +kernel) (by simp [Tryz.ntmps15]) (veil fun E=>?_)
   simp only [go_sem]
   refine ae E c1 rfl rfl (by simp) ?_
   rintro _ rfl
   simp only [go_sem]
   refine aZ E (fun h=>?_) (fun h=>absurd (by simpa using h) hne)<;>simp only [go_sem]
   refine ⟨[],?_⟩
   simp only [go_sem]
 | none =>
   have c1:=G5 (G:=G) s (by omega) hb
   have hz:(da s).2.2=0:=by unfold da;rw [hb]
   rw [if_neg (by rw [hz];decide)] at hR
   rw [hz] at c1
   generalize da s=q at c1 hR hl1 hl2 hl3 hls
   obtain ⟨l,n,z⟩:=q
   simp only at c1 hR hl1 hl2 hl3 hls
   have c2:=Hk (G:=G) l n (by omega)
   have hst:lu l n=⟨l,n,0,0,0⟩:=rfl
   obtain ⟨st,hs⟩:∃ st,st=lu l n:=⟨_,rfl⟩
   rw [← hs] at hR hst
   have hsl:st.l.length≤100000:=by rw [hst];simp only;omega
   have c3:=At (G:=G) 100 0 rfl st hsl (by rw [hst])
   have g3:=fK 100 st
   have n3:=rv (B:=200) 100 st (by rw [hst];exact hls)
   obtain ⟨x,s2,hx⟩:∃ x s2,ia 100 st=(x,s2):=⟨_,_,rfl⟩
   rw [hx] at c3 g3 n3 hR
   simp only at c3 n3 hR
   have hl2':=g3.ss.len
   simp only at hl2'
   obtain ⟨hxl,hxs⟩:=yz g3 hsl n3
   have c4:=vH (G:=G) s2.l s2.fin
   have c5:=ot (G:=G) s2 (by omega)
   have c6:=Hs (G:=G) (u6 s2) x hxl hxs
   unfold u6 at hR c6
   unfold exD at c3 c6
   unfold ag at c2
   refine aR Tryz.func15 rfl (by decide +kernel) (by simp [Tryz.ntmps15]) (veil fun E=>?_)
   simp only [go_sem]
   refine ae E c1 rfl rfl (by simp) ?_
   rintro _ rfl
   simp only [go_sem]
   refine ab E [.d (.sl (some 4) (l.map gp)),.d (i64 n)] [] [] c2 rfl rfl ⟨by simp only [go_sem],by rw [aa];decide⟩ rfl (by simp only [go_sem]) (by simp only [go_sem]) ?_
   rintro _ _ ⟨rfl,rfl⟩
   unfold TO ag
   simp only [go_sem]
   rw [hst] at c3
   refine cL E (tau [([100],[25]),([101],[23,101])]) [.at [100] 0] (RO ⟨l,n,0,0,0⟩) [100,101] (c3) rfl (by simp only [go_sem];try rfl) ⟨by simp only [go_sem],by first | (rw [aa];decide) | (simp only [go_sem]<;>(try rw [aa])<;>decide)⟩ rfl (by unfold RO TO ag;simp only [go_sem];try rfl) (by unfold RO TO;simp only [go_sem]) ?_
   rintro _ _ ⟨rfl,rfl⟩
   unfold RO TO ag
   simp only [go_sem]
   refine cL E (tau [([101],[23,101])]) [.at [101] 0] (TO s2.l s2.fin) [101] c4 rfl (by simp only [go_sem];try rfl) ⟨by simp only [go_sem],by rw [aa];decide⟩ rfl (by unfold TO ag;simp only [go_sem];try rfl) (by unfold TO;simp only [go_sem]) ?_
   rintro _ _ ⟨rfl,rfl⟩
   unfold TO ag
   simp only [go_sem]
   refine aZ E (fun h=>?_) (fun h=>?_)<;>simp only [go_sem]
   ·have h':s2.l.isEmpty=false:=by simpa using h
    rw [h'] at hR c6
    simp only [Bool.false_eq_true,if_false] at hR c6
    refine cL E (tau [([100],[25]),([101],[23,101])]) [.at [100] 0] (RO s2) [100,101] (c5) rfl (by simp only [go_sem];try rfl) ⟨by simp only [go_sem],by first | (rw [aa];decide) | (simp only [go_sem]<;>(try rw [aa])<;>decide)⟩ rfl (by unfold RO TO ag;simp only [go_sem];try rfl) (by unfold RO TO;simp only [go_sem]) ?_
    rintro _ _ ⟨rfl,rfl⟩
    unfold RO TO ag
    simp only [go_sem]
    refine cL E (tau [([100],[25]),([101],[23,101])]) [.at [100] 0,.d (.agg [.sl (some 9) (x.map enD)])] (RO s2.wrong) [100,101] (c6) rfl (by simp only [go_sem];try rfl) ⟨by simp only [go_sem],by first | (rw [aa];decide) | (simp only [go_sem]<;>(try rw [aa])<;>decide)⟩ rfl (by unfold RO TO ag;simp only [go_sem];try rfl) (by unfold RO TO;simp only [go_sem]) ?_
    rintro _ _ ⟨rfl,rfl⟩
    unfold RO TO ag
    simp only [go_sem]
    rw [hR]
    unfold fQ exD
    by_cases hz:R.2.2=0
    ·simp only [if_pos hz]
     simp only [go_sem]
     refine ⟨[],?_⟩
     simp only [go_sem]
     unfold fQ exD
     rw [if_pos hz]
    ·simp only [if_neg hz]
     simp only [go_sem]
     refine ⟨[],?_⟩
     simp only [go_sem]
     unfold fQ
     rw [if_neg hz]
   ·have h':s2.l.isEmpty=true:=by simpa using h
    rw [h'] at hR c6
    simp only [if_true] at hR c6
    refine cL E (tau [([100],[25]),([101],[23,101])]) [.at [100] 0,.d (.agg [.sl (some 9) (x.map enD)])] (RO s2) [100,101] (c6) rfl (by simp only [go_sem];try rfl) ⟨by simp only [go_sem],by first | (rw [aa];decide) | (simp only [go_sem]<;>(try rw [aa])<;>decide)⟩ rfl (by unfold RO TO ag;simp only [go_sem];try rfl) (by unfold RO TO;simp only [go_sem]) ?_
    rintro _ _ ⟨rfl,rfl⟩
    unfold RO TO ag
    simp only [go_sem]
    rw [hR]
    unfold fQ exD
    by_cases hz:R.2.2=0
    ·simp only [if_pos hz]
     simp only [go_sem]
     refine ⟨[],?_⟩
     simp only [go_sem]
     unfold fQ exD
     rw [if_pos hz]
    ·simp only [if_neg hz]
     simp only [go_sem]
     refine ⟨[],?_⟩
     simp only [go_sem]
     unfold fQ
     rw [if_neg hz]
end Go.Proofs.YtejpnabbmgpmaaaGreat

namespace Go.Proofs.YtejpnabbmgpmaaaGreat
open Go.Ab
theorem wh {s:List UInt8} (hl:s.length≤100000) (h:(bL s).2.2=0):(bL s).1.length≤1000000∧∀ n∈(bL s).1,fO BIG n:=by
 obtain ⟨_,_,hl3,_⟩:=Ap s
 have hls:=GA s
 unfold bL at h ⊢
 split
 ·rename_i g;rw [if_pos g] at h;exact absurd h g
 rename_i he
 rw [if_neg he] at h
 have g3:=fK 100 (lu (da s).1 (da s).2.1)
 have n3:=rv (B:=200) 100 (lu (da s).1 (da s).2.1) hls
 have hx:=yz g3 (by show (da s).1.length≤_;omega) n3
 unfold nF at h ⊢
 repeat' split
 ·exact ⟨Nat.zero_le _,fun _ h=>by cases h⟩
 ·exact ⟨Nat.zero_le _,fun _ h=>by cases h⟩
 ·exact ⟨Nat.zero_le _,fun _ h=>by cases h⟩
 ·exact hx
end Go.Proofs.YtejpnabbmgpmaaaGreat

namespace Go.Proofs.YtejpnabbmgpmaaaGreat
open Go.Ab
theorem wJ:∀ {xs:List D} {ns:List EN},RwL xs ns→(∀ x∈xs,okW (some 9) x∧oks [.int .i64,.int .i64,.int .i64,.int .i64,.int .i64,.str,.str,.sl (some 3) [.str,.str,.int .i64],.int .i64] x.cells)→∀ n∈ns,inR n.n
 | [],[],_,_,n,hn=>by cases hn
 | x::xs,m::ns,h,hx,n,hn=>by
   rcases List.mem_cons.1 hn with rfl | hn
   ·obtain ⟨F,rfl,_⟩:=h.1
    have h2:=(hx _ List.mem_cons_self).2
    exact h2.2.2.2.2.1.2
   ·exact wJ h.2 (fun y hy=>hx y (List.mem_cons_of_mem _ hy)) n hn
 | [],_::_,h,_,_,_=>h.elim
 | _::_,[],h,_,_,_=>h.elim
theorem H4 {ds:List D} (h:oks HE ds):∃ ns,Wk (.agg ds) (exD ns)∧ns.length≤maxLen∧(∀ n∈ns,InN n)∧∀ n∈ns,inR n.n:=by
 match ds,h with
 | [L],h =>
   obtain ⟨h1,_⟩:=h
   cases L with
   | nils =>
     refine ⟨[],Wk.agg rfl (by simp [D.scal]) fun i a b ha hb=>?_,by simp,by simp,by simp⟩
     match i,ha,hb with
     | 0,ha,hb=>cases ha;cases hb;exact .nils _
   | sl w xs =>
     obtain ⟨rfl,g1,g2⟩:=h1
     obtain ⟨ns,k1,k2⟩:=AS g2
     exact ⟨ns,Jm k1,by rw [← k1.len];exact g1,k2,wJ k1 g2⟩
   | _=>exact h1.elim
theorem Eu {ns:List EN} (hn:∀ n∈ns,InN n) (hr:∀ n∈ns,inR n.n):Any (uc ns):=by
 have hin:=A7 hn
 refine ⟨fun n h=>(hin.2 n h).1,by have:=hin.1;omega,fun n h=>?_⟩
 unfold uc at h
 obtain ⟨m,hm,rfl⟩:=List.mem_map.1 h
 exact hr m (List.mem_of_mem_take hm)
end Go.Proofs.YtejpnabbmgpmaaaGreat

namespace Go.Proofs.YtejpnabbmgpmaaaGreat
open Go.Ab
def exW:List UInt8:=[40,102,117,110,32,120,32,45,62,32,120,32,43,32,49,41,32,50]
theorem qn:(bL exW).2.2=0∧(bL exW).2.1=0∧((bL exW).1.all fun n=>decide (-9223372036854775808≤n.n) && decide (n.n≤9223372036854775807))=true:=by decide +kernel
theorem Bj:(ar (bL exW).1).2.1=5∧(ar (bL exW).1).2.2=0∧(ar (bL exW).1).1.length=3:=by decide +kernel
theorem Es:(nT (bL exW).1 9).2.2.2=0∧(nT (bL exW).1 9).2.1=1∧(nT (bL exW).1 9).2.2.1=2∧(nT (bL exW).1 9).1.length=1∧(ndE (nT (bL exW).1 9).1 0).n=3:=by decide +kernel
theorem yg:Any (bL exW).1:=by
 obtain ⟨h1,_,h3⟩:=qn
 obtain ⟨g1,g2⟩:=wh (s:=exW) (by decide) h1
 refine ⟨g2,g1,fun n hn=>?_⟩
 have:=List.all_eq_true.1 h3 n hn
 simpa [inR] using this
set_option maxHeartbeats 1000000 in
theorem BZ {G}:HP Tryz.prog G 35 [] (fun r=>r=.d (.bool true)):=by
 have c1:=He (G:=G) exW (by decide)
 have c2:=v9 (G:=G) _ yg
 have c3:=Ai (G:=G) _ 9 yg (by decide)
 obtain ⟨h1,h2,_⟩:=qn
 obtain ⟨s1,s2,s3⟩:=Bj
 obtain ⟨r1,r2,r3,r4,r5⟩:=Es
 generalize bL exW=P at *
 generalize ar P.1=S at *
 generalize nT P.1 9=R at *
 rw [show fQ P=.tup [.d (.agg [.sl (some 9) (P.1.map enD)]),.d (i64 0),.d (i64 0)] by unfold fQ exD;rw [if_pos h1,h1,h2]] at c1
 rw [show m8 S=.tup [.d (.agg [.sl (some 9) (S.1.map enD)]),.d (i64 5),.d (i64 0)] by unfold m8 exD;rw [if_pos s2,s1,s2]] at c2
 rw [show bF R=.tup [.d (.agg [.sl (some 9) (R.1.map enD)]),.d (i64 1),.d (i64 2),.d (i64 0)] by unfold bF exD;rw [if_pos r1,r1,r2,r3]] at c3
 have hg:=aN (show 0<R.1.length by omega)
 unfold exW at c1
 unfold exD at c2 c3
 refine ao Tryz.func35 rfl (by decide +kernel) (by simp [Tryz.ntmps35]) (veil fun E=>?_)
 simp only [go_sem]
 refine ae E (c1) rfl rfl (by simp) ?_
 rintro _ rfl
 simp only [go_sem]
 refine ae E (c2) rfl rfl (by simp) ?_
 rintro _ rfl
 simp only [go_sem]
 refine ae E (c3) rfl rfl (by simp) ?_
 rintro _ rfl
 simp only [go_sem]
 rw [s3]
 simp only [go_sem]
 rw [r4]
 simp only [go_sem]
 rw [hg,r5]
 simp only [go_sem]
 omega
set_option maxHeartbeats 1000000 in
theorem Ib {G} (ns:List EN) (hN:ns.length≤1000000) (hl:∀ n∈ns,n.l.length≤1000000):HP Tryz.prog G 34 [exD ns,exD ns] (fun r=>r=.d (.bool true)):=by
 have c1:=GV (G:=G) ns hN hl
 unfold exD at *
 refine ao Tryz.func34 rfl (by decide +kernel) (by simp [Tryz.ntmps34]) (veil fun E=>?_)
 simp only [go_sem]
 refine ae E (c1) rfl rfl (by simp) ?_
 rintro _ rfl
 simp only [go_sem]
 refine a9 E (X:={ q:Nat // q≤ns.length }) (fun y=>[(2,.at [2] 0),(3,.at [3] 0),(5,.d (i64 y.1))])
  (fun _=>[([2],.box [.d (.sl (some 9) (ns.map enD))]),([3],.box [.d (.sl (some 9) (ns.map enD))])]) [2,3] (fun y=>ns.length-y.1) ⟨0,Nat.zero_le _⟩ id ?_ ?_
 ·simp only [go_sem]
  all_goals ((repeat' apply And.intro)<;>first | rfl | trivial)
 rintro ⟨q,hq⟩ E0
 refine bb E0 fun Q' hQ E'=>?_
 simp only at hq ⊢
 simp only [go_sem]
 refine ai E' (fun f1=>?_) (fun f1=>?_)<;>simp only [go_sem]
 ·have hq':q<ns.length:=by omega
  have hg:=aN hq'
  refine aj mixed E' fun X=>?_
  simp only [go_sem]
  refine ⟨⟨by omega,by omega⟩,?_⟩
  rw [hg]
  simp only [go_sem]
  refine ⟨⟨by omega,by omega⟩,?_⟩
  rw [hg]
  simp only [go_sem]
  refine ⟨by decide +kernel,?_⟩
  rw [ak ⟨by omega,by omega⟩,hQ]
  simp only [go_sem]
  refine ⟨⟨q+1,by omega⟩,by show ns.length-(q+1)<_;omega,id,?_⟩
  simp only [go_sem]
  all_goals ((repeat' apply And.intro)<;>first | rfl | trivial)
 ·rw [hQ]
  simp only [go_sem]
theorem EW {ns:List EN} (ha:Any ns):(ar ns).1.length≤1000000∧(∀ n∈(ar ns).1,n.l.length≤1000000)∧(¬ (ar ns).2.2=0→(ar ns).1=[]):=by
 by_cases h0:(ar ns).2.2=0
 ·have hm:bB ns=0:=by
   unfold ar at h0
   by_cases hm:bB ns=0
   ·exact hm
   ·rw [if_pos hm] at h0;exact absurd h0 hm
  have hr:=ng ⟨hm,ha.rng⟩ h0
  refine ⟨by have:=hr.t.few;omega,fun n hn=>by have:=oH hr.t n hn;omega,fun h=>absurd h0 h⟩
 ·have:=(nr h0).1
  rw [this]
  exact ⟨by simp,by simp,fun _=>rfl⟩
end Go.Proofs.YtejpnabbmgpmaaaGreat

namespace Go.Proofs.YtejpnabbmgpmaaaGreat
open Go.Ab
mutual
def clT (b:List UInt8→Bool):RT→Bool
 | .mk n ts=>if n.k=4 then b n.name else du b n 0 ts
def du (b:List UInt8→Bool) (n:EN):Nat→List RT→Bool
 | _,[]=>true
 | k,t::r=>clT (fun x=>aS n k x || b x) t && du b n (k+1) r
end
mutual
theorem bR:∀ (t:RT) (b c:List UInt8→Bool),(∀ x,b x=true→c x=true)→clT b t=true→clT c t=true
 | .mk n ts,b,c,h,hb=>by
   rw [clT] at hb ⊢
   split
   ·rename_i h4
    rw [if_pos h4] at hb
    exact h _ hb
   ·rename_i h4
    rw [if_neg h4] at hb
    exact uG n 0 ts b c h hb
theorem uG (n:EN):∀ (k:Nat) (ts:List RT) (b c:List UInt8→Bool),(∀ x,b x=true→c x=true)→du b n k ts=true→du c n k ts=true
 | _,[],_,_,_,_=>by rw [du]
 | k,t::r,b,c,h,hb=>by
   rw [du,Bool.and_eq_true] at hb ⊢
   refine ⟨bR t _ _ (fun x hx=>?_) hb.1,uG n (k+1) r b c h hb.2⟩
   rw [Bool.or_eq_true] at hx ⊢
   exact hx.imp id (h x)
end
theorem mN (b:List UInt8→Bool) (n:EN):∀ (ts:List RT) (k j:Nat),j<ts.length→du b n k ts=true→clT (fun x=>aS n (k+j) x || b x) (ts.getD j aC)=true
 | [],_,_,h,_=>absurd h (Nat.not_lt_zero _)
 | t::r,k,0,_,hb=>by
   rw [du,Bool.and_eq_true] at hb
   exact hb.1
 | t::r,k,j+1,h,hb=>by
   rw [du,Bool.and_eq_true] at hb
   have:=mN b n r (k+1) j (by simpa using h) hb.2
   rw [show k+(j+1)=k+1+j by omega]
   exact this
theorem rH (b:List UInt8→Bool) (n:EN):∀ (ts:List RT) (k:Nat),(∀ j,j<ts.length→clT (fun x=>aS n (k+j) x || b x) (ts.getD j aC)=true)→du b n k ts=true
 | [],_,_=>by rw [du]
 | t::r,k,h=>by
   rw [du,Bool.and_eq_true]
   refine ⟨h 0 (Nat.zero_lt_succ _),rH b n r (k+1) fun j hj=>?_⟩
   have:=h (j+1) (Nat.succ_lt_succ hj)
   rw [show k+(j+1)=k+1+j by omega] at this
   exact this
theorem jN {b:List UInt8→Bool} {n:EN} {ts:List RT} (h:clT b (.mk n ts)=true) (h4:n.k≠4) {j:Nat} (hj:j<ts.length):clT (fun x=>aS n j x || b x) (ts.getD j aC)=true:=by
 rw [clT,if_neg h4] at h
 have:=mN b n ts 0 j hj h
 rwa [Nat.zero_add] at this
def noN:List UInt8→Bool:=fun _=>false
mutual
theorem oS {x:List UInt8} {v:RT} (hv:clT noN v=true):∀ (t:RT) (b:List UInt8→Bool),clT (fun y=>(y == x) || b y) t=true→clT b (dE x v t)=true
 | .mk n ts,b,h=>by
   rw [clT] at h
   rw [dE]
   by_cases h4:n.k=4
   ·rw [if_pos h4] at h
    split
    ·exact bR v noN b (fun _ hx=>by cases hx) hv
    ·rename_i hn
     rw [clT,if_pos h4]
     rw [Bool.or_eq_true] at h
     refine h.resolve_left fun e=>hn ⟨h4,by simpa using e⟩
   ·rw [if_neg h4] at h
    rw [if_neg (fun e=>h4 e.1),clT,if_neg h4]
    exact xw hv n 0 ts b h
theorem xw {x:List UInt8} {v:RT} (hv:clT noN v=true) (n:EN):∀ (k:Nat) (ts:List RT) (b:List UInt8→Bool),du (fun y=>(y == x) || b y) n k ts=true→du b n k (dx x v n k ts)=true
 | _,[],_,_=>by rw [dx,du]
 | k,t::r,b,h=>by
   rw [du,Bool.and_eq_true] at h
   rw [dx,du,Bool.and_eq_true]
   refine ⟨?_,xw hv n (k+1) r b h.2⟩
   split
   ·rename_i hh
    refine bR t _ _ (fun y hy=>?_) h.1
    simp only [Bool.or_eq_true,beq_iff_eq] at hy ⊢
    rcases hy with hy | rfl | hy
    ·exact .inl hy
    ·exact .inl hh
    ·exact .inr hy
   ·refine oS hv t _ (bR t _ _ (fun y hy=>?_) h.1)
    simp only [Bool.or_eq_true,beq_iff_eq] at hy ⊢
    rcases hy with hy | hy | hy
    ·exact .inr (.inl hy)
    ·exact .inl hy
    ·exact .inr (.inr hy)
end
theorem nN {n:EN} {j:Nat} (h:n.k≠5∧n.k≠8∧(n.k=7→j≠1)∧(n.k=14→j=0)) (x:List UInt8):aS n j x=false:=by
 unfold aS
 obtain ⟨h5,h8,h7,h14⟩:=h
 rw [if_neg (by omega)]
 by_cases k7:n.k=7
 ·rw [if_pos k7]
  have:=h7 k7
  simp [this]
 rw [if_neg k7]
 by_cases k14:n.k=14
 ·rw [if_pos k14]
  have:=h14 k14
  simp [this]
 ·rw [if_neg k14]
theorem eE {n:EN} {ts:List RT} (h:clT noN (.mk n ts)=true) (h4:n.k≠4) {j:Nat} (hj:j<ts.length) (hn:n.k≠5∧n.k≠8∧(n.k=7→j≠1)∧(n.k=14→j=0)):clT noN (ts.getD j aC)=true :=
 bR _ _ _ (fun x hx=>by rw [nN hn] at hx;exact hx) (jN h h4 hj)
theorem mk_eq (t:RT):t=.mk t.lab t.kids:=by cases t;rfl
theorem zf {n:EN} {f:RT} (hf:clT (fun x=>n.name == x) f=true) (k5:f.lab.k=5) (hl:f.kids.length=1):clT noN (dN n f)=true:=by
 have hk:clT (fun x=>aS f.lab 0 x || (n.name == x)) (f.kid 0)=true:=by
  rw [mk_eq f] at hf
  exact jN hf (by omega) (by omega)
 have h5:∀ x,aS f.lab 0 x=(f.lab.name == x):=fun x=>by unfold aS;rw [if_pos (.inl k5)]
 unfold dN
 split
 ·rename_i hn
  rw [mk_eq f,clT,if_neg (by omega)] at hf ⊢
  refine rH _ _ _ 0 fun j hj=>?_
  have:=mN _ _ _ 0 j hj hf
  refine bR _ _ _ (fun x hx=>?_) this
  have hj0:j=0:=by omega
  subst hj0
  simp only [Bool.or_eq_true,Nat.zero_add,h5] at hx ⊢
  rcases hx with hx | hx
  ·exact .inl hx
  ·rw [hn];exact .inl hx
 ·rw [clT,if_neg (by show ¬ (5:Int)=4;decide),du,du,Bool.and_true,clT,if_neg (by show ¬ (8:Int)=4;decide),du,du,du,Bool.and_true,Bool.and_eq_true]
  constructor
  ·refine bR _ _ _ (fun x hx=>?_) hf
   rw [Bool.or_eq_true]
   exact .inl hx
  ·refine bR _ _ _ (fun x hx=>?_) hk
   rw [h5,Bool.or_eq_true] at hx
   rw [Bool.or_eq_true,Bool.or_eq_true]
   rcases hx with hx | hx
   ·exact .inr (.inl hx)
   ·exact .inl hx
theorem xV (n:EN) (h:n.k≠4):clT noN (kH n)=true:=by
 unfold kH
 rw [clT,fx,if_neg h,du]
theorem DD {n:EN} {ts:List RT} (hg:(RT.mk n ts).good) (hl:n.k=8→(ts.getD 0 aC).lab.k=5) (h:clT noN (.mk n ts)=true) (h5:(az n ts).1=5):clT noN (az n ts).2=true:=by
 obtain ⟨⟨hw,_,_⟩,hgs⟩:=bj.1 hg
 have hG:∀ j,j<ts.length→(ts.getD j aC).good:=fun j hj=>hgs _ (kL hj)
 unfold az at h5 ⊢
 simp only at h5 ⊢
 by_cases k6:n.k=6
 ·rw [ck (by rw [k6];rfl),k6] at hw
  have hw:ts.length=2:=hw.symm
  rw [if_pos k6] at h5 ⊢
  split at h5
  ·rename_i hk
   rw [if_pos hk]
   have c0:=eE h (by omega) (j:=0) (by omega) (by omega)
   have c1:=eE h (by omega) (j:=1) (by omega) (by omega)
   have hkl:(ts.getD 0 aC).kids.length=1:=by rw [cU (hG 0 (by omega)),ck (by rw [hk];rfl),hk];rfl
   rw [mk_eq (ts.getD 0 aC)] at c0
   refine oS c1 _ _ (bR _ _ _ (fun x hx=>?_) (jN c0 (by omega) (j:=0) (by omega)))
   unfold aS at hx
   rw [if_pos (.inl hk)] at hx
   simp only [Bool.or_eq_true,beq_iff_eq,noN] at hx ⊢
   exact .inl (hx.resolve_right (by decide)).symm
  ·exact absurd h5 (by show ¬ (4:Int)=5;decide)
 rw [if_neg k6] at h5 ⊢
 by_cases k7:n.k=7
 ·rw [ck (by rw [k7];rfl),k7] at hw
  have hw:ts.length=2:=hw.symm
  rw [if_pos k7]
  refine oS (eE h (by omega) (j:=0) (by omega) (by omega)) _ _ (bR _ _ _ (fun x hx=>?_) (jN h (by omega) (j:=1) (by omega)))
  unfold aS at hx
  rw [if_neg (by omega),if_pos k7] at hx
  simp only [Bool.or_eq_true,Bool.and_eq_true,beq_iff_eq,noN] at hx ⊢
  exact .inl (hx.resolve_right (by decide)).1.symm
 rw [if_neg k7] at h5 ⊢
 by_cases k8:n.k=8
 ·rw [ck (by rw [k8];rfl),k8] at hw
  have hw:ts.length=2:=hw.symm
  have hk:=hl k8
  rw [if_pos k8]
  have h8:∀ j x,aS n j x=(n.name == x):=fun j x=>by unfold aS;rw [if_pos (.inr k8)]
  have hkl:(ts.getD 0 aC).kids.length=1:=by rw [cU (hG 0 (by omega)),ck (by rw [hk];rfl),hk];rfl
  refine oS (zf (bR _ _ _ (fun x hx=>?_) (jN h (by omega) (j:=0) (by omega))) hk hkl) _ _ (bR _ _ _ (fun x hx=>?_) (jN h (by omega) (j:=1) (by omega)))
  ·rw [h8] at hx
   simpa [noN] using hx
  ·rw [h8] at hx
   simp only [Bool.or_eq_true,beq_iff_eq,noN] at hx ⊢
   exact .inl (hx.resolve_right (by decide)).symm
 rw [if_neg k8] at h5 ⊢
 by_cases k9:n.k=9
 ·rw [ck (by rw [k9];rfl),k9] at hw
  have hw:ts.length=3:=hw.symm
  rw [if_pos k9] at h5 ⊢
  split at h5
  ·rename_i hk
   rw [if_pos hk]
   simp only
   split
   ·exact eE h (by omega) (j:=1) (by omega) (by omega)
   ·exact eE h (by omega) (j:=2) (by omega) (by omega)
  ·exact absurd h5 (by show ¬ (4:Int)=5;decide)
 rw [if_neg k9] at h5 ⊢
 by_cases k10:n.k=10
 ·rw [if_pos k10] at h5 ⊢
  unfold jE at h5 ⊢
  split at h5
  ·rename_i h7
   rw [if_pos h7]
   split at h5
   ·rename_i hk
    rw [if_pos hk]
    exact xV _ (by show (3:Int)≠4;decide)
   ·exact absurd h5 (by show ¬ (4:Int)=5;decide)
  ·rename_i h7
   rw [if_neg h7]
   split at h5
   ·rename_i hk
    rw [if_pos hk]
    split at h5
    ·exact absurd h5 (by show ¬ (2:Int)=5;decide)
    ·rename_i he
     rw [if_neg he]
     exact xV _ (by show (if 5≤n.n then (2:Int) else 1)≠4;split<;>decide)
   ·exact absurd h5 (by show ¬ (4:Int)=5;decide)
 rw [if_neg k10] at h5 ⊢
 by_cases k12:n.k=12
 ·rw [ck (by rw [k12];rfl),k12] at hw
  have hw:ts.length=1:=hw.symm
  rw [if_pos k12] at h5 ⊢
  split at h5
  ·rename_i hk
   rw [if_pos hk]
   have c0:=eE h (by omega) (j:=0) (by omega) (by omega)
   have hkl:(ts.getD 0 aC).kids.length=(ts.getD 0 aC).lab.l.length:=by
    rw [cU (hG 0 (by omega))]
    unfold aG
    rw [hk.1]
    show 0+_=_
    rw [Nat.zero_add]
    rfl
   rw [mk_eq (ts.getD 0 aC)] at c0
   exact eE c0 (by omega) (j:=eH (ts.getD 0 aC).lab.l n.name) (by omega) (by omega)
  ·exact absurd h5 (by show ¬ (4:Int)=5;decide)
 rw [if_neg k12] at h5 ⊢
 by_cases k14:n.k=14
 ·have hw:ts.length=1+n.l.length:=by
   rw [← hw]
   unfold aG
   rw [k14]
   rfl
  rw [if_pos k14] at h5 ⊢
  split at h5
  ·rename_i hk
   rw [if_pos hk]
   have c0:=eE h (by omega) (j:=0) (by omega) (by omega)
   have hkl:(ts.getD 0 aC).kids.length=1:=by rw [cU (hG 0 (by omega)),ck (by rw [hk.1];rfl),hk.1];rfl
   rw [mk_eq (ts.getD 0 aC)] at c0
   refine oS (eE c0 (by omega) (j:=0) (by omega) (by omega)) _ _ (bR _ _ _ (fun x hx=>?_) (jN h (by omega) (j:=eH n.l (ts.getD 0 aC).lab.name+1) (by omega)))
   unfold aS at hx
   rw [if_neg (by omega),if_neg k7,if_pos k14] at hx
   simp only [Bool.or_eq_true,Bool.and_eq_true,beq_iff_eq,noN,Nat.add_sub_cancel] at hx ⊢
   exact .inl (hx.resolve_right (by decide)).2.symm
  ·exact absurd h5 (by show ¬ (4:Int)=5;decide)
 rw [if_neg k14] at h5
 exact absurd h5 (by show ¬ (4:Int)=5;decide)
theorem wi {n:EN} {k:Nat} (h:eh n k=true) (x:List UInt8):aS n k x=false:=by
 refine nN ?_ x
 unfold eh at h
 split at h
 ·omega
 split at h
 ·have:k=0:=by simpa using h
  omega
 ·cases h
theorem wb {n:EN} {k:Nat} (h:eh n k=true):n.k≠4:=by
 unfold eh at h
 split at h
 ·omega
 split at h
 ·omega
 ·cases h
mutual
theorem GR:∀ t:RT,t.good→t.lk→clT noN t=true→(stT t).1=5→clT noN (stT t).2=true
 | .mk n ts,hg,hl,hc,h5=>by
   rw [RT.lk] at hl
   rw [stT] at h5 ⊢
   have hgs:=(bj.1 hg).2
   cases hs:gi n 0 ts with
   | none =>
     rw [hs] at h5
     exact DD hg hl.1 hc h5
   | some q =>
     rw [hs] at h5
     simp only at h5 ⊢
     by_cases hq:q.1=5
     ·rw [if_pos hq]
      obtain ⟨h4,e⟩:=Cg n 0 ts hgs hl.2 q.1 q.2 hs
      rw [clT,if_neg h4] at hc ⊢
      exact e hq hc
     ·rw [if_neg hq] at h5
      exact absurd h5 hq
theorem Cg (n:EN):∀ (k:Nat) (ts:List RT),(∀ t∈ts,t.good)→RT.lks ts→∀ h us,gi n k ts=some (h,us)→n.k≠4∧(h=5→du noN n k ts=true→du noN n k us=true)
 | _,[],_,_,h,us,e=>by rw [gi] at e;cases e
 | k,t::r,hg,hl,h,us,e=>by
   rw [RT.lks] at hl
   rw [gi] at e
   split at e
   ·rename_i hf
    rw [Bool.and_eq_true] at hf
    have e:=Option.some.inj e
    obtain ⟨rfl,rfl⟩:=Prod.mk.inj e
    refine ⟨wb hf.1,fun h5 hc=>?_⟩
    rw [du,Bool.and_eq_true] at hc ⊢
    refine ⟨?_,hc.2⟩
    refine bR _ noN _ (fun _ hx=>by cases hx) (GR t (hg t List.mem_cons_self) hl.1 (bR _ _ _ (fun x hx=>?_) hc.1) h5)
    rw [wi hf.1] at hx
    exact hx
   ·obtain ⟨q,hq,e⟩:=Option.map_eq_some_iff.1 e
    obtain ⟨rfl,rfl⟩:=Prod.mk.inj e
    obtain ⟨e1,e2⟩:=Cg n (k+1) r (fun u hu=>hg u (List.mem_cons_of_mem _ hu)) hl.2 q.1 q.2 hq
    refine ⟨e1,fun h5 hc=>?_⟩
    rw [du,Bool.and_eq_true] at hc ⊢
    exact ⟨hc.1,e2 h5 hc.2⟩
end
end Go.Proofs.YtejpnabbmgpmaaaGreat

namespace Go.Proofs.YtejpnabbmgpmaaaGreat
open Go.Ab
theorem sq {l:List EF} {j:Nat} (h:j<l.length):fdE l j=l[j]:=by simp [fdE,h]
theorem tN {ns:List EN} (ht:a8 ns) {i:Nat} (hi:i<ns.length) {j:Nat} (hj:j<(ah (ndE ns i)).length) (nm:List UInt8) :
  bG (ndE ns i) ((ah (ndE ns i)).getD j 0) nm > -2↔aS (ndE ns i) j nm=true:=by
 have hnd:=jX ht hi
 obtain ⟨n,hn⟩:∃ n,n=ndE ns i:=⟨_,rfl⟩
 rw [← hn] at hnd hj ⊢
 by_cases h58:n.k=5∨n.k=8
 ·rw [nG (by omega)]
  unfold aS
  rw [if_pos h58,beq_iff_eq]
  split
  ·rename_i e;exact ⟨fun _=>e,fun _=>by decide⟩
  ·rename_i e;exact ⟨fun h=>absurd h (by decide),fun h=>absurd h e⟩
 by_cases h7:n.k=7
 ·rw [ql (.inr (.inl h7))] at hnd hj ⊢
  have hab:n.a≠n.b:=by simpa using hnd
  unfold aS
  rw [if_neg h58,if_pos h7]
  match j,hj with
  | 0,_ =>
    rw [show ([n.a,n.b].getD 0 0)=n.a from rfl,kE (by omega) (fun _=>hab) (by omega) (fun e=>by omega)]
    simp
  | 1,_ =>
    rw [show ([n.a,n.b].getD 1 0)=n.b from rfl,nG (.inr (.inl ⟨h7,rfl⟩))]
    simp only [Bool.and_eq_true,beq_iff_eq,decide_true,and_true]
    split
    ·rename_i e;exact ⟨fun _=>e,fun _=>by decide⟩
    ·rename_i e;exact ⟨fun h=>absurd h (by decide),fun h=>absurd h e⟩
  | j+2,h=>exact absurd h (by simp)
 by_cases h14:n.k=14
 ·rw [oN h14] at hnd hj ⊢
  unfold aS
  rw [if_neg h58,if_neg h7,if_pos h14]
  have hto:∀ q,q<n.l.length→(fdE n.l q).to=(n.l.map (·.to)).getD q 0:=fun q hq=>by rw [sq hq];simp [hq]
  have hmem:∀ q,q<n.l.length→(fdE n.l q).to∈n.l.map (·.to):=fun q hq=>by rw [sq hq];exact List.mem_map.2 ⟨_,List.getElem_mem hq,rfl⟩
  obtain ⟨h1,h2⟩:=List.nodup_cons.1 hnd
  match j,hj with
  | 0,_ =>
    rw [show ((n.a::n.l.map (·.to)).getD 0 0)=n.a from rfl,kE (by omega) (fun e=>by omega) (by omega) (fun _ q hq e=>h1 (by rw [← e];exact hmem q hq))]
    simp
  | j+1,hj =>
    have hj:j<n.l.length:=by simpa using hj
    rw [show ((n.a::n.l.map (·.to)).getD (j+1) 0)=(n.l.map (·.to)).getD j 0 from rfl,← hto j hj]
    unfold bG
    rw [if_neg (by rintro (⟨a,_⟩ | ⟨a,_⟩ | ⟨a,_⟩)<;>omega),if_pos h14]
    simp only [Nat.zero_lt_succ,decide_true,Bool.true_and,Nat.add_sub_cancel,beq_iff_eq]
    have huq:∀ q,q<n.l.length→(fdE n.l q).to=(fdE n.l j).to→q=j:=fun q hq e=>by
     have g1:=List.Nodup.idxOf_getElem h2 q (by simpa using hq)
     have g2:=List.Nodup.idxOf_getElem h2 j (by simpa using hj)
     rw [sq hq,sq hj] at e
     rw [List.getElem_map,e] at g1
     rw [List.getElem_map] at g2
     omega
    cases hf:(List.range n.l.length).find? (fun q=>decide ((fdE n.l q).to=(fdE n.l j).to) && decide ((fdE n.l q).var=nm)) with
    | none =>
      have:=List.find?_eq_none.1 hf j (List.mem_range.2 hj)
      simp only [decide_true,Bool.true_and,decide_eq_true_eq] at this
      exact ⟨fun h=>absurd h (by decide),fun h=>absurd h this⟩
    | some q =>
      have hq:=List.find?_some hf
      simp only [Bool.and_eq_true,decide_eq_true_eq] at hq
      have hql:=List.mem_range.1 (List.mem_of_find?_eq_some hf)
      have:=huq q hql hq.1
      subst this
      exact ⟨fun _=>hq.2,fun _=>by show (-2:Int)<(q:Int);omega⟩
 ·rw [kE (by omega) (fun e=>absurd e h7) (by omega) (fun e=>absurd e h14)]
  unfold aS
  rw [if_neg h58,if_neg h7,if_neg h14]
  simp
theorem BP (b:List UInt8→Bool) (n:EN) (ts:List RT):du b n 0 ts=true↔∀ j,j<ts.length→clT (fun x=>aS n j x || b x) (ts.getD j aC)=true:=by
 constructor
 ·intro h j hj
  have:=mN b n ts 0 j hj h
  rwa [Nat.zero_add] at this
 ·intro h
  exact rH b n ts 0 fun j hj=>by rw [Nat.zero_add];exact h j hj
theorem Br {ns:List EN} (ht:a8 ns):∀ (m i:Nat),i<m→i<ns.length→∀ b:List UInt8→Bool,(∀ nm q,ns.length≤i+q+1→(0≤(climb ns (lh ns) nm q i ((lh ns).getD i 0)).1↔b nm=true)) →
  (clT b (trE ns i)=true↔∀ x:Nat,(x:Int)∈aJ ns m (i:Int)→(ndE ns x).k=4→0≤(fy ns x).1)
 | 0,_,h,_,_,_=>absurd h (Nat.not_lt_zero _)
 | m+1,i,him,hi,b,hb=>by
   have hk:=av ht
   rw [ui hk hi,clT,fx,tZ]
   have hx:∀ x:Nat,(x:Int)∈aJ ns (m+1) (i:Int)↔(∃ k∈ah (ndE ns i),(x:Int)∈aJ ns m k)∨x=i:=fun x=>by
    rw [eD,Int.toNat_natCast]
    exact or_congr Iff.rfl (by omega)
   by_cases h4:(ndE ns i).k=4
   ·rw [if_pos h4,← hb _ ns.length (by omega)]
    have hke:ah (ndE ns i)=[]:=by unfold ah aH aw;simp [h4]
    have hr:fy ns i=climb ns (lh ns) (ndE ns i).name ns.length i ((lh ns).getD i 0):=by unfold fy;rw [if_pos h4]
    rw [← hr]
    constructor
    ·intro h x hx' _
     rcases (hx x).1 hx' with ⟨k,hk',_⟩ | e
     ·rw [hke] at hk';cases hk'
     ·rw [e];exact h
    ·intro h
     exact h i ((hx i).2 (.inr rfl)) h4
   rw [if_neg h4,BP,List.length_map]
   have key:∀ j,j<(ah (ndE ns i)).length→∃ c:Nat,(ah (ndE ns i)).getD j 0=(c:Int)∧(c:Int)∈ah (ndE ns i)∧(clT (fun x=>aS (can (ndE ns i)) j x || b x) (((ah (ndE ns i)).map fun k=>trE ns k.toNat).getD j aC)=true↔∀ x:Nat,(x:Int)∈aJ ns m (c:Int)→(ndE ns x).k=4→0≤(fy ns x).1):=fun j hj=>by
    obtain ⟨c,hc,hci⟩:=bh ht hi (List.getElem_mem hj)
    have hcg:(ah (ndE ns i)).getD j 0=(c:Int):=by simp [hj,hc]
    have hcm:(c:Int)∈ah (ndE ns i):=by rw [← hc];exact List.getElem_mem hj
    have hbh:=fun nm=>tN ht hi hj nm
    rw [hcg] at hbh
    refine ⟨c,hcg,hcm,?_⟩
    have e:((ah (ndE ns i)).map fun k=>trE ns k.toNat).getD j aC=trE ns c:=by simp [hj,hc]
    rw [e]
    refine Br ht m c (by omega) (by omega) _ fun nm q hq=>?_
    rw [kJ ht hi hcm]
    cases q with
    | zero=>omega
    | succ q =>
      unfold climb
      rw [if_neg (by omega)]
      simp only [Int.toNat_natCast]
      rw [pQ _ _ _,Bool.or_eq_true,← hbh nm,← hb nm q (by omega)]
      by_cases g:bG (ndE ns i) c nm > -2
      ·rw [if_pos g]
       exact ⟨fun _=>.inl g,fun _=>by show (0:Int)≤i;omega⟩
      ·rw [if_neg g]
       exact ⟨fun h=>.inr h,fun h=>h.resolve_left g⟩
   constructor
   ·intro h x hx' h4'
    rcases (hx x).1 hx' with ⟨k,hk',hxk⟩ | e
    ·obtain ⟨j,hj,rfl⟩:=List.getElem_of_mem hk'
     obtain ⟨c,hc,_,hcl⟩:=key j hj
     have hc':(ah (ndE ns i))[j]=(c:Int):=by rw [← hc];simp [hj]
     rw [hc'] at hxk
     exact hcl.1 (h j hj) x hxk h4'
    ·rw [e] at h4'
     exact absurd h4' h4
   ·intro h j hj
    obtain ⟨c,_,hcm,hcl⟩:=key j hj
    exact hcl.2 fun x hxk h4'=>h x ((hx x).2 (.inl ⟨c,hcm,hxk⟩)) h4'
theorem jo {ns:List EN} (hm:bB ns=0):(bK ns).2=0↔clT noN (trE ns (ns.length-1))=true:=by
 have ht:=Cw hm
 have hp:=ht.pos
 rw [(vD hm).1,Br ht ns.length (ns.length-1) (by omega) (by omega) noN (fun nm q hq=>by
  have:=Sees.root ht nm q hq
  rw [this]
  exact ⟨fun h=>absurd h (by show ¬ (0:Int)≤-1;decide),fun h=>absurd h (by show ¬ (false=true);decide)⟩)]
 unfold lZ
 cases hf:(List.range ns.length).find? (fun i=>decide ((ndE ns i).k=4) && decide ((fy ns i).1<0)) with
 | none =>
   refine ⟨fun _ x hx h4=>?_,fun _=>by decide⟩
   have hxl:=(ix ht (show ns.length-1<ns.length by omega) hx).2
   have:=List.find?_eq_none.1 hf x (List.mem_range.2 (by omega))
   simp only [h4,decide_true,Bool.true_and,decide_eq_true_eq] at this
   omega
 | some i =>
   have hi:=List.find?_some hf
   simp only [Bool.and_eq_true,decide_eq_true_eq] at hi
   have hil:=List.mem_range.1 (List.mem_of_find?_eq_some hf)
   refine ⟨fun h=>absurd h (by show ¬ ((i:Int)<0);omega),fun h=>?_⟩
   have:=h i (rj ht _ i (Nat.le_refl _) hil) hi.1
   omega
end Go.Proofs.YtejpnabbmgpmaaaGreat

namespace Go.Proofs.YtejpnabbmgpmaaaGreat
open Go.Ab
end Go.Proofs.YtejpnabbmgpmaaaGreat

namespace Go.Proofs.YtejpnabbmgpmaaaGreat
open Go.Ab
theorem zW (n:EN) (ts:List RT):(az n ts).1=2∨(az n ts).1=4∨(az n ts).1=5:=by
 unfold az jE
 simp only
 (repeat' split)<;>simp
mutual
theorem CM:∀ t:RT,(stT t).1=2∨(stT t).1=4∨(stT t).1=5
 | .mk n ts=>by
   rw [stT]
   cases hs:gi n 0 ts with
   | none=>exact zW n ts
   | some q =>
     have:=wK n 0 ts q hs
     simp only
     split
     ·exact .inr (.inr rfl)
     ·exact this
theorem wK (n:EN):∀ (k:Nat) (ts:List RT) (q:Int × List RT),gi n k ts=some q→q.1=2∨q.1=4∨q.1=5
 | _,[],q,h=>by rw [gi] at h;cases h
 | k,t::r,q,h=>by
   rw [gi] at h
   split at h
   ·cases h
    exact CM t
   ·obtain ⟨p,hp,e⟩:=Option.map_eq_some_iff.1 h
    cases e
    exact wK n (k+1) r p hp
end
theorem ve {N:List EN} (ha:Any N) (h0:(ar N).2.2=0):bB N=0∧Run (ar N).1∧((bK N).2=0→(bK (ar N).1).2=0) ∧
  ((ar N).2.1=5∨(((ar N).2.1=1∨(ar N).2.1=2∨(ar N).2.1=4)∧ar (ar N).1=((ar N).1,(ar N).2.1,0)∧e6 (ar N).1=(ar N).1)):=by
 have hm:bB N=0:=by
  unfold ar at h0
  by_cases hm:bB N=0
  ·exact hm
  ·rw [if_pos hm] at h0;exact absurd h0 hm
 have h:Run N:=⟨hm,ha.rng⟩
 have hr:=ng h h0
 have ht:=h.t
 have hp:=ht.pos
 have hi:N.length-1<N.length:=by omega
 refine ⟨hm,hr,?_⟩
 have hsame:∀ w:Int,(w=1∧dm (trE N (N.length-1))=true)∨(dm (trE N (N.length-1))=false∧(stT (trE N (N.length-1))).1≠5∧w=(stT (trE N (N.length-1))).1)→ar N=(e6 N,w,0) →
   ((bK N).2=0→(bK (ar N).1).2=0)∧(ar (ar N).1=((ar N).1,w,0)∧e6 (ar N).1=(ar N).1):=fun w hw e=>by
  rw [e] at hr ⊢
  simp only at hr ⊢
  have htr:trE (e6 N) ((e6 N).length-1)=trE N (N.length-1):=qX ht hi
  have hX:=hr.t.pos
  have hXX:e6 (e6 N)=e6 N:=by
   show sbE (e6 N) ((e6 N).length-1)=sbE N (N.length-1)
   rw [← cH hr.t (by omega),htr,cH ht hi]
  refine ⟨?_,?_,hXX⟩
  ·rw [jo hm,jo hr.may,htr]
   exact id
  ·unfold ar
   rw [if_neg (by simp [hr.may]),htr,hXX]
   rcases hw with ⟨rfl,hv⟩ | ⟨hv,h5,rfl⟩
   ·rw [if_pos hv]
   ·rw [hv,if_neg (by decide),if_pos h5]
 cases hv:dm (trE N (N.length-1)) with
 | true =>
   have e:ar N=(e6 N,1,0):=by
    unfold ar
    rw [if_neg (by simp [hm]),if_pos hv]
   obtain ⟨g1,g2⟩:=hsame 1 (.inl ⟨rfl,hv⟩) e
   have hw:(ar N).2.1=1:=by rw [e]
   exact ⟨g1,.inr ⟨.inl hw,by rw [hw];exact g2⟩⟩
 | false =>
   by_cases h5:(stT (trE N (N.length-1))).1=5
   ·have e1:(ar N).1=(stT (trE N (N.length-1))).2.enc∧(ar N).2.1=5:=by
     unfold ar at h0 ⊢
     rw [if_neg (by simp [hm]),hv,if_neg (by decide),if_neg (by simp [h5])] at h0 ⊢
     split at h0
     ·rename_i g;exact absurd h0 g
     ·rename_i g;rw [if_neg g];exact ⟨rfl,rfl⟩
    refine ⟨fun hc=>?_,.inl e1.2⟩
    have hgd:=dL ht h.rng hi
    have hlk:=xD ht N.length (N.length-1) hi hi
    have hlk:(trE N (N.length-1)).lk:=hlk
    have hg2:=(rI _ hgd hlk h5).1
    rw [jo hm] at hc
    rw [jo hr.may,e1.1,lR hg2.ok]
    exact GR _ hgd hlk hc h5
   ·have e:ar N=(e6 N,(stT (trE N (N.length-1))).1,0):=by
     unfold ar
     rw [if_neg (by simp [hm]),hv,if_neg (by decide),if_pos h5]
    obtain ⟨g1,g2⟩:=hsame _ (.inr ⟨hv,h5,rfl⟩) e
    have hw:(ar N).2.1=(stT (trE N (N.length-1))).1:=by rw [e]
    refine ⟨g1,.inr ⟨?_,by rw [hw];exact g2⟩⟩
    rw [hw]
    rcases CM (trE N (N.length-1)) with g | g | g
    ·exact .inr (.inl g)
    ·exact .inr (.inr g)
    ·exact absurd g h5
theorem pV {X:List EN} {w:Int} (hr:Run X) (hw:w=1∨w=2∨w=4) (hs:ar X=(X,w,0)) (hx:e6 X=X) (n:Nat) :
  nT X (n:Int)=(X,if w=2∧n=0 then 3 else w,if w=2∧n≠0 then 1 else 0,0):=by
 unfold nT
 rw [if_neg (by omega),if_neg (by simp [hr.may]),hx,Int.toNat_natCast]
 cases n with
 | zero =>
   rw [kY,hs]
   simp only
   rcases hw with rfl | rfl | rfl
   ·rw [if_pos (.inl rfl),if_neg (by omega),if_neg (by omega)]
   ·rw [if_neg (by omega),if_pos ⟨rfl,trivial⟩,if_neg (by omega)]
   ·rw [if_pos (.inr rfl),if_neg (by omega),if_neg (by omega)]
 | succ n =>
   rw [kY,hs]
   simp only
   rcases hw with rfl | rfl | rfl
   ·rw [if_pos (.inl rfl),if_neg (by omega),if_neg (by omega)]
   ·rw [if_neg (by omega),if_neg (by omega),if_pos rfl,if_neg (by omega),if_pos ⟨rfl,by omega⟩]
    rfl
   ·rw [if_pos (.inr rfl),if_neg (by omega),if_neg (by omega)]
end Go.Proofs.YtejpnabbmgpmaaaGreat

namespace Go.Proofs.YtejpnabbmgpmaaaGreat
open Go.Ab
set_option maxHeartbeats 1000000 in
theorem HJ {G} {ds:List D} {ns:List EN} {n:Nat} (hw:Wk (.agg ds) (exD ns)) (hl:ns.length≤maxLen) (hn:∀ n∈ns,InN n) (hr:∀ n∈ns,inR n.n) (hz:n≤255):HP Tryz.prog G 10 [.agg ds,.int .u8 (n:Int)] (fun r=>r=.d (.bool true)):=by
 refine HP.wk (bs:=[exD ns,.int .u8 (n:Int)]) ?_ ⟨hw,.refl _,trivial⟩
 have hx:=qy
 obtain ⟨N,hN⟩:∃ N,N=uc ns:=⟨_,rfl⟩
 have hin:InF N:=by rw [hN];exact A7 hn
 have ha:Any N:=by rw [hN];exact Eu hn hr
 have c0:=HY (G:=G) ns (by omega) (fun n h=>by have:=(hn n h).2.2.1;omega)
 rw [← hN] at c0
 have c1:=C6 (G:=G) N ha.sane (by have:=ha.few;omega) (fun n h=>by have:=(ha.sane n h).l;omega)
 have c2:=v9 (G:=G) N ha
 have hsc:=ve ha
 have her:=nr (e:=N)
 obtain ⟨g1,g2,g3⟩:=EW ha
 obtain ⟨X,hX⟩:∃ X,X=(ar N).1:=⟨_,rfl⟩
 rw [← hX] at hsc her g1 g2 g3
 unfold m8 at c2
 rw [← hX] at c2
 generalize (bK N).1=pN at *
 generalize (bK N).2=eN at *
 by_cases h0:(ar N).2.2=0
 ·obtain ⟨_,hrX,hcl,hcs⟩:=hsc h0
  rw [if_pos h0,h0] at c2
  have c3:=C6 (G:=G) X (iJ hrX.t) (by omega) g2
  have c4:=Ai (G:=G) X ((n % 40:Nat):Int) hrX.any (by omega)
  have c5:=Ib (G:=G) X g1 g2
  generalize (bK X).1=pX at *
  generalize (bK X).2=eX at *
  generalize (ar N).2.1=how at *
  unfold exD at c0 c1 c2 c3 c4 c5 ⊢
  refine ao Tryz.func10 rfl (by decide +kernel) (by simp [Tryz.ntmps10]) (veil fun E=>?_)
  simp only [go_sem]
  refine ae E (BZ) rfl rfl (by simp) ?_
  rintro _ rfl
  simp only [go_sem]
  refine ae E (c0) rfl rfl (by simp) ?_
  rintro _ rfl
  simp only [go_sem]
  refine ae E (c1) rfl rfl (by simp) ?_
  rintro _ rfl
  simp only [go_sem]
  refine ae E (c2) rfl rfl (by simp) ?_
  rintro _ rfl
  simp only [go_sem]
  have rest:∀ q:Prop,q→q:=fun _ h=>h
  refine ai E (fun k0=>?_) (fun k0=>?_)<;>simp only [go_sem]
  ·refine ae E (c3) rfl rfl (by simp) ?_
   rintro _ rfl
   simp only [go_sem]
   rw [hcl k0]
   simp only [go_sem]
   refine ai E (fun k5=>?_) (fun k5=>?_)<;>simp only [go_sem]
   obtain ⟨hw4,hs4,hx4⟩:=hcs.resolve_left k5
   have rz:=pV hrX hw4 hs4 hx4 (n % 40)
   have ht:Int.tmod (n:Int) 40=((n % 40:Nat):Int):=by rw [Int.tmod_eq_emod_of_nonneg (by omega)];omega
   rw [rz] at c4
   rw [show w64 (Int.tmod (n:Int) 40)=((n % 40:Nat):Int) by rw [ht,ak ⟨by omega,by omega⟩]]
   by_cases k2:how=2
   ·subst k2
    by_cases kn:n % 40=0
    ·rw [if_pos ⟨rfl,kn⟩,if_neg (by omega)] at c4
     unfold bF exD at c4
     dsimp only at c4
     rw [if_pos rfl] at c4
     refine ae E (c4) rfl rfl (by simp) ?_
     rintro _ rfl
     simp only [go_sem]
     rw [ht,kn]
     simp only [go_sem]
    ·rw [if_neg (by omega),if_pos ⟨rfl,kn⟩] at c4
     unfold bF exD at c4
     dsimp only at c4
     rw [if_pos rfl] at c4
     refine ae E (c4) rfl rfl (by simp) ?_
     rintro _ rfl
     simp only [go_sem]
     rw [ht,decide_eq_false (show ¬ ((n % 40:Nat):Int)=0 by omega)]
     simp only [go_sem]
   ·rw [if_neg (by omega),if_neg (by omega)] at c4
    unfold bF exD at c4
    dsimp only at c4
    rw [if_pos rfl] at c4
    refine ae E (c4) rfl rfl (by simp) ?_
    rintro _ rfl
    simp only [go_sem]
    rw [decide_eq_false k2]
    simp only [go_sem]
    refine ae E (c5) rfl rfl (by simp) ?_
    rintro _ rfl
    simp only [go_sem]
  ·refine ai E (fun k5=>?_) (fun k5=>?_)<;>simp only [go_sem]
   obtain ⟨hw4,hs4,hx4⟩:=hcs.resolve_left k5
   have rz:=pV hrX hw4 hs4 hx4 (n % 40)
   have ht:Int.tmod (n:Int) 40=((n % 40:Nat):Int):=by rw [Int.tmod_eq_emod_of_nonneg (by omega)];omega
   rw [rz] at c4
   rw [show w64 (Int.tmod (n:Int) 40)=((n % 40:Nat):Int) by rw [ht,ak ⟨by omega,by omega⟩]]
   by_cases k2:how=2
   ·subst k2
    by_cases kn:n % 40=0
    ·rw [if_pos ⟨rfl,kn⟩,if_neg (by omega)] at c4
     unfold bF exD at c4
     dsimp only at c4
     rw [if_pos rfl] at c4
     refine ae E (c4) rfl rfl (by simp) ?_
     rintro _ rfl
     simp only [go_sem]
     rw [ht,kn]
     simp only [go_sem]
    ·rw [if_neg (by omega),if_pos ⟨rfl,kn⟩] at c4
     unfold bF exD at c4
     dsimp only at c4
     rw [if_pos rfl] at c4
     refine ae E (c4) rfl rfl (by simp) ?_
     rintro _ rfl
     simp only [go_sem]
     rw [ht,decide_eq_false (show ¬ ((n % 40:Nat):Int)=0 by omega)]
     simp only [go_sem]
   ·rw [if_neg (by omega),if_neg (by omega)] at c4
    unfold bF exD at c4
    dsimp only at c4
    rw [if_pos rfl] at c4
    refine ae E (c4) rfl rfl (by simp) ?_
    rintro _ rfl
    simp only [go_sem]
    rw [decide_eq_false k2]
    simp only [go_sem]
    refine ae E (c5) rfl rfl (by simp) ?_
    rintro _ rfl
    simp only [go_sem]
 ·obtain ⟨h1,h2⟩:=her h0
  rw [if_neg h0,h2] at c2
  unfold exD at c0 c1 c2 ⊢
  refine ao Tryz.func10 rfl (by decide +kernel) (by simp [Tryz.ntmps10]) (veil fun E=>?_)
  simp only [go_sem]
  refine ae E (BZ) rfl rfl (by simp) ?_
  rintro _ rfl
  simp only [go_sem]
  refine ae E (c0) rfl rfl (by simp) ?_
  rintro _ rfl
  simp only [go_sem]
  refine ae E (c1) rfl rfl (by simp) ?_
  rintro _ rfl
  simp only [go_sem]
  refine ae E (c2) rfl rfl (by simp) ?_
  rintro _ rfl
  simp only [go_sem]
  rw [decide_eq_true h0]
  simp only [go_sem]
theorem E7 {d:D} (h:(TS.int .u8).ok d):∃ n:Nat,d=.int .u8 (n:Int)∧n≤255:=by
 cases d with
 | int k n =>
   obtain ⟨h1,h2,h3⟩:=h
   subst h1
   have h2:0≤n:=h2
   have h3:n≤255:=h3
   exact ⟨n.toNat,by rw [show ((n.toNat:Nat):Int)=n by omega],by omega⟩
 | _=>exact h.elim
theorem qQ {G} {d1:List D} {d2:D} (h1:oks HE d1) (h2:(TS.int .u8).ok d2):HP Tryz.prog G 10 [.agg d1,d2] (fun r=>r=.d (.bool true)):=by
 obtain ⟨ns,hw,hl,hn,hr⟩:=H4 h1
 obtain ⟨n,rfl,hz⟩:=E7 h2
 exact HJ hw hl hn hr hz
end Go.Proofs.YtejpnabbmgpmaaaGreat

namespace Go.Proofs.YtejpnabbmgpmaaaGreat
open Go.Ab
open Go.ChangeShapes Go.WideShapes Go.ChangeAt Go.RowKit
theorem Tryz.own:ownKnob Tryz.prog.godebug=none:=by kernel_rfl
theorem Tryz.laidOut:laidOutB Tryz.prog=true:=by kernel_rfl
theorem ub {H:Type} {enc:TypeId × Value→H} {t:TypeId} (hr:Tryz.prog.readableRec t=true) (hrow:t<Tryz.prog.types.size) {W W':World} {v:Value} {d:DataW H} {ps:List MemPlace}
  (h:DataW.Trod enc Tryz.prog W 0 (fun _=>true) true t v d ps) (he:Ext W W') (hlt:∀ x∈ps,x.block<W.heap.size) :
  DataW.Trod enc Tryz.prog W' 0 (fun b=>decide (b<W.heap.size)) true t v d ps :=
 WideElems.Trod_stays Tryz.laidOut hr hrow h (fun x hx=>by
  have h1:=he.old x.block (hlt x hx)
  cases x with
  | cell b off=>show W'.cell? _=W.cell? _;unfold World.cell?;rw [show W'.heap[b]?=W.heap[b]? from h1]
  | map b=>exact h1) (fun x hx=>by simpa using hlt x hx)
end Go.Proofs.YtejpnabbmgpmaaaGreat

namespace Go.Proofs.YtejpnabbmgpmaaaGreat
open Go.Ab
open Go.ChangeShapes Go.WideShapes Go.ChangeAt Go.RowKit
theorem rD:(Rows.stepStaysRow.wf (OpenSpec.ofChange Rows.stepStaysSpec))=true:=by kernel_rfl
theorem rJ:(Tryz.f10.params.all (Tryz.prog.readableRec ·))=true:=by kernel_rfl
theorem si:(namedTie Tryz.prog Rows.stepStaysRow.named Rows.stepStaysSpec.vars)=true:=by kernel_rfl
theorem rO:((Rows.stepStaysRow.stops == []))=true:=by kernel_rfl
theorem rV:((Rows.stepStaysRow.knobs == []))=true:=by kernel_rfl
theorem pa:((Rows.stepStaysRow.inPlace == Tryz.prog.inPlace 10))=true:=by kernel_rfl
theorem o7:((Rows.stepStaysRow.unfollowed == Tryz.prog.unfollowed 10))=true:=by kernel_rfl
theorem pA:((Rows.stepStaysRow.recurses == Tryz.prog.recurses 10))=true:=by kernel_rfl
theorem pc:((Rows.stepStaysRow.named == Tryz.prog.varsNamed 10))=true:=by kernel_rfl
theorem pB:((Rows.stepStaysRow.maps == (Tryz.f10.params.toList++Rows.stepStaysSpec.plain.varTypes Tryz.prog).any (Tryz.prog.mapsRec ·)))=true:=by kernel_rfl
theorem py:((Rows.stepStaysRow.ifaces == (Tryz.f10.params.toList++Rows.stepStaysSpec.plain.varTypes Tryz.prog).any (Tryz.prog.ifacesRec ·)))=true:=by kernel_rfl
theorem pg:((Rows.stepStaysRow.mapsOut == Tryz.prog.mapsAmong Tryz.f10.resultTypes.toList))=true:=by kernel_rfl
theorem o4:((Rows.stepStaysRow.loops == (Tryz.f10.params.toList++Rows.stepStaysSpec.plain.varTypes Tryz.prog).any (Tryz.prog.loopsFrom ·)))=true:=by kernel_rfl
theorem oU:((Rows.stepStaysRow.wideKeys == (Tryz.f10.params.toList++Rows.stepStaysSpec.plain.varTypes Tryz.prog++Tryz.f10.resultTypes.toList).any (Tryz.prog.wideKeysFrom ·)))=true:=by kernel_rfl
theorem o8:(Rows.stepStaysSpec.vars.all (Tryz.prog.varReadable ·))=true:=by kernel_rfl
theorem o6:(Tryz.f10.resultTypes.all (fun t=>Tryz.prog.readableRec t && decide (t<Tryz.prog.types.size)))=true:=by kernel_rfl
theorem o5:((Rows.stepStaysRow.ifacesOut == Tryz.f10.resultTypes.toList.any (Tryz.prog.ifacesRec ·)))=true:=by kernel_rfl
theorem o9:((Rows.stepStaysRow.loopsOut == Tryz.f10.resultTypes.toList.any (Tryz.prog.loopsFrom ·)))=true:=by kernel_rfl
theorem oX:((Rows.stepStaysRow.plainKeys == Tryz.prog.plainKeys))=true:=by kernel_rfl
theorem oY:(Rows.stepStaysRow.shortTexts.isNone)=true:=by kernel_rfl
theorem pC:((Rows.stepStaysRow.lifted == Tryz.prog.liftsFinal))=true:=by kernel_rfl
theorem pf:((Tryz.prog.make == some Rows.stepStaysRow.make))=true:=by kernel_rfl
theorem oT:((Rows.stepStaysRow.kinds == (if Rows.stepStaysRow.domain.isEmpty then [] else Tryz.f10.params.toList.map fun t=>match Tryz.prog.underlying t with | some (.int k)=>some k | _=>none)))=true:=by kernel_rfl
theorem o0:((Rows.stepStaysRow.pinned == Rows.stepStaysRow.pinnedBy))=true:=by kernel_rfl
theorem ph:((Rows.stepStaysRow.veiled == (Tryz.f10.params.toList++Rows.stepStaysSpec.plain.varTypes Tryz.prog++Tryz.f10.resultTypes.toList).any (Tryz.prog.veiledRec ·)))=true:=by kernel_rfl
theorem oW:(Rows.stepStaysRow.veiledFits Tryz.prog Tryz.f10.params.toList (Tryz.f10.params.toList++Rows.stepStaysSpec.plain.varTypes Tryz.prog++Tryz.f10.resultTypes.toList))=true:=by kernel_rfl
end Go.Proofs.YtejpnabbmgpmaaaGreat

namespace Go.Proofs.YtejpnabbmgpmaaaGreat
open Go.Ab
open Go.ChangeShapes Go.WideShapes Go.ChangeAt Go.RowKit
theorem bu {a b:Bool} (ha:a=true) (hb:b=true):(a && b)=true:=by rw [ha,hb];rfl
theorem EH:(laidOutB Tryz.prog)=true:=by kernel_rfl
theorem FL:(mapsRowed Tryz.prog)=true:=by kernel_rfl
theorem AQ:((Tryz.prog.stops == []))=true:=by kernel_rfl
theorem DC:((Tryz.prog.stopKnobs == []))=true:=by kernel_rfl
theorem Ar:(Tryz.prog.stopsHeard)=true:=by kernel_rfl
theorem Dp:(Tryz.prog.mayEnter)=true:=by kernel_rfl
end Go.Proofs.YtejpnabbmgpmaaaGreat

namespace Go.Proofs.YtejpnabbmgpmaaaGreat
open Go.Ab
open Go.ChangeShapes Go.WideShapes Go.ChangeAt Go.RowKit
set_option maxRecDepth 100000 in
theorem mb (os:Os) (started:os.Started) (H:Type) (enc:TypeId × Value→H) :
  ReturnsInHanded {} Tryz.checked os 10 .any (Rows.stepStaysSpec.pre6 enc Tryz.prog Tryz.f10 [] false) (Rows.stepStaysSpec.post enc Tryz.prog Tryz.f10 false true false false):=by
 refine returnsInHanded_of_change (C:=Tryz.checked) Tryz.own started (by kernel_rfl) Tryz.func10
  (ChangeSpec.witness6 (enc:=enc) (C:=Tryz.checked) false ⟨#[],#[.agg #[.slice none 0 0],.int .u8 0],[]⟩ 8 (by kernel_rfl) (by kernel_rfl) (by kernel_rfl) (by kernel_rfl)) ?_
 intro W base args ds gs before hval0 hW _ _
 have hval:∀ (j:Nat) t v,Tryz.f10.params[j]?=some t→args[j]?=some v→Value.okWide Tryz.prog W .any base t v:=hval0
 have hW':=hW
 obtain ⟨p,q,hA0,hV,rfl,hfz,hnd⟩:=hW
 have hA:DataW.TrodAll enc Tryz.prog W 0 (fun _=>true) true Tryz.f10.params.toList args.toList ds p:=hA0
 rw [Tryz.params10] at hA hval
 obtain ⟨v0,v1,d0,d1,p0,p1,rfl,rfl,rfl,h0,h1⟩:=trodAll_two hA
 obtain ⟨rfl,rfl⟩:=trodVars_none hV
 clear hA0 hval0
 obtain ⟨x0,rfl,_⟩:=okWide_struct Tryz.underlying26 (hval 0 26 v0 rfl rfl)
 obtain ⟨e0,k0,r0⟩:=zq (m:=30) (show shp Tryz.prog 30 26=some HE by kernel_rfl) h0
 obtain ⟨n1,rfl⟩:=okWide_int Tryz.underlying5 (hval 1 5 v1 rfl rfl)
 obtain ⟨e1,k1,r1⟩:=yL (m:=30) (show shp Tryz.prog 30 5=some [.int .u8] by kernel_rfl) rfl h1
 have eF:Rows.stepStaysSpec.fn H ([d0,d1]++[])={ results:=[.lit (.bool true)],args:=[d0,d1] }:=rfl
 refine (uW (G:=[]) (qQ k0 k1) (by simp) (vs:=#[.agg x0,.int .u8 n1]) rfl ?_).mono ?_
 ·intro i d hi
  match i,hi with
  | 0,hi=>obtain rfl:=Option.some.inj hi;exact r0
  | 1,hi=>obtain rfl:=Option.some.inj hi;exact r1
 rintro e W' ⟨v,r,rfl,rfl,hext,_,_,_,_,hv⟩
 obtain rfl:=hv.bool
 have hlt:∀ x∈p0++p1,x.block<W.heap.size:=fun x hx=>by simpa using hW'.lt x (by simpa using hx)
 refine ⟨_,rfl,_,_,_,[],p0++p1,[],hW',?_,?_,?_,hext.frame _,fun h=>by cases h⟩
 ·rw [eF];exact trodAll_mk1 (shut_bool Tryz.underlying4 true)
 ·rw [eF];exact trodAll_mk2 (ub (by kernel_rfl) (of_decide_eq_true (by kernel_rfl)) h0 hext (fun x hx=>hlt x (by simp [hx]))) (ub (by kernel_rfl) (of_decide_eq_true (by kernel_rfl)) h1 hext (fun x hx=>hlt x (by simp [hx])))
 ·rw [eF];rfl
set_option maxRecDepth 100000 in
theorem mE:joinedFacts Tryz.prog 10 Tryz.f10 Rows.stepStaysSpec Rows.stepStaysRow=true:=by
 unfold joinedFacts
 exact bu (bu (bu (bu (bu (bu (bu (bu (bu (bu (bu (bu (bu (bu (bu (bu (bu (bu (bu (bu (bu (bu (bu (bu (bu (bu (bu (bu (bu (bu (bu rD EH) FL) rJ) si) rO) AQ) rV) DC) pa) o7) pA) pc) pB) py) pg) o4) oU) o8) o6) o5) o9) oX) oY) Ar) Dp) pC) pf) oT) o0) ph) oW
theorem mH:Tryz.pinned.checked.prog.funcNamed Rows.stepStaysRow.func=some 10:=by kernel_rfl
theorem nJ:decide (Tryz.f10.isInstance Tryz.pinned.checked.prog Rows.stepStaysRow.origin Rows.stepStaysRow.targs)=true:=by kernel_rfl
theorem stepStays_holds:Rows.StepStaysSaid :=
 OpenClaim.holds_of_wide 10 Tryz.f10 rfl rfl rfl rfl rfl rfl rfl ⟨rfl,rfl,rfl,rfl,rfl⟩ rfl rfl rfl rfl rfl mH Tryz.func10 mE
  (of_decide_eq_true nJ) (by unfold Func.isWrapper;rw [if_neg (of_decide_eq_false (by kernel_rfl))];exact ⟨rfl,rfl⟩)
  (fun os started H enc _=>mb os started H enc)
end Go.Proofs.YtejpnabbmgpmaaaGreat

