/-
  One part's name, read. (with the parts that follow it)
-/
import Derived.Test.YtejpnabbmgpmaaaGreatDoorWSK
import Derived.Test.YtejpnabbmgpmaaaGreatDoorWSF
import Derived.Test.YtejpnabbmgpmaaaGreatDoorWSH
import Derived.Test.YtejpnabbmgpmaaaGreatDoorWSG
import Derived.Test.YtejpnabbmgpmaaaGreatDoorWSJ
import Derived.Test.YtejpnabbmgpmaaaGreatDoorWSI
import Derived.Test.YtejpnabbmgpmaaaGreatDoorWSC
import Derived.Test.YtejpnabbmgpmaaaGreatDoorRows
import Derived.Test.YtejpnabbmgpmaaaGreatDoorTie
import Derived.ProofKit
import Derived.JoinedOf
import Derived.ChangeMaps5
import Derived.LaidLaws
import Derived.LaidHandle
import Derived.Stop.Joined
import Derived.Lib.LaidTab
import Derived.Lay
import Derived.SevenTiedAt
import Derived.Test.YtejpnabbmgpmaaaGreatDoorCards
set_option linter.all false
namespace Go.Proofs.YtejpnabbmgpmaaaGreatDoor
open Go.Ab
def NO (s:PS) (n:EN) (l:List EF):List (Name × Ob):=([105],.box [.bx [100] 0])::([102],.box [.d (i64 n.k),.d (i64 n.a),.d (i64 n.b),.d (i64 n.c),.d (i64 n.n),.d (.str n.name),.d (.str n.s),.vw [103] 0 l.length,.d (i64 n.pos)])::FO s l
def rI (s:PS) (t:Tok) (l:List EF):EF × PS:=(⟨(s.of 2).1,[],0⟩,(((s.of 2).2.parted t l).must 7 [61]))
def mG (s:PS) (t:Tok) (l:List EF):EF × PS:=(⟨(s.of 3).1,(((s.of 3).2.parted t l).of 2).1,0⟩,(((s.of 3).2.parted t l).of 2).2.must 7 bTo)
theorem ub (s:PS) (t:Tok) (l:List EF):(s.parted t l).l=s.l:=by
 unfold PS.parted
 split
 ·rfl
 split
 ·exact nE _ _ _
 split
 ·exact nE _ _ _
 ·rfl
def CL (G:List (Nat × Obj)) (f:Nat) (part:PS→Tok→List EF→EF × PS):Prop:=∀ (s:PS) (t:Tok) (n:EN) (l:List EF),s.l.length≤100000→l.length≤100000 →
 HCall Tryz.prog G f [.d (.agg [i64 t.k,.str t.s,i64 t.n,i64 t.pos]),.bx [105] 0,.bx [102] 0] (NO s n l) [100,101,102,103,105] (fun r hp'=>r=.d (fD (part s t l).1)∧hp'=NO (part s t l).2 n l)
theorem Hl {G}:CL G 184 rI:=by
 intro s t n l hs hl
 generalize hR:rI s t l=R
 unfold rI at hR
 have c1:=lx (G:=G) s 2 (by omega)
 have h1:=SS.of s 2
 obtain ⟨nm,s1,e1⟩:∃ nm s1,s.of 2=(nm,s1):=⟨_,_,rfl⟩
 rw [e1] at c1 h1 hR
 simp only at c1 h1 hR
 have l1:=h1.len
 have c2:=yX (G:=G) s1 t n l hl
 have l2:=ub s1 t l
 generalize s1.parted t l=s2 at c2 l2 hR
 have c3:=fG (G:=G) s2 7 [61] (by rw [l2];omega) (by decide)
 generalize s2.must 7 [61]=s3 at c3 hR
 subst hR
 unfold NO FO RO TO ag
 refine ao Tryz.func184 rfl (by decide +kernel) (by simp [Tryz.ntmps184]) (veil fun E=>?_)
 simp only [go_sem]
 refine ab E [.bx [100] 0,.d (i64 2)] (RO s) [100,101] (c1) rfl rfl ⟨by simp only [go_sem],by first | (rw [aa];decide) | (simp only [go_sem]<;>(try rw [aa])<;>decide)⟩ rfl (by unfold RO TO ag;simp only [go_sem]) (by unfold RO TO;simp only [go_sem]) ?_
 rintro _ _ ⟨rfl,rfl⟩
 unfold RO TO ag
 simp only [go_sem]
 refine ab E [.bx [100] 0,.d (.agg [i64 t.k,.str t.s,i64 t.n,i64 t.pos]),.agg [.d (i64 n.k),.d (i64 n.a),.d (i64 n.b),.d (i64 n.c),.d (i64 n.n),.d (.str n.name),.d (.str n.s),.vw [103] 0 l.length,.d (i64 n.pos)]] (FO s1 l) [100,101,103] (c2) rfl rfl ⟨by simp only [go_sem],by first | (rw [aa];decide) | (simp only [go_sem]<;>(try rw [aa])<;>decide)⟩ rfl (by unfold FO RO TO ag;simp only [go_sem]) (by unfold FO RO TO;simp only [go_sem]) ?_
 rintro _ _ ⟨rfl,rfl⟩
 unfold FO RO TO ag
 simp only [go_sem]
 refine ⟨Nat.le_refl _,?_⟩
 refine ab E [.bx [100] 0,.d (i64 7),.d (.str [61])] (RO s2) [100,101] (c3) rfl rfl ⟨by simp only [go_sem],by first | (rw [aa];decide) | (simp only [go_sem]<;>(try rw [aa])<;>decide)⟩ rfl (by unfold RO TO ag;simp only [go_sem]) (by unfold RO TO;simp only [go_sem]) ?_
 rintro _ _ ⟨rfl,rfl⟩
 unfold RO TO ag
 simp only [go_sem]
 refine ⟨_,_,[100,101,102,103,105],id,⟨rfl,rfl⟩,?_⟩
 simp only [go_sem]
 all_goals rfl
theorem F0 {G}:CL G 186 mG:=by
 intro s t n l hs hl
 generalize hR:mG s t l=R
 unfold mG at hR
 have c1:=lx (G:=G) s 3 (by omega)
 have h1:=SS.of s 3
 obtain ⟨nm,s1,e1⟩:∃ nm s1,s.of 3=(nm,s1):=⟨_,_,rfl⟩
 rw [e1] at c1 h1 hR
 simp only at c1 h1 hR
 have l1:=h1.len
 have c2:=yX (G:=G) s1 t n l hl
 have l2:=ub s1 t l
 generalize s1.parted t l=s2 at c2 l2 hR
 have co:=lx (G:=G) s2 2 (by rw [l2];omega)
 have ho:=SS.of s2 2
 obtain ⟨nv,so,eo⟩:∃ nv so,s2.of 2=(nv,so):=⟨_,_,rfl⟩
 rw [eo] at co ho hR
 simp only at co ho hR
 have lo:=ho.len
 rw [l2] at lo
 have c3:=fG (G:=G) so 7 bTo (by omega) (by decide)
 generalize so.must 7 bTo=s3 at c3 hR
 subst hR
 unfold NO FO RO TO ag
 refine ao Tryz.func186 rfl (by decide +kernel) (by simp [Tryz.ntmps186]) (veil fun E=>?_)
 simp only [go_sem]
 refine ab E [.bx [100] 0,.d (i64 3)] (RO s) [100,101] (c1) rfl rfl ⟨by simp only [go_sem],by first | (rw [aa];decide) | (simp only [go_sem]<;>(try rw [aa])<;>decide)⟩ rfl (by unfold RO TO ag;simp only [go_sem]) (by unfold RO TO;simp only [go_sem]) ?_
 rintro _ _ ⟨rfl,rfl⟩
 unfold RO TO ag
 simp only [go_sem]
 refine ab E [.bx [100] 0,.d (.agg [i64 t.k,.str t.s,i64 t.n,i64 t.pos]),.agg [.d (i64 n.k),.d (i64 n.a),.d (i64 n.b),.d (i64 n.c),.d (i64 n.n),.d (.str n.name),.d (.str n.s),.vw [103] 0 l.length,.d (i64 n.pos)]] (FO s1 l) [100,101,103] (c2) rfl rfl ⟨by simp only [go_sem],by first | (rw [aa];decide) | (simp only [go_sem]<;>(try rw [aa])<;>decide)⟩ rfl (by unfold FO RO TO ag;simp only [go_sem]) (by unfold FO RO TO;simp only [go_sem]) ?_
 rintro _ _ ⟨rfl,rfl⟩
 unfold FO RO TO ag
 simp only [go_sem]
 refine ⟨Nat.le_refl _,?_⟩
 refine ab E [.bx [100] 0,.d (i64 2)] (RO s2) [100,101] (co) rfl rfl ⟨by simp only [go_sem],by first | (rw [aa];decide) | (simp only [go_sem]<;>(try rw [aa])<;>decide)⟩ rfl (by unfold RO TO ag;simp only [go_sem]) (by unfold RO TO;simp only [go_sem]) ?_
 rintro _ _ ⟨rfl,rfl⟩
 unfold RO TO ag
 simp only [go_sem]
 refine ab E [.bx [100] 0,.d (i64 7),.d (.str bTo)] (RO so) [100,101] (c3) rfl rfl ⟨by simp only [go_sem],by first | (rw [aa];decide) | (simp only [go_sem]<;>(try rw [aa])<;>decide)⟩ rfl (by unfold RO TO ag;simp only [go_sem]) (by unfold RO TO;simp only [go_sem]) ?_
 rintro _ _ ⟨rfl,rfl⟩
 unfold RO TO ag
 simp only [go_sem]
 refine ⟨_,_,[100,101,102,103,105],id,⟨rfl,rfl⟩,?_⟩
 simp only [go_sem]
 all_goals rfl
end Go.Proofs.YtejpnabbmgpmaaaGreatDoor

namespace Go.Proofs.YtejpnabbmgpmaaaGreatDoor
open Go.Ab
def NQ (s:PS) (n:EN) (l:List EF) (ks:List (List EN)):List (Name × Ob):=([105],.box [.bx [100] 0])::([102],.box [.d (i64 n.k),.d (i64 n.a),.d (i64 n.b),.d (i64 n.c),.d (i64 n.n),.d (.str n.name),.d (.str n.s),.vw [106] 0 l.length,.d (i64 n.pos)])::([106],.arr (some 3) (l.map fD))::([107],.arr (some 1) (ks.map exD))::RO s
theorem xd {G} {N:Nat} {ex:PS→PR} {f:Nat} {part:PS→Tok→List EF→EF × PS} {b:List UInt8} (hex:∀ s,GP 1 s (ex s)) (hc:Reads 34 G N ex) (hp:CL G f part) (hps:∀ s l,SS s (part s s.peek l).2)
  (s:PS) (n:EN) (hl:s.l.length≤100000) (hN:s.nest=N) :
  HCall Tryz.prog G 183 [.bx [100] 0,.bx [102] 0,.d (.str b),.clo f [.bx [105] 0,.bx [102] 0]] (NO s n []) [100,101,102,103,105]
   (fun r hp'=>r=.vw [107] 0 (bu ex b (fun s l=>part s s.peek l) s.l.length.succ s [] []).2.1.length∧hp'=NQ (bu ex b (fun s l=>part s s.peek l) s.l.length.succ s [] []).2.2 n (bu ex b (fun s l=>part s s.peek l) s.l.length.succ s [] []).1 (bu ex b (fun s l=>part s s.peek l) s.l.length.succ s [] []).2.1):=by
 generalize hR:bu ex b (fun s l=>part s s.peek l) s.l.length.succ s [] []=R
 unfold NO FO RO TO ag
 refine ao Tryz.func183 rfl (by decide +kernel) (by simp [Tryz.ntmps183]) (veil fun E=>?_)
 simp only [go_sem]
 refine wW E 9 98 (some 1) rfl (by rw [aa];decide) ?_
 simp only [go_sem]
 refine aU E (X:={ x:Nat × PS × List EF × List (List EN) // bu ex b (fun s l=>part s s.peek l) x.1 x.2.1 x.2.2.1 x.2.2.2=R∧(x.2.1.l.length<x.1∧x.2.2.1.length=x.2.2.2.length∧x.2.2.1.length+x.2.1.l.length≤s.l.length∧x.2.1.nest=N) })
  (fun x=>[(0,.bx [100] 0),(1,.bx [102] 0),(2,.d (.str b)),(3,.clo f [.bx [105] 0,.bx [102] 0]),(8,.d .nils),(9,.vw [98] 0 x.1.2.2.2.length)])
  (fun x=>[([105],.box [.bx [100] 0]),([102],.box [.d (i64 n.k),.d (i64 n.a),.d (i64 n.b),.d (i64 n.c),.d (i64 n.n),.d (.str n.name),.d (.str n.s),.vw [97] 0 x.1.2.2.1.length,.d (i64 n.pos)]),([97],.arr (some 3) (x.1.2.2.1.map fD)),([98],.arr (some 1) (x.1.2.2.2.map exD)),([100],.box [.bx [101] 0,.d (i64 x.1.2.1.err),.d (i64 x.1.2.1.pos),.d (i64 x.1.2.1.nest)]),([101],.box [.d (.sl (some 4) (x.1.2.1.l.map gR)),.d (i64 x.1.2.1.fin)])]) [97,98,100,101,102,103,105] (fun x=>x.1.2.1.l.length) ⟨(s.l.length.succ,s,[],[]),hR,Nat.lt_succ_self _,rfl,by simp,hN⟩ (tau [([97],[103])]) ?_ ?_
 ·simp only [go_sem]
  all_goals rfl
 rintro ⟨⟨m,q,l,ks⟩,hb,hm,hlk,hls,hqn⟩ E0
 refine bk E0 fun Q' hQ E'=>?_
 simp only at hb hm hlk hls hqn ⊢
 obtain ⟨m,rfl⟩:∃ k,m=k+1:=⟨m-1,by omega⟩
 rw [bu] at hb
 simp only [go_sem]
 have h1:=hp q q.peek n l (by omega) (by omega)
 have g1:=hps q l
 obtain ⟨fd,s1,e1⟩:∃ fd s1,part q q.peek l=(fd,s1):=⟨_,_,rfl⟩
 rw [e1] at h1 g1 hb
 simp only at h1 g1 hb
 rw [show fD fd=.agg [.str fd.nm,.str fd.var,i64 fd.to] from rfl] at h1
 have n1:=g1.len
 have h2:=hc s1 (by omega) (g1.nest.trans hqn)
 have g2:=hex s1
 obtain ⟨x1,s2,e2⟩:∃ x1 s2,ex s1=(x1,s2):=⟨_,_,rfl⟩
 rw [e2] at h2 g2 hb
 simp only at h2 hb
 have n2:=g2.ss.len
 have z2:=g2.ss.nest
 simp only at n2 z2
 have h3:=jE (G:=G) s2 b (by omega)
 unfold exD at h2
 refine ab E' [.bx [101] 0] (TO q.l q.fin) [101] (ee q.l q.fin (by omega)) rfl rfl ⟨by simp only [go_sem],by first | (rw [aa];decide) | (simp only [go_sem]<;>(try rw [aa])<;>decide)⟩ rfl (by unfold TO ag;simp only [go_sem]) (by unfold TO;simp only [go_sem]) ?_
 rintro _ _ ⟨rfl,rfl⟩
 unfold TO ag
 simp only [go_sem]
 refine ah E' (tau [([103],[97])]) [.d (.agg [i64 q.peek.k,.str q.peek.s,i64 q.peek.n,i64 q.peek.pos]),.bx [105] 0,.bx [102] 0] (NO q n l) [100,101,102,103,105] (h1) rfl (by simp only [go_sem];try rfl) ⟨by simp only [go_sem],by first | (rw [aa];decide) | (simp only [go_sem]<;>(try rw [aa])<;>decide)⟩ rfl (by unfold NO FO RO TO ag;simp only [go_sem]) (by unfold NO FO RO TO;simp only [go_sem]) ?_
 rintro _ _ ⟨rfl,rfl⟩
 unfold NO FO RO TO ag
 simp only [go_sem]
 refine ⟨Nat.le_refl _,?_⟩
 refine ab E' [.bx [100] 0] (RO s1) [100,101] (h2) rfl rfl ⟨by simp only [go_sem],by first | (rw [aa];decide) | (simp only [go_sem]<;>(try rw [aa])<;>decide)⟩ rfl (by unfold RO TO ag;simp only [go_sem]) (by unfold RO TO;simp only [go_sem]) ?_
 rintro _ _ ⟨rfl,rfl⟩
 unfold RO TO ag
 simp only [go_sem]
 refine ⟨by omega,?_⟩
 rw [show List.map exD ks++[.agg [.sl (some 9) (List.map enD x1)]]=(ks++[x1]).map exD by rw [List.map_append];rfl]
 refine au mixed E' fun X=>?_
 simp only [go_sem]
 refine ga X (d:=27) [102] 0 none [.d (i64 n.k),.d (i64 n.a),.d (i64 n.b),.d (i64 n.c),.d (i64 n.n),.d (.str n.name),.d (.str n.s),.vw [97] 0 l.length,.d (i64 n.pos)] (by simp only [go_sem]) rfl rfl ?_
 simp only [go_sem]
 rw [show List.map fD l++[.agg [.str fd.nm,.str fd.var,i64 fd.to]]=(l++[fd]).map fD by rw [List.map_append];rfl]
 refine ⟨by omega,?_⟩
 refine ga X (d:=33) [102] 0 none [.d (i64 n.k),.d (i64 n.a),.d (i64 n.b),.d (i64 n.c),.d (i64 n.n),.d (.str n.name),.d (.str n.s),.vw [97] 0 l.length,.d (i64 n.pos)] (by simp only [go_sem]) rfl rfl ?_
 simp only [go_sem]
 refine ⟨by decide +kernel,?_⟩
 refine ab E' [.bx [100] 0,.d (.str b)] (RO s2) [100,101] (h3) rfl rfl ⟨by simp only [go_sem],by first | (rw [aa];decide) | (simp only [go_sem]<;>(try rw [aa])<;>decide)⟩ rfl (by unfold RO TO ag;simp only [go_sem]) (by unfold RO TO;simp only [go_sem]) ?_
 rintro _ _ ⟨rfl,rfl⟩
 unfold RO TO ag
 simp only [go_sem]
 refine aV E' (fun h=>?_) (fun h=>?_)<;>simp only [go_sem]
 ·have h':s2.sees 7 b=false:=by simpa using h
  rw [fh h',hQ]
  rw [if_neg (by rw [h'];decide)] at hb
  subst hb
  simp only [go_sem]
  refine ⟨_,_,[100,101,102,103,105,106,107],tau [([106],[32]),([107],[24])],⟨rfl,rfl⟩,?_⟩
  unfold NQ RO TO ag
  simp only [go_sem]
  simp only [List.length_append,List.length_singleton,and_self]
 ·have h':s2.sees 7 b=true:=by simpa using h
  have hsl:=bn h'
  rw [dL h',hQ]
  rw [if_pos h'] at hb
  simp only [go_sem]
  refine ⟨⟨(m,s2.next,l++[fd],ks++[x1]),hb,by show s2.next.l.length<m;omega,by simp [hlk],by show (l++[fd]).length+s2.next.l.length≤_;rw [List.length_append,List.length_singleton];omega,by show s2.next.nest=N;rw [← hqn,← g1.nest,← z2];rfl⟩,by show s2.next.l.length<q.l.length;omega,tau [([97],[32]),([98],[24])],?_,?_,?_,?_,?_⟩<;>simp only [go_sem]
  all_goals simp only [List.length_append,List.length_singleton,and_self]
end Go.Proofs.YtejpnabbmgpmaaaGreatDoor

namespace Go.Proofs.YtejpnabbmgpmaaaGreatDoor
open Go.Ab
theorem Hr {G} {N:Nat} {ex:PS→PR} (hex:∀ s,GP 1 s (ex s)) (hc:Reads 34 G N ex):qM 181 G N (cK ex):=by
 intro s p hl hN
 generalize hR:cK ex s p=R
 unfold cK at hR
 have h0:=jE (G:=G) s [125] (by omega)
 have hg:=fH hex [44] dM SS.field s.l.length.succ s [] [] rfl (fun _ h=>by cases h)
 have hp:=xd (G:=G) (b:=[44]) hex hc (Hl (G:=G)) (fun s l=>SS.field s l) s (nd0 11 p) hl hN
 rw [show (fun s l=>rI s s.peek l)=dM from rfl] at hp
 obtain ⟨F,hF⟩:∃ F,F=bu ex [44] dM s.l.length.succ s [] []:=⟨_,rfl⟩
 rw [← hF] at hg hp
 simp only [← hF] at hR
 obtain ⟨fl,ks,q⟩:=F
 simp only at hp hR
 have g1:=hg.sz
 have g2:=hg.ln
 have g3:=hg.ss.len
 have g4:=hg.eq
 simp only [bA,List.map_nil,List.sum_nil,List.length_nil] at g1 g2 g3 g4
 have hm:=fG (G:=G) q 7 [125] (by omega) (by decide)
 have h4:=qW (G:=G) { nd0 11 p with l:=fl } ks (by simp only;omega) (by omega) (by simp only [bA];omega)
  (fun l h=>(hg.tr l h).kids.2) (fun l h=>(hg.wd (s.l.length+1) (fun _ h=>by cases h) (by simp only;omega) l h).mono (by omega))
 unfold RO TO ag
 refine ao Tryz.func181 rfl (by decide +kernel) (by simp [Tryz.ntmps181]) (veil fun E=>?_)
 simp only [go_sem]
 refine ab E [.bx [100] 0,.d (.str [125])] (RO s) [100,101] (h0) rfl rfl ⟨by simp only [go_sem],by first | (rw [aa];decide) | (simp only [go_sem]<;>(try rw [aa])<;>decide)⟩ rfl (by unfold RO TO ag;simp only [go_sem]) (by unfold RO TO;simp only [go_sem]) ?_
 rintro _ _ ⟨rfl,rfl⟩
 unfold RO TO ag
 simp only [go_sem]
 refine aV E (fun h=>?_) (fun h=>?_)<;>simp only [go_sem]
 ·rw [if_pos h] at hR
  rw [dL h]
  have hlf:=gf (G:=G) (nd0 11 p) rfl
  generalize cA (nd0 11 p)=L at hlf hR
  unfold exD at hlf
  refine ae E hlf rfl rfl (by simp) ?_
  rintro _ rfl
  simp only [go_sem]
  subst hR
  refine ⟨_,_,[100,101],id,⟨rfl,rfl⟩,?_⟩
  simp only [go_sem]
  rfl
 ·rw [if_neg (by rw [h];decide)] at hR
  rw [fh h]
  refine yY E [5] 7 98 (some 3) [.d (i64 11),.d (i64 0),.d (i64 0),.d (i64 0),.d (i64 0),.d (.str []),.d (.str []),.d .nils,.d (i64 p)] rfl rfl (by rw [aa];decide) rfl ?_
  simp only [go_sem]
  refine ah E (tau [([105],[2]),([102],[5]),([103],[98])]) [.bx [100] 0,.bx [102] 0,.d (.str [44]),.clo 184 [.bx [105] 0,.bx [102] 0]] (NO s (nd0 11 p) []) [100,101,102,103,105] (hp) rfl (by simp only [go_sem];try rfl) ⟨by simp only [go_sem],by first | (rw [aa];decide) | (simp only [go_sem]<;>(try rw [aa])<;>decide)⟩ rfl (by unfold NO FO RO TO ag;simp only [go_sem];try rfl) (by unfold NO FO RO TO;simp only [go_sem]) ?_
  rintro _ _ ⟨rfl,rfl⟩
  unfold NQ NO FO RO TO ag nd0
  simp only [go_sem]
  refine ab E [.bx [100] 0,.d (i64 7),.d (.str [125])] (RO q) [100,101] (hm) rfl rfl ⟨by simp only [go_sem],by first | (rw [aa];decide) | (simp only [go_sem]<;>(try rw [aa])<;>decide)⟩ rfl (by unfold RO TO ag;simp only [go_sem]) (by unfold RO TO;simp only [go_sem]) ?_
  rintro _ _ ⟨rfl,rfl⟩
  unfold RO TO ag
  simp only [go_sem]
  refine aA E [15,107] (some 1) (ks.map exD) rfl (by simp only [go_sem];rfl) ?_
  simp only [go_sem]
  refine aA E [15,106] (some 3) (fl.map fD) rfl (by simp only [go_sem];rfl) ?_
  simp only [go_sem]
  generalize az { nd0 11 p with l:=fl } ks=J at h4 hR
  unfold exD at h4
  refine ae E h4 rfl rfl (by simp) ?_
  rintro _ rfl
  simp only [go_sem]
  subst hR
  refine ⟨_,_,[100,101],id,⟨rfl,rfl⟩,?_⟩
  simp only [go_sem]
  rfl
theorem Hg {G} {N:Nat} {ex:PS→PR} (hex:∀ s,GP 1 s (ex s)) (hc:Reads 34 G N ex):qM 182 G N (dY ex):=by
 intro s p hl hN
 generalize hR:dY ex s p=R
 unfold dY at hR
 have ce:=hc s hl hN
 have he:=hex s
 obtain ⟨e,s0,e0⟩:∃ e s0,ex s=(e,s0):=⟨_,_,rfl⟩
 rw [e0] at ce he hR
 simp only at ce hR
 have le:=he.ss.len
 have ne:=he.ss.nest
 have ze:=he.sz
 simp only at le ne ze
 have cm:=fG (G:=G) s0 1 bOf (by omega) (by decide)
 have hm:=SS.must s0 1 bOf
 generalize s0.must 1 bOf=s1 at cm hm hR
 have lm:=hm.len
 have nm:=hm.nest
 have hg:=fH hex [124] cH SS.branch s1.l.length.succ s1 [] [] rfl (fun _ h=>by cases h)
 have hp:=xd (G:=G) (b:=[124]) hex hc (F0 (G:=G)) (fun s l=>SS.branch s l) s1 (nd0 14 p) (by omega) (by rw [nm,ne,hN])
 rw [show (fun s l=>mG s s.peek l)=cH from rfl] at hp
 obtain ⟨F,hF⟩:∃ F,F=bu ex [124] cH s1.l.length.succ s1 [] []:=⟨_,rfl⟩
 rw [← hF] at hg hp
 simp only [← hF] at hR
 obtain ⟨fl,ks,q⟩:=F
 simp only at hp hR
 have g1:=hg.sz
 have g2:=hg.ln
 have g3:=hg.ss.len
 have g4:=hg.eq
 simp only [bA,List.map_nil,List.sum_nil,List.length_nil] at g1 g2 g3 g4
 have cx:=fG (G:=G) q 1 sW (by omega) (by decide)
 have h4:=qW (G:=G) { nd0 14 p with l:=fl } (e::ks) (by simp only;omega) (by rw [List.length_cons];omega) (by simp only [bA,List.map_cons,List.sum_cons];omega)
  (fun l h=>by
   rcases List.mem_cons.1 h with rfl | h
   ·exact he.tr.kids.2
   ·exact (hg.tr l h).kids.2)
  (fun l h=>by
   rcases List.mem_cons.1 h with rfl | h
   ·exact he.wd.mono (by omega)
   ·exact (hg.wd (s1.l.length+1) (fun _ h=>by cases h) (by simp only;omega) l h).mono (by omega))
 unfold exD at ce
 unfold RO TO ag
 refine ao Tryz.func182 rfl (by decide +kernel) (by simp [Tryz.ntmps182]) (veil fun E=>?_)
 simp only [go_sem]
 refine ab E [.bx [100] 0] (RO s) [100,101] (ce) rfl rfl ⟨by simp only [go_sem],by first | (rw [aa];decide) | (simp only [go_sem]<;>(try rw [aa])<;>decide)⟩ rfl (by unfold RO TO ag;simp only [go_sem]) (by unfold RO TO;simp only [go_sem]) ?_
 rintro _ _ ⟨rfl,rfl⟩
 unfold RO TO ag
 simp only [go_sem]
 refine ab E [.bx [100] 0,.d (i64 1),.d (.str bOf)] (RO s0) [100,101] (cm) rfl rfl ⟨by simp only [go_sem],by first | (rw [aa];decide) | (simp only [go_sem]<;>(try rw [aa])<;>decide)⟩ rfl (by unfold RO TO ag;simp only [go_sem]) (by unfold RO TO;simp only [go_sem]) ?_
 rintro _ _ ⟨rfl,rfl⟩
 unfold RO TO ag
 simp only [go_sem]
 refine yY E [5] 7 98 (some 3) [.d (i64 14),.d (i64 0),.d (i64 0),.d (i64 0),.d (i64 0),.d (.str []),.d (.str []),.d .nils,.d (i64 p)] rfl rfl (by rw [aa];decide) rfl ?_
 simp only [go_sem]
 refine ah E (tau [([105],[2]),([102],[5]),([103],[98])]) [.bx [100] 0,.bx [102] 0,.d (.str [124]),.clo 186 [.bx [105] 0,.bx [102] 0]] (NO s1 (nd0 14 p) []) [100,101,102,103,105] (hp) rfl (by simp only [go_sem];try rfl) ⟨by simp only [go_sem],by first | (rw [aa];decide) | (simp only [go_sem]<;>(try rw [aa])<;>decide)⟩ rfl (by unfold NO FO RO TO ag;simp only [go_sem];try rfl) (by unfold NO FO RO TO;simp only [go_sem]) ?_
 rintro _ _ ⟨rfl,rfl⟩
 unfold NQ NO FO RO TO ag nd0
 simp only [go_sem]
 refine ab E [.bx [100] 0,.d (i64 1),.d (.str sW)] (RO q) [100,101] (cx) rfl rfl ⟨by simp only [go_sem],by first | (rw [aa];decide) | (simp only [go_sem]<;>(try rw [aa])<;>decide)⟩ rfl (by unfold RO TO ag;simp only [go_sem]) (by unfold RO TO;simp only [go_sem]) ?_
 rintro _ _ ⟨rfl,rfl⟩
 unfold RO TO ag
 simp only [go_sem]
 refine lL E [16,107] (some 1) (ks.map exD) rfl ?_
 simp only [go_sem]
 refine lL E [16,106] (some 3) (fl.map fD) rfl ?_
 simp only [go_sem]
 refine au mixed E fun X=>?_
 simp only [go_sem]
 refine ⟨by omega,?_⟩
 generalize az { nd0 14 p with l:=fl } (e::ks)=J at h4 hR
 unfold exD at h4
 refine cU X 23 [23] (some 1) (.agg [.sl (some 9) (e.map enD)]::ks.map exD) h4 (fun _=>rfl) rfl rfl rfl (by simp) (by rw [List.drop_zero,List.take_of_length_le (by simp;omega)];rfl) (by simp only [go_sem]) ?_
 simp only [go_sem]
 refine ⟨by decide +kernel,?_⟩
 subst hR
 refine ⟨_,_,[100,101],id,⟨rfl,rfl⟩,?_⟩
 simp only [go_sem]
 rfl
end Go.Proofs.YtejpnabbmgpmaaaGreatDoor

namespace Go.Proofs.YtejpnabbmgpmaaaGreatDoor
open Go.Ab
theorem G6 {G} {N:Nat} {ex:PS→PR} (hex:∀ s,GP 1 s (ex s)) (hc:Reads 34 G N ex):Reads 178 G N (bG ex):=by
 intro s hl hN
 generalize hR:bG ex s=R
 unfold bG at hR
 rw [jD] at hR
 have hpk:=ee (G:=G) s.l s.fin (by omega)
 generalize cy s.l s.fin=t at hpk hR
 simp only at hR
 have hnx:s.next.nest=N:=hN
 have hnl:s.next.l.length≤100000:=by have:=(SS.next s).len;omega
 have c1:=j1 (G:=G) s cC (by omega)
 have c2:=j1 (G:=G) s bF (by omega)
 have c3:=jE (G:=G) s [40] (by omega)
 have c4:=jE (G:=G) s [123] (by omega)
 have c5:=j1 (G:=G) s fV (by omega)
 have cr:=Hr (G:=G) hex hc s.next t.pos hnl hnx
 have cc:=Hg (G:=G) hex hc s.next t.pos hnl hnx
 have ce:=hc s.next hnl hnx
 have he:=hex s.next
 generalize cK ex s.next t.pos=R1 at hR cr
 generalize dY ex s.next t.pos=R2 at hR cc
 obtain ⟨e0,s0,h0⟩:∃ e0 s0,ex s.next=(e0,s0):=⟨_,_,rfl⟩
 rw [h0] at ce hR he
 have ln:=he.ss.len
 simp only at hR ce ln
 have cm:=fG (G:=G) s0 7 [41] (by omega) (by decide)
 unfold exD at cr cc ce
 unfold RO TO ag
 refine ao Tryz.func178 rfl (by decide +kernel) (by simp [Tryz.ntmps178]) (veil fun E=>?_)
 simp only [go_sem]
 refine ab E [.bx [101] 0] (TO s.l s.fin) [101] (hpk) rfl rfl ⟨by simp only [go_sem],by first | (rw [aa];decide) | (simp only [go_sem]<;>(try rw [aa])<;>decide)⟩ rfl (by unfold TO ag;simp only [go_sem]) (by unfold TO;simp only [go_sem]) ?_
 rintro _ _ ⟨rfl,rfl⟩
 unfold TO ag
 simp only [go_sem]
 refine ab E [.bx [100] 0] (RO s) [100,101] (fC s) rfl rfl ⟨by simp only [go_sem],by first | (rw [aa];decide) | (simp only [go_sem]<;>(try rw [aa])<;>decide)⟩ rfl (by unfold RO TO ag;simp only [go_sem]) (by unfold RO TO;simp only [go_sem]) ?_
 rintro _ _ ⟨rfl,rfl⟩
 unfold RO TO ag
 simp only [go_sem]
 refine aV E (fun h=>?_) (fun h=>?_)<;>simp only [go_sem]
 ·rw [if_pos (by simpa using h)] at hR
  refine ab E [.bx [100] 0] (RO s) [100,101] (o9 s (by omega)) rfl rfl ⟨by simp only [go_sem],by first | (rw [aa];decide) | (simp only [go_sem]<;>(try rw [aa])<;>decide)⟩ rfl (by unfold RO TO ag;simp only [go_sem]) (by unfold RO TO;simp only [go_sem]) ?_
  rintro _ _ ⟨rfl,rfl⟩
  unfold RO TO ag
  simp only [go_sem]
  have hlf:=gf (G:=G) (nd0 1 0) rfl
  unfold noE at hR
  generalize cA (nd0 1 0)=L at hlf hR
  unfold exD at hlf
  refine ae E hlf rfl rfl (by simp) ?_
  rintro _ rfl
  simp only [go_sem]
  subst hR
  refine ⟨_,_,[100,101],id,⟨rfl,rfl⟩,?_⟩
  simp only [go_sem]
  all_goals first | rfl | exact ⟨rfl,rfl,rfl⟩
 rw [if_neg (by simpa using h)] at hR
 refine ai E (fun h=>?_) (fun h=>?_)<;>simp only [go_sem]
 ·rw [if_pos h] at hR
  refine ab E [.bx [101] 0] (TO s.l s.fin) [101] (jx s.l s.fin (by omega)) rfl rfl ⟨by simp only [go_sem],by first | (rw [aa];decide) | (simp only [go_sem]<;>(try rw [aa])<;>decide)⟩ rfl (by unfold TO ag;simp only [go_sem]) (by unfold TO;simp only [go_sem]) ?_
  rintro _ _ ⟨rfl,rfl⟩
  unfold TO ag
  simp only [go_sem]
  have hlf:=gf (G:=G) ({ nd0 1 t.pos with n:=t.n }) rfl
  generalize cA ({ nd0 1 t.pos with n:=t.n })=L at hlf hR
  unfold exD at hlf
  refine ae E hlf rfl rfl (by simp) ?_
  rintro _ rfl
  simp only [go_sem]
  subst hR
  refine ⟨_,_,[100,101],id,⟨rfl,rfl⟩,?_⟩
  simp only [go_sem]
  all_goals first | rfl | exact ⟨rfl,rfl,rfl⟩
 rw [if_neg h] at hR
 refine ai E (fun h=>?_) (fun h=>?_)<;>simp only [go_sem]
 ·rw [if_pos h] at hR
  refine ab E [.bx [101] 0] (TO s.l s.fin) [101] (jx s.l s.fin (by omega)) rfl rfl ⟨by simp only [go_sem],by first | (rw [aa];decide) | (simp only [go_sem]<;>(try rw [aa])<;>decide)⟩ rfl (by unfold TO ag;simp only [go_sem]) (by unfold TO;simp only [go_sem]) ?_
  rintro _ _ ⟨rfl,rfl⟩
  unfold TO ag
  simp only [go_sem]
  have hlf:=gf (G:=G) ({ nd0 3 t.pos with s:=t.s }) rfl
  generalize cA ({ nd0 3 t.pos with s:=t.s })=L at hlf hR
  unfold exD at hlf
  refine ae E hlf rfl rfl (by simp) ?_
  rintro _ rfl
  simp only [go_sem]
  subst hR
  refine ⟨_,_,[100,101],id,⟨rfl,rfl⟩,?_⟩
  simp only [go_sem]
  all_goals first | rfl | exact ⟨rfl,rfl,rfl⟩
 rw [if_neg h] at hR
 refine ai E (fun h=>?_) (fun h=>?_)<;>simp only [go_sem]
 ·rw [if_pos h] at hR
  refine ab E [.bx [101] 0] (TO s.l s.fin) [101] (jx s.l s.fin (by omega)) rfl rfl ⟨by simp only [go_sem],by first | (rw [aa];decide) | (simp only [go_sem]<;>(try rw [aa])<;>decide)⟩ rfl (by unfold TO ag;simp only [go_sem]) (by unfold TO;simp only [go_sem]) ?_
  rintro _ _ ⟨rfl,rfl⟩
  unfold TO ag
  simp only [go_sem]
  have hlf:=gf (G:=G) ({ nd0 4 t.pos with name:=t.s }) rfl
  generalize cA ({ nd0 4 t.pos with name:=t.s })=L at hlf hR
  unfold exD at hlf
  refine ae E hlf rfl rfl (by simp) ?_
  rintro _ rfl
  simp only [go_sem]
  subst hR
  refine ⟨_,_,[100,101],id,⟨rfl,rfl⟩,?_⟩
  simp only [go_sem]
  all_goals first | rfl | exact ⟨rfl,rfl,rfl⟩
 rw [if_neg h] at hR
 refine ab E [.bx [100] 0,.d (.str cC)] (RO s) [100,101] (c1) rfl rfl ⟨by simp only [go_sem],by first | (rw [aa];decide) | (simp only [go_sem]<;>(try rw [aa])<;>decide)⟩ rfl (by unfold RO TO ag;simp only [go_sem]) (by unfold RO TO;simp only [go_sem]) ?_
 rintro _ _ ⟨rfl,rfl⟩
 unfold RO TO ag
 simp only [go_sem]
 refine aV E (fun h=>?_) (fun h=>?_)<;>simp only [go_sem]
 ·rw [if_pos h] at hR
  rw [dL h]
  have hlf:=gf (G:=G) ({ nd0 2 t.pos with n:=1 }) rfl
  generalize cA ({ nd0 2 t.pos with n:=1 })=L at hlf hR
  unfold exD at hlf
  refine ae E hlf rfl rfl (by simp) ?_
  rintro _ rfl
  simp only [go_sem]
  subst hR
  refine ⟨_,_,[100,101],id,⟨rfl,rfl⟩,?_⟩
  simp only [go_sem]
  all_goals first | rfl | exact ⟨rfl,rfl,rfl⟩
 rw [if_neg (by rw [h];decide)] at hR
 rw [fh h]
 refine ab E [.bx [100] 0,.d (.str bF)] (RO s) [100,101] (c2) rfl rfl ⟨by simp only [go_sem],by first | (rw [aa];decide) | (simp only [go_sem]<;>(try rw [aa])<;>decide)⟩ rfl (by unfold RO TO ag;simp only [go_sem]) (by unfold RO TO;simp only [go_sem]) ?_
 rintro _ _ ⟨rfl,rfl⟩
 unfold RO TO ag
 simp only [go_sem]
 refine aV E (fun h=>?_) (fun h=>?_)<;>simp only [go_sem]
 ·rw [if_pos h] at hR
  rw [dL h]
  have hlf:=gf (G:=G) (nd0 2 t.pos) rfl
  generalize cA (nd0 2 t.pos)=L at hlf hR
  unfold exD at hlf
  refine ae E hlf rfl rfl (by simp) ?_
  rintro _ rfl
  simp only [go_sem]
  subst hR
  refine ⟨_,_,[100,101],id,⟨rfl,rfl⟩,?_⟩
  simp only [go_sem]
  all_goals first | rfl | exact ⟨rfl,rfl,rfl⟩
 rw [if_neg (by rw [h];decide)] at hR
 rw [fh h]
 refine ab E [.bx [100] 0,.d (.str [40])] (RO s) [100,101] (c3) rfl rfl ⟨by simp only [go_sem],by first | (rw [aa];decide) | (simp only [go_sem]<;>(try rw [aa])<;>decide)⟩ rfl (by unfold RO TO ag;simp only [go_sem]) (by unfold RO TO;simp only [go_sem]) ?_
 rintro _ _ ⟨rfl,rfl⟩
 unfold RO TO ag
 simp only [go_sem]
 refine aV E (fun h=>?_) (fun h=>?_)<;>simp only [go_sem]
 ·rw [if_pos h] at hR
  rw [dL h]
  refine ab E [.bx [100] 0] (RO s.next) [100,101] (ce) rfl rfl ⟨by simp only [go_sem],by first | (rw [aa];decide) | (simp only [go_sem]<;>(try rw [aa])<;>decide)⟩ rfl (by unfold RO TO ag;simp only [go_sem]) (by unfold RO TO;simp only [go_sem]) ?_
  rintro _ _ ⟨rfl,rfl⟩
  unfold RO TO ag
  simp only [go_sem]
  refine ab E [.bx [100] 0,.d (i64 7),.d (.str [41])] (RO s0) [100,101] (cm) rfl rfl ⟨by simp only [go_sem],by first | (rw [aa];decide) | (simp only [go_sem]<;>(try rw [aa])<;>decide)⟩ rfl (by unfold RO TO ag;simp only [go_sem]) (by unfold RO TO;simp only [go_sem]) ?_
  rintro _ _ ⟨rfl,rfl⟩
  unfold RO TO ag
  simp only [go_sem]
  subst hR
  refine ⟨_,_,[100,101],id,⟨rfl,rfl⟩,?_⟩
  simp only [go_sem]
  all_goals rfl
 rw [if_neg (by rw [h];decide)] at hR
 rw [fh h]
 refine ab E [.bx [100] 0,.d (.str [123])] (RO s) [100,101] (c4) rfl rfl ⟨by simp only [go_sem],by first | (rw [aa];decide) | (simp only [go_sem]<;>(try rw [aa])<;>decide)⟩ rfl (by unfold RO TO ag;simp only [go_sem]) (by unfold RO TO;simp only [go_sem]) ?_
 rintro _ _ ⟨rfl,rfl⟩
 unfold RO TO ag
 simp only [go_sem]
 refine aV E (fun h=>?_) (fun h=>?_)<;>simp only [go_sem]
 ·rw [if_pos h] at hR
  rw [dL h]
  refine ab E [.bx [100] 0,.d (i64 t.pos)] (RO s.next) [100,101] (cr) rfl rfl ⟨by simp only [go_sem],by first | (rw [aa];decide) | (simp only [go_sem]<;>(try rw [aa])<;>decide)⟩ rfl (by unfold RO TO ag;simp only [go_sem]) (by unfold RO TO;simp only [go_sem]) ?_
  rintro _ _ ⟨rfl,rfl⟩
  unfold RO TO ag
  simp only [go_sem]
  subst hR
  refine ⟨_,_,[100,101],id,⟨rfl,rfl⟩,?_⟩
  simp only [go_sem]
  all_goals rfl
 rw [if_neg (by rw [h];decide)] at hR
 rw [fh h]
 refine ab E [.bx [100] 0,.d (.str fV)] (RO s) [100,101] (c5) rfl rfl ⟨by simp only [go_sem],by first | (rw [aa];decide) | (simp only [go_sem]<;>(try rw [aa])<;>decide)⟩ rfl (by unfold RO TO ag;simp only [go_sem]) (by unfold RO TO;simp only [go_sem]) ?_
 rintro _ _ ⟨rfl,rfl⟩
 unfold RO TO ag
 simp only [go_sem]
 refine aV E (fun h=>?_) (fun h=>?_)<;>simp only [go_sem]
 ·rw [if_pos h] at hR
  rw [dL h]
  refine ab E [.bx [100] 0,.d (i64 t.pos)] (RO s.next) [100,101] (cc) rfl rfl ⟨by simp only [go_sem],by first | (rw [aa];decide) | (simp only [go_sem]<;>(try rw [aa])<;>decide)⟩ rfl (by unfold RO TO ag;simp only [go_sem]) (by unfold RO TO;simp only [go_sem]) ?_
  rintro _ _ ⟨rfl,rfl⟩
  unfold RO TO ag
  simp only [go_sem]
  subst hR
  refine ⟨_,_,[100,101],id,⟨rfl,rfl⟩,?_⟩
  simp only [go_sem]
  all_goals rfl
 rw [if_neg (by rw [h];decide)] at hR
 rw [fh h]
 refine ab E [.bx [100] 0] (RO s) [100,101] (o9 s (by omega)) rfl rfl ⟨by simp only [go_sem],by first | (rw [aa];decide) | (simp only [go_sem]<;>(try rw [aa])<;>decide)⟩ rfl (by unfold RO TO ag;simp only [go_sem]) (by unfold RO TO;simp only [go_sem]) ?_
 rintro _ _ ⟨rfl,rfl⟩
 unfold RO TO ag
 simp only [go_sem]
 have hlf:=gf (G:=G) (nd0 1 0) rfl
 unfold noE at hR
 generalize cA (nd0 1 0)=L at hlf hR
 unfold exD at hlf
 refine ae E hlf rfl rfl (by simp) ?_
 rintro _ rfl
 simp only [go_sem]
 subst hR
 refine ⟨_,_,[100,101],id,⟨rfl,rfl⟩,?_⟩
 simp only [go_sem]
 all_goals first | rfl | exact ⟨rfl,rfl,rfl⟩
end Go.Proofs.YtejpnabbmgpmaaaGreatDoor

namespace Go.Proofs.YtejpnabbmgpmaaaGreatDoor
open Go.Ab
theorem Bn (s:PS) (e p:Int) (he:e≠0):(s.fail e p).err≠0:=by
 unfold PS.fail
 split
 ·exact he
 ·assumption
theorem Df {G}:Reads 34 G 100 (cZ 0):=by
 intro s hl hN
 generalize hR:cZ 0 s=R
 unfold cZ at hR
 rw [jD] at hR
 have hpk:=ee (G:=G) s.l s.fin (by omega)
 generalize cy s.l s.fin=t at hpk hR
 have hf:=nX (G:=G) s 6 t.pos
 have hne:=Bn s 6 t.pos (by decide)
 generalize s.fail 6 t.pos=s2 at hf hne hR
 unfold noE at hR
 have hlf:=gf (G:=G) (nd0 1 0) rfl
 generalize cA (nd0 1 0)=L at hlf hR
 subst hR
 unfold exD at hlf
 unfold RO TO ag
 refine yH Tryz.func34 rfl (by decide +kernel) (by simp [Tryz.ntmps34]) fun B0 hB0=>?_
 refine aZ (aC fun E=>?_)
 simp only [go_sem]
 refine aZ (aC fun E=>?_)
 simp only [go_sem]
 refine ab E [.bx [101] 0] (TO s.l s.fin) [101] (hpk) rfl rfl ⟨by simp only [go_sem],by first | (rw [aa];decide) | (simp only [go_sem]<;>(try rw [aa])<;>decide)⟩ rfl (by unfold TO ag;simp only [go_sem]) (by unfold TO;simp only [go_sem]) ?_
 rintro _ _ ⟨rfl,rfl⟩
 unfold TO ag
 simp only [go_sem]
 refine aZ (aC fun E=>?_)
 simp only [go_sem]
 refine ai E (fun h=>?_) (fun h=>absurd (by omega) h)<;>simp only [go_sem]
 refine ab E [.bx [100] 0,.d (i64 6),.d (i64 t.pos)] (RO s) [100,101] (hf) rfl rfl ⟨by simp only [go_sem],by first | (rw [aa];decide) | (simp only [go_sem]<;>(try rw [aa])<;>decide)⟩ rfl (by unfold RO TO ag;simp only [go_sem]) (by unfold RO TO;simp only [go_sem]) ?_
 rintro _ _ ⟨rfl,rfl⟩
 unfold RO TO ag
 simp only [go_sem]
 refine aZ (aC fun E=>?_)
 simp only [go_sem]
 refine ab E [.bx [100] 0] (RO s2) [100,101] (fC s2) rfl rfl ⟨by simp only [go_sem],by first | (rw [aa];decide) | (simp only [go_sem]<;>(try rw [aa])<;>decide)⟩ rfl (by unfold RO TO ag;simp only [go_sem]) (by unfold RO TO;simp only [go_sem]) ?_
 rintro _ _ ⟨rfl,rfl⟩
 unfold RO TO ag
 simp only [go_sem]
 refine aV E (fun g=>?_) (fun g=>absurd (by simpa using g) hne)<;>simp only [go_sem]
 refine ae E hlf rfl rfl (by simp) ?_
 rintro _ rfl
 simp only [go_sem]
 refine yw (.inl rfl) hB0 ?_
 simp only [go_sem]
 refine ⟨_,_,[100,101],id,⟨rfl,rfl⟩,?_⟩
 simp only [go_sem]
 rfl
def C9 (ex:PS→PR) (s:PS):PR:=if s.err≠0 then (noE,s) else
 let r:=dS ex { s with nest:=s.nest+1 }
 (r.1,{ r.2 with nest:=s.nest })
set_option maxHeartbeats 1000000 in
theorem EE {G} {N:Nat} {ex:PS→PR} (hN0:N<100) (hex:∀ s,GP 1 s (ex s)) (hc:Reads 34 G (N+1) ex):Reads 34 G N (C9 ex):=by
 intro s hl hN
 generalize hR:C9 ex s=R
 unfold C9 dS at hR
 have hp1:({ s with nest:=s.nest+1 }:PS).peek=cy s.l s.fin:=rfl
 obtain ⟨s1,hs1⟩:∃ s1:PS,s1={ s with nest:=s.nest+1 }:=⟨_,rfl⟩
 rw [← hs1] at hp1
 simp only [← hs1,hp1] at hR
 have hpk:=ee (G:=G) s.l s.fin (by omega)
 generalize cy s.l s.fin=t at hpk hR
 have l1:s1.l.length≤100000:=by rw [hs1];exact hl
 have n1:s1.nest=N+1:=by rw [hs1];show s.nest+1=_;rw [hN]
 have hlf:=gf (G:=G) (nd0 1 0) rfl
 unfold noE at hR
 generalize cA (nd0 1 0)=L at hlf hR
 have c1:=j1 (G:=G) s1 oC (by omega)
 have c2:=j1 (G:=G) s1 kS (by omega)
 have c3:=j1 (G:=G) s1 bIf (by omega)
 have nn:=(SS.next s1).nest
 have ln:=(SS.next s1).len
 have c4:=IA (G:=G) hex hc s1.next t.pos (by omega) (nn.trans n1)
 have c5:=I9 (G:=G) hex hc s1.next t.pos (by omega) (nn.trans n1)
 have c6:=Ja (G:=G) hex (EZ hex (Ft hex (FM hex (G9 hex (G6 hex hc))))) s1 l1 n1
 have g4:=(va hex s1.next t.pos).ss.nest
 have g5:=(yu hex s1.next t.pos).ss.nest
 have g6:=(tZ hex s1).ss.nest
 generalize jY ex s1.next t.pos=R4 at c4 g4 hR
 generalize ifS ex s1.next t.pos=R5 at c5 g5 hR
 generalize lP ex s1=R6 at c6 g6 hR
 have c7:=lx (G:=G) s1.next 2 (by omega)
 have g7:=SS.of s1.next 2
 obtain ⟨nm,s2,e2⟩:∃ nm s2,s1.next.of 2=(nm,s2):=⟨_,_,rfl⟩
 rw [e2] at c7 g7
 simp only [e2] at hR
 simp only at c7 g7
 have l2:=g7.len
 have n2:=g7.nest
 have c8:=fG (G:=G) s2 7 bTo (by omega) (by decide)
 have g8:=SS.must s2 7 bTo
 generalize s2.must 7 bTo=s3 at c8 g8 hR
 have l3:=g8.len
 have n3:=g8.nest
 have c9:=hc s3 (by omega) (by rw [n3,n2,nn,n1])
 have g9:=hex s3
 obtain ⟨b,s4,e4⟩:∃ b s4,ex s3=(b,s4):=⟨_,_,rfl⟩
 rw [e4] at c9 g9
 simp only [e4] at hR
 have n4:=g9.ss.nest
 have z4:=g9.sz
 simp only at n4 z4
 have h4:=jT (G:=G) { nd0 5 t.pos with name:=nm } [b] rfl (by simp) (by simp only [bA,List.map_cons,List.map_nil,List.sum_cons,List.sum_nil];omega)
  (fun l h=>by rw [List.mem_singleton.1 h];exact g9.tr.kids.2)
  (fun l h=>by rw [List.mem_singleton.1 h];exact g9.wd.mono (by omega))
 generalize az { nd0 5 t.pos with name:=nm } [b]=J at h4 hR
 unfold exD at hlf c4 c5 c6 c9 h4
 unfold RO TO ag
 refine yH Tryz.func34 rfl (by decide +kernel) (by simp [Tryz.ntmps34]) fun B0 hB0=>?_
 refine aZ (aC fun E=>?_)
 simp only [go_sem]
 refine aZ (aC fun E=>?_)
 simp only [go_sem]
 refine ab E [.bx [101] 0] (TO s.l s.fin) [101] (hpk) rfl rfl ⟨by simp only [go_sem],by first | (rw [aa];decide) | (simp only [go_sem]<;>(try rw [aa])<;>decide)⟩ rfl (by unfold TO ag;simp only [go_sem]) (by unfold TO;simp only [go_sem]) ?_
 rintro _ _ ⟨rfl,rfl⟩
 unfold TO ag
 simp only [go_sem]
 refine aZ (aC fun E=>?_)
 simp only [go_sem]
 refine ai E (fun h=>absurd h (by omega)) (fun h=>?_)<;>simp only [go_sem]
 refine aZ (aC fun E=>?_)
 simp only [go_sem]
 refine ab E [.bx [100] 0] (RO s) [100,101] (fC s) rfl rfl ⟨by simp only [go_sem],by first | (rw [aa];decide) | (simp only [go_sem]<;>(try rw [aa])<;>decide)⟩ rfl (by unfold RO TO ag;simp only [go_sem]) (by unfold RO TO;simp only [go_sem]) ?_
 rintro _ _ ⟨rfl,rfl⟩
 unfold RO TO ag
 simp only [go_sem]
 refine aV E (fun g=>?_) (fun g=>?_)<;>simp only [go_sem]
 ·rw [if_pos (by simpa using g)] at hR
  refine ae E hlf rfl rfl (by simp) ?_
  rintro _ rfl
  simp only [go_sem]
  subst hR
  refine yw (.inl rfl) hB0 ?_
  simp only [go_sem]
  refine ⟨_,_,[100,101],id,⟨rfl,rfl⟩,?_⟩
  simp only [go_sem]
  all_goals first | rfl | exact ⟨rfl,rfl⟩ | exact ⟨rfl,rfl,rfl⟩
 rw [if_neg (by simpa using g)] at hR
 refine aZ (aC fun E=>?_)
 simp only [go_sem]
 rw [al (n:=(s.nest:Int)+1) ⟨by omega,by omega⟩]
 rw [show s.err=s1.err by rw [hs1],show s.pos=s1.pos by rw [hs1],show s.l=s1.l by rw [hs1],show s.fin=s1.fin by rw [hs1],show (s.nest:Int)+1=(s1.nest:Int) by rw [n1,← hN];rfl]
 refine aZ (vf ?_)
 refine FN rfl ?_
 simp only [go_sem]
 refine FV [[1]] rfl rfl (by intro p hp;rw [List.mem_singleton.1 hp];exact ⟨_,rfl⟩) ?_
 refine Aj ?_
 refine aZ (aC fun E=>?_)
 simp only [go_sem]
 refine ab E [.bx [100] 0,.d (.str oC)] (RO s1) [100,101] (c1) rfl rfl ⟨by simp only [go_sem],by first | (rw [aa];decide) | (simp only [go_sem]<;>(try rw [aa])<;>decide)⟩ rfl (by unfold RO TO ag;simp only [go_sem]) (by unfold RO TO;simp only [go_sem]) ?_
 rintro _ _ ⟨rfl,rfl⟩
 unfold RO TO ag
 simp only [go_sem]
 refine aV E (fun h=>?_) (fun h=>?_)<;>simp only [go_sem]
 ·rw [if_pos h] at hR
  rw [dL h]
  refine ab E [.bx [100] 0,.d (i64 2)] (RO s1.next) [100,101] (c7) rfl rfl ⟨by simp only [go_sem],by first | (rw [aa];decide) | (simp only [go_sem]<;>(try rw [aa])<;>decide)⟩ rfl (by unfold RO TO ag;simp only [go_sem]) (by unfold RO TO;simp only [go_sem]) ?_
  rintro _ _ ⟨rfl,rfl⟩
  unfold RO TO ag
  simp only [go_sem]
  refine ab E [.bx [100] 0,.d (i64 7),.d (.str bTo)] (RO s2) [100,101] (c8) rfl rfl ⟨by simp only [go_sem],by first | (rw [aa];decide) | (simp only [go_sem]<;>(try rw [aa])<;>decide)⟩ rfl (by unfold RO TO ag;simp only [go_sem]) (by unfold RO TO;simp only [go_sem]) ?_
  rintro _ _ ⟨rfl,rfl⟩
  unfold RO TO ag
  simp only [go_sem]
  refine au mixed E fun X=>?_
  simp only [go_sem]
  refine dr X [.bx [100] 0] (RO s3) [100,101] _ _ c9 rfl rfl ⟨by simp only [go_sem],by rw [aa];decide⟩ rfl (by unfold RO TO ag;simp only [go_sem]) (by unfold RO TO;simp only [go_sem]) (by unfold RO TO;simp only [go_sem]) ?_
  unfold RO TO ag
  simp only [go_sem]
  refine cU X 45 [45] (some 1) [.agg [.sl (some 9) (b.map enD)]] h4 (fun _=>rfl) rfl rfl rfl (by simp) rfl (by simp only [go_sem]) ?_
  simp only [go_sem]
  refine ⟨by decide +kernel,?_⟩
  subst hR
  refine qy (ns:=[[1]]) (.inl rfl) hB0 Tryz.func73 rfl (by decide +kernel) (by simp [Tryz.ntmps73]) (by intro p hp;rw [List.mem_singleton.1 hp];simp only [go_sem]) (veil fun E=>?_)
  simp only [go_sem]
  rw [iY]
  simp only [go_sem]
  rw [al (n:=(s4.nest:Int)-1) ⟨by omega,by omega⟩]
  refine ⟨pD (gY (by simp only [go_sem])),?_⟩
  simp only [iY]
  simp only [go_sem]
  refine ⟨_,_,[100,101],id,⟨rfl,rfl⟩,?_⟩
  simp only [go_sem]
  have hq:(s4.nest:Int)-1=(s.nest:Int):=by omega
  rw [hq]
  exact ⟨rfl,rfl⟩
 rw [if_neg (by rw [h];decide)] at hR
 rw [fh h]
 refine ab E [.bx [100] 0,.d (.str kS)] (RO s1) [100,101] (c2) rfl rfl ⟨by simp only [go_sem],by first | (rw [aa];decide) | (simp only [go_sem]<;>(try rw [aa])<;>decide)⟩ rfl (by unfold RO TO ag;simp only [go_sem]) (by unfold RO TO;simp only [go_sem]) ?_
 rintro _ _ ⟨rfl,rfl⟩
 unfold RO TO ag
 simp only [go_sem]
 refine aV E (fun h=>?_) (fun h=>?_)<;>simp only [go_sem]
 ·rw [if_pos h] at hR
  rw [dL h]
  refine ab E [.bx [100] 0,.d (i64 t.pos)] (RO s1.next) [100,101] (c4) rfl rfl ⟨by simp only [go_sem],by first | (rw [aa];decide) | (simp only [go_sem]<;>(try rw [aa])<;>decide)⟩ rfl (by unfold RO TO ag;simp only [go_sem]) (by unfold RO TO;simp only [go_sem]) ?_
  rintro _ _ ⟨rfl,rfl⟩
  unfold RO TO ag
  simp only [go_sem]
  subst hR
  refine qy (ns:=[[1]]) (.inl rfl) hB0 Tryz.func73 rfl (by decide +kernel) (by simp [Tryz.ntmps73]) (by intro p hp;rw [List.mem_singleton.1 hp];simp only [go_sem]) (veil fun E=>?_)
  simp only [go_sem]
  rw [iY]
  simp only [go_sem]
  rw [al (n:=(R4.2.nest:Int)-1) ⟨by omega,by omega⟩]
  refine ⟨pD (gY (by simp only [go_sem])),?_⟩
  simp only [iY]
  simp only [go_sem]
  refine ⟨_,_,[100,101],id,⟨rfl,rfl⟩,?_⟩
  simp only [go_sem]
  have hq:(R4.2.nest:Int)-1=(s.nest:Int):=by omega
  rw [hq]
  exact ⟨rfl,rfl⟩
 rw [if_neg (by rw [h];decide)] at hR
 rw [fh h]
 refine ab E [.bx [100] 0,.d (.str bIf)] (RO s1) [100,101] (c3) rfl rfl ⟨by simp only [go_sem],by first | (rw [aa];decide) | (simp only [go_sem]<;>(try rw [aa])<;>decide)⟩ rfl (by unfold RO TO ag;simp only [go_sem]) (by unfold RO TO;simp only [go_sem]) ?_
 rintro _ _ ⟨rfl,rfl⟩
 unfold RO TO ag
 simp only [go_sem]
 refine aV E (fun h=>?_) (fun h=>?_)<;>simp only [go_sem]
 ·rw [if_pos h] at hR
  rw [dL h]
  refine ab E [.bx [100] 0,.d (i64 t.pos)] (RO s1.next) [100,101] (c5) rfl rfl ⟨by simp only [go_sem],by first | (rw [aa];decide) | (simp only [go_sem]<;>(try rw [aa])<;>decide)⟩ rfl (by unfold RO TO ag;simp only [go_sem]) (by unfold RO TO;simp only [go_sem]) ?_
  rintro _ _ ⟨rfl,rfl⟩
  unfold RO TO ag
  simp only [go_sem]
  subst hR
  refine qy (ns:=[[1]]) (.inl rfl) hB0 Tryz.func73 rfl (by decide +kernel) (by simp [Tryz.ntmps73]) (by intro p hp;rw [List.mem_singleton.1 hp];simp only [go_sem]) (veil fun E=>?_)
  simp only [go_sem]
  rw [iY]
  simp only [go_sem]
  rw [al (n:=(R5.2.nest:Int)-1) ⟨by omega,by omega⟩]
  refine ⟨pD (gY (by simp only [go_sem])),?_⟩
  simp only [iY]
  simp only [go_sem]
  refine ⟨_,_,[100,101],id,⟨rfl,rfl⟩,?_⟩
  simp only [go_sem]
  have hq:(R5.2.nest:Int)-1=(s.nest:Int):=by omega
  rw [hq]
  exact ⟨rfl,rfl⟩
 rw [if_neg (by rw [h];decide)] at hR
 rw [fh h]
 refine aC fun E=>?_
 simp only [go_sem]
 refine ab E [.bx [100] 0] (RO s1) [100,101] (c6) rfl rfl ⟨by simp only [go_sem],by first | (rw [aa];decide) | (simp only [go_sem]<;>(try rw [aa])<;>decide)⟩ rfl (by unfold RO TO ag;simp only [go_sem]) (by unfold RO TO;simp only [go_sem]) ?_
 rintro _ _ ⟨rfl,rfl⟩
 unfold RO TO ag
 simp only [go_sem]
 subst hR
 refine qy (ns:=[[1]]) (.inl rfl) hB0 Tryz.func73 rfl (by decide +kernel) (by simp [Tryz.ntmps73]) (by intro p hp;rw [List.mem_singleton.1 hp];simp only [go_sem]) (veil fun E=>?_)
 simp only [go_sem]
 rw [iY]
 simp only [go_sem]
 rw [al (n:=(R6.2.nest:Int)-1) ⟨by omega,by omega⟩]
 refine ⟨pD (gY (by simp only [go_sem])),?_⟩
 simp only [iY]
 simp only [go_sem]
 refine ⟨_,_,[100,101],id,⟨rfl,rfl⟩,?_⟩
 simp only [go_sem]
 have hq:(R6.2.nest:Int)-1=(s.nest:Int):=by omega
 rw [hq]
 exact ⟨rfl,rfl⟩
theorem Cs {G}:∀ (m N:Nat),N+m=100→Reads 34 G N (cZ m)
 | 0,N,h=>by
   obtain rfl:N=100:=by omega
   exact Df
 | m+1,N,h=>EE (by omega) (gA m) (Cs m (N+1) (by omega))
end Go.Proofs.YtejpnabbmgpmaaaGreatDoor

namespace Go.Proofs.YtejpnabbmgpmaaaGreatDoor
open Go.Ab
def Fm (B:Nat) (f:EF):Prop:=f.nm.length≤B∧f.var.length≤B
def Nm (B:Nat) (n:EN):Prop:=n.name.length≤B∧n.s.length≤B∧∀ f∈n.l,Fm B f
def Sm (B:Nat) (ns:List EN):Prop:=∀ n∈ns,Nm B n
def Tm (B:Nat) (s:PS):Prop:=∀ t∈s.l,t.s.length≤B
section
variable {B:Nat}
theorem sV (ks:List Int) (o:Nat):∀ (l:List EF) (i:Nat),(∀ f∈l,Fm B f)→∀ f∈aT ks o l i,Fm B f
 | [],_,_,f,hf=>by simp [aT] at hf
 | g::r,i,h,f,hf=>by
   rw [aT] at hf
   rcases List.mem_cons.1 hf with rfl | hf
   ·have:=h g List.mem_cons_self
    split<;>exact this
   ·exact sV ks o r (i+1) (fun x hx=>h x (List.mem_cons_of_mem _ hx)) f hf
theorem Nm.with {n:EN} (h:Nm B n) (ks:List Int):Nm B (aM n ks):=by
 refine ⟨h.1,h.2.1,fun f hf=>?_⟩
 have hf:f∈(if aw n.k then aT ks (aG n.k) n.l 0 else []):=hf
 split at hf
 ·exact sV _ _ _ _ h.2.2 f hf
 ·cases hf
theorem Bt:∀ (ls:List (List EN)) (acc:List EN) (rs:List Int),(∀ l∈ls,Sm B l)→Sm B acc→Sm B (br ls acc rs).1
 | [],_,_,_,h=>h
 | l::r,acc,rs,hl,h=>by
   refine Bt r _ _ (fun x hx=>hl x (List.mem_cons_of_mem _ hx)) fun n hn=>?_
   rcases List.mem_append.1 hn with hn | hn
   ·exact h n hn
   ·obtain ⟨m,hm,rfl⟩:=List.mem_map.1 hn
    exact (hl l List.mem_cons_self m hm).with _
theorem dK {n:EN} {ls:List (List EN)} (hn:Nm B n) (hl:∀ l∈ls,Sm B l):Sm B (az n ls):=by
 intro m hm
 rcases List.mem_append.1 hm with hm | hm
 ·exact Bt ls [] [] hl (fun _ h=>by cases h) m hm
 ·rw [List.mem_singleton.1 hm];exact hn.with _
theorem oZ (k p:Int):Nm B (nd0 k p):=⟨Nat.zero_le _,Nat.zero_le _,fun _ h=>by cases h⟩
theorem iq {n:EN} (hn:Nm B n):Sm B (cA n):=dK hn fun _ h=>by cases h
theorem yd:Sm B noE:=iq (oZ 1 0)
theorem Tm.ss {s r:PS} (h:SS s r) (g:Tm B s):Tm B r:=by
 obtain ⟨k,hk⟩:=h.suf
 intro t ht
 rw [hk] at ht
 exact g t (List.mem_of_mem_drop ht)
theorem Tm.peek {s:PS} (g:Tm B s):s.peek.s.length≤B:=by
 unfold PS.peek
 split
 ·exact Nat.zero_le _
 ·rename_i t r e
  exact g t (by rw [e];exact List.mem_cons_self)
theorem Tm.of {s:PS} (g:Tm B s) (k:Int):(s.of k).1.length≤B:=by
 unfold PS.of
 split
 ·exact g.peek
 ·exact Nat.zero_le _
variable {ex:PS→PR} (hex:∀ s,GP 1 s (ex s)) (hx:∀ s,Tm B s→Sm B (ex s).1)
include hex hx
omit hex hx in
theorem C3 {s:PS} (g:Tm B s) (l:List EF):Fm B (dM s l).1:=⟨g.of 2,Nat.zero_le _⟩
omit hex hx in
theorem Az {s:PS} (g:Tm B s) (l:List EF):Fm B (cH s l).1 :=
 ⟨g.of 3,Tm.of (g.ss (SS.partp (s:=s) (SS.of s 3) s.peek l fun _ h=>dq h)) 2⟩
theorem mX (between:List UInt8) (part:PS→List EF→EF × PS) (hp:∀ s l,SS s (part s l).2) (hf:∀ s l,Tm B s→Fm B (part s l).1):∀ (m:Nat) (s:PS) (l:List EF) (ks:List (List EN)),Tm B s→(∀ f∈l,Fm B f)→(∀ k∈ks,Sm B k) →
  (∀ f∈(bu ex between part m s l ks).1,Fm B f)∧(∀ k∈(bu ex between part m s l ks).2.1,Sm B k)
 | 0,s,l,ks,_,h1,h2=>⟨h1,h2⟩
 | m+1,s,l,ks,g,h1,h2=>by
   have g1:=g.ss (hp s l)
   have g2:=g1.ss (hex (part s l).2).ss
   have a1:∀ f∈l++[(part s l).1],Fm B f:=fun f h=>by
    rcases List.mem_append.1 h with h | h
    ·exact h1 f h
    ·rw [List.mem_singleton.1 h];exact hf s l g
   have a2:∀ k∈ks++[(ex (part s l).2).1],Sm B k:=fun k h=>by
    rcases List.mem_append.1 h with h | h
    ·exact h2 k h
    ·rw [List.mem_singleton.1 h];exact hx _ g1
   unfold bu
   simp only
   split
   ·exact mX between part hp hf m _ _ _ (g2.ss (SS.next _)) a1 a2
   ·exact ⟨a1,a2⟩
theorem zX (s:PS) (g:Tm B s) (pos:Int):Sm B (cK ex s pos).1:=by
 unfold cK
 split
 ·exact iq (oZ 11 pos)
 ·have h:=mX hex hx [44] dM SS.field (fun s l g=>C3 g l) s.l.length.succ s [] [] g (fun _ h=>by cases h) (fun _ h=>by cases h)
  exact dK ⟨Nat.zero_le _,Nat.zero_le _,h.1⟩ h.2
theorem A0 (s:PS) (g:Tm B s) (pos:Int):Sm B (dY ex s pos).1:=by
 unfold dY
 have g1:=(g.ss (hex s).ss).ss (SS.must (ex s).2 1 bOf)
 simp only
 have h:=mX hex hx [124] cH SS.branch (fun s l g=>Az g l) ((ex s).2.must 1 bOf).l.length.succ _ [] [] g1 (fun _ h=>by cases h) (fun _ h=>by cases h)
 refine dK ⟨Nat.zero_le _,Nat.zero_le _,h.1⟩ fun l hl=>?_
 rcases List.mem_cons.1 hl with rfl | hl
 ·exact hx s g
 ·exact h.2 l hl
theorem GJ (s:PS) (g:Tm B s):Sm B (bG ex s).1:=by
 have gn:=g.ss (SS.next s)
 unfold bG
 simp only
 repeat' split
 ·exact yd
 ·exact iq ⟨Nat.zero_le _,Nat.zero_le _,fun _ h=>by cases h⟩
 ·exact iq ⟨Nat.zero_le _,g.peek,fun _ h=>by cases h⟩
 ·exact iq ⟨g.peek,Nat.zero_le _,fun _ h=>by cases h⟩
 ·exact iq ⟨Nat.zero_le _,Nat.zero_le _,fun _ h=>by cases h⟩
 ·exact iq (oZ _ _)
 ·exact hx _ gn
 ·exact zX hex hx _ gn _
 ·exact A0 hex hx _ gn _
 ·exact yd
omit hex hx in
theorem xL:∀ (m:Nat) (a:List EN) (s:PS),Sm B a→Tm B s→Sm B (dA m a s).1
 | 0,_,_,h,_=>h
 | m+1,a,s,h,g=>by
   unfold dA
   split
   ·exact xL m _ _ (dK ⟨(g.ss (SS.next s)).of 2,Nat.zero_le _,fun _ h=>by cases h⟩ fun l hl=>by rw [List.mem_singleton.1 hl];exact h) ((g.ss (SS.next s)).ss (SS.of _ 2))
   ·exact h
theorem rC (s:PS) (g:Tm B s):Sm B (cB ex s).1:=xL _ _ _ (GJ hex hx s g) (g.ss (jI hex s).1.ss)
theorem w5:∀ (m:Nat) (a:List EN) (s:PS),Sm B a→Tm B s→Sm B (dO ex m a s).1
 | 0,_,_,h,_=>h
 | m+1,a,s,h,g=>by
   unfold dO
   split
   ·refine w5 m _ _ (dK (oZ _ _) fun l hl=>?_) (g.ss (dH hex s).1.ss)
    rcases List.mem_cons.1 hl with rfl | hl
    ·exact h
    ·rw [List.mem_singleton.1 hl];exact rC hex hx s g
   ·exact h
theorem DL (s:PS) (g:Tm B s):Sm B (fM ex s).1:=by
 unfold fM
 simp only
 split
 ·exact dK ⟨g.peek,Nat.zero_le _,fun _ h=>by cases h⟩ fun l hl=>by rw [List.mem_singleton.1 hl];exact rC hex hx _ (g.ss (SS.next s))
 ·exact w5 hex hx _ _ _ (rC hex hx s g) (g.ss (dH hex s).1.ss)
omit hex hx in
theorem wx (ops:List (List UInt8 × Int)) (sub:PS→PR) (h1:∀ s,SS s (sub s).2) (h2:∀ s,Tm B s→Sm B (sub s).1):∀ (m:Nat) (a:List EN) (s:PS),Sm B a→Tm B s→Sm B (eV ops sub m a s).1
 | 0,_,_,h,_=>h
 | m+1,a,s,h,g=>by
   unfold eV
   split
   ·have gn:=g.ss (SS.next s)
    refine wx ops sub h1 h2 m _ _ (dK ⟨Nat.zero_le _,Nat.zero_le _,fun _ h=>by cases h⟩ fun l hl=>?_) (gn.ss (h1 _))
    rcases List.mem_cons.1 hl with rfl | hl
    ·exact h
    ·rw [List.mem_singleton.1 hl];exact h2 _ gn
   ·exact h
theorem yN (s:PS) (g:Tm B s):Sm B (eM ex s).1:=wx _ _ (fun s=>(fu hex s).ss) (DL hex hx) _ _ _ (DL hex hx s g) (g.ss (fu hex s).ss)
theorem wm (s:PS) (g:Tm B s):Sm B (j2 ex s).1:=wx _ _ (fun s=>(eg hex s).ss) (yN hex hx) _ _ _ (yN hex hx s g) (g.ss (eg hex s).ss)
theorem Iu (s:PS) (g:Tm B s):Sm B (lP ex s).1:=by
 unfold lP
 simp only
 split
 ·refine dK ⟨Nat.zero_le _,Nat.zero_le _,fun _ h=>by cases h⟩ fun l hl=>?_
  rcases List.mem_cons.1 hl with rfl | hl
  ·exact wm hex hx s g
  ·rw [List.mem_singleton.1 hl];exact wm hex hx _ ((g.ss (gj hex s).ss).ss (SS.next _))
 ·exact wm hex hx s g
theorem Jn (s:PS) (g:Tm B s) (pos:Int):Sm B (jY ex s pos).1:=by
 unfold jY
 simp only
 obtain ⟨k,hk⟩:∃ k:Int,k=if s.sees 1 gh=true then 8 else 7:=⟨_,rfl⟩
 rw [← hk]
 have g1:=g.ss (SS.may s 1 gh)
 have g2:=g1.ss (SS.of _ 2)
 have g3:=g2.ss (SS.must _ 7 [61])
 have g4:=g3.ss (hex _).ss
 refine dK ⟨g1.of 2,Nat.zero_le _,fun _ h=>by cases h⟩ fun l hl=>?_
 rcases List.mem_cons.1 hl with rfl | hl
 ·exact hx _ g3
 ·rw [List.mem_singleton.1 hl]
  refine hx _ (Tm.ss (SS.must _ 1 bIn) ?_)
  split
  ·intro t ht
   rw [nE] at ht
   exact g4 t ht
  ·exact g4
theorem Lc (s:PS) (g:Tm B s) (pos:Int):Sm B (ifS ex s pos).1:=by
 unfold ifS
 simp only
 have g1:=(g.ss (hex _).ss).ss (SS.must _ 1 jQ)
 have g2:=(g1.ss (hex _).ss).ss (SS.must _ 1 jU)
 refine dK (oZ _ _) fun l hl=>?_
 simp only [List.mem_cons,List.not_mem_nil,or_false] at hl
 rcases hl with rfl | rfl | rfl
 ·exact hx _ g
 ·exact hx _ g1
 ·exact hx _ g2
theorem Gu (s:PS) (g:Tm B s):Sm B (dS ex s).1:=by
 have gn:=g.ss (SS.next s)
 unfold dS
 simp only
 repeat' split
 ·exact dK ⟨gn.of 2,Nat.zero_le _,fun _ h=>by cases h⟩ fun l hl=>by rw [List.mem_singleton.1 hl];exact hx _ ((gn.ss (SS.of _ 2)).ss (SS.must _ 7 bTo))
 ·exact Jn hex hx _ gn _
 ·exact Lc hex hx _ gn _
 ·exact Iu hex hx s g
end
theorem yQ {B:Nat}:∀ (m:Nat) (s:PS),Tm B s→Sm B (cZ m s).1
 | 0,s,_=>yd
 | m+1,s,g=>by
   unfold cZ
   split
   ·exact yd
   ·exact Gu (gA m) (yQ m) _ g
theorem qL:∀ (m:Nat) (r:List UInt8) (i:Nat) (acc:List UInt8),(de m r i acc).1.length≤200
 | 0,_,_,_=>Nat.zero_le _
 | _+1,[],_,_=>Nat.zero_le _
 | m+1,c::r,i,acc=>by
   unfold de
   split
   ·split
    ·exact Nat.zero_le _
    ·simp only;omega
   split
   ·split
    ·exact Nat.zero_le _
    ·exact qL m _ _ _
   split
   ·exact qL m _ _ _
   ·exact Nat.zero_le _
theorem H4 (s:List UInt8):(bL s).t.s.length≤200:=by
 unfold bL
 split
 ·unfold ji
  repeat' split
  ·exact Nat.zero_le _
  all_goals (show (s.take _).length≤_;rw [List.length_take];omega)
 split
 ·unfold tq
  repeat' split
  ·exact Nat.zero_le _
  ·exact Nat.zero_le _
  ·show ((s.drop 1).take _).length≤_;rw [List.length_take];omega
 split
 ·exact Nat.zero_le _
 split
 ·unfold pL cX
  repeat' split
  ·exact Nat.zero_le _
  ·exact qL _ _ _ _
  ·exact Nat.zero_le _
 ·unfold iZ
  repeat' split
  ·show (s.take _).length≤_;rw [List.length_take];omega
  ·exact Nat.zero_le _
  ·show (s.take _).length≤_;rw [List.length_take];omega
theorem DZ:∀ (m:Nat) (s:List UInt8) (a:Nat),∀ q∈b8 m s a,q.2.t.s.length≤200
 | 0,_,_,_,h=>by simp [b8] at h
 | m+1,s,a,q,h=>by
   unfold b8 at h
   split at h
   ·cases h
   split at h
   ·rw [List.mem_singleton.1 h];exact H4 _
   ·rcases List.mem_cons.1 h with rfl | h
    ·exact H4 _
    ·exact DZ m _ _ q h
theorem KB (s:List UInt8):∀ t∈(bS s).1,t.s.length≤200:=by
 unfold bS
 split
 ·intro _ h;cases h
 ·intro t ht
  obtain ⟨q,hq,rfl⟩:=List.mem_map.1 ht
  exact DZ _ _ _ q hq
end Go.Proofs.YtejpnabbmgpmaaaGreatDoor

namespace Go.Proofs.YtejpnabbmgpmaaaGreatDoor
open Go.Ab
def gx (q:List EN × Int × Int):AV:=.tup [.d (if q.2.2=0 then exD q.1 else .agg [.nils]),.d (i64 q.2.1),.d (i64 q.2.2)]
theorem Jb {G} (s:PS) (ns:List EN) (hN:ns.length≤1000000) (hs:∀ n∈ns,eY BIG n):HCall Tryz.prog G 37 [.bx [100] 0,.d (exD ns)] (RO s) [100,101] (fun r hp'=>r=gx (om s ns)∧hp'=RO s):=by
 generalize hR:om s ns=R
 unfold om at hR
 have c1:=J0 (G:=G) ns (fun n=>decide (1048576<n.pos)) 82 [] hN (fun x _=>Jj x)
 have c2:=vZ (G:=G) ns hs hN
 generalize (ns.any fun n=>decide (1048576<n.pos))=b at c1 hR
 generalize dt ns=m at c2 hR
 have c3:=HP.clo (args:=[.d (.sl (some 9) (ns.map enD)),.clo 82 []]) rfl (fun i x y hx hy=>by
  rcases i with _ | _ | i
  ·cases hx;cases hy;exact .inl rfl
  ·cases hx;cases hy;exact .inr ⟨82,rfl,rfl⟩
  ·cases hx) c1
 unfold exD at *
 unfold RO TO ag
 refine ao Tryz.func37 rfl (by decide +kernel) (by simp [Tryz.ntmps37]) (veil fun E=>?_)
 simp only [go_sem]
 refine ab E [.bx [100] 0] (RO s) [100,101] (fC s) rfl rfl ⟨by simp only [go_sem],by first | (rw [aa];decide) | (simp only [go_sem]<;>(try rw [aa])<;>decide)⟩ rfl (by unfold RO TO ag;simp only [go_sem]) (by unfold RO TO;simp only [go_sem]) ?_
 rintro _ _ ⟨rfl,rfl⟩
 unfold RO TO ag
 simp only [go_sem]
 refine aV E (fun h=>?_) (fun h=>?_)<;>simp only [go_sem]
 ·have h':¬ s.err=0:=by simpa using h
  rw [if_pos h'] at hR
  refine au mixed E fun X=>?_
  simp only [go_sem]
  refine ga X (d:=13) [100] 0 none [.bx [101] 0,.d (i64 s.err),.d (i64 s.pos),.d (i64 s.nest)] (by simp only [go_sem]) rfl rfl ?_
  simp only [go_sem]
  refine ga X (d:=17) [100] 0 none [.bx [101] 0,.d (i64 s.err),.d (i64 s.pos),.d (i64 s.nest)] (by simp only [go_sem]) rfl rfl ?_
  simp only [go_sem]
  refine ⟨by decide +kernel,?_⟩
  subst hR
  have he:gx ([],s.pos,s.err)=.tup [.d (.agg [.nils]),.d (i64 s.pos),.d (i64 s.err)]:=by unfold gx;rw [if_neg h']
  rw [he]
  refine ⟨_,_,[100,101],id,⟨rfl,rfl⟩,?_⟩
  simp only [go_sem]
 rw [if_neg (by simpa using h)] at hR
 refine ab E [.d (.sl (some 9) (ns.map enD)),.clo 82 []] [] [] c3 rfl rfl ⟨by simp only [go_sem],by rw [aa];decide⟩ rfl (by simp only [go_sem]) (by simp only [go_sem]) ?_
 rintro _ _ ⟨rfl,_,rfl⟩
 simp only [go_sem]
 refine aV E (fun h=>?_) (fun h=>?_)<;>simp only [go_sem]
 ·rw [if_pos h] at hR
  subst hR
  have he:gx ([],0,7)=.tup [.d (.agg [.nils]),.d (i64 0),.d (i64 7)]:=by unfold gx;rw [if_neg (by decide)]
  rw [he]
  refine ⟨_,_,[100,101],id,⟨rfl,rfl⟩,?_⟩
  simp only [go_sem]
 rw [if_neg (by rw [h];decide)] at hR
 refine ae E c2 rfl rfl (by simp) ?_
 rintro _ rfl
 simp only [go_sem]
 refine aV E (fun h=>?_) (fun h=>?_)<;>simp only [go_sem]
 ·have h':¬ m=0:=by simpa using h
  rw [if_pos h'] at hR
  subst hR
  have he:gx ([],0,m)=.tup [.d (.agg [.nils]),.d (i64 0),.d (i64 m)]:=by unfold gx;rw [if_neg h']
  rw [he]
  refine ⟨_,_,[100,101],id,⟨rfl,rfl⟩,?_⟩
  simp only [go_sem]
 ·have h':m=0:=by simpa using h
  rw [if_neg (by simpa using h')] at hR
  subst hR
  have he:gx (ns,0,0)=.tup [.d (.agg [.sl (some 9) (ns.map enD)]),.d (i64 0),.d (i64 0)]:=by unfold gx;rw [if_pos rfl];rfl
  rw [he]
  refine ⟨_,_,[100,101],id,⟨rfl,rfl⟩,?_⟩
  simp only [go_sem]
theorem EW {G} (l:List Tok) (fin:Int) (hl:l.length≤1000000):HCall Tryz.prog G 33 [.d (ag l),.d (i64 fin)] [] [] (fun r hp'=>r=.bx [101] 0∧hp'=[([101],.box [.vw [102] 0 l.length,.d (i64 fin)]),([102],.arr (some 4) (l.map gR))]):=by
 unfold ag
 refine ao Tryz.func33 rfl (by decide +kernel) (by simp [Tryz.ntmps33]) (veil fun E=>?_)
 simp only [go_sem]
 refine ⟨by omega,?_⟩
 refine ⟨_,_,[101,102],tau [([101],[9]),([102],[6])],⟨rfl,rfl⟩,?_⟩
 simp only [go_sem]
 all_goals rfl
theorem Ik {G} (l:List Tok) (fin:Int) (hl:l.length≤1000000):HCall Tryz.prog G 33 [.d (ag l),.d (i64 fin)] [] [] (fun r hp'=>r=.bx [101] 0∧hp'=TO l fin) :=
 HCall.fA (EW l fin hl) [102] (by
  rintro r hp' ⟨rfl,rfl⟩
  refine ⟨some 4,l.map gR,by simp only [go_sem],by simp only [go_sem],?_⟩
  unfold TO ag
  simp only [go_sem])
theorem Gf {s:PS} {ns:List EN} {r:PS} (h:GP 1 s (ns,r)) (hl:s.l.length≤100000) (hn:Sm 200 ns):ns.length≤1000000∧∀ n∈ns,eY BIG n:=by
 have h1:=h.sz
 have h2:=h.wd
 simp only at h1
 refine ⟨by omega,fun n hm=>?_⟩
 obtain ⟨a,b,c⟩:=hn n hm
 have:=h2 n hm
 simp only at this
 exact ⟨by unfold BIG;omega,by unfold BIG;omega,by omega,fun f hf=>⟨by have:=(c f hf).1;unfold BIG;omega,by have:=(c f hf).2;unfold BIG;omega⟩⟩
end Go.Proofs.YtejpnabbmgpmaaaGreatDoor

namespace Go.Proofs.YtejpnabbmgpmaaaGreatDoor
open Go.Ab
def zeroV:D:=.agg [i64 0,i64 0,.str [],.nils]
end Go.Proofs.YtejpnabbmgpmaaaGreatDoor

namespace Go.Proofs.YtejpnabbmgpmaaaGreatDoor
open Go.Ab
theorem w9:∀ {xs:List D} {ns:List EN},RwL xs ns→(∀ x∈xs,okW (some 9) x∧oks [.int .i64,.int .i64,.int .i64,.int .i64,.int .i64,.str,.str,.sl (some 3) [.str,.str,.int .i64],.int .i64] x.cells)→∀ n∈ns,inR n.n
 | [],[],_,_,n,hn=>by cases hn
 | x::xs,m::ns,h,hx,n,hn=>by
   rcases List.mem_cons.1 hn with rfl | hn
   ·obtain ⟨F,rfl,_⟩:=h.1
    have h2:=(hx _ List.mem_cons_self).2
    exact h2.2.2.2.2.1.2
   ·exact w9 h.2 (fun y hy=>hx y (List.mem_cons_of_mem _ hy)) n hn
 | [],_::_,h,_,_,_=>h.elim
 | _::_,[],h,_,_,_=>h.elim
theorem Ia {ds:List D} (h:oks Kp ds):∃ ns,Wk (.agg ds) (exD ns)∧ns.length≤maxLen∧(∀ n∈ns,InN n)∧∀ n∈ns,inR n.n:=by
 match ds,h with
 | [L],h =>
   obtain ⟨h1,_⟩:=h
   cases L with
   | nils =>
     refine ⟨[],Wk.agg rfl (by simp [D.scal]) fun i a b ha hb=>?_,by simp,by simp,by simp⟩
     match i,ha,hb with
     | 0,ha,hb=>cases ha;cases hb;exact .nils _
   | sl w xs =>
     obtain ⟨rfl,g1,g2⟩:=h1
     obtain ⟨ns,k1,k2⟩:=DQ g2
     exact ⟨ns,Lk k1,by rw [← k1.len];exact g1,k2,w9 k1 g2⟩
   | _=>exact h1.elim
end Go.Proofs.YtejpnabbmgpmaaaGreatDoor

namespace Go.Proofs.YtejpnabbmgpmaaaGreatDoor
open Go.Ab
theorem pE {n:Int} (h:inR n):(bB n).length≤20:=by
 have h1:-9223372036854775808≤n∧n≤9223372036854775807:=h
 unfold bB
 split
 ·have:=(pP (sA n.natAbs (by omega))).2
  rw [List.length_cons]
  omega
 ·have:=(pP (sA n.toNat (by omega))).2
  omega
theorem C8 (s:List UInt8):(quS s).length≤4*s.length+2:=by
 have:(s.flatMap quC).length≤4*s.length:=by
  induction s with
  | nil=>exact Nat.le_refl _
  | cons c s ih =>
    have:=xc c
    rw [List.flatMap_cons,List.length_append,List.length_cons]
    omega
 unfold quS
 rw [List.length_cons,List.length_append,List.length_singleton]
 omega
def noD:VT:=.mk 0 0 [] [] []
theorem zero_le:DLe zeroV noD.dat:=by
 unfold zeroV noD
 rw [Ke]
 refine .agg _ _ rfl (by simp [D.scal]) fun i x y hx hy=>?_
 rcases i with _ | _ | _ | _ | i
 ·cases hx;cases hy;exact .inl rfl
 ·cases hx;cases hy;exact .inl rfl
 ·cases hx;cases hy;exact .inl rfl
 ·cases hx;cases hy;exact .inr ⟨some 5,rfl,rfl⟩
 ·simp at hx
end Go.Proofs.YtejpnabbmgpmaaaGreatDoor

namespace Go.Proofs.YtejpnabbmgpmaaaGreatDoor
open Go.Ab
theorem Jp {t:Tk} (h:OkT t):(ttxt t).length≤802:=by
 unfold ttxt
 rcases h with ⟨hk,hs,-⟩ | ⟨hk,hs,-⟩ | ⟨hk,hs,-⟩ | ⟨hk,-,hs⟩ | ⟨hk,hs,-⟩ | ⟨hk,hs,-⟩
 ·rw [if_neg (by omega),if_neg (by omega)]
  have:=(cE hs).1
  omega
 ·rw [if_neg (by omega),if_neg (by omega)]
  unfold bD at hs
  simp only [Bool.and_eq_true] at hs
  have:=(cE hs.1.1).1
  omega
 ·rw [if_neg (by omega),if_neg (by omega)]
  unfold dQ at hs
  simp only [Bool.and_eq_true] at hs
  have:=(cE hs.1).1
  omega
 ·rw [if_pos hk]
  have:=pE hs
  omega
 ·rw [if_neg (by omega),if_pos hk]
  have:=C8 t.s
  omega
 ·rw [if_neg (by omega),if_neg (by omega)]
  have:∀ s∈([[40],[41],[44],[46],[61],[123],[125],[124],[45,62],[43],[45],[42],[47],[60],[61,61],[94]]:List (List UInt8)),s.length≤802:=by decide
  exact this _ hs
theorem rY:∀ l:List Pc,OkL l→(txP l).length≤802*l.length
 | [],_=>Nat.zero_le _
 | .sp::r,h=>by
   have:=rY r h
   rw [txP,List.length_cons,List.length_cons]
   omega
 | .tok t::r,h=>by
   have h1:=Jp (h t (List.mem_cons_self ..))
   have:=rY r fun u hu=>h u (List.mem_cons_of_mem _ hu)
   rw [txP,List.length_append,List.length_cons]
   omega
def pcL (ks:List (Nat × List Pc)):Nat:=(ks.map fun q=>q.2.length).sum
theorem xV (least:Nat) (q:Nat × List Pc):(atP least q).length≤q.2.length+2:=by
 unfold atP
 split
 ·omega
 ·simp only [List.length_cons,List.length_append,List.length_nil];omega
theorem wT (g:EF→Nat × List Pc→List Pc) (c:Nat) (hg:∀ f q,(g f q).length≤c+q.2.length) (sep:List Pc) (s:Nat) (hs:sep.length≤s):∀ (l:List EF) (ks:List (Nat × List Pc)),((List.zipWith g l ks).flatMap (sep++·)).length≤(c+s)*l.length+pcL ks
 | [],_=>by simp
 | _::_,[]=>by simp
 | f::l,q::ks=>by
   have h1:=hg f q
   have h2:=wT g c hg sep s hs l ks
   rw [List.zipWith_cons_cons,List.flatMap_cons,List.length_append,List.length_append,List.length_cons,Nat.mul_succ]
   unfold pcL at *
   rw [List.map_cons,List.sum_cons]
   omega
theorem uD (sep:List Pc):∀ L:List (List Pc),(fU sep L).length≤(L.flatMap (sep++·)).length
 | []=>Nat.le_refl _
 | a::L=>by
   rw [fU,List.flatMap_cons,List.length_append,List.length_append,List.length_append]
   omega
theorem jf (ks:List (Nat × List Pc)) (x y z:Nat):(cP ks 0 x).length+(cP ks 1 y).length+(cP ks 2 z).length≤pcL ks+6:=by
 unfold cP
 have h0:=xV x (ks.getD 0 (0,[]))
 have h1:=xV y (ks.getD 1 (0,[]))
 have h2:=xV z (ks.getD 2 (0,[]))
 have h:(ks.getD 0 (0,[])).2.length+(ks.getD 1 (0,[])).2.length+(ks.getD 2 (0,[])).2.length≤pcL ks:=by
  unfold pcL
  rcases ks with _ | ⟨a,_ | ⟨b,_ | ⟨c,r⟩⟩⟩<;>simp<;>omega
 omega
theorem GK (n:EN) (ks:List (Nat × List Pc)) (hl:n.l.length≤30):(pcN n ks).length≤400+pcL ks:=by
 have hf:=wT oK 4 (fun f q=>by unfold oK;simp only [List.length_append,List.length_cons,List.length_nil];omega) [sgP [44],.sp] 2 (by decide) n.l ks
 have hb:=wT nI 6 (fun f q=>by unfold nI;simp only [List.length_append,List.length_cons,List.length_nil];omega) [.sp,sgP [124],.sp] 3 (by decide) n.l (ks.drop 1)
 have hjf:=uD [sgP [44],.sp] (List.zipWith oK n.l ks)
 have hjb:=uD [.sp,sgP [124],.sp] (List.zipWith nI n.l (ks.drop 1))
 have hd:(cP ks 0 0).length+pcL (ks.drop 1)≤pcL ks+2:=by
  unfold cP
  have:=xV 0 (ks.getD 0 (0,[]))
  unfold pcL
  rcases ks with _ | ⟨a,r⟩<;>simp at *<;>omega
 unfold pcN
 by_cases h1:n.k=1
 ·rw [if_pos h1]
  simp only [List.length_append,List.length_cons,List.length_nil]
  omega
 rw [if_neg h1]
 by_cases h2:n.k=2
 ·rw [if_pos h2]
  simp only [List.length_append,List.length_cons,List.length_nil]
  omega
 rw [if_neg h2]
 by_cases h3:n.k=3
 ·rw [if_pos h3]
  simp only [List.length_append,List.length_cons,List.length_nil]
  omega
 rw [if_neg h3]
 by_cases h4:n.k=4
 ·rw [if_pos h4]
  simp only [List.length_append,List.length_cons,List.length_nil]
  omega
 rw [if_neg h4]
 by_cases h5:n.k=5
 ·rw [if_pos h5]
  simp only [List.length_append,List.length_cons,List.length_nil]
  have:=jf ks 0 0 0
  omega
 rw [if_neg h5]
 by_cases h6:n.k=6
 ·rw [if_pos h6]
  simp only [List.length_append,List.length_cons,List.length_nil]
  have:=jf ks 5 6 0
  omega
 rw [if_neg h6]
 by_cases h7:n.k=7
 ·rw [if_pos h7]
  simp only [List.length_append,List.length_cons,List.length_nil]
  have:=jf ks 0 0 0
  omega
 rw [if_neg h7]
 by_cases h8:n.k=8
 ·rw [if_pos h8]
  simp only [List.length_append,List.length_cons,List.length_nil]
  have:=jf ks 0 0 0
  omega
 rw [if_neg h8]
 by_cases h9:n.k=9
 ·rw [if_pos h9]
  simp only [List.length_append,List.length_cons,List.length_nil]
  have:=jf ks 0 0 0
  omega
 rw [if_neg h9]
 by_cases h10:n.k=10
 ·rw [if_pos h10]
  simp only [List.length_append,List.length_cons,List.length_nil]
  have:=jf ks (max (ak n) 2) (ak n+1) 0
  omega
 rw [if_neg h10]
 by_cases h11:n.k=11
 ·rw [if_pos h11]
  simp only [List.length_append,List.length_cons,List.length_nil]
  omega
 rw [if_neg h11]
 by_cases h12:n.k=12
 ·rw [if_pos h12]
  simp only [List.length_append,List.length_cons,List.length_nil]
  have:=jf ks 6 0 0
  omega
 rw [if_neg h12]
 by_cases h13:n.k=13
 ·rw [if_pos h13]
  simp only [List.length_append,List.length_cons,List.length_nil]
  have:=jf ks 6 0 0
  omega
 rw [if_neg h13]
 simp only [List.length_append,List.length_cons,List.length_nil]
 omega
mutual
theorem xn:∀ t:RT,t.rt→t.pcs.length≤400*t.sz
 | .mk n ts,h=>by
   rw [RT.rt] at h
   rw [RT.pcs,Bl]
   have h1:=GK n (RT.pcss ts) (ju h.1.1)
   have h2:=u2 ts h.2
   omega
theorem u2:∀ ts:List RT,RT.rts ts→pcL (RT.pcss ts)≤400*szs ts
 | [],_=>Nat.zero_le _
 | t::r,h=>by
   rw [RT.rts] at h
   rw [RT.pcss]
   have h1:=xn t h.1
   have h2:=u2 r h.2
   unfold pcL szs at *
   rw [List.map_cons,List.sum_cons,List.map_cons,List.sum_cons]
   simp only
   omega
end
theorem J6 {ns:List EN} (ht:bx ns) (hr:∀ n∈ns,inR n.n) {i:Nat} (hi:i<ns.length):(txP (trE ns i).pcs).length≤200000000:=by
 have hg:=(mM ht hr hi).rt
 have h1:=rY _ (mT _ hg)
 have h2:=xn _ hg
 have h3:=(tW (rG ht hi)).few
 rw [← qT ht hi] at h3
 unfold RT.sz at h2
 omega
theorem Ka {tt:TypeId} {fz:Nat × Nat} {ns:List EN} (ht:bx ns) (hr:∀ n∈ns,inR n.n) (i:Nat) (hi:i<ns.length) :
  Writes (GT tt fz) 28 [.d (i64 (i:Int))] (ns.map enD) (txP (trE ns i).pcs):=by
 induction i using Nat.strongRecOn with
 | ind i ih =>
   rw [yL ht hi]
   refine Fl ht hr hi fun k hk least=>?_
   obtain ⟨a,rfl,ha⟩:=yG ht hi hk
   have:=J5 (G:=GT tt fz) (by have:=ht.few;omega) (show a<ns.length by omega) (ih a ha (by omega)) least
   unfold TX
   rwa [Int.toNat_natCast]
end Go.Proofs.YtejpnabbmgpmaaaGreatDoor

namespace Go.Ab
section
variable {P:Program} {cf:Cf} {Q:Exit→St→Prop} {k:List It} {s:St}
theorem Hm {all:Array Oper} (h:ARun P cf k Q s):ARun P cf (.ops all []::k) Q s:=by
 intro B hB ds β a w hds hs l hl
 have:l=[]:=by simpa using hl
 subst this
 exact h B hB ds β a w hds hs
theorem HT {all:Array Oper} {o:Oper} {r:List Oper} (hg:o.guard=none) (h:AOk P cf o s (.ops all r::k) Q):ARun P cf (.ops all (o::r)::k) Q s:=by
 intro B hB ds β a w hds hs l hl
 cases l with
 | nil=>simp at hl
 | cons i l =>
   simp only [List.map_cons,List.cons.injEq] at hl
   obtain ⟨hi,hl⟩:=hl
   have hw:Region.wanted o (yielded all a.tmps)=true:=by simp [Region.wanted,hg]
   simp only [wpOpsIn,hi,hw,if_true]
   refine Oper.wpIn_mono ?_ (h B hB ds β a w hds hs _)
   rintro a' w' ⟨hd',s',β',hA,hs'⟩
   exact hA B hB ds β' a' w' hd' hs' l hl
theorem yZ {o:Oper} {s1:St} (h1:AOk P cf o s [] (fun _ s2=>s2=s1)) (h:ARun P cf k Q s1):AOk P cf o s k Q:=by
 intro B hB ds β a w hds hs Q'
 refine Oper.wpIn_mono ?_ (h1 B hB ds β a w hds hs Q')
 rintro a' w' ⟨hd',s2,β',hrun,hs2⟩
 obtain ⟨_,s3,β3,rfl,hs3⟩:=hrun B hB ds β' a' w' hd' hs2
 exact ⟨hd',s3,β3,h,hs3⟩
theorem Lo {all:Array Oper} {o:Oper} {r:List Oper} {s1:St} (hg:o.guard=none) (h1:opR P.ti cf.n o.op o.dst s=.ok s1) (h:ARun P cf (.ops all r::k) Q s1):ARun P cf (.ops all (o::r)::k) Q s:=by
 refine HT hg (yZ (s1:=s1) ?_ h)
 refine cQ (o:=o) (by cases o;simp only at hg;rw [hg]) ?_
 rw [h1,qE,dn]
theorem I7 {id:Nat} {ops:List Oper} (h:ARun P cf (.ops ops.toArray ops::k) Q s):ARun P cf (.code (.region id ops.toArray false)::k) Q s:=by
 intro B hB ds β a w hds hs
 refine wpIn_region ?_
 refine h B hB ds β a w hds hs _ ?_
 apply List.ext_getElem?
 intro j
 simp only [List.getElem?_map,Array.getElem?_toList]
 by_cases hj:j<ops.length
 ·simp [hj]
 ·simp [hj]
theorem Jg {x y:Code} (h:ARun P cf (.code x::.code y::k) Q s):ARun P cf (.code (.seq x y)::k) Q s :=
 fun B hB ds β a w hds hs=>wpIn_seq (wpIn_mono (h B hB ds β a w hds hs) (lQ _ y k))
theorem GF (h:ARun P cf k Q s):ARun P cf (.code .skip::k) Q s:=fun B hB ds β a w hds hs=>wpIn_skip (h B hB ds β a w hds hs)
theorem KD {c:Operand} {x y:Code} (hc:ev s c=.d (.bool false)) (h:ARun P cf (.code y::k) Q s):ARun P cf (.code (.cond c x y)::k) Q s:=by
 intro B hB ds β a w hds hs
 have hv:=hs.ev c
 rw [hc] at hv
 exact wpIn_cond hv.bool (h B hB ds β a w hds hs)
theorem J8 (h:∀ E:Eng P cf Q,E.run k s):ARun P cf k Q s:=aX (veil h)
theorem L1 (E:Eng P cf Q) {o:Oper} (s1:St) (h1:∀ E':Eng P cf (fun _ s2=>s2=s1),E'.stp o s [] .no) (h:ARun P cf k Q s1):E.stp o s k .no:=by
 rw [aO]
 refine yZ (s1:=s1) ?_ h
 obtain ⟨E'⟩:=D5 P cf (fun _ s2=>s2=s1)
 have:=h1 E'
 rwa [aO] at this
theorem GS {all:Array Oper} {d:Nat} {e:TypeId} {x:Operand} {ty:TypeId} {pos:String} {af:Array Edge} {r:List Oper} (cs:List AV) (hd:d<cf.n∧d ∉ s.used) (hc:cO (ev s x)=some cs)
  (h:ARun P cf (.ops all r::k) Q ((s.add d (.boxT (some e) cs)).put d (.bx [d] 0))):ARun P cf (.ops all ({ dst:=some d,op:=.box e x,type:=ty,pos:=pos,after:=af,guard:=none }::r)::k) Q s:=by
 refine HT rfl ?_
 intro B hB ds β a w hds hs Q'
 obtain ⟨h1,h2,h3⟩:=j5 hc (hs.ev x)
 obtain ⟨β',hsim⟩:=gT hs (by rw [hB.1];exact hd.1) hd.2 h1 h2 h3 e (some e) rfl
 exact aI (by simp) (by simp [execOp,Instr.box,newVar,newRow]) (.inl rfl) ⟨hds,_,β',h,hsim⟩
end
end Go.Ab

namespace Go.Proofs.YtejpnabbmgpmaaaGreatDoor
open Go.Ab
theorem FU {n:EN} (h:ar n=true) (hk:n.k≤4):jS n≠[]:=by
 obtain ⟨k1,-⟩:=fW h
 unfold jS
 by_cases h1:n.k=1
 ·rw [if_pos h1]
  unfold bB
  split
  ·simp
  ·obtain ⟨c,r,e,-⟩:=iT n.n.toNat
   rw [e]
   simp
 rw [if_neg h1]
 by_cases h2:n.k=2
 ·rw [if_pos h2]
  split<;>decide
 rw [if_neg h2]
 by_cases h3:n.k=3
 ·rw [if_pos h3]
  unfold quS
  simp
 rw [if_neg h3]
 unfold ar da at h
 simp only [Bool.and_eq_true] at h
 have h4:=h.2.1.1.1
 rw [if_pos (by omega)] at h4
 unfold bD at h4
 simp only [Bool.and_eq_true] at h4
 have:=(cE h4.1.1).2
 intro e
 rw [e] at this
 exact absurd this (by decide)
theorem KZ {ns:List EN} (ht:bx ns) {i:Nat} (hi:i<ns.length):txP (trE ns i).pcs≠[]:=by
 rw [yL ht hi]
 have h:=ht.right i hi
 obtain ⟨k1,k2⟩:=fW h
 unfold iF
 by_cases h4:(ndE ns i).k≤4
 ·rw [if_neg (by omega),if_neg (by omega),if_neg (by omega),if_neg (by omega),if_neg (by omega),if_neg (by omega),if_neg (by omega),if_neg (by omega),if_neg (by omega),if_neg (by omega)]
  exact FU h h4
 ·rcases (by omega:(ndE ns i).k=5∨(ndE ns i).k=6∨(ndE ns i).k=7∨(ndE ns i).k=8∨(ndE ns i).k=9∨(ndE ns i).k=10∨(ndE ns i).k=11∨(ndE ns i).k=12∨(ndE ns i).k=13∨(ndE ns i).k=14) with h | h | h | h | h | h | h | h | h | h
  all_goals simp [h]
theorem Jv {G} {ns:List EN} (hs:∀ n∈ns,eY BIG n) (hN:ns.length≤1000000) (h:dt ns≠0):HP Tryz.prog G 9 [exD ns] (fun r=>r=.tup [.d (.str []),.d (i64 (dt ns))]):=by
 have c:=vZ (G:=G) ns hs hN
 generalize dt ns=e at *
 unfold exD at *
 refine an Tryz.func9 rfl (by decide +kernel) (by simp [Tryz.ntmps9]) (veil fun E=>?_)
 simp only [go_sem]
 refine ae E (c) rfl rfl (by simp) ?_
 rintro _ rfl
 simp only [go_sem]
 refine ai E (fun g=>?_) (fun g=>?_)<;>simp only [go_sem]
 exact absurd (show ¬ e=0 from h) g
theorem qQ {tt:TypeId} {fz:Nat × Nat} {ns:List EN} (hs:∀ n∈ns,eY BIG n) (hr:∀ n∈ns,inR n.n) (h:dt ns=0):HP Tryz.prog (GT tt fz) 9 [exD ns] (fun r=>r=.tup [.d (.str (txP (trE ns (ns.length-1)).pcs)),.d (i64 0)]):=by
 have ht:=tW h
 have hN:=ht.few
 have hp:=ht.pos
 have c:=vZ (G:=GT tt fz) ns hs (by omega)
 have cw:=Ka (tt:=tt) (fz:=fz) ht hr (ns.length-1) (by omega)
 have hl:=J6 ht hr (show ns.length-1<ns.length by omega)
 have hne:=KZ ht (show ns.length-1<ns.length by omega)
 rw [h] at c
 rw [show ((ns.length-1:Nat):Int)=(ns.length:Int)-1 by omega] at cw
 generalize txP (trE ns (ns.length-1)).pcs=T at *
 unfold exD at *
 refine an Tryz.func9 rfl (by decide +kernel) (by simp [Tryz.ntmps9]) (veil fun E=>?_)
 simp only [go_sem]
 refine L1 E ?s1 (fun E'=>?hh) ?ht
 case hh =>
  refine ae E' c rfl rfl (by simp) ?_
  rintro _ rfl
  simp only [go_sem]
  rfl
 repeat' first | refine Jg ?_ | refine GF ?_ | refine Hm ?_ | refine I7 ?_ | refine GS [.d (.sl (some 9) (ns.map enD)),.d .nilp,.d .nils] ⟨by simp only [go_sem],by rw [aa];decide⟩ (by simp only [go_sem]) (J8 fun E=>?_) | refine KD (by simp only [go_sem]) ?_ | refine Lo rfl (by simp only [go_sem];rfl) ?_
 simp only [go_sem]
 rw [al ⟨by omega,by omega⟩]
 refine xj E [13] 2 99 (some 55) (some 5) none [.d (.sl (some 9) (ns.map enD)),.d .nilp,.d .nils] rfl rfl (by rw [aa];decide) ?_
 refine ah E (tau [([0],[13]),([1],[99])]) [.bx [0] 0,.d (i64 ((ns.length:Int)-1))] (prS (av false) (ns.map enD) []) [0,1] (cw false [] (by simp only [List.length_nil];omega)) rfl rfl ⟨by simp only [go_sem],by show ¬ _∈[99,13,1];decide⟩ rfl (by unfold prS;simp only [go_sem]) (by unfold prS;simp only [go_sem]) ?_
 rintro _ _ ⟨rfl,rfl⟩
 rw [List.nil_append]
 unfold prM prS
 simp only [go_sem]
 refine ah E (tau [([0],[13]),([1],[19,2])]) [.bx [0] 1] (prS (.bx [0] 1) (ns.map enD) T) [0,1] (Ku (ns.map enD) T hne (by omega)) rfl rfl ⟨by simp only [go_sem],by rw [aa];decide⟩ rfl (by unfold prS;simp only [go_sem]) (by unfold prS;simp only [go_sem]) ?_
 rintro _ _ ⟨rfl,rfl⟩
 unfold prS
 simp only [go_sem]
end Go.Proofs.YtejpnabbmgpmaaaGreatDoor

namespace Go.Proofs.YtejpnabbmgpmaaaGreatDoor
open Go.Ab
theorem IP {G} (n:EN) (p:Int) (hl:n.l.length≤1000000):HP Tryz.prog G 83 [enD { n with pos:=p },enD n] (fun r=>r=.d (.bool true)):=by
 unfold enD efD
 simp only
 refine an Tryz.func83 rfl (by decide +kernel) (by simp [Tryz.ntmps83]) (veil fun E=>?_)
 simp only [go_sem]
 repeat (first
  | (apply cq E;(· simp only [go_sem]);(· intro h;(try simp only [bq] at h);simp only [↓h,go_sem];rfl);simp only [go_sem])
  | (apply bl E;(· simp only [go_sem]);(· intro h;(try simp only [bq] at h);simp only [↓h,go_sem];rfl);(· intro h;(try simp only [bq] at h);simp only [↓h,go_sem];rfl);simp only [go_sem])
  | (apply bj E;(· simp only [go_sem]);(· rfl);(· intro h h';(try simp only [bq] at h h');simp only [↓h,↓h',go_sem];rfl);simp only [go_sem])
  | (apply aQ E;(· simp only [go_sem]);(· rfl);(· intro h h';(try simp only [bq] at h h');simp only [↓h,↓h',go_sem];rfl);(· intro h h';(try simp only [bq] at h h');simp only [↓h,↓h',go_sem];rfl);simp only [go_sem])
  | (apply b9 E;(· decide);simp only [go_sem]))
 refine xw E [2] (.agg [i64 n.k,i64 n.a,i64 n.b,i64 n.c,i64 n.n,.str n.name,.str n.s,.sl (some 3) (n.l.map fD),i64 p]) rfl rfl ?_
 simp only [go_sem]
 refine xw E [3] (.agg [i64 n.k,i64 n.a,i64 n.b,i64 n.c,i64 n.n,.str n.name,.str n.s,.sl (some 3) (n.l.map fD),i64 n.pos]) rfl rfl ?_
 simp only [go_sem]
 refine dm E (X:={ j:Nat // j≤n.l.length }) (fun x=>[(2,.d (.ptr (.agg [i64 n.k,i64 n.a,i64 n.b,i64 n.c,i64 n.n,.str n.name,.str n.s,.sl (some 3) (n.l.map fD),i64 p]))),(3,.d (.ptr (.agg [i64 n.k,i64 n.a,i64 n.b,i64 n.c,i64 n.n,.str n.name,.str n.s,.sl (some 3) (n.l.map fD),i64 n.pos]))),(5,.d (i64 x.1))]) (fun x=>n.l.length-x.1) rfl ⟨0,Nat.zero_le _⟩ ?_ ?_
 ·simp only [go_sem]
  all_goals rfl
 rintro ⟨j,hj⟩ E3
 refine bk E3 fun Q3 hQ3 E4=>?_
 simp only at hj ⊢
 simp only [go_sem]
 refine ai E4 (fun h4=>?_) (fun h4=>?_)<;>simp only [go_sem]
 ·have h4':j<n.l.length:=by omega
  refine au mixed E4 fun X=>?_
  simp only [go_sem]
  refine ⟨by omega,?_⟩
  rw [mH h4']
  simp only [go_sem]
  refine ⟨by omega,?_⟩
  rw [mH h4']
  simp only [go_sem]
  refine LB X (b:=true) H9 (by rw [La]) (by simp only [go_sem]) rfl rfl (by simp [eqS,eqP,kOk,ti9,ti3]) ?_
  simp only [go_sem]
  refine ⟨by decide +kernel,?_⟩
  rw [hQ3]
  simp only [go_sem]
  refine ⟨⟨j+1,by omega⟩,by show n.l.length-(j+1)<_;omega,?_⟩
  rw [al ⟨by omega,by omega⟩]
  rfl
 ·rw [hQ3]
  simp only [go_sem]
theorem JR {us ns:List EN} (h:us.map n0=ns.map n0) {i:Nat} (hi:i<ns.length):us.length=ns.length∧ndE us i={ ndE ns i with pos:=(ndE us i).pos }:=by
 have hl:us.length=ns.length:=by simpa using congrArg List.length h
 refine ⟨hl,?_⟩
 have e:(us.map n0)[i]?=(ns.map n0)[i]?:=by rw [h]
 rw [List.getElem?_map,List.getElem?_map,List.getElem?_eq_getElem hi,List.getElem?_eq_getElem (by omega)] at e
 rw [bh hi,bh (by omega)]
 simp only [Option.map_some,Option.some.injEq] at e
 generalize us[i]=a at *
 generalize ns[i]=b at *
 obtain ⟨k,x,y,z,m,nm,s,l,q⟩:=a
 obtain ⟨k',x',y',z',m',nm',s',l',q'⟩:=b
 unfold n0 at e
 simp only [EN.mk.injEq] at e ⊢
 simp [e]
theorem JU {G} {us ns:List EN} (h:us.map n0=ns.map n0) (hN:ns.length≤1000000) (hfl:∀ n∈ns,n.l.length≤1000000):HP Tryz.prog G 38 [exD us,exD ns] (fun r=>r=.d (.bool true)):=by
 have hl:us.length=ns.length:=by simpa using congrArg List.length h
 have hc:∀ i,i<ns.length→HP Tryz.prog G 83 [(us.map enD).getD i .nilp,(ns.map enD).getD i .nilp] (fun r=>r=.d (.bool true)):=fun i hi=>by
  have hin:ndE ns i∈ns:=by rw [bh hi];exact List.getElem_mem hi
  have e1:(us.map enD).getD i .nilp=enD (ndE us i):=by rw [bh (show i<us.length by omega)];simp [show i<us.length by omega]
  have e2:(ns.map enD).getD i .nilp=enD (ndE ns i):=by rw [bh hi];simp [hi]
  rw [e1,e2,(JR h hi).2]
  exact IP _ _ (hfl _ hin)
 have hgx:∀ i,i<ns.length→(us.map enD).getD i .nilp=_:=fun i hi=>bO (show i<us.length by omega)
 have hgy:∀ i,i<ns.length→(ns.map enD).getD i .nilp=_:=fun i hi=>bO hi
 have hxl:(us.map enD).length=ns.length:=by rw [List.length_map,hl]
 have hyl:(ns.map enD).length=ns.length:=List.length_map ..
 unfold exD
 generalize us.map enD=xs at *
 generalize ns.map enD=ys at *
 generalize ns.length=N at *
 refine an Tryz.func38 rfl (by decide +kernel) (by simp [Tryz.ntmps38]) (veil fun E=>?_)
 simp only [go_sem]
 simp only [hxl,hyl]
 simp only [go_sem]
 refine xw E [2] (.agg [.sl (some 9) xs]) rfl rfl ?_
 simp only [go_sem]
 refine xw E [3] (.agg [.sl (some 9) ys]) rfl rfl ?_
 simp only [go_sem]
 refine dm E (X:={ i:Nat // i≤N }) (fun x=>[(2,.d (.ptr (.agg [.sl (some 9) xs]))),(3,.d (.ptr (.agg [.sl (some 9) ys]))),(5,.d (i64 x.1))]) (fun x=>N-x.1) rfl ⟨0,Nat.zero_le _⟩ ?_ ?_
 ·simp only [go_sem]
  all_goals rfl
 rintro ⟨i,hi⟩ E'
 refine bk E' fun Q' hQ E'=>?_
 simp only at hi ⊢
 simp only [go_sem]
 simp only [hxl,hyl]
 refine ai E' (fun h1=>?_) (fun h1=>?_)<;>simp only [go_sem]
 ·have hi':i<N:=by omega
  have c:=hc i hi'
  rw [hgx i hi',hgy i hi'] at c
  refine au mixed E' fun X=>?_
  simp only [go_sem]
  refine ⟨by omega,?_⟩
  rw [hgx i hi']
  simp only [go_sem]
  refine ⟨by omega,?_⟩
  rw [hgy i hi']
  simp only [go_sem]
  refine dX X c rfl rfl (by simp) ?_
  simp only [go_sem]
  refine ⟨by decide +kernel,?_⟩
  rw [hQ]
  simp only [go_sem]
  refine ⟨⟨i+1,by omega⟩,by show N-(i+1)<_;omega,?_⟩
  rw [al ⟨by omega,by omega⟩]
  rfl
 ·rw [hQ]
  simp only [go_sem]
theorem Jh {G} {us ns:List EN} (hu:bx us) (hn:bx ns) (mu:dt us=0) (mn:dt ns=0) (h:us.map n0=((trE ns (ns.length-1)).enc).map n0) (h2:(trE us (us.length-1)).enc=us) :
  HP Tryz.prog G 12 [exD us,exD ns] (fun r=>r=.d (.bool true)):=by
 have san:∀ {xs:List EN},bx xs→∀ n∈xs,eY BIG n:=fun {xs} hx n hm=>by
  obtain ⟨i,hi,rfl⟩:=List.getElem_of_mem hm
  have:=hx.right i hi
  rw [bh hi] at this
  exact n8 this
 have hul:=hu.few
 have hnl:=hn.few
 have hup:=hu.pos
 have hnp:=hn.pos
 have c1:=wJ (G:=G) us (san hu) (by omega)
 have c2:=wJ (G:=G) ns (san hn) (by omega)
 have hi:ns.length-1<ns.length:=by omega
 have hse:=tW (rG hn hi)
 rw [← qT hn hi] at hse
 have hsl:=hse.few
 have c3:=Ek (G:=G) (xJ hu) hup (by unfold RT.sz;rw [h2];omega)
 have c4:=Ek (G:=G) (xJ hn) hnp (by unfold RT.sz;omega)
 rw [h2] at c3
 have c5:=JU (G:=G) h (by omega) (fun n hm=>by
  obtain ⟨i,hi,rfl⟩:=List.getElem_of_mem hm
  have:=hse.right i hi
  rw [bh hi] at this
  have:=ju this
  omega)
 rw [mu] at c1
 rw [mn] at c2
 generalize (trE ns (ns.length-1)).enc=T at *
 unfold exD at *
 refine an Tryz.func12 rfl (by decide +kernel) (by simp [Tryz.ntmps12]) (veil fun E=>?_)
 simp only [go_sem]
 refine au mixed E fun X=>?_
 simp only [go_sem]
 refine dX X c1 rfl rfl (by simp) ?_
 simp only [go_sem]
 refine dX X c2 rfl rfl (by simp) ?_
 simp only [go_sem]
 refine dX X c3 rfl rfl (by simp) ?_
 simp only [go_sem]
 refine dX X c4 rfl rfl (by simp) ?_
 simp only [go_sem]
 refine dX X c5 rfl rfl (by simp) ?_
 simp only [go_sem]
 decide +kernel
end Go.Proofs.YtejpnabbmgpmaaaGreatDoor

namespace Go.Proofs.YtejpnabbmgpmaaaGreatDoor
open Go.Ab
def mP:Pc→Nat
 | .sp=>20
 | .tok t=>if t.k=5 then 802 else 20
def mL (l:List Pc):Nat:=(l.map mP).sum
theorem cF (a b:List Pc):mL (a++b)=mL a+mL b:=by unfold mL;rw [List.map_append,List.sum_append]
theorem du:mL []=0:=rfl
theorem fm (r:List Pc):mL (.sp::r)=20+mL r:=rfl
theorem iE (w:List UInt8) (r:List Pc):mL (kwP w::r)=20+mL r:=rfl
theorem eW (w:List UInt8) (r:List Pc):mL (sgP w::r)=20+mL r:=rfl
theorem fY (w:List UInt8) (r:List Pc):mL (nmP w::r)=20+mL r:=rfl
theorem gw (w:List UInt8) (r:List Pc):mL (tgP w::r)=20+mL r:=rfl
theorem EM {t:Tk} (h:OkT t):(ttxt t).length≤mP (.tok t):=by
 unfold mP ttxt
 rcases h with ⟨hk,hs,-⟩ | ⟨hk,hs,-⟩ | ⟨hk,hs,-⟩ | ⟨hk,-,hs⟩ | ⟨hk,hs,-⟩ | ⟨hk,hs,-⟩
 ·simp only
  rw [if_neg (by omega),if_neg (by omega),if_neg (by omega)]
  exact (cE hs).1
 ·simp only
  rw [if_neg (by omega),if_neg (by omega),if_neg (by omega)]
  unfold bD at hs
  simp only [Bool.and_eq_true] at hs
  exact (cE hs.1.1).1
 ·simp only
  rw [if_neg (by omega),if_neg (by omega),if_neg (by omega)]
  unfold dQ at hs
  simp only [Bool.and_eq_true] at hs
  exact (cE hs.1).1
 ·simp only
  rw [if_pos hk,if_neg (by omega)]
  exact pE hs
 ·simp only
  rw [if_neg (by omega),if_pos hk,if_pos hk]
  have:=C8 t.s
  omega
 ·simp only
  rw [if_neg (by omega),if_neg (by omega),if_neg (by omega)]
  have:∀ s∈([[40],[41],[44],[46],[61],[123],[125],[124],[45,62],[43],[45],[42],[47],[60],[61,61],[94]]:List (List UInt8)),s.length≤20:=by decide
  exact this _ hs
theorem oe:∀ l:List Pc,OkL l→(txP l).length≤mL l
 | [],_=>Nat.zero_le _
 | .sp::r,h=>by
   have:=oe r h
   rw [txP,List.length_cons,fm]
   omega
 | .tok t::r,h=>by
   have h1:=EM (h t (List.mem_cons_self ..))
   have:=oe r fun u hu=>h u (List.mem_cons_of_mem _ hu)
   rw [txP,List.length_append,show mL (.tok t::r)=mP (.tok t)+mL r from rfl]
   omega
theorem DP:∀ l:List Pc,20*l.length≤mL l
 | []=>Nat.zero_le _
 | p::r=>by
   have:=DP r
   have h1:20≤mP p:=by
    cases p with
    | sp=>exact Nat.le_refl _
    | tok t=>unfold mP;simp only;split<;>omega
   rw [List.length_cons,show mL (p::r)=mP p+mL r from rfl]
   omega
def mK (ks:List (Nat × List Pc)):Nat:=(ks.map fun q=>mL q.2).sum
theorem yR (least:Nat) (q:Nat × List Pc):mL (atP least q)≤mL q.2+40:=by
 unfold atP
 split
 ·omega
 ·rw [eW,cF,eW,du];omega
theorem vB (g:EF→Nat × List Pc→List Pc) (c:Nat) (hg:∀ f q,mL (g f q)≤c+mL q.2) (sep:List Pc) (s:Nat) (hs:mL sep≤s):∀ (l:List EF) (ks:List (Nat × List Pc)),mL ((List.zipWith g l ks).flatMap (sep++·))≤(c+s)*ks.length+mK ks
 | [],_=>by simp [mL]
 | _::_,[]=>by simp [mL]
 | f::l,q::ks=>by
   have h1:=hg f q
   have h2:=vB g c hg sep s hs l ks
   rw [List.zipWith_cons_cons,List.flatMap_cons,cF,cF,List.length_cons,Nat.mul_succ]
   unfold mK at *
   rw [List.map_cons,List.sum_cons]
   omega
theorem x6 (sep:List Pc):∀ L:List (List Pc),mL (fU sep L)≤mL (L.flatMap (sep++·))
 | []=>Nat.le_refl _
 | a::L=>by
   rw [fU,List.flatMap_cons,cF,cF,cF]
   omega
theorem iR (ks:List (Nat × List Pc)) (x y z:Nat):mL (cP ks 0 x)+mL (cP ks 1 y)+mL (cP ks 2 z)≤mK ks+120:=by
 unfold cP
 have h0:=yR x (ks.getD 0 (0,[]))
 have h1:=yR y (ks.getD 1 (0,[]))
 have h2:=yR z (ks.getD 2 (0,[]))
 have h:mL (ks.getD 0 (0,[])).2+mL (ks.getD 1 (0,[])).2+mL (ks.getD 2 (0,[])).2≤mK ks:=by
  unfold mK
  rcases ks with _ | ⟨a,_ | ⟨b,_ | ⟨c,r⟩⟩⟩<;>simp [du]<;>omega
 omega
theorem IM (n:EN) (ks:List (Nat × List Pc)):mL (pcN n ks)≤802+180*ks.length+mK ks:=by
 have hf:=vB oK 80 (fun f q=>by unfold oK;simp only [List.cons_append,List.nil_append,fY,fm,eW];omega) [sgP [44],.sp] 40 (by decide) n.l ks
 have hb:=vB nI 120 (fun f q=>by unfold nI;simp only [List.cons_append,List.nil_append,fY,gw,fm,eW];omega) [.sp,sgP [124],.sp] 60 (by decide) n.l (ks.drop 1)
 have hjf:=x6 [sgP [44],.sp] (List.zipWith oK n.l ks)
 have hjb:=x6 [.sp,sgP [124],.sp] (List.zipWith nI n.l (ks.drop 1))
 have hdl:(ks.drop 1).length≤ks.length:=by rw [List.length_drop];omega
 have hd:mL (cP ks 0 0)+mK (ks.drop 1)≤mK ks+40:=by
  unfold cP
  have:=yR 0 (ks.getD 0 (0,[]))
  unfold mK
  rcases ks with _ | ⟨a,r⟩<;>simp [du] at *<;>omega
 unfold pcN
 by_cases h1:n.k=1
 ·rw [if_pos h1]
  simp [mL,mP]
  omega
 rw [if_neg h1]
 by_cases h2:n.k=2
 ·rw [if_pos h2]
  simp only [List.cons_append,List.nil_append,cF,du,fm,iE,eW,fY,gw]
  omega
 rw [if_neg h2]
 by_cases h3:n.k=3
 ·rw [if_pos h3]
  simp [mL,mP]
  omega
 rw [if_neg h3]
 by_cases h4:n.k=4
 ·rw [if_pos h4]
  simp only [List.cons_append,List.nil_append,cF,du,fm,iE,eW,fY,gw]
  omega
 rw [if_neg h4]
 by_cases h5:n.k=5
 ·rw [if_pos h5]
  simp only [List.cons_append,List.nil_append,cF,du,fm,iE,eW,fY,gw]
  have:=iR ks 0 0 0
  omega
 rw [if_neg h5]
 by_cases h6:n.k=6
 ·rw [if_pos h6]
  simp only [List.cons_append,List.nil_append,cF,du,fm,iE,eW,fY,gw]
  have:=iR ks 5 6 0
  omega
 rw [if_neg h6]
 by_cases h7:n.k=7
 ·rw [if_pos h7]
  simp only [List.cons_append,List.nil_append,cF,du,fm,iE,eW,fY,gw]
  have:=iR ks 0 0 0
  omega
 rw [if_neg h7]
 by_cases h8:n.k=8
 ·rw [if_pos h8]
  simp only [List.cons_append,List.nil_append,cF,du,fm,iE,eW,fY,gw]
  have:=iR ks 0 0 0
  omega
 rw [if_neg h8]
 by_cases h9:n.k=9
 ·rw [if_pos h9]
  simp only [List.cons_append,List.nil_append,cF,du,fm,iE,eW,fY,gw]
  have:=iR ks 0 0 0
  omega
 rw [if_neg h9]
 by_cases h10:n.k=10
 ·rw [if_pos h10]
  simp only [List.cons_append,List.nil_append,cF,du,fm,iE,eW,fY,gw]
  have:=iR ks (max (ak n) 2) (ak n+1) 0
  omega
 rw [if_neg h10]
 by_cases h11:n.k=11
 ·rw [if_pos h11]
  simp only [List.cons_append,List.nil_append,cF,du,fm,iE,eW,fY,gw]
  omega
 rw [if_neg h11]
 by_cases h12:n.k=12
 ·rw [if_pos h12]
  simp only [List.cons_append,List.nil_append,cF,du,fm,iE,eW,fY,gw]
  have:=iR ks 6 0 0
  omega
 rw [if_neg h12]
 by_cases h13:n.k=13
 ·rw [if_pos h13]
  simp only [List.cons_append,List.nil_append,cF,du,fm,iE,eW,fY,gw]
  have:=iR ks 6 0 0
  omega
 rw [if_neg h13]
 simp only [List.cons_append,List.nil_append,cF,du,fm,iE,eW,fY,gw]
 omega
mutual
theorem B6:∀ t:RT,mL t.pcs+180≤982*t.sz
 | .mk n ts=>by
   rw [RT.pcs,Bl]
   have h1:=IM n (RT.pcss ts)
   have h2:=zh ts
   omega
theorem zh:∀ ts:List RT,mK (RT.pcss ts)+180*(RT.pcss ts).length≤982*szs ts
 | []=>Nat.zero_le _
 | t::r=>by
   rw [RT.pcss]
   have h1:=B6 t
   have h2:=zh r
   unfold mK szs at *
   rw [List.map_cons,List.sum_cons,List.map_cons,List.sum_cons,List.length_cons]
   simp only
   omega
end
theorem CY {ns:List EN} (ht:bx ns) (hr:∀ n∈ns,inR n.n) {i:Nat} (hi:i<ns.length):(txP (trE ns i).pcs).length≤600000∧(bS (txP (trE ns i).pcs)).1.length≤100000:=by
 have hg:=(mM ht hr hi).rt
 have hok:=mT _ hg
 have h1:=oe _ hok
 have h2:=B6 (trE ns i)
 have h4:=DP (trE ns i).pcs
 have h3:=(tW (rG ht hi)).few
 rw [← qT ht hi] at h3
 have h5:=(tG (nN (trE ns i)) hok).2
 have h6:=congrArg List.length h5
 have h7:(tkP (trE ns i).pcs).length≤(trE ns i).pcs.length:=List.length_filterMap_le ..
 rw [List.length_map] at h6
 unfold RT.sz at h2
 omega
set_option maxHeartbeats 1000000 in
theorem xU {G} (s:List UInt8) (hl:s.length≤1000000) (htk:(bS s).1.length≤100000):HP Tryz.prog G 11 [.str s] (fun r=>r=gx (eh s)):=by
 generalize hR:eh s=R
 unfold eh at hR
 obtain ⟨hl1,hl2,hl3,hl4⟩:=BY s
 have hls:=KB s
 cases hb:fO (aL s) with
 | some q =>
   obtain ⟨i,e⟩:=q
   have c1:=EL (G:=G) s (by omega) hb
   have hne:=rf hb
   have hlx:bS s=([],i,e):=by unfold bS;rw [hb]
   rw [hlx,if_pos hne] at hR
   simp only at hR hne
   have he:gx R=.tup [.d (.agg [.nils]),.d (i64 i),.d (i64 e)]:=by rw [← hR];unfold gx;rw [if_neg hne]
   rw [he]
   refine bR Tryz.func11 rfl (by decide +kernel) (by simp [Tryz.ntmps11]) (veil fun E=>?_)
   simp only [go_sem]
   refine ae E c1 rfl rfl (by simp) ?_
   rintro _ rfl
   simp only [go_sem]
   refine aV E (fun h=>?_) (fun h=>absurd (by simpa using h) hne)<;>simp only [go_sem]
   refine ⟨[],?_⟩
   simp only [go_sem]
 | none =>
   have c1:=Ju (G:=G) s (by omega) hb
   have hz:(bS s).2.2=0:=by unfold bS;rw [hb]
   rw [if_neg (by rw [hz];decide)] at hR
   rw [hz] at c1
   generalize bS s=q at c1 hR hl1 hl2 hl3 hls htk
   obtain ⟨l,n,z⟩:=q
   simp only at c1 hR hl1 hl2 hl3 hls htk
   have c2:=Ik (G:=G) l n (by omega)
   have hst:iU l n=⟨l,n,0,0,0⟩:=rfl
   obtain ⟨st,hs⟩:∃ st,st=iU l n:=⟨_,rfl⟩
   rw [← hs] at hR hst
   have hsl:st.l.length≤100000:=by rw [hst];simp only;omega
   have c3:=Cs (G:=G) 100 0 rfl st hsl (by rw [hst])
   have g3:=gA 100 st
   have n3:=yQ (B:=200) 100 st (by rw [hst];exact hls)
   obtain ⟨x,s2,hx⟩:∃ x s2,cZ 100 st=(x,s2):=⟨_,_,rfl⟩
   rw [hx] at c3 g3 n3 hR
   simp only at c3 n3 hR
   have hl2':=g3.ss.len
   simp only at hl2'
   obtain ⟨hxl,hxs⟩:=Gf g3 hsl n3
   have c4:=vF (G:=G) s2.l s2.fin
   have c5:=o9 (G:=G) s2 (by omega)
   have c6:=Jb (G:=G) (oy s2) x hxl hxs
   unfold oy at hR c6
   unfold exD at c3 c6
   unfold ag at c2
   refine bR Tryz.func11 rfl (by decide +kernel) (by simp [Tryz.ntmps11]) (veil fun E=>?_)
   simp only [go_sem]
   refine ae E c1 rfl rfl (by simp) ?_
   rintro _ rfl
   simp only [go_sem]
   refine ab E [.d (.sl (some 4) (l.map gR)),.d (i64 n)] [] [] c2 rfl rfl ⟨by simp only [go_sem],by rw [aa];decide⟩ rfl (by simp only [go_sem]) (by simp only [go_sem]) ?_
   rintro _ _ ⟨rfl,rfl⟩
   unfold TO ag
   simp only [go_sem]
   rw [hst] at c3
   refine ah E (tau [([100],[25]),([101],[23,101])]) [.bx [100] 0] (RO ⟨l,n,0,0,0⟩) [100,101] (c3) rfl (by simp only [go_sem];try rfl) ⟨by simp only [go_sem],by first | (rw [aa];decide) | (simp only [go_sem]<;>(try rw [aa])<;>decide)⟩ rfl (by unfold RO TO ag;simp only [go_sem];try rfl) (by unfold RO TO;simp only [go_sem]) ?_
   rintro _ _ ⟨rfl,rfl⟩
   unfold RO TO ag
   simp only [go_sem]
   refine ah E (tau [([101],[23,101])]) [.bx [101] 0] (TO s2.l s2.fin) [101] c4 rfl (by simp only [go_sem];try rfl) ⟨by simp only [go_sem],by rw [aa];decide⟩ rfl (by unfold TO ag;simp only [go_sem];try rfl) (by unfold TO;simp only [go_sem]) ?_
   rintro _ _ ⟨rfl,rfl⟩
   unfold TO ag
   simp only [go_sem]
   refine aV E (fun h=>?_) (fun h=>?_)<;>simp only [go_sem]
   ·have h':s2.l.isEmpty=false:=by simpa using h
    rw [h'] at hR c6
    simp only [Bool.false_eq_true,if_false] at hR c6
    refine ah E (tau [([100],[25]),([101],[23,101])]) [.bx [100] 0] (RO s2) [100,101] (c5) rfl (by simp only [go_sem];try rfl) ⟨by simp only [go_sem],by first | (rw [aa];decide) | (simp only [go_sem]<;>(try rw [aa])<;>decide)⟩ rfl (by unfold RO TO ag;simp only [go_sem];try rfl) (by unfold RO TO;simp only [go_sem]) ?_
    rintro _ _ ⟨rfl,rfl⟩
    unfold RO TO ag
    simp only [go_sem]
    refine ah E (tau [([100],[25]),([101],[23,101])]) [.bx [100] 0,.d (.agg [.sl (some 9) (x.map enD)])] (RO s2.wrong) [100,101] (c6) rfl (by simp only [go_sem];try rfl) ⟨by simp only [go_sem],by first | (rw [aa];decide) | (simp only [go_sem]<;>(try rw [aa])<;>decide)⟩ rfl (by unfold RO TO ag;simp only [go_sem];try rfl) (by unfold RO TO;simp only [go_sem]) ?_
    rintro _ _ ⟨rfl,rfl⟩
    unfold RO TO ag
    simp only [go_sem]
    rw [hR]
    unfold gx exD
    by_cases hz:R.2.2=0
    ·simp only [if_pos hz]
     simp only [go_sem]
     refine ⟨[],?_⟩
     simp only [go_sem]
     unfold gx exD
     rw [if_pos hz]
    ·simp only [if_neg hz]
     simp only [go_sem]
     refine ⟨[],?_⟩
     simp only [go_sem]
     unfold gx
     rw [if_neg hz]
   ·have h':s2.l.isEmpty=true:=by simpa using h
    rw [h'] at hR c6
    simp only [if_true] at hR c6
    refine ah E (tau [([100],[25]),([101],[23,101])]) [.bx [100] 0,.d (.agg [.sl (some 9) (x.map enD)])] (RO s2) [100,101] (c6) rfl (by simp only [go_sem];try rfl) ⟨by simp only [go_sem],by first | (rw [aa];decide) | (simp only [go_sem]<;>(try rw [aa])<;>decide)⟩ rfl (by unfold RO TO ag;simp only [go_sem];try rfl) (by unfold RO TO;simp only [go_sem]) ?_
    rintro _ _ ⟨rfl,rfl⟩
    unfold RO TO ag
    simp only [go_sem]
    rw [hR]
    unfold gx exD
    by_cases hz:R.2.2=0
    ·simp only [if_pos hz]
     simp only [go_sem]
     refine ⟨[],?_⟩
     simp only [go_sem]
     unfold gx exD
     rw [if_pos hz]
    ·simp only [if_neg hz]
     simp only [go_sem]
     refine ⟨[],?_⟩
     simp only [go_sem]
     unfold gx
     rw [if_neg hz]
end Go.Proofs.YtejpnabbmgpmaaaGreatDoor

namespace Go.Proofs.YtejpnabbmgpmaaaGreatDoor
open Go.Ab
def exS:List UInt8:=[40,49,32,43,32,50,41,32,42,32,51]
theorem AU:(eh exS).2.2=0∧(eh exS).2.1=0∧dt (eh exS).1=0∧txP (trE (eh exS).1 ((eh exS).1.length-1)).pcs=exS∧((eh exS).1.all fun n=>decide (-9223372036854775808≤n.n) && decide (n.n≤9223372036854775807))=true∧(bS exS).1.length≤100000:=by
 decide +kernel
theorem KY {tt:TypeId} {fz:Nat × Nat}:HP Tryz.prog (GT tt fz) 7 [] (fun r=>r=.d (.bool true)):=by
 obtain ⟨h1,h2,h3,h4,h5,h6⟩:=AU
 have c1:=xU (G:=GT tt fz) exS (by decide) h6
 have c3:=Di (G:=GT tt fz) 7
 unfold gx at c1
 rw [if_pos h1,h1,h2] at c1
 generalize (eh exS).1=ns at *
 have ht:=tW h3
 have hr:∀ n∈ns,inR n.n:=fun n hn=>by
  have:=List.all_eq_true.1 h5 n hn
  simp only [Bool.and_eq_true,decide_eq_true_eq] at this
  exact this
 have c2:=qQ (tt:=tt) (fz:=fz) (vj ht) hr h3
 rw [h4] at c2
 rw [show eZ 7=[94] by decide] at c3
 unfold exD exS at *
 refine an Tryz.func7 rfl (by decide +kernel) (by simp [Tryz.ntmps7]) (veil fun E=>?_)
 simp only [go_sem]
 refine ae E (c1) rfl rfl (by simp) ?_
 rintro _ rfl
 simp only [go_sem]
 refine ae E (c2) rfl rfl (by simp) ?_
 rintro _ rfl
 simp only [go_sem]
 refine ae E (c3) rfl rfl (by simp) ?_
 rintro _ rfl
 simp only [go_sem]
theorem K7 {tt:TypeId} {fz:Nat × Nat} (ns:List EN) (hl:ns.length≤maxLen) (hn:∀ n∈ns,InN n) (hr:∀ n∈ns,inR n.n):HP Tryz.prog (GT tt fz) 3 [exD ns] (fun r=>r=.d (.bool true)):=by
 obtain ⟨N,hN⟩:∃ N,N=wy ns:=⟨_,rfl⟩
 have hin:InF N:=by rw [hN];exact Jy hn
 have w0:=KY (tt:=tt) (fz:=fz)
 have c0:=Lb (G:=GT tt fz) ns (Nat.le_trans hl kY) (fun n h=>Nat.le_trans (hn n h).2.2.1 kY)
 rw [← hN] at c0
 have hs:∀ n∈N,eY BIG n:=fun n h=>(hin.2 n h).1
 have hlN:N.length≤1000000:=by have:=hin.1;omega
 have hrN:∀ n∈N,inR n.n:=fun n h=>by
  rw [hN] at h
  unfold wy at h
  obtain ⟨m,hm,rfl⟩:=List.mem_map.1 h
  exact hr m (List.mem_of_mem_take hm)
 have c1:=wJ (G:=GT tt fz) N hs hlN
 by_cases h0:dt N=0
 ·have ht:=tW h0
  have hp:=ht.pos
  have c2:=qQ (tt:=tt) (fz:=fz) hs hrN h0
  obtain ⟨hT1,hT2⟩:=CY ht hrN (show N.length-1<N.length by omega)
  obtain ⟨us,p1,p2,p3,p4,p5⟩:=An h0 hrN (by omega)
  have hu:=tW p2
  have hru:∀ n∈us,inR n.n:=fun n hm=>by
   have h1:n0 n∈((trE N (N.length-1)).enc).map n0:=by rw [← p3];exact List.mem_map_of_mem hm
   obtain ⟨m,hm1,hm2⟩:=List.mem_map.1 h1
   have h2:=(lD _ (mM ht hrN (show N.length-1<N.length by omega)).rt m hm1).2
   have h3:m.n=n.n:=by have e:=congrArg EN.n hm2;exact e
   rwa [h3] at h2
  have c3:=xU (G:=GT tt fz) (txP (trE N (N.length-1)).pcs) (by omega) hT2
  have c4:=qQ (tt:=tt) (fz:=fz) (vj hu) hru p2
  have c5:=Jh (G:=GT tt fz) hu ht p2 h0 p3 p4
  rw [p5] at c4
  rw [p1] at c3
  unfold gx at c3
  rw [if_pos rfl] at c3
  generalize txP (trE N (N.length-1)).pcs=T at *
  clear p1 p3 p4 p5 hT2
  unfold exD at *
  refine an Tryz.func3 rfl (by decide +kernel) (by simp [Tryz.ntmps3]) (veil fun E=>?_)
  simp only [go_sem]
  refine ae E (w0) rfl rfl (by simp) ?_
  rintro _ rfl
  simp only [go_sem]
  refine ae E (c0) rfl rfl (by simp) ?_
  rintro _ rfl
  simp only [go_sem]
  refine ae E (c2) rfl rfl (by simp) ?_
  rintro _ rfl
  simp only [go_sem]
  refine ai E (fun g=>?_) (fun g=>?_)<;>simp only [go_sem]
  refine ae E (c3) rfl rfl (by simp) ?_
  rintro _ rfl
  simp only [go_sem]
  refine ae E (c4) rfl rfl (by simp) ?_
  rintro _ rfl
  simp only [go_sem]
  refine ae E (c5) rfl rfl (by simp) ?_
  rintro _ rfl
  simp only [go_sem]
 ·have c2:=Jv (G:=GT tt fz) hs hlN h0
  generalize dt N=e at *
  unfold exD at *
  refine an Tryz.func3 rfl (by decide +kernel) (by simp [Tryz.ntmps3]) (veil fun E=>?_)
  simp only [go_sem]
  refine ae E (w0) rfl rfl (by simp) ?_
  rintro _ rfl
  simp only [go_sem]
  refine ae E (c0) rfl rfl (by simp) ?_
  rintro _ rfl
  simp only [go_sem]
  refine ae E (c2) rfl rfl (by simp) ?_
  rintro _ rfl
  simp only [go_sem]
  refine ai E (fun g=>?_) (fun g=>?_)<;>simp only [go_sem]
  ·refine ae E (c1) rfl rfl (by simp) ?_
   rintro _ rfl
   simp only [go_sem]
  ·exact absurd (show ¬ e=0 from h0) g
theorem LM {tt:TypeId} {fz:Nat × Nat} {ds:List D} {ns:List EN} (hw:Wk (.agg ds) (exD ns)) (hl:ns.length≤maxLen) (hn:∀ n∈ns,InN n) (hr:∀ n∈ns,inR n.n):HP Tryz.prog (GT tt fz) 3 [.agg ds] (fun r=>r=.d (.bool true)) :=
 (K7 ns hl hn hr).wk ⟨hw,trivial⟩
end Go.Proofs.YtejpnabbmgpmaaaGreatDoor

namespace Go.Proofs.YtejpnabbmgpmaaaGreatDoor
open Go.Ab
open Go.ChangeShapes Go.WideShapes Go.ChangeAt Go.RowKit
theorem Tryz.own:ownKnob Tryz.prog.godebug=none:=by kernel_rfl
def oh:List (String × DataW Unit):=[("math/bits.deBruijn32tab",Rows.laid_math_bits_deBruijn32tab),("math/bits.deBruijn64tab",Rows.laid_math_bits_deBruijn64tab),("internal/strconv.uint64pow10",Rows.laid_internal_strconv_uint64pow10)]
theorem kn {P:Program} {x:String × DataW Unit} {r:List (String × DataW Unit)} {W:World} (h:laidMet P (x::r) W):laidMet P r W:=by
 obtain ⟨ps,⟨g,t,cs,fuel,p,q,h1,h2,h3,h4,h5,rfl⟩,hnd,hall⟩:=h
 exact ⟨q,h5,(List.nodup_append.1 hnd).2.1,fun b off hb=>hall b off (List.mem_append_right _ hb)⟩
theorem IV:(Tryz.prog.globals[0]?).map (·.type)=some 174:=by kernel_rfl
theorem u3 {W:World} (h:laidMetH Tryz.prog oh W):∃ t fz,∀ q∈GT t fz,W.heap[q.1]?=some q.2:=by
 have h1:laidMet Tryz.prog oh W:=h
 have h2:=Lib.tabIs_of_head (k:=.u64) (zs:=Lib.pow10Tab) (show Tryz.prog.globalNamed "internal/strconv.uint64pow10" = some 0 by kernel_rfl) IV (show Tryz.prog.underlying 174=some (.array 20 163) by kernel_rfl) (show Tryz.prog.underlying 163=some (.int .u64) by kernel_rfl) (by kernel_rfl) (by kernel_rfl) (kn (kn h1))
 unfold Lib.TabIs World.var? at h2
 rw [show Tryz.prog.globalNamed "internal/strconv.uint64pow10" = some 0 by kernel_rfl] at h2
 simp only [Option.bind_some] at h2
 split at h2
 ·rename_i cs t fz hh
  simp only [Option.some.injEq] at h2
  subst h2
  refine ⟨t,fz,fun q hq=>?_⟩
  obtain rfl:=List.mem_singleton.1 hq
  exact hh
 ·cases h2
noncomputable def pQ (os:Os):World:=World.laidAll Tryz.prog os oh
theorem pw (os:Os) (args:Array Value):laidMetH Tryz.prog oh ((pQ os).forCall (fun _ _=>0) ⟨#[],args,[]⟩).memory :=
 laidMetH_of_parts (laidMet_laidAll args (by kernel_rfl) (by kernel_rfl)) (by kernel_rfl)
theorem Tryz.laidOut:laidOutB Tryz.prog=true:=by kernel_rfl
theorem DJ {H:Type} {enc:TypeId × Value→H} {t:TypeId} (hr:Tryz.prog.readableRec t=true) (hrow:t<Tryz.prog.types.size) {W W':World} {v:Value} {d:DataW H} {ps:List MemPlace}
  (h:DataW.Trod enc Tryz.prog W 0 (fun _=>true) true t v d ps) (he:Ext W W') (hlt:∀ x∈ps,x.block<W.heap.size) :
  DataW.Trod enc Tryz.prog W' 0 (fun b=>decide (b<W.heap.size)) true t v d ps :=
 WideElems.Trod_stays Tryz.laidOut hr hrow h (fun x hx=>by
  have h1:=he.old x.block (hlt x hx)
  cases x with
  | cell b off=>show W'.cell? _=W.cell? _;unfold World.cell?;rw [show W'.heap[b]?=W.heap[b]? from h1]
  | map b=>exact h1) (fun x hx=>by simpa using hlt x hx)
end Go.Proofs.YtejpnabbmgpmaaaGreatDoor

namespace Go.Proofs.YtejpnabbmgpmaaaGreatDoor
open Go.Ab
open Go.ChangeShapes Go.WideShapes Go.ChangeAt Go.RowKit
theorem tw:(Rows.showBackRow.wf (OpenSpec.ofChange Rows.showBackSpec))=true:=by kernel_rfl
theorem sX:(Tryz.f3.params.all (Tryz.prog.readableRec ·))=true:=by kernel_rfl
theorem uM:(namedTie Tryz.prog Rows.showBackRow.named Rows.showBackSpec.vars)=true:=by kernel_rfl
theorem vi:((Rows.showBackRow.stops == []))=true:=by kernel_rfl
theorem tR:((Rows.showBackRow.knobs == []))=true:=by kernel_rfl
theorem sN:((Rows.showBackRow.inPlace == Tryz.prog.inPlace 3))=true:=by kernel_rfl
theorem qG:((Rows.showBackRow.unfollowed == Tryz.prog.unfollowed 3))=true:=by kernel_rfl
theorem rK:((Rows.showBackRow.recurses == Tryz.prog.recurses 3))=true:=by kernel_rfl
theorem rr:((Rows.showBackRow.named == Tryz.prog.varsNamed 3))=true:=by kernel_rfl
theorem sj:((Rows.showBackRow.maps == (Tryz.f3.params.toList++Rows.showBackSpec.plain.varTypes Tryz.prog).any (Tryz.prog.mapsRec ·)))=true:=by kernel_rfl
theorem sy:((Rows.showBackRow.ifaces == (Tryz.f3.params.toList++Rows.showBackSpec.plain.varTypes Tryz.prog).any (Tryz.prog.ifacesRec ·)))=true:=by kernel_rfl
theorem ri:((Rows.showBackRow.mapsOut == Tryz.prog.mapsAmong Tryz.f3.resultTypes.toList))=true:=by kernel_rfl
theorem sw:((Rows.showBackRow.loops == (Tryz.f3.params.toList++Rows.showBackSpec.plain.varTypes Tryz.prog).any (Tryz.prog.loopsFrom ·)))=true:=by kernel_rfl
theorem si:((Rows.showBackRow.wideKeys == (Tryz.f3.params.toList++Rows.showBackSpec.plain.varTypes Tryz.prog++Tryz.f3.resultTypes.toList).any (Tryz.prog.wideKeysFrom ·)))=true:=by kernel_rfl
theorem qO:(Rows.showBackSpec.vars.all (Tryz.prog.varReadable ·))=true:=by kernel_rfl
theorem sf:(Tryz.f3.resultTypes.all (fun t=>Tryz.prog.readableRec t && decide (t<Tryz.prog.types.size)))=true:=by kernel_rfl
theorem qR:((Rows.showBackRow.ifacesOut == Tryz.f3.resultTypes.toList.any (Tryz.prog.ifacesRec ·)))=true:=by kernel_rfl
theorem qC:((Rows.showBackRow.loopsOut == Tryz.f3.resultTypes.toList.any (Tryz.prog.loopsFrom ·)))=true:=by kernel_rfl
theorem sO:((Rows.showBackRow.plainKeys == Tryz.prog.plainKeys))=true:=by kernel_rfl
theorem qS:(Rows.showBackRow.shortTexts.isNone)=true:=by kernel_rfl
theorem rL:((Rows.showBackRow.lifted == Tryz.prog.liftsFinal))=true:=by kernel_rfl
theorem qZ:((Tryz.prog.make == some Rows.showBackRow.make))=true:=by kernel_rfl
theorem rh:((Rows.showBackRow.kinds == (if Rows.showBackRow.domain.isEmpty then [] else Tryz.f3.params.toList.map fun t=>match Tryz.prog.underlying t with | some (.int k)=>some k | _=>none)))=true:=by kernel_rfl
theorem sn:((Rows.showBackRow.pinned == Rows.showBackRow.pinnedBy))=true:=by kernel_rfl
theorem rJ:((Rows.showBackRow.veiled == (Tryz.f3.params.toList++Rows.showBackSpec.plain.varTypes Tryz.prog++Tryz.f3.resultTypes.toList).any (Tryz.prog.veiledRec ·)))=true:=by kernel_rfl
theorem sK:(Rows.showBackRow.veiledFits Tryz.prog Tryz.f3.params.toList (Tryz.f3.params.toList++Rows.showBackSpec.plain.varTypes Tryz.prog++Tryz.f3.resultTypes.toList))=true:=by kernel_rfl
end Go.Proofs.YtejpnabbmgpmaaaGreatDoor

namespace Go.Proofs.YtejpnabbmgpmaaaGreatDoor
open Go.Ab
open Go.ChangeShapes Go.WideShapes Go.ChangeAt Go.RowKit
theorem bN {a b:Bool} (ha:a=true) (hb:b=true):(a && b)=true:=by rw [ha,hb];rfl
theorem FG:(laidOutB Tryz.prog)=true:=by kernel_rfl
theorem Hu:(mapsRowed Tryz.prog)=true:=by kernel_rfl
theorem CU:((Tryz.prog.stops == []))=true:=by kernel_rfl
theorem Cx:((Tryz.prog.stopKnobs == []))=true:=by kernel_rfl
theorem DV:(Tryz.prog.stopsHeard)=true:=by kernel_rfl
theorem DD:(Tryz.prog.mayEnter)=true:=by kernel_rfl
end Go.Proofs.YtejpnabbmgpmaaaGreatDoor

namespace Go.Proofs.YtejpnabbmgpmaaaGreatDoor
open Go.Ab
open Go.ChangeShapes Go.WideShapes Go.ChangeAt Go.RowKit
set_option maxRecDepth 100000 in
theorem ml (os:Os) (started:os.Started) (H:Type) (enc:TypeId × Value→H) :
  ReturnsInHanded {} Tryz.checked os 3 .any (fun w args=>(Rows.showBackSpec.pre enc Tryz.prog Tryz.f3 [] false w args∧laidMetH Tryz.prog oh w)∧sizedMet enc Tryz.prog Tryz.f3 (OpenSpec.ofChange Rows.showBackSpec) false w args)
   (Rows.showBackSpec.post enc Tryz.prog Tryz.f3 false true false false):=by
 refine returnsInHanded_of_change_and (C:=Tryz.checked) (X:=fun w _=>laidMetH Tryz.prog oh w) (fun _ _ _ hh h=>h.of_heap hh) Tryz.own started (by kernel_rfl) Tryz.func3
  (ChangeSpec.witness_at (enc:=enc) (C:=Tryz.checked) (os:=os) (X:=fun w _=>laidMetH Tryz.prog oh w) false (pQ os) #[.agg #[.slice none 0 0]] 8 (World.laidAll_os _ _ _) (by kernel_rfl) (by kernel_rfl) (by kernel_rfl) (by kernel_rfl) (by kernel_rfl) (pw os _)) ?_
 intro W base args ds gs before hval0 hW _ _ hL _
 have hval:∀ (j:Nat) t v,Tryz.f3.params[j]?=some t→args[j]?=some v→Value.okWide Tryz.prog W .any base t v:=hval0
 have hW':=hW
 obtain ⟨p,q,hA0,hV,rfl,hfz,hnd⟩:=hW
 have hA:DataW.TrodAll enc Tryz.prog W 0 (fun _=>true) true Tryz.f3.params.toList args.toList ds p:=hA0
 rw [Tryz.params3] at hA hval
 obtain ⟨v0,d0,rfl,rfl,h0⟩:=trodAll_one hA
 obtain ⟨rfl,rfl⟩:=trodVars_none hV
 clear hA0 hval0
 obtain ⟨tt,fz,hG⟩:=u3 hL
 obtain ⟨x0,rfl,_⟩:=okWide_struct Tryz.underlying24 (hval 0 24 v0 rfl rfl)
 obtain ⟨e0,k0,r0⟩:=Ag (m:=30) (show shp Tryz.prog 30 24=some Kp by kernel_rfl) h0
 obtain ⟨n0,a0,b0,c0,g0⟩:=Ia k0
 have eF:Rows.showBackSpec.fn H ([d0]++[])={ results:=[.lit (.bool true)],args:=[d0] }:=rfl
 refine (uz (LM (tt:=tt) (fz:=fz) a0 b0 c0 g0 ) hG (vs:=#[.agg x0]) rfl ?_).mono ?_
 ·intro i d hi
  match i,hi with
  | 0,hi=>obtain rfl:=Option.some.inj hi;exact r0
 rintro e W' ⟨v,r,rfl,rfl,hext,_,_,_,_,hv⟩
 obtain rfl:=hv.bool
 have hlt:∀ x∈p,x.block<W.heap.size:=fun x hx=>by simpa using hW'.lt x (by simpa using hx)
 refine ⟨_,rfl,_,_,_,[],p,[],hW',?_,?_,?_,hext.frame _,fun h=>by cases h⟩
 ·rw [eF];exact trodAll_mk1 (shut_bool Tryz.underlying4 true)
 ·rw [eF];exact trodAll_mk1 (DJ (by kernel_rfl) (of_decide_eq_true (by kernel_rfl)) h0 hext (fun x hx=>hlt x (by exact hx)))
 ·rw [eF];rfl
set_option maxRecDepth 100000 in
theorem pa:joinedFacts Tryz.prog 3 Tryz.f3 Rows.showBackSpec Rows.showBackRow=true:=by
 unfold joinedFacts
 exact bN (bN (bN (bN (bN (bN (bN (bN (bN (bN (bN (bN (bN (bN (bN (bN (bN (bN (bN (bN (bN (bN (bN (bN (bN (bN (bN (bN (bN (bN (bN tw FG) Hu) sX) uM) vi) CU) tR) Cx) sN) qG) rK) rr) sj) sy) ri) sw) si) qO) sf) qR) qC) sO) qS) DV) DD) rL) qZ) rh) sn) rJ) sK
theorem oq:Tryz.pinned.checked.prog.funcNamed Rows.showBackRow.func=some 3:=by kernel_rfl
theorem pg:decide (Tryz.f3.isInstance Tryz.pinned.checked.prog Rows.showBackRow.origin Rows.showBackRow.targs)=true:=by kernel_rfl
theorem nj:Rows.ShowBackSaid :=
 OpenClaim.holds_of_wide 3 Tryz.f3 rfl rfl rfl rfl rfl rfl rfl ⟨rfl,rfl,rfl,rfl,rfl⟩ rfl rfl rfl rfl rfl oq Tryz.func3 pa
  (of_decide_eq_true pg) (by unfold Func.isWrapper;rw [if_neg (of_decide_eq_false (by kernel_rfl))];exact ⟨rfl,rfl⟩)
  (fun os started H enc _=>ml os started H enc)
theorem showBack_card:Rows.ShowBackCardSaid :=
 Claim7.holds_tied_plain_at .later [] [.data,.data,.data] true (true, "86e9b69d87c22ae8a93ee535abd4a3a0f1d48777251695e23a39c441c3c7c814") false
  nj (fun _ h=>by cases h) (by kernel_rfl) (fun _ h=>by cases h) showBack_row_tie rfl ⟨rfl,rfl⟩ (by kernel_rfl) rfl
  (fun f fn hf hfn=>by
   obtain rfl:f=3:=Option.some.inj ((show Tryz.prog.funcNamed "syntagma/syntagmalaw08.ShowBack" = some 3 by kernel_rfl).symm.trans hf) |>.symm
   obtain rfl:fn=Tryz.f3:=(Option.some.inj (Tryz.func3.symm.trans hfn)).symm
   exact ⟨by kernel_rfl,fun j t ht=>by
    rw [Tryz.params3] at ht
    match j,ht with
    | 0,ht=>obtain rfl:=Option.some.inj ht;exact (show Tryz.prog.wantsStandIn 24=false by kernel_rfl)⟩)
  (by kernel_rfl)
end Go.Proofs.YtejpnabbmgpmaaaGreatDoor

