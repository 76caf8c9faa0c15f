/-
  Letters sorted by the library. (with the parts that follow it)
-/
import Derived.Test.YthfodompfpdmgaaGreatDoorVPJ
import Derived.Test.YthfodompfpdmgaaGreatDoorVPE
import Derived.Test.YthfodompfpdmgaaGreatDoorVPC
import Derived.Test.YthfodompfpdmgaaGreatDoorVPD
import Derived.Shelf.SlSortCmp.NoneTotal
import Derived.Test.YthfodompfpdmgaaGreatDoorRows
import Derived.Test.YthfodompfpdmgaaGreatDoorTie
import Derived.ProofKit
import Derived.JoinedOf
import Derived.ChangeMaps5
import Derived.LaidLaws
import Derived.LaidHandle
import Derived.Stop.Joined
import Derived.Lib.LaidTab
import Derived.Lay
import Derived.SevenTiedAt
import Derived.Test.YthfodompfpdmgaaGreatDoorCards
set_option linter.all false
namespace Go.Proofs.YthfodompfpdmgaaGreatDoor
open Go.Ab Go.Sort Go.Shelf Go.RowKit Go.Lib Go.Proofs
theorem Ci {G} (a:Nat) (l:List Ltr) (hl:∀ q∈l,0≤q.1∧q.1<1000) (hn:l.length≤1000000):HCall Tryz.prog G 139 [.vw [a] 0 l.length,.clo 140 []] [([a],.arr (some 2) (l.map jm))] [a] (fun r hp'=>r=.tup []∧∃ l':List Ltr,l'.Perm l∧hp'=[([a],.arr (some 2) (l'.map jm))]):=by
 obtain ⟨lv,rfl⟩:∃ lv:List n5,l=lv.map (·.1):=⟨l.pmap (fun q h=>(⟨q,h⟩:n5)) hl,by rw [List.map_pmap];simp⟩
 have hb:=rV (P:=Tryz.prog) (G:=G) (f:=139) (g:=140) (k:=2) (by decide) Bd yR (ltOf cmpL) (fun _=>rfl) (fun _=>rfl) AA
  (fun blk off cap d w hH hblk hsz=>AnyQ.slices_SortFunc Tryz.uS 2 Tryz.isAgg161 Tryz.sizeOf161 Bd (fun _=>rfl) (fun x v hv=>by simp [Bd] at hv;rcases hv with rfl | rfl<;>rfl) cmpL zY 140 #[] blk off cap d w zW (tZ blk off d.size w) hH hblk hsz)
  (fun p cap w=>AnyF.slices_SortFunc_none Tryz.uS p cap _ w) a lv (by simp at hn;omega)
 have e:∀ m:List n5,(m.map (·.1)).map jm=m.map fun x=>.agg (yR x):=fun m=>by simp [jm,yR,Function.comp_def]
 rw [e,List.length_map]
 refine hb.mono ?_
 rintro r hp' ⟨rfl,l',hp,hs,rfl⟩
 exact ⟨rfl,l'.map (·.1),hp.map _,by rw [e]⟩
end Go.Proofs.YthfodompfpdmgaaGreatDoor

namespace Go.Proofs.YthfodompfpdmgaaGreatDoor
open Go.Ab
def jK (L:List Ltr):List (KIS × D):=L.foldl (fun (m:List (KIS × D)) (a:Ltr)=>mset m a (.bool true)) []
theorem wY (L:List Ltr) (a:Ltr):jK (L++[a])=mset (jK L) a (.bool true):=by simp [jK,List.foldl_append]
theorem xy (L:List Ltr) (a:Ltr):mlook (jK L) a=if a∈L then some (.bool true) else none:=by
 have key:∀ (R:List Ltr) (m:List (KIS × D)),mlook (R.foldl (fun (m:List (KIS × D)) (a:Ltr)=>mset m a (.bool true)) m) a=if a∈R then some (.bool true) else mlook m a:=by
  intro R
  induction R with
  | nil=>intro m;simp
  | cons y R ih =>
    intro m
    rw [List.foldl_cons,ih,da]
    by_cases h:a∈R
    ·simp [h]
    ·rw [if_neg h]
     by_cases e:a=y
     ·subst e;simp
     ·simp [h,e]
 rw [jK,key]
 simp [mlook]
def sI (s:PS) (c:Nat) (done:List (KISI × D)) (L:List Ltr):Prop:=(∀ a,a∈L↔∃ q∈done,q.1.1=a∧s.cls.getD q.1.2.toNat 0=c)∧L.length≤done.length
theorem sI.skip {s:PS} {c:Nat} {done:List (KISI × D)} {L:List Ltr} (h:sI s c done L) (q:KISI × D) (hn:q.1.1∈L∨s.cls.getD q.1.2.toNat 0≠c):sI s c (done++[q]) L:=by
 refine ⟨fun a=>?_,by rw [List.length_append];have:=h.2;omega⟩
 rw [h.1]
 constructor
 ·rintro ⟨p,hp,g⟩
  exact ⟨p,List.mem_append_left _ hp,g⟩
 ·rintro ⟨p,hp,g1,g2⟩
  rcases List.mem_append.1 hp with hp | hp
  ·exact ⟨p,hp,g1,g2⟩
  ·rw [List.mem_singleton.1 hp] at g1 g2
   rcases hn with hn | hn
   ·rw [g1] at hn
    exact (h.1 a).1 hn
   ·exact absurd g2 hn
theorem sI.add {s:PS} {c:Nat} {done:List (KISI × D)} {L:List Ltr} (h:sI s c done L) (q:KISI × D) (hc:s.cls.getD q.1.2.toNat 0=c):sI s c (done++[q]) (L++[q.1.1]):=by
 refine ⟨fun a=>?_,by rw [List.length_append,List.length_append];have:=h.2;simp;omega⟩
 rw [List.mem_append,h.1,List.mem_singleton]
 constructor
 ·rintro (⟨p,hp,g⟩ | g)
  ·exact ⟨p,List.mem_append_left _ hp,g⟩
  ·exact ⟨q,by simp,g.symm,hc⟩
 ·rintro ⟨p,hp,g1,g2⟩
  rcases List.mem_append.1 hp with hp | hp
  ·exact .inl ⟨p,hp,g1,g2⟩
  ·rw [List.mem_singleton.1 hp] at g1
   exact .inr g1.symm
set_option maxHeartbeats 4000000 in
theorem Cb {G} (l:List EA) (st:Int) (FM:List (KISI × D)) (clk:Nat) (bs:List Nat) (s:PS) (o:Nat) (cc:List D) (es:List (Int × D)) (c:Nat) (hN:l.length≤4000) (hF:kl l FM) (hFl:FM.length≤1000000) (hst:Stamps clk bs (menc aE FM)) (hkd:∀ q∈FM,0≤q.1.1.1∧q.1.1.1<1000) (w:Wf l.length s) :
  HCall Tryz.prog G 107 [.bx [0] 0,.d (i64 c)] (bp l st (mpD clk bs (menc aE FM)) s 2 3 o cc es) [0,1,2,3,100] (fun r hp'=>∃ LS:List Ltr,r=.vw [6] 0 LS.length∧hp'=bp l st (mpD clk bs (menc aE FM)) s 2 3 o cc es++[([6],.arr (some 2) (LS.map jm))]∧LS.length≤1000000 ∧
   ∀ a,a∈LS↔∃ q∈FM,q.1.1=a∧s.cls.getD q.1.2.toNat 0=c):=by
 unfold bp dK
 obtain ⟨FD,hFD⟩:∃ FD,mpD clk bs (menc aE FM)=FD:=⟨_,rfl⟩
 rw [hFD]
 refine bQ Tryz.func107 rfl (by decide +kernel) (by simp [Tryz.ntmps107]) (veil fun E=>?_)
 simp only [go_sem]
 refine iR E (by simp only [go_sem]) (by rw [ag];decide) ?_
 simp only [go_sem]
 refine ss E hst (by rw [lY]) (by rw [hFD];rfl) (by simp only [go_sem]) (by rw [ag];decide) ?_
 simp only [go_sem]
 refine jh E 6 98 (some 2) rfl (by rw [ag];decide) ?_
 simp only [go_sem]
 rw [hFD]
 refine an E (X:={ x:(List (KISI × D) × List (KISI × D) × Option (D × D)) × List Ltr // (x.1.1++x.1.2.1).Perm FM∧sI s c x.1.1 x.2 }) (fun x=>[(0,.bx [0] 0),(1,.d (i64 c)),(5,.mp [8]),(6,.vw [98] 0 x.1.2.length),(13,.it [13])])
  (fun x=>[([0],.box [.d (.sl (some 13) (l.map stD)),.d (i64 st),.d FD,.vw [1] 0 s.cls.length,.vw [2] 0 s.sets.length,.vw [3] o s.wait.length,.mp [100]]),([1],.arr none (s.cls.map nD)),([2],.arr none (s.sets.map bZ)),([3],.arr none cc),([100],.map (menc (fun n:Int=>i64 n) es)),
   ([8],.map (menc wZ (jK x.1.2))),([13],.miter FD x.1.1.2.2 (menc aE x.1.1.2.1)),([98],.arr (some 2) (x.1.2.map jm))])
  [0,1,2,3,100,8,13,98] (fun x=>x.1.1.2.1.length) ⟨(([],FM,none),[]),.refl _,by simp [sI]⟩ id ?_ ?_
 ·simp only [go_sem]
  all_goals first | rfl | ((repeat' apply And.intro)<;>first | rfl | trivial)
 rintro ⟨⟨⟨acc,rem,cur⟩,SL⟩,hperm,hmet⟩ E0
 refine aK E0 fun Q' hQ E'=>?_
 simp only at hperm hmet ⊢
 simp only [go_sem]
 have hal:acc.length+rem.length=FM.length:=by rw [← List.length_append];exact hperm.length_eq
 refine vH E' [13] FD cur (menc aE rem) rfl rfl (by simp only [go_sem]) ?_ ?_
 ·intro l1 y l2 hsp
  obtain ⟨a1,q,b1,rfl,rfl,rfl,rfl⟩:=mV hsp
  simp only [go_sem]
  refine sv E' [13] FD (aE q.1,q.2) (menc aE a1++menc aE b1) rfl rfl (by simp only [go_sem]) ?_
  have hme:menc aE a1++menc aE b1=menc aE (a1++b1):=by simp [menc]
  rw [hme]
  obtain ⟨⟨ql,qk⟩,qv⟩:=q
  have hqm:((ql,qk),qv)∈FM:=hperm.mem_iff.1 (by simp)
  obtain ⟨_,_,_,q0,q1,_⟩:=hF.val _ _ hqm
  have q0:0≤qk:=q0
  have q1:qk<l.length:=q1
  have hcl:=w.len
  have hgc:(s.cls.map nD).getD qk.toNat .nilp=i64 (s.cls.getD qk.toNat 0:Nat):=by
   have:qk.toNat<s.cls.length:=by omega
   simp [this,nD]
  rw [show aE (ql,qk)=.agg [i64 ql.1,.str ql.2,i64 qk] from rfl]
  simp only [go_sem]
  refine ai mixed E' fun X=>?_
  simp only [go_sem]
  refine dm X (d:=19) [0] 0 none [.d (.sl (some 13) (l.map stD)),.d (i64 st),.d FD,.vw [1] 0 s.cls.length,.vw [2] 0 s.sets.length,.vw [3] o s.wait.length,.mp [100]] (by simp only [go_sem]) rfl rfl ?_
  simp only [go_sem]
  refine ⟨by omega,?_⟩
  rw [hgc]
  simp only [go_sem]
  refine j1 X (fun h1=>?_) (fun h1=>?_)<;>simp only [go_sem]
  ·have hcc:s.cls.getD qk.toNat 0=c:=by omega
   refine x3 X [8] (jK SL) ql (.bool false) (by rw [AO]) E6 uO rfl rfl rfl (by simp) ?_
   rw [xy]
   by_cases hm:ql∈SL
   ·rw [if_pos hm]
    simp only [go_sem]
    refine ⟨by decide +kernel,?_⟩
    rw [hQ]
    simp only [go_sem]
    refine ⟨⟨((acc++[((ql,qk),qv)],a1++b1,some (D.agg [i64 ql.1,.str ql.2,i64 qk],qv)),SL),?_,hmet.skip ((ql,qk),qv) (.inl hm)⟩,?_,id,?_⟩
    ·refine List.Perm.trans ?_ hperm
     rw [List.append_assoc]
     refine List.Perm.append_left acc ?_
     show (((ql,qk),qv)::(a1++b1)).Perm (a1++((ql,qk),qv)::b1)
     exact List.perm_middle.symm
    ·show (a1++b1).length<(a1++((ql,qk),qv)::b1).length
     simp only [List.length_append,List.length_cons]
     omega
    ·simp only [go_sem]
     skip
   ·rw [if_neg hm]
    simp only [go_sem]
    refine ⟨by decide +kernel,?_⟩
    refine b9 E' [8] (jK SL) ql (.bool true) (by rw [AO]) E6 rfl rfl rfl rfl rfl ?_
    rw [← wY]
    simp only [go_sem]
    have hle:=hmet.2
    simp only [List.length_append,List.length_cons] at hal
    refine ⟨by omega,?_⟩
    rw [hQ]
    simp only [go_sem]
    refine ⟨⟨((acc++[((ql,qk),qv)],a1++b1,some (D.agg [i64 ql.1,.str ql.2,i64 qk],qv)),SL++[ql]),?_,hmet.add ((ql,qk),qv) hcc⟩,?_,tau [([98],[42])],?_⟩
    ·refine List.Perm.trans ?_ hperm
     rw [List.append_assoc]
     refine List.Perm.append_left acc ?_
     show (((ql,qk),qv)::(a1++b1)).Perm (a1++((ql,qk),qv)::b1)
     exact List.perm_middle.symm
    ·show (a1++b1).length<(a1++((ql,qk),qv)::b1).length
     simp only [List.length_append,List.length_cons]
     omega
    ·simp only [go_sem]
     (rw [List.length_append,List.map_append];exact ⟨rfl,rfl⟩)
  ·refine ⟨by decide +kernel,?_⟩
   rw [hQ]
   simp only [go_sem]
   refine ⟨⟨((acc++[((ql,qk),qv)],a1++b1,some (D.agg [i64 ql.1,.str ql.2,i64 qk],qv)),SL),?_,hmet.skip ((ql,qk),qv) (.inr (fun g=>h1 (by have:s.cls.getD qk.toNat 0=c:=g;omega)))⟩,?_,id,?_⟩
   ·refine List.Perm.trans ?_ hperm
    rw [List.append_assoc]
    refine List.Perm.append_left acc ?_
    show (((ql,qk),qv)::(a1++b1)).Perm (a1++((ql,qk),qv)::b1)
    exact List.perm_middle.symm
   ·show (a1++b1).length<(a1++((ql,qk),qv)::b1).length
    simp only [List.length_append,List.length_cons]
    omega
   ·simp only [go_sem]
    skip
 ·intro hnil
  have hrem:rem=[]:=by
   cases rem with
   | nil=>rfl
   | cons q r=>simp [menc] at hnil
  subst hrem
  rw [List.append_nil] at hperm
  simp only [go_sem]
  rw [hQ]
  simp only [go_sem]
  have hsk:∀ q∈SL,0≤q.1∧q.1<1000:=fun a ha=>by
   obtain ⟨q,hq,rfl,_⟩:=(hmet.1 a).1 ha
   exact hkd q (hperm.mem_iff.1 hq)
  have hsl:SL.length≤1000000:=by have:=hmet.2;have:=hperm.length_eq;omega
  refine bn E [.vw [98] 0 SL.length,.clo 140 []] [([98],.arr (some 2) (SL.map jm))] [98] (Ci 98 SL hsk hsl) rfl rfl ⟨by simp only [go_sem],by rw [ag];decide⟩ rfl (by simp only [go_sem]) (by simp only [go_sem]) ?_
  rintro _ _ ⟨rfl,LS,hLp,rfl⟩
  have hLl:=hLp.length_eq
  simp only [go_sem]
  refine ⟨by omega,.vw [6] 0 LS.length,_,[0,1,2,3,100,6],tau [([6],[98])],⟨LS,rfl,rfl,by omega,fun a=>?_⟩,?_⟩
  ·rw [hLp.mem_iff,hmet.1]
   constructor
   ·rintro ⟨q,hq,g⟩
    exact ⟨q,hperm.mem_iff.1 hq,g⟩
   ·rintro ⟨q,hq,g⟩
    exact ⟨q,hperm.mem_iff.2 hq,g⟩
  ·rw [hLl]
   simp only [go_sem]
end Go.Proofs.YthfodompfpdmgaaGreatDoor

namespace Go.Proofs.YthfodompfpdmgaaGreatDoor
open Go.Ab
theorem wH {κ:Type} [DecidableEq κ] (q:κ × D) (r:List (κ × D)) (a:κ):mdel (q::r) a=if q.1=a then r else q::mdel r a:=by
 unfold mdel
 rw [List.map_cons,midx]
 by_cases e:q.1=a
 ·simp [e]
 ·rw [if_neg e,if_neg e]
  cases midx (r.map (·.1)) a<;>rfl
theorem lR {κ:Type} [DecidableEq κ]:∀ {m:List (κ × D)} {a:κ},a ∉ m.map (·.1)→mlook m a=none
 | [],_,_=>rfl
 | q::r,a,h=>by
   rw [mlook,if_neg (fun e=>h (by simp [e])),lR (fun g=>h (by simp only [List.map_cons,List.mem_cons];exact .inr g))]
theorem oY {κ:Type} [DecidableEq κ]:∀ (m:List (κ × D)) (a:κ),(m.map (·.1)).Nodup→(∀ b,mlook (mdel m a) b=if b=a then none else mlook m b)∧((mdel m a).map (·.1)).Nodup∧∀ b∈(mdel m a).map (·.1),b∈m.map (·.1)
 | [],a,_=>⟨fun b=>by simp [mdel,midx,mlook],by simp [mdel,midx],by simp [mdel,midx]⟩
 | q::r,a,h=>by
   rw [List.map_cons,List.nodup_cons] at h
   obtain ⟨h1,h2,h3⟩:=oY r a h.2
   rw [wH]
   by_cases e:q.1=a
   ·rw [if_pos e]
    refine ⟨fun b=>?_,h.2,fun b hb=>List.mem_cons_of_mem _ hb⟩
    by_cases e2:b=a
    ·rw [if_pos e2,e2,lR]
     rw [← e];exact h.1
    ·rw [if_neg e2,mlook,if_neg (fun g=>e2 (g.symm.trans e))]
   ·rw [if_neg e]
    refine ⟨fun b=>?_,?_,fun b hb=>?_⟩
    ·rw [mlook,mlook,h1]
     by_cases e2:q.1=b
     ·rw [if_pos e2,if_pos e2,if_neg (fun g=>e (e2.trans g))]
     ·rw [if_neg e2,if_neg e2]
    ·rw [List.map_cons,List.nodup_cons]
     exact ⟨fun g=>h.1 (h3 _ g),h2⟩
    ·rcases List.mem_cons.1 hb with rfl | hb
     ·simp
     ·exact List.mem_cons_of_mem _ (h3 b hb)
theorem gz.pop {es:List (Int × D)} {c:Nat} {r:List Nat} (h:gz es (c::r)) (hn:(c::r).Nodup):gz (mdel es (c:Int)) r:=by
 obtain ⟨h1,h2,_⟩:=oY es (c:Int) h.2
 refine ⟨fun k=>?_,h2⟩
 rw [h1]
 have hc:=(List.nodup_cons.1 hn).1
 by_cases e:k=c
 ·subst e
  rw [if_pos rfl,if_neg hc]
 ·have e':¬ ((k:Int)=(c:Int)):=by omega
  rw [if_neg e',h.1 k]
  simp [e]
theorem Queue.tail {c:List D} {o x:Nat} {r:List Nat} (h:Queue c o 0 (x::r)):Queue c (o+1) 0 r:=by
 obtain ⟨_,h2,h3⟩:=h
 simp only [List.length_cons,Nat.sub_zero,List.drop_zero] at h2 h3 ⊢
 refine ⟨Nat.zero_le _,by simp;omega,?_⟩
 have h1:=congrArg (List.drop 1) h3
 rw [List.drop_take,List.drop_drop] at h1
 simpa using h1
theorem Queue.head {c:List D} {o x:Nat} {r:List Nat} (h:Queue c o 0 (x::r)):c.getD o .nilp=i64 (x:Nat):=h.get (by simp)
theorem Cd {G} (l:List Nat) (hl:l.length≤1000000):HP Tryz.prog G 89 [bZ l] (fun r=>r=.d (bZ l)):=by
 have:=yA (G:=G) (toI l) (by simpa [toI] using hl)
 unfold ay at this
 rw [← qJ] at this
 exact this
set_option maxHeartbeats 4000000 in
theorem DH {G} (l:List EA) (st:Int) (FM:List (KISI × D)) (clk:Nat) (bs:List Nat) (s:PS) (o:Nat) (cc:List D) (es:List (Int × D)) (hN:l.length≤4000) (hF:kl l FM) (hFl:FM.length≤1000000) (hst:Stamps clk bs (menc aE FM)) (hkd:∀ q∈FM,0≤q.1.1.1∧q.1.1.1<1000)
  (h:Hop l s [] []) (hin:InA l) (hdet:yO l) (hq:Queue cc o 0 s.wait) (hio:gz es s.wait) :
  HCall Tryz.prog G 72 [.bx [0] 0] (bp l st (mpD clk bs (menc aE FM)) s 2 3 o cc es) [0,1,2,3,100] (fun r hp'=>r=.tup []∧∃ s' o' c' es',hp'=bp l st (mpD clk bs (menc aE FM)) s' 6 7 o' c' es'∧Hop l s' [] []∧s'.wait=[]):=by
 unfold bp dK
 obtain ⟨FD,hFD⟩:∃ FD,mpD clk bs (menc aE FM)=FD:=⟨_,rfl⟩
 rw [hFD]
 refine bQ Tryz.func72 rfl (by decide +kernel) (by simp [Tryz.ntmps72]) (veil fun E=>?_)
 simp only [go_sem]
 refine an E (X:={ x:PS × (Nat × List D × List (Int × D)) // Hop l x.1 [] []∧Queue x.2.2.1 x.2.1 0 x.1.wait∧gz x.2.2.2 x.1.wait }) (fun x=>[(0,.bx [0] 0)])
  (fun x=>[([0],.box [.d (.sl (some 13) (l.map stD)),.d (i64 st),.d FD,.vw [1] 0 x.1.1.cls.length,.vw [96] 0 x.1.1.sets.length,.vw [95] x.1.2.1 x.1.1.wait.length,.mp [100]]),([1],.arr none (x.1.1.cls.map nD)),([96],.arr none (x.1.1.sets.map bZ)),([95],.arr none x.1.2.2.1),([100],.map (menc (fun n:Int=>i64 n) x.1.2.2.2))])
  [0,1,2,3,100,96,95] (fun x=>2*(l.length-x.1.1.sets.length)+x.1.1.wait.length) ⟨(s,(o,cc,es)),h,hq,hio⟩ (tau [([96],[2]),([95],[3])]) ?_ ?_
 ·simp only [go_sem]
  all_goals first | rfl | ((repeat' apply And.intro)<;>first | rfl | trivial)
 rintro ⟨⟨s1,o1,c1,es1⟩,hop,hq1,hio1⟩ E0
 refine aK E0 fun Q' hQ E'=>?_
 simp only at hop hq1 hio1 ⊢
 simp only [go_sem]
 refine ak E' (fun h1=>?_) (fun h1=>?_)<;>simp only [go_sem]
 ·obtain ⟨c,r,hw⟩:∃ c r,s1.wait=c::r:=by
   cases hh:s1.wait with
   | nil=>rw [hh] at h1;simp at h1
   | cons c r=>exact ⟨c,r,rfl⟩
  have hlen:s1.wait.length=r.length+1:=by rw [hw];rfl
  have wf:=hop.wf
  have hcl:c<s1.sets.length:=wf.wt c (by rw [hw];simp)
  rw [hw] at hq1 hio1
  refine ⟨by omega,?_⟩
  rw [hq1.head]
  simp only [go_sem]
  refine ⟨by omega,?_⟩
  refine AU E' [100] es1 (c:Int) (by rw [gE]) n4 rfl rfl rfl ?_
  simp only [go_sem]
  refine ⟨by omega,?_⟩
  obtain ⟨T,hT⟩:∃ T,s1.sets.getD c []=T:=⟨_,rfl⟩
  have hgi:(s1.sets.map bZ).getD c .nilp=.sl none (T.map nD):=by rw [← hT];simp [hcl,bZ]
  rw [hgi]
  have hTsub:=wf.in' c hcl
  rw [hT] at hTsub
  have hTN:T.length≤l.length:=by
   have hd:=wf.dn c hcl
   rw [hT] at hd
   exact aH hd fun x hx=>(hTsub.2 x hx).1
  simp only [go_sem]
  refine bn E' [.d (bZ T)] [] [] (Cd T (by omega)) rfl rfl ⟨by simp only [go_sem],by rw [ag];decide⟩ rfl (by simp only [go_sem]) (by simp only [go_sem]) ?_
  rintro _ _ ⟨rfl,-,rfl⟩
  simp only [go_sem]
  have hl1:s1.wait.length-1=r.length:=by omega
  have wfp:Wf l.length { s1 with wait:=r }:=⟨wf.len,wf.at',wf.in',wf.dn,fun x hx=>wf.wt x (by rw [hw];simp [hx]),by have g:=wf.wn;rw [hw] at g;exact (List.nodup_cons.1 g).2⟩
  have hcq:=Cb (G:=G) l st FM clk bs { s1 with wait:=r } (o1+1) c1 (mdel es1 (c:Int)) c hN hF hFl hst hkd wfp
  rw [hFD] at hcq
  rw [hl1]
  refine iU E' (tau [([2],[96]),([3],[95])]) [.bx [0] 0,.d (i64 c)] (bp l st FD { s1 with wait:=r } 2 3 (o1+1) c1 (mdel es1 (c:Int))) [0,1,2,3,100] hcq rfl (by simp only [go_sem]) ⟨by simp only [go_sem],by rw [ag];decide⟩ rfl (by unfold bp dK;simp only [go_sem]) (by unfold bp dK;simp only [go_sem]) ?_
  rintro _ _ ⟨LS,rfl,rfl,hLS,hmem⟩
  unfold bp dK
  simp only [go_sem]
  refine ⟨⟨Nat.le_refl _,Nat.le_refl _,Nat.le_refl _⟩,?_⟩
  have hL:∀ x,x<l.length→∀ (a:Ltr) k,(a,k)∈dA l x→s1.cls.getD k 0=c→a∈LS:=fun x hx a k hs hc=>by
   obtain ⟨v,hv⟩:=hF.all x hx a k hs
   exact (hmem a).2 ⟨((a,(k:Int)),v),hv,rfl,by simpa using hc⟩
  obtain ⟨hop0,hclo⟩:=hop.pop hin hw hL
  rw [hT] at hop0 hclo
  have hq0:=hq1.tail
  have hn1:(c::r).Nodup:=by rw [← hw];exact wf.wn
  have hio0:=hio1.pop hn1
  have hTl:∀ k∈T,k<l.length:=fun k hk=>(hTsub.2 k hk).1
  refine eR E' [41,6] (some 2) (LS.map jm) rfl ?_
  simp only [go_sem]
  refine an E' (X:={ x:(Nat × PS) × (Nat × List D × List (Int × D)) // x.1.1≤LS.length∧Hop l x.1.2 T (LS.drop x.1.1)∧(Queue x.2.2.1 x.2.1 0 x.1.2.wait∧gz x.2.2.2 x.1.2.wait)∧2*(l.length-x.1.2.sets.length)+x.1.2.wait.length≤2*(l.length-s1.sets.length)+r.length })
   (fun x=>[(0,.bx [0] 0),(3,.d (bZ T)),(41,.d (.sl (some 2) (LS.map jm))),(42,.d (i64 LS.length)),(43,.d (i64 x.1.1.1))])
   (fun x=>[([0],.box [.d (.sl (some 13) (l.map stD)),.d (i64 st),.d FD,.vw [1] 0 x.1.1.2.cls.length,.vw [96] 0 x.1.1.2.sets.length,.vw [95] x.1.2.1 x.1.1.2.wait.length,.mp [100]]),([1],.arr none (x.1.1.2.cls.map nD)),([96],.arr none (x.1.1.2.sets.map bZ)),([95],.arr none x.1.2.2.1),([100],.map (menc (fun n:Int=>i64 n) x.1.2.2.2))])
   [0,1,2,3,100,96,95] (fun x=>LS.length-x.1.1.1) ⟨((0,{ s1 with wait:=r }),(o1+1,c1,mdel es1 (c:Int))),Nat.zero_le _,hop0,⟨hq0,hio0⟩,Nat.le_refl _⟩ id ?_ ?_
  ·simp only [go_sem]
   all_goals first | rfl | ((repeat' apply And.intro)<;>first | rfl | trivial)
  rintro ⟨⟨⟨j,s2⟩,o2,c2,es2⟩,hj,hop2,⟨hq2,hio2⟩,hme2⟩ E0
  refine aK E0 fun Q2 hQ2 E2=>?_
  simp only at hj hop2 hq2 hio2 hme2 ⊢
  simp only [go_sem]
  refine ak E2 (fun h2=>?_) (fun h2=>?_)<;>simp only [go_sem]
  ·have hj':j<LS.length:=by omega
   have hgx:(LS.map jm).getD j .nilp=.agg [i64 LS[j].1,.str LS[j].2]:=by simp [hj',jm]
   refine ⟨by omega,?_⟩
   rw [hgx]
   simp only [go_sem]
   have hdr:LS.drop j=LS[j]::LS.drop (j+1):=List.drop_eq_getElem_cons hj'
   rw [hdr] at hop2
   have hcq:=BD (G:=G) l st FM clk bs s2 o2 c2 es2 LS[j] T (LS.drop (j+1)) hN hF hop2 hclo hin hdet hTl hTN hq2 hio2
   rw [hFD] at hcq
   refine iU E2 (tau [([2],[96]),([3],[95])]) [.bx [0] 0,.d (jm LS[j]),.d (.sl none (T.map nD))] (bp l st FD s2 2 3 o2 c2 es2) [0,1,2,3,100] hcq rfl (by unfold bZ jm;simp only [go_sem]) ⟨by simp only [go_sem],by rw [ag];decide⟩ rfl (by unfold bp dK;simp only [go_sem]) (by unfold bp dK;simp only [go_sem]) ?_
   rintro _ _ ⟨rfl,s3,o3,c3,es3,rfl,hop3,hq3,hio3,hme3⟩
   have hcl2:=hop2.wf.len
   have hcl3:=hop3.wf.len
   unfold bp dK
   simp only [go_sem]
   refine ⟨by omega,?_⟩
   rw [hQ2]
   simp only [go_sem]
   refine ⟨⟨((j+1,s3),(o3,c3,es3)),hj',hop3,⟨hq3,hio3⟩,Nat.le_trans hme3 hme2⟩,by show LS.length-(j+1)<LS.length-j;omega,tau [([96],[50,6]),([95],[50,7])],?_⟩
   simp only [go_sem]
   rw [aa ⟨by omega,by omega⟩]
   (repeat' apply And.intro)<;>first | rfl | trivial
  ·have hje:j=LS.length:=by omega
   subst hje
   rw [List.drop_length] at hop2
   rw [hQ2]
   simp only [go_sem]
   rw [hQ]
   simp only [go_sem]
   refine ⟨⟨(s2,(o2,c2,es2)),hop2.end' [] [],hq2,hio2⟩,by show 2*(l.length-s2.sets.length)+s2.wait.length<2*(l.length-s1.sets.length)+s1.wait.length;omega,id,?_⟩
   simp only [go_sem]
 ·have hw0:s1.wait=[]:=List.eq_nil_of_length_eq_zero (by omega)
  rw [hQ]
  simp only [go_sem]
  refine ⟨.tup [],_,[0,1,2,3,100,6,7],tau [([6],[96]),([7],[95])],⟨rfl,s1,o1,c1,es1,rfl,hop,hw0⟩,?_⟩
  simp only [go_sem]
end Go.Proofs.YthfodompfpdmgaaGreatDoor

namespace Go.Proofs.YthfodompfpdmgaaGreatDoor
open Go.Ab
variable {t:TypeId} {fz:Nat × Nat}
def fY (s:PS) (N:Nat):List Nat:=(List.range N).map fun i=>gI (s.sets.getD (s.cls.getD i 0) [])
theorem Aj {l:List EA} {s:PS} (h:Hop l s [] []) (hin:InA l) (hw:s.wait=[]):cB l (fY s l.length):=by
 have w:=h.wf
 refine ⟨by simp [fY],fun i hi=>?_⟩
 have hg:(fY s l.length).getD i 0=gI (s.sets.getD (s.cls.getD i 0) []):=by simp [fY,hi]
 rw [hg]
 have hc:=(w.at' i hi).1
 obtain ⟨h1,h2⟩:=w.in' _ hc
 obtain ⟨m1,m2⟩:=yE h1
 obtain ⟨k1,k2⟩:=h2 _ m1
 refine ⟨(h.alike hin hw hi k1).2 k2.symm,fun j hj ha=>?_⟩
 have hjl:j<l.length:=by omega
 have e:=(h.alike hin hw hi hjl).1 ha
 have:=m2 j (by rw [e];exact (w.at' j hjl).2)
 omega
set_option maxHeartbeats 4000000 in
theorem yM (l:List EA) (st:Int) (h0:0<l.length) (hN:l.length≤1000) (hp:∀ s∈l,Plain s) (hin:InA l):HP Tryz.prog (GT t fz) 38 [auD l st] (fun r=>∃ out,cB l out∧r=.d (.sl none (out.map nD))):=by
 have c1:=CG (t:=t) (fz:=fz) l st h0 hN (fun s hs=>⟨(hp s hs).ins,(hp s hs).fit⟩) (fun s hs=>(hp s hs).nd) hin fun s hs=>(hp s hs).nice
 have hdet:yO l:=Ek fun s hs=>(hp s hs).nd
 unfold auD at *
 refine aV Tryz.func38 rfl (by decide +kernel) (by simp [Tryz.ntmps38]) (veil fun E=>?_)
 simp only [go_sem]
 refine bn E [.d (.agg [.sl (some 13) (l.map stD),i64 st])] [] [] c1 rfl rfl ⟨by simp only [go_sem],by rw [ag];decide⟩ rfl (by simp only [go_sem]) (by simp only [go_sem]) ?_
 rintro _ _ ⟨rfl,s,FM,clk,bs,c,es,rfl,hFO,hst,hFl,hkd,hop,hq,hio⟩
 obtain ⟨FD,hFD⟩:∃ FD,mpD clk bs (menc aE FM)=FD:=⟨_,rfl⟩
 have c2:=DH (G:=GT t fz) l st FM clk bs s 0 c es (by omega) hFO hFl hst hkd hop hin hdet hq hio
 rw [hFD] at c2
 rw [hFD]
 unfold bp dK
 simp only [go_sem]
 refine iU E (tau [([0],[7,0]),([1],[7,1]),([2],[7,2]),([3],[7,3]),([100],[7,100])]) [.bx [0] 0] (bp l st FD s 2 3 0 c es) [0,1,2,3,100] c2 rfl (by simp only [go_sem]) ⟨by simp only [go_sem],by rw [ag];decide⟩ rfl (by unfold bp dK;simp only [go_sem]) (by unfold bp dK;simp only [go_sem]) ?_
 rintro _ _ ⟨rfl,s',o',c',es',rfl,hop',hw'⟩
 have w:=hop'.wf
 have hcl:=w.len
 have hcl0:=hop.wf.len
 have hsl:=w.le
 have hout:=Aj hop' hin hw'
 unfold bp dK
 simp only [go_sem]
 refine ⟨by omega,?_⟩
 rw [hcl]
 refine ⟨⟨by omega,by omega,by omega,by omega⟩,?_⟩
 rw [show List.replicate l.length (D.int IntKind.i64 0)=fX l.length [] from (sJ _).symm]
 refine an E (X:={ i:Nat // i≤l.length }) (fun x=>[(3,.bx [0] 0),(4,.vw [13] 0 l.length),(15,.d (.sl (some 13) (l.map stD))),(16,.d (i64 l.length)),(17,.d (i64 x.1))])
  (fun x=>[([0],.box [.d (.sl (some 13) (l.map stD)),.d (i64 st),.d FD,.vw [1] 0 l.length,.vw [6] 0 s'.sets.length,.vw [10] o' s'.wait.length,.mp [100]]),([1],.arr none (s'.cls.map nD)),([6],.arr none (s'.sets.map bZ)),([13],.arr none (fX l.length ((fY s' l.length).take x.1)))])
  [0,1,6,10,13,100] (fun x=>l.length-x.1) ⟨0,Nat.zero_le _⟩ (tau [([0],[7,0]),([1],[7,1]),([6],[9,6]),([10],[9,7]),([100],[7,100])]) ?_ ?_
 ·simp only [go_sem]
  all_goals first | rfl | ((repeat' apply And.intro)<;>first | rfl | trivial)
 rintro ⟨i,hi⟩ E0
 refine aK E0 fun Q' hQ E'=>?_
 simp only at hi ⊢
 simp only [go_sem]
 refine ak E' (fun h1=>?_) (fun h1=>?_)<;>simp only [go_sem]
 ·have hi':i<l.length:=by omega
  obtain ⟨k,hk⟩:∃ k,s'.cls.getD i 0=k:=⟨_,rfl⟩
  have hkl:=(w.at' i hi').1
  have hki:=(w.at' i hi').2
  rw [hk] at hkl hki
  obtain ⟨T,hT⟩:∃ T,s'.sets.getD k []=T:=⟨_,rfl⟩
  obtain ⟨hT0,hTin⟩:=w.in' k hkl
  have hTd:=w.dn k hkl
  rw [hT] at hki hT0 hTin hTd
  have hTl:T.length≤l.length:=aH hTd fun x hx=>(hTin x hx).1
  have hgc:(s'.cls.map nD).getD i .nilp=i64 (k:Nat):=by
   rw [← hk]
   simp [hcl,hi',nD]
  have hgs:(s'.sets.map bZ).getD k .nilp=.sl none (T.map nD):=by
   rw [← hT]
   simp [hkl,bZ]
  have c3:=C7 (G:=GT t fz) T hT0 (by omega) (fun x hx=>by have:=(hTin x hx).1;omega)
  unfold bZ at c3
  have hstep:(fX l.length ((fY s' l.length).take i)).set i (i64 (gI T:Nat))=fX l.length ((fY s' l.length).take (i+1)):=by
   have hol:(fY s' l.length).length=l.length:=by simp [fY]
   have htl:((fY s' l.length).take i).length=i:=by rw [List.length_take];omega
   have:=l8 (N:=l.length) (k:=gI T) (cls:=(fY s' l.length).take i) (by omega)
   rw [htl] at this
   rw [this,List.take_succ_eq_append_getElem (by omega)]
   congr 2
   simp [fY,← hT,← hk]
  refine ai mixed E' fun X=>?_
  simp only [go_sem]
  refine dm X (d:=23) [0] 0 none _ (by simp only [go_sem]) rfl rfl ?_
  simp only [go_sem]
  refine dm X (d:=27) [0] 0 none _ (by simp only [go_sem]) rfl rfl ?_
  simp only [go_sem]
  refine ⟨by omega,?_⟩
  rw [hgc]
  simp only [go_sem]
  refine ⟨by omega,?_⟩
  rw [hgs]
  simp only [go_sem]
  refine aO X c3 rfl rfl (by simp) ?_
  simp only [go_sem]
  refine ⟨by omega,?_⟩
  rw [hstep]
  refine ⟨by decide +kernel,?_⟩
  rw [hQ]
  simp only [go_sem]
  refine ⟨⟨i+1,by omega⟩,by show l.length-(i+1)<l.length-i;omega,id,?_⟩
  simp only [go_sem]
  rw [aa ⟨by omega,by omega⟩]
  all_goals first | rfl | ((repeat' apply And.intro)<;>first | rfl | trivial)
 ·have hiN:i=l.length:=by omega
  subst hiN
  have hol:(fY s' l.length).length=l.length:=by simp [fY]
  have hfin:fX l.length ((fY s' l.length).take l.length)=(fY s' l.length).map nD:=by
   rw [List.take_of_length_le (by omega)]
   unfold fX
   rw [hol,Nat.sub_self]
   simp
  rw [hQ,hfin]
  simp only [go_sem]
  refine ⟨[([13],none,(fY s' l.length).map nD)],?_⟩
  simp only [go_sem]
  have htk:List.take l.length ((fY s' l.length).map nD)=(fY s' l.length).map nD:=List.take_of_length_le (by rw [List.length_map,hol];exact Nat.le_refl _)
  try rw [htk]
  exact ⟨_,hout,rfl⟩
end Go.Proofs.YthfodompfpdmgaaGreatDoor

namespace Go.Proofs.YthfodompfpdmgaaGreatDoor
open Go.Ab
variable {t:TypeId} {fz:Nat × Nat}
theorem uG (l:List EA) (st:Int) (hN:l.length≤1000) (hs:∀ s∈l,InS s) (h:cx l st=0):HP Tryz.prog (GT t fz) 16 [auD l st] (fun r=>∃ out,cB l out∧r=.tup [.d (.sl none (out.map nD)),.d (i64 0)]):=by
 have c1:=qq (G:=GT t fz) l st (by omega) hs
 have g:=cW h
 have c2:=yM (t:=t) (fz:=fz) l st g.n0 hN (iN hs h) g.inA
 rw [h] at c1
 unfold auD at *
 refine aV Tryz.func16 rfl (by decide +kernel) (by simp [Tryz.ntmps16]) (veil fun E=>?_)
 simp only [go_sem]
 refine ae E (c1) rfl rfl (by simp) ?_
 rintro _ rfl
 simp only [go_sem]
 refine ae E c2 rfl rfl (by simp) ?_
 rintro _ ⟨out,hcl,rfl⟩
 simp only [go_sem]
 refine ⟨[],?_⟩
 simp only [go_sem]
 exact ⟨out,hcl,rfl⟩
theorem CA (l:List EA) (st:Int) (hN:l.length≤1000000) (hs:∀ s∈l,InS s) (h:cx l st≠0):HP Tryz.prog (GT t fz) 16 [auD l st] (fun r=>r=.tup [.d .nils,.d (i64 (cx l st))]):=by
 have c1:=qq (G:=GT t fz) l st hN hs
 generalize cx l st=e at *
 unfold auD at *
 refine aV Tryz.func16 rfl (by decide +kernel) (by simp [Tryz.ntmps16]) (veil fun E=>?_)
 simp only [go_sem]
 refine ae E (c1) rfl rfl (by simp) ?_
 rintro _ rfl
 simp only [go_sem]
 refine ak E (fun _=>?_) (fun h'=>absurd h h')<;>simp only [go_sem]
 refine ⟨[],?_⟩
 simp only [go_sem]
theorem vv (l:List EA) (st:Int) (hN:l.length≤1000000) (hs:∀ s∈l,InS s) (h:cx l st≠0):HP Tryz.prog (GT t fz) 17 [auD l st] (fun r=>r=.tup [.d (.agg [.nils,i64 0]),.d (i64 (cx l st))]):=by
 have c1:=BA (G:=GT t fz) l st hN hs h
 generalize cx l st=e at *
 unfold auD at *
 refine aV Tryz.func17 rfl (by decide +kernel) (by simp [Tryz.ntmps17]) (veil fun E=>?_)
 simp only [go_sem]
 refine ae E (c1) rfl rfl (by simp) ?_
 rintro _ rfl
 simp only [go_sem]
 refine ak E (fun _=>?_) (fun h'=>absurd h h')<;>simp only [go_sem]
 refine ⟨[],?_⟩
 simp only [go_sem]
end Go.Proofs.YthfodompfpdmgaaGreatDoor

namespace Go.Proofs.YthfodompfpdmgaaGreatDoor
open Go.Ab
variable {t:TypeId} {fz:Nat × Nat}
set_option maxHeartbeats 4000000 in
theorem qP (l:List EA) (st:Int) (hN:l.length≤1000) (hs:∀ s∈l,InS s) (h:cx l st=0):HP Tryz.prog (GT t fz) 17 [auD l st] (fun r=>∃ out,cB (aG l st.toNat) out∧r=.tup [.d (auD (aF (aG l st.toNat) out) 0),.d (i64 0)]):=by
 have c1:=AB (G:=GT t fz) l st (by omega) hs h
 have g:=cW h
 obtain ⟨k0,rfl⟩:∃ k:Nat,st=(k:Int):=⟨st.toNat,by have:=g.s0;omega⟩
 have hk0:k0<l.length:=by have:=g.s1;omega
 have hll:=dp g.inA hk0
 have hpl:=iN hs h
 rw [Int.toNat_natCast] at c1 ⊢
 have hen:=jD h
 have hpn:=eU hpl g.inA hk0
 have hnl:(aG l k0).length≤1000:=by rw [aA];omega
 generalize hn:aG l k0=n at *
 have gn:=cW hen
 have c2:=yM (t:=t) (fz:=fz) n 0 gn.n0 hnl hpn gn.inA
 unfold auD at *
 refine aV Tryz.func17 rfl (by decide +kernel) (by simp [Tryz.ntmps17]) (veil fun E=>?_)
 simp only [go_sem]
 refine ae E (c1) rfl rfl (by simp) ?_
 rintro _ rfl
 simp only [go_sem]
 refine ae E c2 rfl rfl (by simp) ?_
 rintro _ ⟨out,hcls,rfl⟩
 have hec:=vq hen hcls
 have hcl:=hcls.1
 have htl:(toI out).length=n.length:=by simp [toI,hcl]
 have h00:(toI out).getD 0 0=((out.getD 0 0:Nat):Int):=qQ out 0
 have hcn:(bY out n).length=n.length:=by simp [bY]
 have c4:=AB (G:=GT t fz) (bY out n) ((out.getD 0 0:Nat):Int) (by omega) (fun s hs=>(ki hpn s hs).ins) hec
 rw [Int.toNat_natCast,show aG (bY out n) (out.getD 0 0)=aF n out from rfl] at c4
 have hmap:=rm out n
 have hnx:∀ s∈n,∀ z∈s.next,0≤z∧z<(toI out).length:=by rw [htl];exact gn.inA
 rw [qJ]
 have hn0:=gn.n0
 simp only [go_sem]
 refine ⟨by omega,?_⟩
 rw [aN (show 0<(toI out).length by omega),h00]
 generalize out.getD 0 0=q0 at *
 generalize hm:toI out=m at *
 unfold auD at c4
 simp only [go_sem]
 refine bP E [7] 0 97 (some 13) [.d .nils,.d (i64 q0)] rfl rfl (by rw [ag];decide) ?_
 simp only [go_sem]
 refine an E (X:={ k:Nat // k≤n.length }) (fun x=>[(2,.bx [2] 0),(6,.d (.sl none (m.map i64))),(7,.bx [7] 0),(28,.d (.sl (some 13) (n.map stD))),(29,.d (i64 n.length)),(30,.d (i64 x.1))])
  (fun x=>[([2],.box [.d .nils,.d (i64 0)]),([7],.box [.vw [97] 0 x.1,.d (i64 q0)]),([97],.arr (some 13) ((n.take x.1).map fun s=>stD (dN m s)))]) [97,7,2] (fun x=>n.length-x.1) ⟨0,Nat.zero_le _⟩ id ?_ ?_
 ·simp only [go_sem]
  all_goals first | rfl | ((repeat' apply And.intro)<;>first | rfl | trivial)
 rintro ⟨k,hk⟩ E0
 refine aK E0 fun Q' hQ E'=>?_
 simp only at hk ⊢
 simp only [go_sem]
 refine ak E' (fun h2=>?_) (fun h2=>?_)<;>simp only [go_sem]
 ·have h2':k<n.length:=by omega
  have hmem:=List.getElem_mem h2'
  have hnk:=hnx _ hmem
  have hik:=(hpn _ hmem).ins
  refine ⟨by omega,?_⟩
  rw [bJ h2']
  generalize hse:n[k]=s at hnk hik ⊢
  have hfl:∀ q∈s.fl,0≤q.2∧q.2<m.length:=fun q hq=>hnk _ (by
   unfold EA.next
   exact List.mem_append_right _ (List.mem_append_left _ (List.mem_map.2 ⟨q,hq,rfl⟩)))
  have htg:∀ q∈s.tl,0≤q.2∧q.2<m.length:=fun q hq=>hnk _ (by
   unfold EA.next
   exact List.mem_append_right _ (List.mem_append_right _ (List.mem_map.2 ⟨q,hq,rfl⟩)))
  have m1:=Ah (G:=GT t fz) s.fl m (by have:=hik.f;omega) hfl
  have m2:=Ah (G:=GT t fz) s.tl m (by have:=hik.t;omega) htg
  unfold bk ay at m1 m2
  rw [ab s]
  simp only [go_sem]
  refine bG E' (fun ha=>?_) (fun ha=>?_)<;>simp only [go_sem]
  ·have hd1:0≤s.dom∧s.dom<m.length:=hnk _ (by simp [EA.next,ha])
   have hd2:0≤s.cod∧s.cod<m.length:=hnk _ (by simp [EA.next,ha])
   refine ai mixed E' fun X=>?_
   simp only [go_sem]
   refine ⟨by omega,?_⟩
   rw [aN (show s.dom.toNat<m.length by omega),show m.getD s.dom.toNat 0=atL m s.dom from rfl]
   simp only [go_sem]
   refine ⟨by omega,?_⟩
   rw [aN (show s.cod.toNat<m.length by omega),show m.getD s.cod.toNat 0=atL m s.cod from rfl]
   simp only [go_sem]
   refine ⟨by decide +kernel,?_⟩
   refine ai mixed E' fun X=>?_
   simp only [go_sem]
   refine aO X m1 rfl rfl (by simp) ?_
   simp only [go_sem]
   refine aO X m2 rfl rfl (by simp) ?_
   simp only [go_sem]
   refine ⟨by decide +kernel,?_⟩
   refine ⟨by omega,?_⟩
   rw [hQ]
   simp only [go_sem]
   refine ⟨⟨k+1,by omega⟩,by show n.length-(k+1)<n.length-k;omega,tau [([97],[62])],?_⟩
   simp only [go_sem]
   have hsm:stD (dN m s)=.agg [.bool s.plus,.bool s.al,.bool s.int,.bool s.bool,.bool s.str,.bool s.arr,.bool s.rc,.bool s.tg,.sl none (s.vars.map i64),i64 (atL m s.dom),i64 (atL m s.cod),.sl (some 2) ((s.fl.map fun q=>(q.1,atL m q.2)).map au),.sl (some 2) ((s.tl.map fun q=>(q.1,atL m q.2)).map au)]:=by rw [ab];simp [dN,EA.mv,ha]
   rw [List.take_of_length_le (by rw [List.length_map,List.length_take];omega),← bh h2',hse,hsm,aa ⟨by omega,by omega⟩]
   (repeat' apply And.intro)<;>first | rfl | trivial
  ·refine ai mixed E' fun X=>?_
   simp only [go_sem]
   refine aO X m1 rfl rfl (by simp) ?_
   simp only [go_sem]
   refine aO X m2 rfl rfl (by simp) ?_
   simp only [go_sem]
   refine ⟨by decide +kernel,?_⟩
   refine ⟨by omega,?_⟩
   rw [hQ]
   simp only [go_sem]
   refine ⟨⟨k+1,by omega⟩,by show n.length-(k+1)<n.length-k;omega,tau [([97],[62])],?_⟩
   simp only [go_sem]
   have hsm:stD (dN m s)=.agg [.bool s.plus,.bool s.al,.bool s.int,.bool s.bool,.bool s.str,.bool s.arr,.bool s.rc,.bool s.tg,.sl none (s.vars.map i64),i64 s.dom,i64 s.cod,.sl (some 2) ((s.fl.map fun q=>(q.1,atL m q.2)).map au),.sl (some 2) ((s.tl.map fun q=>(q.1,atL m q.2)).map au)]:=by rw [ab];simp [dN,EA.mv,ha]
   rw [List.take_of_length_le (by rw [List.length_map,List.length_take];omega),← bh h2',hse,hsm,aa ⟨by omega,by omega⟩]
   (repeat' apply And.intro)<;>first | rfl | trivial
 ·have h3:k=n.length:=by omega
  subst h3
  rw [List.take_length,hQ]
  simp only [go_sem]
  refine dr E [97] (some 13) (n.map fun s=>stD (dN m s)) rfl rfl ?_
  rw [pR]
  refine ae E c4 rfl (by simp only [go_sem];rw [hmap]) (by simp) ?_
  rintro _ rfl
  simp only [go_sem]
  refine ⟨[],?_⟩
  simp only [go_sem]
  exact ⟨out,hcls,rfl⟩
end Go.Proofs.YthfodompfpdmgaaGreatDoor

namespace Go.Proofs.YthfodompfpdmgaaGreatDoor
open Go.Ab
variable {t:TypeId} {fz:Nat × Nat}
inductive DL:D→D→Prop
 | refl (x):DL x x
 | nil (w):DL .nils (.sl w [])
 | agg (cs ds:List D) (hl:cs.length=ds.length) (hc:∀ d∈ds,d.scal=true) (h:∀ (i:Nat) x y,cs[i]?=some x→ds[i]?=some y→DL x y):DL (.agg cs) (.agg ds)
 | sl (w:W) (xs ys:List D) (hl:xs.length=ys.length) (hw:∀ y∈ys,okW w y) (hc:∀ (i:Nat) x y,xs[i]?=some x→ys[i]?=some y→x.cells.length=y.cells.length)
  (h:∀ (i:Nat) x y,xs[i]?=some x→ys[i]?=some y→∀ (j:Nat) d e,x.cells[j]?=some d→y.cells[j]?=some e→DL d e):DL (.sl w xs) (.sl w ys)
theorem DL.rep {x y:D} (h:DL x y):∀ {H:Array Obj} {own:Nat→Prop} {v:Value},Rep H own v x→Rep H own v y:=by
 induction h with
 | refl=>exact fun h=>h
 | nil w =>
   intro H own v hr
   cases hr
   exact .sl0 _ _ _
 | agg cs ds hl hc h ih =>
   intro H own v hr
   cases hr with
   | agg vs _ hs _ h' =>
     refine .agg vs ds (hs.trans hl) hc fun i d hd=>?_
     have hlt:=(List.getElem?_eq_some_iff.1 hd).1
     have hx:cs[i]?=some (cs[i]'(by omega)):=List.getElem?_eq_getElem _
     exact ih i _ _ hx hd (h' i _ hx)
 | sl w xs ys hl hw hc h ih =>
   intro H own v hr
   cases hr with
   | sl0 a cap _ =>
     have:ys=[]:=List.eq_nil_of_length_eq_zero (by rw [← hl];rfl)
     rw [this]
     exact .sl0 a cap w
   | sl b o cap c e fz _ _ hb hn hcap hz _ h' =>
     have key:Rep H own (.slice (some ⟨b,o,none⟩) ys.length cap) (.sl w ys):=by
      refine .sl b o cap c e fz w ys hb hn (by omega) (by rw [← hl];exact hz) hw fun i y j d hi hj=>?_
      have hlt:=(List.getElem?_eq_some_iff.1 hi).1
      have hx:xs[i]?=some (xs[i]'(by omega)):=List.getElem?_eq_getElem _
      have hcl:=hc i _ _ hx hi
      have hjlt:=(List.getElem?_eq_some_iff.1 hj).1
      have hxc:(xs[i]'(by omega)).cells[j]?=some ((xs[i]'(by omega)).cells[j]'(by omega)):=List.getElem?_eq_getElem _
      exact ih i _ _ hx hi j _ _ hxc hj (h' i _ j _ hx hxc)
     rw [← hl] at key
     exact key
theorem HP.dl {P:Program} {G:List (Nat × Obj)} {f:FuncId} {args args':List D} {Q:AV→Prop} (hl:args.length=args'.length)
  (hr:∀ (i:Nat) x y,args[i]?=some x→args'[i]?=some y→DL x y) (h:HP P G f args' Q):HP P G f args Q:=by
 refine ⟨h.1,fun B β vs w h1 h2 h3 h4 h5=>h.2 B β vs w (h1.trans (by simpa using hl)) h2 h3 h4 { tms:=h5.tms,io:=h5.io,size:=h5.size,frame:=h5.frame,slots:=fun t=>?_,objs:=h5.objs,blocks:=h5.blocks,inj:=h5.inj,us:=h5.us,stay:=h5.stay }⟩
 have hv:=h5.slots t
 rw [df,a8,if_pos (Nat.zero_le _),Nat.sub_zero] at hv ⊢
 show VR w.heap ((mk (aB 0 (args.map .d)) [] []).own B.A β) [] _ β _ _
 rw [List.getElem?_map] at hv ⊢
 cases hx:args[t]? with
 | none =>
   rw [List.getElem?_eq_none (by rw [← hl];exact List.getElem?_eq_none_iff.1 hx)]
   exact .un _
 | some x =>
   have hlt:=(List.getElem?_eq_some_iff.1 hx).1
   have hy:args'[t]?=some args'[t]:=List.getElem?_eq_getElem (by omega)
   rw [hx] at hv
   rw [hy]
   simp only [Option.map_some] at hv ⊢
   generalize vs.getD t undef=v at hv ⊢
   cases hv with
   | d _ _ hv=>exact .d _ _ ((hr t _ _ hx hy).rep hv)
theorem HP.mo {P:Program} {G:List (Nat × Obj)} {f:FuncId} {args:List D} {Q Q':AV→Prop} (h:HP P G f args Q) (hq:∀ r,Q r→Q' r):HP P G f args Q':=HCall.mono h fun r _ h=>⟨hq r h.1,h.2⟩
def exW:List EA:=[⟨true,false,false,false,false,false,true,false,[],0,0,[([97],1),([98],2)],[]⟩,⟨true,false,true,false,false,false,false,false,[],0,0,[],[]⟩,⟨true,false,true,false,false,false,false,false,[],0,0,[],[]⟩]
def exF:List D:=[.agg [.str [97],i64 1],.agg [.str [98],i64 2]]
def exS (r n:Bool) (f:D):D:=.agg [.bool true,.bool false,.bool n,.bool false,.bool false,.bool false,.bool r,.bool false,.nils,i64 0,i64 0,f,.nils]
def exN:D:=.agg [.sl (some 13) [exS true false (.sl (some 2) exF),exS false true .nils,exS false true .nils],i64 0]
theorem AQ:DL exN (auD exW 0):=by
 unfold exN auD
 refine .agg _ _ rfl (by simp [D.scal,i64]) fun i x y hx hy=>?_
 rcases i with _ | _ | i
 ·cases hx;cases hy
  refine .sl _ _ _ rfl (fun y hy=>?_) (fun i x y hx hy=>?_) fun i x y hx hy j d e hd he=>?_
  ·obtain ⟨s,hs,rfl⟩:=List.mem_map.1 hy
   rw [ab]
   exact ⟨rfl,by simp [D.scal,i64]⟩
  ·rcases i with _ | _ | _ | i<;>first | (cases hx;cases hy;rfl) | (simp at hx)
  ·rcases i with _ | _ | _ | i
   iterate 3
    ·cases hx;cases hy
     rcases j with _ | _ | _ | _ | _ | _ | _ | _ | _ | _ | _ | _ | _ | j<;>first | (cases hd;cases he;exact .refl _) | (cases hd;cases he;exact .nil _) | (simp [D.cells,exS] at hd)
   simp at hx
 ·cases hx;cases hy;exact .refl _
 ·simp at hx
theorem vF:cx exW 0=0:=by decide
theorem uZ:∀ s∈exW,InS s:=by
 intro s hs
 simp only [exW,List.mem_cons,List.not_mem_nil,or_false] at hs
 rcases hs with rfl | rfl | rfl<;>exact ⟨by simp,by simp,by simp,by simp,by simp⟩
theorem yy:aG exW 0=exW:=by decide
theorem vM:cB exW [0,1,1]:=by
 have hne:∀ i,i=1∨i=2→¬ alike exW i 0:=by
  intro i hi h
  have:=(cm _ _ _ h).1
  rcases hi with rfl | rfl<;>revert this<;>decide
 have h21:alike exW 2 1:=by
  refine ⟨fun a b=>a=b∨(a=2∧b=1),?_,.inr ⟨rfl,rfl⟩⟩
  rintro i j (rfl | ⟨rfl,rfl⟩)
  ·exact ⟨rfl,fun k a b h1 h2=>by rw [h1] at h2;exact .inl (Option.some.inj h2)⟩
  ·refine ⟨by decide,fun k a b h1 _=>?_⟩
   have:nxA exW 2=[]:=by decide
   rw [this] at h1
   simp at h1
 refine ⟨rfl,fun i hi=>?_⟩
 have hi':i=0∨i=1∨i=2:=by
  have:exW.length=3:=rfl
  omega
 rcases hi' with rfl | rfl | rfl
 ·exact ⟨alike_refl _ _,fun j hj=>by simp at hj⟩
 ·refine ⟨alike_refl _ _,fun j hj=>?_⟩
  have:j=0:=by simp at hj;exact hj
  rw [this];exact hne 1 (.inl rfl)
 ·refine ⟨h21,fun j hj=>?_⟩
  have:j=0:=by simp at hj;exact hj
  rw [this];exact hne 2 (.inr rfl)
theorem Cr:(aF exW [0,1,1]).length=2:=by decide
set_option maxHeartbeats 2000000 in
theorem xW:HP Tryz.prog (GT t fz) 19 [] (fun r=>r=.d (.bool true)):=by
 have c1:HP Tryz.prog (GT t fz) 16 [exN] (fun r=>r=.tup [.d (.sl none ([0,1,1].map nD)),.d (i64 0)]) :=
  HP.mo (HP.dl (args:=[exN]) (args':=[auD exW 0]) rfl (fun i x y hx hy=>by
   rcases i with _ | i
   ·cases hx;cases hy;exact AQ
   ·simp at hx) (uG exW 0 (by decide) uZ vF)) fun r ⟨out,hc,e⟩=>by
    rw [fG hc vM] at e
    exact e
 have c2:HP Tryz.prog (GT t fz) 17 [exN] (fun r=>r=.tup [.d (auD (aF exW [0,1,1]) 0),.d (i64 0)]) :=
  HP.mo (HP.dl (args:=[exN]) (args':=[auD exW 0]) rfl (fun i x y hx hy=>by
   rcases i with _ | i
   ·cases hx;cases hy;exact AQ
   ·simp at hx) (qP exW 0 (by decide) uZ vF)) fun r ⟨out,hc,e⟩=>by
    rw [show (0:Int).toNat=0 from rfl,yy] at hc e
    rw [fG hc vM] at e
    exact e
 have hlen:=Cr
 unfold auD exN exS exF at *
 refine aq Tryz.func19 rfl (by decide +kernel) (by simp [Tryz.ntmps19]) (veil fun E=>?_)
 simp only [go_sem]
 refine dr E [8] (some 2) _ rfl (by simp only [go_sem];rfl) ?_
 simp only [go_sem]
 refine dr E [12] (some 13) _ rfl (by simp only [go_sem];rfl) ?_
 simp only [go_sem]
 refine ae E (c1) rfl rfl (by simp) ?_
 rintro _ rfl
 simp only [go_sem]
 refine ae E (c2) rfl rfl (by simp) ?_
 rintro _ rfl
 simp only [go_sem]
 refine dr E [32] none _ rfl (by simp only [go_sem];rfl) ?_
 simp only [go_sem]
 refine ae E (pV (G:=GT t fz) [0,1,1] [0,1,1] (by decide)) rfl rfl (by simp) ?_
 rintro _ rfl
 simp only [go_sem]
 rw [hlen]
 rfl
end Go.Proofs.YthfodompfpdmgaaGreatDoor

namespace Go.Proofs.YthfodompfpdmgaaGreatDoor
open Go.Ab
variable {t:TypeId} {fz:Nat × Nat}
theorem sw {l:List EA} {st:Int} (h:cx (dT l) st=0):(dT l).length≤1000:=by
 have g:=(cW h).n1
 have hl:(dT l).length=min (gG l.length) l.length:=by simp [dT]
 unfold gG at hl
 split at hl<;>omega
theorem q9 {l:List EA} (hs:∀ s∈l,InB s):∀ s∈dT l,InS s:=by
 intro s hm
 obtain ⟨u,hu,rfl⟩:=List.mem_map.1 hm
 have h:=hs u (List.mem_of_mem_take hu)
 exact ⟨by simp [gK];have:=h.v;omega,by simp [gK];omega,by simp [gK];omega,fun x hx=>h.fs x (List.mem_of_mem_take hx),fun x hx=>h.ts x (List.mem_of_mem_take hx)⟩
theorem vV (l:List EA):(dT l).length≤2001:=by
 have hl:(dT l).length=min (gG l.length) l.length:=by simp [dT]
 unfold gG at hl
 split at hl<;>omega
set_option maxHeartbeats 4000000 in
theorem Fc (l:List EA) (st:Int) (hl:l.length≤9223372036854775807) (hs:∀ s∈l,InB s):HP Tryz.prog (GT t fz) 4 [auD l st] (fun r=>r=.d (.bool true)):=by
 have c1:=zV (G:=GT t fz) l st hl hs
 have hgs:=q9 hs
 have hgl:=vV l
 generalize hg:dT l=g at c1 hgs hgl
 have c2:=uy (G:=GT t fz) g st (by omega) hgs
 have c3:=Ea (G:=GT t fz) g st (by omega) hgs
 have cw:=xW (t:=t) (fz:=fz)
 by_cases he:cx g st=0
 ·have hN:g.length≤1000:=by rw [← hg];exact sw (st:=st) (by rw [hg];exact he)
  have gd:=cW he
  obtain ⟨k0,rfl⟩:∃ k:Nat,st=(k:Int):=⟨st.toNat,by have:=gd.s0;omega⟩
  have hk0:k0<g.length:=by have:=gd.s1;omega
  have d1:=uG (t:=t) (fz:=fz) g k0 hN hgs he
  have d2:=qP (t:=t) (fz:=fz) g k0 hN hgs he
  have d3:=zZ (G:=GT t fz) g k0 (by omega) hgs gd.inA
  have d4:=DC (G:=GT t fz) g k0 (by omega) hgs gd.inA hk0
  rw [Int.toNat_natCast] at d2
  rw [he] at c3
  refine aq Tryz.func4 rfl (by decide +kernel) (by simp [Tryz.ntmps4]) (veil fun E=>?_)
  unfold auD at c1 c2 c3 d1 d2 d3 d4 ⊢
  simp only [go_sem]
  refine ae E (c1) rfl rfl (by simp) ?_
  rintro _ rfl
  simp only [go_sem]
  refine ae E d1 rfl rfl (by simp) ?_
  rintro _ ⟨out,ho,rfl⟩
  simp only [go_sem]
  refine ae E (c1) rfl rfl (by simp) ?_
  rintro _ rfl
  simp only [go_sem]
  refine ae E d2 rfl rfl (by simp) ?_
  rintro _ ⟨out2,ho2,rfl⟩
  simp only [go_sem]
  refine ae E (c2) rfl rfl (by simp) ?_
  rintro _ rfl
  simp only [go_sem]
  refine ae E (c3) rfl rfl (by simp) ?_
  rintro _ rfl
  simp only [go_sem]
  have hen:=jD he
  have hpn:=eU (iN hgs he) gd.inA hk0
  have hgn:=cW hen
  have hll:=dp gd.inA hk0
  have hnl:(aG g k0).length≤1000:=by rw [aA];omega
  have hbl:=kB hgn.inA ho2 hgn.n0
  have hbs:∀ s∈aF (aG g k0) out2,InS s:=fun s hs=>(eU (ki hpn) (fV hgn.inA ho2) (by have:=fC ho2 hgn.n0;simpa [bY] using this) s hs).ins
  generalize hb:aF (aG g k0) out2=b at *
  have e3:HP Tryz.prog (GT t fz) 21 [.agg [.sl (some 13) (g.map stD),i64 (k0:Nat)]] (fun r=>r=.d (.sl none (out.map nD))):=HP.mo d3 fun r ⟨o,h1,h2⟩=>by rw [fG h1 ho] at h2;exact h2
  have e4:HP Tryz.prog (GT t fz) 22 [.agg [.sl (some 13) (g.map stD),i64 (k0:Nat)]] (fun r=>r=.d (.agg [.sl (some 13) (b.map stD),i64 0])):=HP.mo d4 fun r ⟨o,h1,h2⟩=>by rw [fG h1 ho2,hb] at h2;exact h2
  have e5:=pV (G:=GT t fz) (toI out) (toI out) (by simp [toI];have:=ho.1;omega)
  unfold ay at e5
  rw [← qJ,decide_eq_true rfl] at e5
  have e6:=uy (G:=GT t fz) b 0 (by omega) hbs
  have e7:=AJ (G:=GT t fz) b 0 (by omega) hbs
  unfold auD at e6 e7
  refine ai mixed E fun X=>?_
  simp only [go_sem]
  refine aO X e3 rfl rfl (by simp) ?_
  simp only [go_sem]
  refine aO X e5 rfl rfl (by simp) ?_
  simp only [go_sem]
  refine aO X e6 rfl rfl (by simp) ?_
  simp only [go_sem]
  refine aO X e4 rfl rfl (by simp) ?_
  simp only [go_sem]
  refine aO X e7 rfl rfl (by simp) ?_
  simp only [go_sem]
  refine aO X cw rfl rfl (by simp) ?_
  simp only [go_sem]
  decide +kernel
 ·have d1:=CA (t:=t) (fz:=fz) g st (by omega) hgs he
  have d2:=vv (t:=t) (fz:=fz) g st (by omega) hgs he
  generalize cx g st=e at c3 d1 d2 he
  refine aq Tryz.func4 rfl (by decide +kernel) (by simp [Tryz.ntmps4]) (veil fun E=>?_)
  unfold auD at c1 c2 c3 d1 d2 ⊢
  simp only [go_sem]
  refine ae E (c1) rfl rfl (by simp) ?_
  rintro _ rfl
  simp only [go_sem]
  refine ae E (d1) rfl rfl (by simp) ?_
  rintro _ rfl
  simp only [go_sem]
  refine ae E (c1) rfl rfl (by simp) ?_
  rintro _ rfl
  simp only [go_sem]
  refine ae E (d2) rfl rfl (by simp) ?_
  rintro _ rfl
  simp only [go_sem]
  refine ae E (c2) rfl rfl (by simp) ?_
  rintro _ rfl
  simp only [go_sem]
  refine ae E (c3) rfl rfl (by simp) ?_
  rintro _ rfl
  simp only [go_sem]
  refine ak E (fun _=>?_) (fun h'=>absurd he h')<;>simp only [go_sem]
  refine aI E (fun _=>?_) (fun h=>absurd (by decide) h)
  simp only [go_sem]
  refine ae E (cw) rfl rfl (by simp) ?_
  rintro _ rfl
  simp only [go_sem]
set_option maxHeartbeats 4000000 in
theorem EM (l:List EA) (st:Int) (hl:l.length≤9223372036854775807) (hs:∀ s∈l,InB s):HP Tryz.prog (GT t fz) 5 [auD l st] (fun r=>r=.d (.bool true)):=by
 have c1:=zV (G:=GT t fz) l st hl hs
 have hgs:=q9 hs
 have hgl:=vV l
 generalize hg:dT l=g at c1 hgs hgl
 have cw:=xW (t:=t) (fz:=fz)
 by_cases he:cx g st=0
 ·have hN:g.length≤1000:=by rw [← hg];exact sw (st:=st) (by rw [hg];exact he)
  have gd:=cW he
  obtain ⟨k0,rfl⟩:∃ k:Nat,st=(k:Int):=⟨st.toNat,by have:=gd.s0;omega⟩
  have hk0:k0<g.length:=by have:=gd.s1;omega
  have d2:=qP (t:=t) (fz:=fz) g k0 hN hgs he
  rw [Int.toNat_natCast] at d2
  refine aq Tryz.func5 rfl (by decide +kernel) (by simp [Tryz.ntmps5]) (veil fun E=>?_)
  unfold auD at c1 d2 ⊢
  simp only [go_sem]
  refine ae E (cw) rfl rfl (by simp) ?_
  rintro _ rfl
  simp only [go_sem]
  refine ae E (c1) rfl rfl (by simp) ?_
  rintro _ rfl
  simp only [go_sem]
  refine ae E d2 rfl rfl (by simp) ?_
  rintro _ ⟨out2,ho2,rfl⟩
  have hen:=jD he
  have hpn:=eU (iN hgs he) gd.inA hk0
  have hgn:=cW hen
  have hll:=dp gd.inA hk0
  have hnl:(aG g k0).length≤g.length:=by rw [aA];omega
  have hbl:=kB hgn.inA ho2 hgn.n0
  have hbe:=xT hen ho2
  have hbs:∀ s∈aF (aG g k0) out2,InS s:=fun s hs=>(eU (ki hpn) (fV hgn.inA ho2) (by have:=fC ho2 hgn.n0;simpa [bY] using this) s hs).ins
  have hrg:cB (aF (aG g k0) out2) (List.range (aF (aG g k0) out2).length):=wv fun p q hp hq h=>rX hgn.inA ho2 hgn.n0 hp hq h
  have hnb:=ji hgn.inA ho2 hgn.n0
  have hag:=rl hgn.inA ho2 hgn.n0
  rw [hnb] at hag
  generalize hb:aF (aG g k0) out2=b at *
  have d3:HP Tryz.prog (GT t fz) 16 [auD b 0] (fun r=>r=.tup [.d (.sl none ((List.range b.length).map nD)),.d (i64 0)]):=HP.mo (uG b 0 (by omega) hbs hbe) fun r ⟨o,h1,h2⟩=>by rw [fG h1 hrg] at h2;exact h2
  have d4:HP Tryz.prog (GT t fz) 17 [auD b 0] (fun r=>r=.tup [.d (auD b 0),.d (i64 0)]):=HP.mo (qP b 0 (by omega) hbs hbe) fun r ⟨o,h1,h2⟩=>by
   rw [show (0:Int).toNat=0 from rfl,hnb] at h1 h2
   rw [fG h1 hrg,hag] at h2
   exact h2
  have e6:=uy (G:=GT t fz) b 0 (by omega) hbs
  have e7:=AJ (G:=GT t fz) b 0 (by omega) hbs
  unfold auD at d3 d4 e6 e7
  simp only [go_sem]
  refine ae E (d3) rfl rfl (by simp) ?_
  rintro _ rfl
  simp only [go_sem]
  refine ae E (d4) rfl rfl (by simp) ?_
  rintro _ rfl
  simp only [go_sem]
  refine an E (X:={ i:Nat // i≤b.length }) (fun x=>[(3,.bx [3] 0),(4,.bx [4] 0),(6,.d (.sl none ((List.range b.length).map nD))),(7,.d (i64 0)),(8,.bx [8] 0),(9,.d (i64 0)),(10,.d (i64 x.1))])
   (fun x=>[([3],.box [.d (.sl (some 13) (g.map stD)),.d (i64 (k0:Nat))]),([4],.box [.d (.sl (some 13) (b.map stD)),.d (i64 0)]),([8],.box [.d (.sl (some 13) (b.map stD)),.d (i64 0)])]) [3,4,8] (fun x=>b.length-x.1) ⟨0,Nat.zero_le _⟩ id ?_ ?_
  ·simp only [go_sem]
   all_goals first | rfl | ((repeat' apply And.intro)<;>first | rfl | trivial)
  rintro ⟨i,hi⟩ E0
  refine aK E0 fun Q' hQ E'=>?_
  simp only at hi ⊢
  simp only [go_sem]
  have hlr:(List.range b.length).length=b.length:=List.length_range
  try simp only [hlr]
  refine ak E' (fun h1=>?_) (fun h1=>?_)<;>simp only [go_sem]
  ·have hi':i<b.length:=by omega
   have hgi:((List.range b.length).map nD).getD i .nilp=i64 (i:Nat):=by simp [hi',nD]
   refine ⟨by omega,?_⟩
   rw [hgi]
   simp only [go_sem]
   rw [hQ]
   simp only [go_sem]
   refine ⟨⟨i+1,by omega⟩,by show b.length-(i+1)<b.length-i;omega,id,?_⟩
   simp only [go_sem]
   rw [aa ⟨by omega,by omega⟩]
   all_goals first | rfl | ((repeat' apply And.intro)<;>first | rfl | trivial)
  ·have hiN:i=b.length:=by omega
   subst hiN
   rw [hQ]
   simp only [go_sem]
   refine ai mixed E fun X=>?_
   simp only [go_sem]
   try rw [hlr]
   simp only [go_sem]
   refine aO X e6 rfl rfl (by simp) ?_
   simp only [go_sem]
   refine aO X e6 rfl rfl (by simp) ?_
   simp only [go_sem]
   refine aO X e7 rfl rfl (by simp) ?_
   simp only [go_sem]
   refine ⟨by decide +kernel,?_⟩
   rw [decide_eq_true (show (b.length:Int)≤(g.length:Int) by omega)]
 ·have d2:=vv (t:=t) (fz:=fz) g st (by omega) hgs he
  generalize cx g st=e at d2 he
  refine aq Tryz.func5 rfl (by decide +kernel) (by simp [Tryz.ntmps5]) (veil fun E=>?_)
  unfold auD at c1 d2 ⊢
  simp only [go_sem]
  refine ae E (cw) rfl rfl (by simp) ?_
  rintro _ rfl
  simp only [go_sem]
  refine ae E (c1) rfl rfl (by simp) ?_
  rintro _ rfl
  simp only [go_sem]
  refine ae E (d2) rfl rfl (by simp) ?_
  rintro _ rfl
  simp only [go_sem]
  refine ak E (fun _=>?_) (fun h'=>absurd he h')<;>simp only [go_sem]
end Go.Proofs.YthfodompfpdmgaaGreatDoor

namespace Go.Proofs.YthfodompfpdmgaaGreatDoor
open Go.Ab
variable {t:TypeId} {fz:Nat × Nat}
def Cz:List TS:=[.bool,.bool,.bool,.bool,.bool,.bool,.bool,.bool,.sl none [.int .i64],.int .i64,.int .i64,.sl (some 2) [.str,.int .i64],.sl (some 2) [.str,.int .i64]]
def DI:List TS:=[.sl (some 13) Cz,.int .i64]
theorem CO:maxLen≤9223372036854775807:=by unfold maxLen;omega
theorem vz:∀ {xs:List D},(∀ x∈xs,okW none x∧oks [.int .i64] x.cells)→∃ l:List Int,xs=l.map i64
 | [],_=>⟨[],rfl⟩
 | x::xs,h=>by
   obtain ⟨l,hl⟩:=vz fun y hy=>h y (List.mem_cons_of_mem _ hy)
   obtain ⟨h1,h2⟩:=h x List.mem_cons_self
   cases x with
   | int k n =>
     have h2:oks [.int .i64] [.int k n]:=h2
     obtain rfl:k=.i64:=h2.1.1
     exact ⟨n::l,by rw [hl];rfl⟩
   | agg cs=>exact absurd h1 (by simp [okW,D.scal])
   | _=>exact h2.1.elim
theorem vN:∀ {xs:List D},(∀ x∈xs,okW (some 2) x∧oks [.str,.int .i64] x.cells)→∃ l:List Fld,xs=l.map au∧∀ f∈l,f.1.length≤maxLen
 | [],_=>⟨[],rfl,by simp⟩
 | x::xs,h=>by
   obtain ⟨l,hl,hf⟩:=vN fun y hy=>h y (List.mem_cons_of_mem _ hy)
   obtain ⟨h1,h2⟩:=h x List.mem_cons_self
   cases x with
   | agg cs =>
     have h2:oks [.str,.int .i64] cs:=h2
     match cs,h2 with
     | [.str s,.int k n],h2 =>
       obtain ⟨g1,g2,_⟩:=h2
       obtain rfl:k=.i64:=g2.1
       exact ⟨(s,n)::l,by rw [hl];rfl,fun f hf'=>by
        rcases List.mem_cons.1 hf' with rfl | hf'
        ·exact g1
        ·exact hf f hf'⟩
   | _=>simp [okW] at h1
theorem zn {F:D} (h:TS.ok (.sl none [.int .i64]) F):∃ l:List Int,DL F (ay l)∧l.length≤maxLen:=by
 cases F with
 | nils=>exact ⟨[],.nil _,by simp⟩
 | sl w xs =>
   obtain ⟨rfl,g1,g2⟩:=h
   obtain ⟨l,rfl⟩:=vz g2
   exact ⟨l,.refl _,by simpa using g1⟩
 | _=>exact h.elim
theorem sE {F:D} (h:TS.ok (.sl (some 2) [.str,.int .i64]) F):∃ l:List Fld,DL F (bk l)∧l.length≤maxLen∧∀ f∈l,f.1.length≤maxLen:=by
 cases F with
 | nils=>exact ⟨[],.nil _,by simp,by simp⟩
 | sl w xs =>
   obtain ⟨rfl,g1,g2⟩:=h
   obtain ⟨l,rfl,hl⟩:=vN g2
   exact ⟨l,.refl _,by simpa using g1,hl⟩
 | _=>exact h.elim
theorem EL {x:D} (h1:okW (some 13) x) (h2:oks Cz x.cells):∃ s:EA,InB s∧x.cells.length=13∧∀ (j:Nat) d e,x.cells[j]?=some d→(stD s).cells[j]?=some e→DL d e:=by
 have hm:=CO
 cases x with
 | agg cs =>
   have h2:oks Cz cs:=h2
   match cs,h2 with
   | [.bool b0,.bool b1,.bool b2,.bool b3,.bool b4,.bool b5,.bool b6,.bool b7,V,.int k1 d,.int k2 c,F,T],h2 =>
     obtain ⟨_,_,_,_,_,_,_,_,g8,g9,g10,g11,g12,_⟩:=h2
     obtain rfl:k1=.i64:=g9.1
     obtain rfl:k2=.i64:=g10.1
     obtain ⟨vs,v1,v2⟩:=zn g8
     obtain ⟨fl,f1,f2,f3⟩:=sE g11
     obtain ⟨tl,t1,t2,t3⟩:=sE g12
     refine ⟨⟨b0,b1,b2,b3,b4,b5,b6,b7,vs,d,c,fl,tl⟩,⟨by simp only;omega,by simp only;omega,by simp only;omega,fun x hx=>by have:=f3 x hx;omega,fun x hx=>by have:=t3 x hx;omega⟩,rfl,fun j x y hx hy=>?_⟩
     rcases j with _ | _ | _ | _ | _ | _ | _ | _ | _ | _ | _ | _ | _ | j
     iterate 8
      ·cases hx;cases hy;exact .refl _
     ·cases hx;cases hy;exact v1
     ·cases hx;cases hy;exact .refl _
     ·cases hx;cases hy;exact .refl _
     ·cases hx;cases hy;exact f1
     ·cases hx;cases hy;exact t1
     ·simp [D.cells] at hx
 | _=>simp [okW] at h1
def RwS (x:D) (s:EA):Prop:=x.cells.length=13∧∀ (j:Nat) d e,x.cells[j]?=some d→(stD s).cells[j]?=some e→DL d e
theorem zp:∀ {xs:List D},(∀ x∈xs,okW (some 13) x∧oks Cz x.cells)→∃ l:List EA,xs.length=l.length∧(∀ s∈l,InB s)∧∀ (i:Nat) x s,xs[i]?=some x→l[i]?=some s→RwS x s
 | [],_=>⟨[],rfl,by simp,fun i x s h=>by simp at h⟩
 | x::xs,h=>by
   obtain ⟨l,h1,h2,h3⟩:=zp fun y hy=>h y (List.mem_cons_of_mem _ hy)
   obtain ⟨g1,g2⟩:=h x List.mem_cons_self
   obtain ⟨s,k1,k2,k3⟩:=EL g1 g2
   refine ⟨s::l,by simp [h1],fun u hu=>?_,fun i y u hy hu=>?_⟩
   ·rcases List.mem_cons.1 hu with rfl | hu
    ·exact k1
    ·exact h2 u hu
   ·cases i with
    | zero =>
      simp at hy hu
      subst hy;subst hu
      exact ⟨k2,k3⟩
    | succ i=>exact h3 i y u (by simpa using hy) (by simpa using hu)
theorem Dp (s:EA):okW (some 13) (stD s):=⟨rfl,by simp [D.scal,ay,bk]⟩
theorem CT {ds:List D} (h:oks DI ds):∃ (l:List EA) (st:Int),DL (.agg ds) (auD l st)∧l.length≤9223372036854775807∧∀ s∈l,InB s:=by
 have hm:=CO
 match ds,h with
 | [L,.int k n],h =>
   obtain ⟨h1,h2,_⟩:=h
   obtain rfl:k=.i64:=h2.1
   cases L with
   | nils =>
     refine ⟨[],n,.agg _ _ rfl (by simp [D.scal,i64]) fun i x y hx hy=>?_,by simp,by simp⟩
     rcases i with _ | _ | i
     ·cases hx;cases hy;exact .nil _
     ·cases hx;cases hy;exact .refl _
     ·simp at hx
   | sl w xs =>
     obtain ⟨rfl,g1,g2⟩:=h1
     obtain ⟨l,k1,k2,k3⟩:=zp g2
     refine ⟨l,n,.agg _ _ rfl (by simp [D.scal,i64]) fun i x y hx hy=>?_,by omega,k2⟩
     rcases i with _ | _ | i
     ·cases hx;cases hy
      refine .sl _ _ _ (by simp [k1]) (fun y hy=>?_) (fun i x y hx hy=>?_) fun i x y hx hy=>?_
      ·obtain ⟨s,_,rfl⟩:=List.mem_map.1 hy
       exact Dp s
      ·rw [List.getElem?_map,Option.map_eq_some_iff] at hy
       obtain ⟨s,hs,rfl⟩:=hy
       exact (k3 i x s hx hs).1
      ·rw [List.getElem?_map,Option.map_eq_some_iff] at hy
       obtain ⟨s,hs,rfl⟩:=hy
       exact (k3 i x s hx hs).2
     ·cases hx;cases hy;exact .refl _
     ·simp at hx
   | _=>exact h1.elim
theorem lZ {e:List D} {l:List EA} {st:Int} (h:DL (.agg e) (auD l st)) (hl:l.length≤9223372036854775807) (hs:∀ s∈l,InB s):HP Tryz.prog (GT t fz) 4 [.agg e] (fun r=>r=.d (.bool true)) :=
 HP.dl (args:=[.agg e]) (args':=[auD l st]) rfl (fun i x y hx hy=>by
  rcases i with _ | i
  ·cases hx;cases hy;exact h
  ·simp at hx) (Fc l st hl hs)
theorem qT {e:List D} {l:List EA} {st:Int} (h:DL (.agg e) (auD l st)) (hl:l.length≤9223372036854775807) (hs:∀ s∈l,InB s):HP Tryz.prog (GT t fz) 5 [.agg e] (fun r=>r=.d (.bool true)) :=
 HP.dl (args:=[.agg e]) (args':=[auD l st]) rfl (fun i x y hx hy=>by
  rcases i with _ | i
  ·cases hx;cases hy;exact h
  ·simp at hx) (EM l st hl hs)
end Go.Proofs.YthfodompfpdmgaaGreatDoor

namespace Go.Proofs.YthfodompfpdmgaaGreatDoor
open Go.Ab
open Go.ChangeShapes Go.WideShapes Go.ChangeAt Go.RowKit
theorem Tryz.own:ownKnob Tryz.prog.godebug=none:=by kernel_rfl
def iX:List (String × DataW Unit):=[("math/bits.deBruijn32tab",Rows.laid_math_bits_deBruijn32tab),("math/bits.deBruijn64tab",Rows.laid_math_bits_deBruijn64tab),("internal/strconv.uint64pow10",Rows.laid_internal_strconv_uint64pow10)]
theorem jH {P:Program} {x:String × DataW Unit} {r:List (String × DataW Unit)} {W:World} (h:laidMet P (x::r) W):laidMet P r W:=by
 obtain ⟨ps,⟨g,t,cs,fuel,p,q,h1,h2,h3,h4,h5,rfl⟩,hnd,hall⟩:=h
 exact ⟨q,h5,(List.nodup_append.1 hnd).2.1,fun b off hb=>hall b off (List.mem_append_right _ hb)⟩
theorem DB:(Tryz.prog.globals[1]?).map (·.type)=some 241:=by kernel_rfl
theorem kN {W:World} (h:laidMetH Tryz.prog iX W):∃ t fz,∀ q∈GT t fz,W.heap[q.1]?=some q.2:=by
 have h1:laidMet Tryz.prog iX W:=h
 have h2:=Lib.tabIs_of_head (k:=.u64) (zs:=Lib.pow10Tab) (show Tryz.prog.globalNamed "internal/strconv.uint64pow10" = some 1 by kernel_rfl) DB (show Tryz.prog.underlying 241=some (.array 20 210) by kernel_rfl) (show Tryz.prog.underlying 210=some (.int .u64) by kernel_rfl) (by kernel_rfl) (by kernel_rfl) (jH (jH h1))
 unfold Lib.TabIs World.var? at h2
 rw [show Tryz.prog.globalNamed "internal/strconv.uint64pow10" = some 1 by kernel_rfl] at h2
 simp only [Option.bind_some] at h2
 split at h2
 ·rename_i cs t fz hh
  simp only [Option.some.injEq] at h2
  subst h2
  refine ⟨t,fz,fun q hq=>?_⟩
  obtain rfl:=List.mem_singleton.1 hq
  exact hh
 ·cases h2
noncomputable def ko (os:Os):World:=World.laidAll Tryz.prog os iX
theorem iY (os:Os) (args:Array Value):laidMetH Tryz.prog iX ((ko os).forCall (fun _ _=>0) ⟨#[],args,[]⟩).memory :=
 laidMetH_of_parts (laidMet_laidAll args (by kernel_rfl) (by kernel_rfl)) (by kernel_rfl)
theorem Tryz.laidOut:laidOutB Tryz.prog=true:=by kernel_rfl
theorem rT {H:Type} {enc:TypeId × Value→H} {t:TypeId} (hr:Tryz.prog.readableRec t=true) (hrow:t<Tryz.prog.types.size) {W W':World} {v:Value} {d:DataW H} {ps:List MemPlace}
  (h:DataW.Trod enc Tryz.prog W 0 (fun _=>true) true t v d ps) (he:Ext W W') (hlt:∀ x∈ps,x.block<W.heap.size) :
  DataW.Trod enc Tryz.prog W' 0 (fun b=>decide (b<W.heap.size)) true t v d ps :=
 WideElems.Trod_stays Tryz.laidOut hr hrow h (fun x hx=>by
  have h1:=he.old x.block (hlt x hx)
  cases x with
  | cell b off=>show W'.cell? _=W.cell? _;unfold World.cell?;rw [show W'.heap[b]?=W.heap[b]? from h1]
  | map b=>exact h1) (fun x hx=>by simpa using hlt x hx)
end Go.Proofs.YthfodompfpdmgaaGreatDoor

namespace Go.Proofs.YthfodompfpdmgaaGreatDoor
open Go.Ab
open Go.ChangeShapes Go.WideShapes Go.ChangeAt Go.RowKit
theorem mG:(Rows.partClassesRow.wf (OpenSpec.ofChange Rows.partClassesSpec))=true:=by kernel_rfl
theorem nr:(Tryz.f4.params.all (Tryz.prog.readableRec ·))=true:=by kernel_rfl
theorem mP:(namedTie Tryz.prog Rows.partClassesRow.named Rows.partClassesSpec.vars)=true:=by kernel_rfl
theorem l6:((Rows.partClassesRow.stops == []))=true:=by kernel_rfl
theorem mD:((Rows.partClassesRow.knobs == []))=true:=by kernel_rfl
theorem kQ:((Rows.partClassesRow.inPlace == Tryz.prog.inPlace 4))=true:=by kernel_rfl
theorem k9:((Rows.partClassesRow.unfollowed == Tryz.prog.unfollowed 4))=true:=by kernel_rfl
theorem lg:((Rows.partClassesRow.recurses == Tryz.prog.recurses 4))=true:=by kernel_rfl
theorem lr:((Rows.partClassesRow.named == Tryz.prog.varsNamed 4))=true:=by kernel_rfl
theorem k5:((Rows.partClassesRow.maps == (Tryz.f4.params.toList++Rows.partClassesSpec.plain.varTypes Tryz.prog).any (Tryz.prog.mapsRec ·)))=true:=by kernel_rfl
theorem lu:((Rows.partClassesRow.ifaces == (Tryz.f4.params.toList++Rows.partClassesSpec.plain.varTypes Tryz.prog).any (Tryz.prog.ifacesRec ·)))=true:=by kernel_rfl
theorem kZ:((Rows.partClassesRow.mapsOut == Tryz.prog.mapsAmong Tryz.f4.resultTypes.toList))=true:=by kernel_rfl
theorem ll:((Rows.partClassesRow.loops == (Tryz.f4.params.toList++Rows.partClassesSpec.plain.varTypes Tryz.prog).any (Tryz.prog.loopsFrom ·)))=true:=by kernel_rfl
theorem kR:((Rows.partClassesRow.wideKeys == (Tryz.f4.params.toList++Rows.partClassesSpec.plain.varTypes Tryz.prog++Tryz.f4.resultTypes.toList).any (Tryz.prog.wideKeysFrom ·)))=true:=by kernel_rfl
theorem kU:(Rows.partClassesSpec.vars.all (Tryz.prog.varReadable ·))=true:=by kernel_rfl
theorem lp:(Tryz.f4.resultTypes.all (fun t=>Tryz.prog.readableRec t && decide (t<Tryz.prog.types.size)))=true:=by kernel_rfl
theorem kW:((Rows.partClassesRow.ifacesOut == Tryz.f4.resultTypes.toList.any (Tryz.prog.ifacesRec ·)))=true:=by kernel_rfl
theorem kV:((Rows.partClassesRow.loopsOut == Tryz.f4.resultTypes.toList.any (Tryz.prog.loopsFrom ·)))=true:=by kernel_rfl
theorem ly:((Rows.partClassesRow.plainKeys == Tryz.prog.plainKeys))=true:=by kernel_rfl
theorem k7:(Rows.partClassesRow.shortTexts.isNone)=true:=by kernel_rfl
theorem kS:((Rows.partClassesRow.lifted == Tryz.prog.liftsFinal))=true:=by kernel_rfl
theorem lx:((Tryz.prog.make == some Rows.partClassesRow.make))=true:=by kernel_rfl
theorem lf:((Rows.partClassesRow.kinds == (if Rows.partClassesRow.domain.isEmpty then [] else Tryz.f4.params.toList.map fun t=>match Tryz.prog.underlying t with | some (.int k)=>some k | _=>none)))=true:=by kernel_rfl
theorem kP:((Rows.partClassesRow.pinned == Rows.partClassesRow.pinnedBy))=true:=by kernel_rfl
theorem k6:((Rows.partClassesRow.veiled == (Tryz.f4.params.toList++Rows.partClassesSpec.plain.varTypes Tryz.prog++Tryz.f4.resultTypes.toList).any (Tryz.prog.veiledRec ·)))=true:=by kernel_rfl
theorem kX:(Rows.partClassesRow.veiledFits Tryz.prog Tryz.f4.params.toList (Tryz.f4.params.toList++Rows.partClassesSpec.plain.varTypes Tryz.prog++Tryz.f4.resultTypes.toList))=true:=by kernel_rfl
end Go.Proofs.YthfodompfpdmgaaGreatDoor

namespace Go.Proofs.YthfodompfpdmgaaGreatDoor
open Go.Ab
open Go.ChangeShapes Go.WideShapes Go.ChangeAt Go.RowKit
theorem ax {a b:Bool} (ha:a=true) (hb:b=true):(a && b)=true:=by rw [ha,hb];rfl
theorem vU:(laidOutB Tryz.prog)=true:=by kernel_rfl
theorem u1:(mapsRowed Tryz.prog)=true:=by kernel_rfl
theorem sD:((Tryz.prog.stops == []))=true:=by kernel_rfl
theorem rb:((Tryz.prog.stopKnobs == []))=true:=by kernel_rfl
theorem sS:(Tryz.prog.stopsHeard)=true:=by kernel_rfl
theorem ri:(Tryz.prog.mayEnter)=true:=by kernel_rfl
end Go.Proofs.YthfodompfpdmgaaGreatDoor

namespace Go.Proofs.YthfodompfpdmgaaGreatDoor
open Go.Ab
open Go.ChangeShapes Go.WideShapes Go.ChangeAt Go.RowKit
set_option maxRecDepth 100000 in
theorem jo (os:Os) (started:os.Started) (H:Type) (enc:TypeId × Value→H) :
  ReturnsInHanded {} Tryz.checked os 4 .any (fun w args=>(Rows.partClassesSpec.pre enc Tryz.prog Tryz.f4 [] false w args∧laidMetH Tryz.prog iX w)∧sizedMet enc Tryz.prog Tryz.f4 (OpenSpec.ofChange Rows.partClassesSpec) false w args)
   (Rows.partClassesSpec.post enc Tryz.prog Tryz.f4 false true false false):=by
 refine returnsInHanded_of_change_and (C:=Tryz.checked) (X:=fun w _=>laidMetH Tryz.prog iX w) (fun _ _ _ hh h=>h.of_heap hh) Tryz.own started (by kernel_rfl) Tryz.func4
  (ChangeSpec.witness_at (enc:=enc) (C:=Tryz.checked) (os:=os) (X:=fun w _=>laidMetH Tryz.prog iX w) false (ko os) #[.agg #[.slice none 0 0,.int .i64 0]] 8 (World.laidAll_os _ _ _) (by kernel_rfl) (by kernel_rfl) (by kernel_rfl) (by kernel_rfl) (by kernel_rfl) (iY os _)) ?_
 intro W base args ds gs before hval0 hW _ _ hL _
 have hval:∀ (j:Nat) t v,Tryz.f4.params[j]?=some t→args[j]?=some v→Value.okWide Tryz.prog W .any base t v:=hval0
 have hW':=hW
 obtain ⟨p,q,hA0,hV,rfl,hfz,hnd⟩:=hW
 have hA:DataW.TrodAll enc Tryz.prog W 0 (fun _=>true) true Tryz.f4.params.toList args.toList ds p:=hA0
 rw [Tryz.params4] at hA hval
 obtain ⟨v0,d0,rfl,rfl,h0⟩:=trodAll_one hA
 obtain ⟨rfl,rfl⟩:=trodVars_none hV
 clear hA0 hval0
 obtain ⟨tt,fz,hG⟩:=kN hL
 obtain ⟨x0,rfl,_⟩:=okWide_struct Tryz.underlying38 (hval 0 38 v0 rfl rfl)
 obtain ⟨e0,k0,r0⟩:=oP (m:=30) (show shp Tryz.prog 30 38=some DI by kernel_rfl) h0
 obtain ⟨l0,s0,a0,b0,g0⟩:=CT k0
 have eF:Rows.partClassesSpec.fn H ([d0]++[])={ results:=[.lit (.bool true)],args:=[d0] }:=rfl
 refine (kG (lZ (t:=tt) (fz:=fz) a0 b0 g0) hG (vs:=#[.agg x0]) rfl ?_).mono ?_
 ·intro i d hi
  match i,hi with
  | 0,hi=>obtain rfl:=Option.some.inj hi;exact r0
 rintro e W' ⟨v,r,rfl,rfl,hext,_,_,_,_,hv⟩
 obtain rfl:=hv.bool
 have hlt:∀ x∈p,x.block<W.heap.size:=fun x hx=>by simpa using hW'.lt x (by simpa using hx)
 refine ⟨_,rfl,_,_,_,[],p,[],hW',?_,?_,?_,hext.frame _,fun h=>by cases h⟩
 ·rw [eF];exact trodAll_mk1 (shut_bool Tryz.underlying4 true)
 ·rw [eF];exact trodAll_mk1 (rT (by kernel_rfl) (of_decide_eq_true (by kernel_rfl)) h0 hext (fun x hx=>hlt x (by exact hx)))
 ·rw [eF];rfl
set_option maxRecDepth 100000 in
theorem jw:joinedFacts Tryz.prog 4 Tryz.f4 Rows.partClassesSpec Rows.partClassesRow=true:=by
 unfold joinedFacts
 exact ax (ax (ax (ax (ax (ax (ax (ax (ax (ax (ax (ax (ax (ax (ax (ax (ax (ax (ax (ax (ax (ax (ax (ax (ax (ax (ax (ax (ax (ax (ax mG vU) u1) nr) mP) l6) sD) mD) rb) kQ) k9) lg) lr) k5) lu) kZ) ll) kR) kU) lp) kW) kV) ly) k7) sS) ri) kS) lx) lf) kP) k6) kX
theorem jB:Tryz.pinned.checked.prog.funcNamed Rows.partClassesRow.func=some 4:=by kernel_rfl
theorem kr:decide (Tryz.f4.isInstance Tryz.pinned.checked.prog Rows.partClassesRow.origin Rows.partClassesRow.targs)=true:=by kernel_rfl
theorem jV:Rows.PartClassesSaid :=
 OpenClaim.holds_of_wide 4 Tryz.f4 rfl rfl rfl rfl rfl rfl rfl ⟨rfl,rfl,rfl,rfl,rfl⟩ rfl rfl rfl rfl rfl jB Tryz.func4 jw
  (of_decide_eq_true kr) (by unfold Func.isWrapper;rw [if_neg (of_decide_eq_false (by kernel_rfl))];exact ⟨rfl,rfl⟩)
  (fun os started H enc _=>jo os started H enc)
theorem partClasses_card:Rows.PartClassesCardSaid :=
 Claim7.holds_tied_plain_at .later [] [.data,.data,.data] true (true, "4d361e6c60dedf1f0fe11f2dd6e1809c6dd77005e69c51100a47dc2ae00d04af") false
  jV (fun _ h=>by cases h) (by kernel_rfl) (fun _ h=>by cases h) partClasses_row_tie rfl ⟨rfl,rfl⟩ (by kernel_rfl) rfl
  (fun f fn hf hfn=>by
   obtain rfl:f=4:=Option.some.inj ((show Tryz.prog.funcNamed "syntagma/syntagmalaw26.PartClasses" = some 4 by kernel_rfl).symm.trans hf) |>.symm
   obtain rfl:fn=Tryz.f4:=(Option.some.inj (Tryz.func4.symm.trans hfn)).symm
   exact ⟨by kernel_rfl,fun j t ht=>by
    rw [Tryz.params4] at ht
    match j,ht with
    | 0,ht=>obtain rfl:=Option.some.inj ht;exact (show Tryz.prog.wantsStandIn 38=false by kernel_rfl)⟩)
  (by kernel_rfl)
end Go.Proofs.YthfodompfpdmgaaGreatDoor

namespace Go.Proofs.YthfodompfpdmgaaGreatDoor
open Go.Ab
open Go.ChangeShapes Go.WideShapes Go.ChangeAt Go.RowKit
theorem qd:(Rows.partLeastRow.wf (OpenSpec.ofChange Rows.partLeastSpec))=true:=by kernel_rfl
theorem qK:(Tryz.f5.params.all (Tryz.prog.readableRec ·))=true:=by kernel_rfl
theorem pS:(namedTie Tryz.prog Rows.partLeastRow.named Rows.partLeastSpec.vars)=true:=by kernel_rfl
theorem qI:((Rows.partLeastRow.stops == []))=true:=by kernel_rfl
theorem p0:((Rows.partLeastRow.knobs == []))=true:=by kernel_rfl
theorem nN:((Rows.partLeastRow.inPlace == Tryz.prog.inPlace 5))=true:=by kernel_rfl
theorem oh:((Rows.partLeastRow.unfollowed == Tryz.prog.unfollowed 5))=true:=by kernel_rfl
theorem nY:((Rows.partLeastRow.recurses == Tryz.prog.recurses 5))=true:=by kernel_rfl
theorem nT:((Rows.partLeastRow.named == Tryz.prog.varsNamed 5))=true:=by kernel_rfl
theorem nJ:((Rows.partLeastRow.maps == (Tryz.f5.params.toList++Rows.partLeastSpec.plain.varTypes Tryz.prog).any (Tryz.prog.mapsRec ·)))=true:=by kernel_rfl
theorem od:((Rows.partLeastRow.ifaces == (Tryz.f5.params.toList++Rows.partLeastSpec.plain.varTypes Tryz.prog).any (Tryz.prog.ifacesRec ·)))=true:=by kernel_rfl
theorem nH:((Rows.partLeastRow.mapsOut == Tryz.prog.mapsAmong Tryz.f5.resultTypes.toList))=true:=by kernel_rfl
theorem nX:((Rows.partLeastRow.loops == (Tryz.f5.params.toList++Rows.partLeastSpec.plain.varTypes Tryz.prog).any (Tryz.prog.loopsFrom ·)))=true:=by kernel_rfl
theorem ou:((Rows.partLeastRow.wideKeys == (Tryz.f5.params.toList++Rows.partLeastSpec.plain.varTypes Tryz.prog++Tryz.f5.resultTypes.toList).any (Tryz.prog.wideKeysFrom ·)))=true:=by kernel_rfl
theorem ox:(Rows.partLeastSpec.vars.all (Tryz.prog.varReadable ·))=true:=by kernel_rfl
theorem n3:(Tryz.f5.resultTypes.all (fun t=>Tryz.prog.readableRec t && decide (t<Tryz.prog.types.size)))=true:=by kernel_rfl
theorem ov:((Rows.partLeastRow.ifacesOut == Tryz.f5.resultTypes.toList.any (Tryz.prog.ifacesRec ·)))=true:=by kernel_rfl
theorem nP:((Rows.partLeastRow.loopsOut == Tryz.f5.resultTypes.toList.any (Tryz.prog.loopsFrom ·)))=true:=by kernel_rfl
theorem nK:((Rows.partLeastRow.plainKeys == Tryz.prog.plainKeys))=true:=by kernel_rfl
theorem om:(Rows.partLeastRow.shortTexts.isNone)=true:=by kernel_rfl
theorem nQ:((Rows.partLeastRow.lifted == Tryz.prog.liftsFinal))=true:=by kernel_rfl
theorem ow:((Tryz.prog.make == some Rows.partLeastRow.make))=true:=by kernel_rfl
theorem nR:((Rows.partLeastRow.kinds == (if Rows.partLeastRow.domain.isEmpty then [] else Tryz.f5.params.toList.map fun t=>match Tryz.prog.underlying t with | some (.int k)=>some k | _=>none)))=true:=by kernel_rfl
theorem nL:((Rows.partLeastRow.pinned == Rows.partLeastRow.pinnedBy))=true:=by kernel_rfl
theorem oq:((Rows.partLeastRow.veiled == (Tryz.f5.params.toList++Rows.partLeastSpec.plain.varTypes Tryz.prog++Tryz.f5.resultTypes.toList).any (Tryz.prog.veiledRec ·)))=true:=by kernel_rfl
theorem oe:(Rows.partLeastRow.veiledFits Tryz.prog Tryz.f5.params.toList (Tryz.f5.params.toList++Rows.partLeastSpec.plain.varTypes Tryz.prog++Tryz.f5.resultTypes.toList))=true:=by kernel_rfl
end Go.Proofs.YthfodompfpdmgaaGreatDoor

namespace Go.Proofs.YthfodompfpdmgaaGreatDoor
open Go.Ab
open Go.ChangeShapes Go.WideShapes Go.ChangeAt Go.RowKit
set_option maxRecDepth 100000 in
theorem kD (os:Os) (started:os.Started) (H:Type) (enc:TypeId × Value→H) :
  ReturnsInHanded {} Tryz.checked os 5 .any (fun w args=>(Rows.partLeastSpec.pre enc Tryz.prog Tryz.f5 [] false w args∧laidMetH Tryz.prog iX w)∧sizedMet enc Tryz.prog Tryz.f5 (OpenSpec.ofChange Rows.partLeastSpec) false w args)
   (Rows.partLeastSpec.post enc Tryz.prog Tryz.f5 false true false false):=by
 refine returnsInHanded_of_change_and (C:=Tryz.checked) (X:=fun w _=>laidMetH Tryz.prog iX w) (fun _ _ _ hh h=>h.of_heap hh) Tryz.own started (by kernel_rfl) Tryz.func5
  (ChangeSpec.witness_at (enc:=enc) (C:=Tryz.checked) (os:=os) (X:=fun w _=>laidMetH Tryz.prog iX w) false (ko os) #[.agg #[.slice none 0 0,.int .i64 0]] 8 (World.laidAll_os _ _ _) (by kernel_rfl) (by kernel_rfl) (by kernel_rfl) (by kernel_rfl) (by kernel_rfl) (iY os _)) ?_
 intro W base args ds gs before hval0 hW _ _ hL _
 have hval:∀ (j:Nat) t v,Tryz.f5.params[j]?=some t→args[j]?=some v→Value.okWide Tryz.prog W .any base t v:=hval0
 have hW':=hW
 obtain ⟨p,q,hA0,hV,rfl,hfz,hnd⟩:=hW
 have hA:DataW.TrodAll enc Tryz.prog W 0 (fun _=>true) true Tryz.f5.params.toList args.toList ds p:=hA0
 rw [Tryz.params5] at hA hval
 obtain ⟨v0,d0,rfl,rfl,h0⟩:=trodAll_one hA
 obtain ⟨rfl,rfl⟩:=trodVars_none hV
 clear hA0 hval0
 obtain ⟨tt,fz,hG⟩:=kN hL
 obtain ⟨x0,rfl,_⟩:=okWide_struct Tryz.underlying38 (hval 0 38 v0 rfl rfl)
 obtain ⟨e0,k0,r0⟩:=oP (m:=30) (show shp Tryz.prog 30 38=some DI by kernel_rfl) h0
 obtain ⟨l0,s0,a0,b0,g0⟩:=CT k0
 have eF:Rows.partLeastSpec.fn H ([d0]++[])={ results:=[.lit (.bool true)],args:=[d0] }:=rfl
 refine (kG (qT (t:=tt) (fz:=fz) a0 b0 g0) hG (vs:=#[.agg x0]) rfl ?_).mono ?_
 ·intro i d hi
  match i,hi with
  | 0,hi=>obtain rfl:=Option.some.inj hi;exact r0
 rintro e W' ⟨v,r,rfl,rfl,hext,_,_,_,_,hv⟩
 obtain rfl:=hv.bool
 have hlt:∀ x∈p,x.block<W.heap.size:=fun x hx=>by simpa using hW'.lt x (by simpa using hx)
 refine ⟨_,rfl,_,_,_,[],p,[],hW',?_,?_,?_,hext.frame _,fun h=>by cases h⟩
 ·rw [eF];exact trodAll_mk1 (shut_bool Tryz.underlying4 true)
 ·rw [eF];exact trodAll_mk1 (rT (by kernel_rfl) (of_decide_eq_true (by kernel_rfl)) h0 hext (fun x hx=>hlt x (by exact hx)))
 ·rw [eF];rfl
set_option maxRecDepth 100000 in
theorem lh:joinedFacts Tryz.prog 5 Tryz.f5 Rows.partLeastSpec Rows.partLeastRow=true:=by
 unfold joinedFacts
 exact ax (ax (ax (ax (ax (ax (ax (ax (ax (ax (ax (ax (ax (ax (ax (ax (ax (ax (ax (ax (ax (ax (ax (ax (ax (ax (ax (ax (ax (ax (ax qd vU) u1) qK) pS) qI) sD) p0) rb) nN) oh) nY) nT) nJ) od) nH) nX) ou) ox) n3) ov) nP) nK) om) sS) ri) nQ) ow) nR) nL) oq) oe
theorem k4:Tryz.pinned.checked.prog.funcNamed Rows.partLeastRow.func=some 5:=by kernel_rfl
theorem l9:decide (Tryz.f5.isInstance Tryz.pinned.checked.prog Rows.partLeastRow.origin Rows.partLeastRow.targs)=true:=by kernel_rfl
theorem k8:Rows.PartLeastSaid :=
 OpenClaim.holds_of_wide 5 Tryz.f5 rfl rfl rfl rfl rfl rfl rfl ⟨rfl,rfl,rfl,rfl,rfl⟩ rfl rfl rfl rfl rfl k4 Tryz.func5 lh
  (of_decide_eq_true l9) (by unfold Func.isWrapper;rw [if_neg (of_decide_eq_false (by kernel_rfl))];exact ⟨rfl,rfl⟩)
  (fun os started H enc _=>kD os started H enc)
theorem partLeast_card:Rows.PartLeastCardSaid :=
 Claim7.holds_tied_plain_at .later [] [.data,.data,.data] true (true, "4d361e6c60dedf1f0fe11f2dd6e1809c6dd77005e69c51100a47dc2ae00d04af") false
  k8 (fun _ h=>by cases h) (by kernel_rfl) (fun _ h=>by cases h) partLeast_row_tie rfl ⟨rfl,rfl⟩ (by kernel_rfl) rfl
  (fun f fn hf hfn=>by
   obtain rfl:f=5:=Option.some.inj ((show Tryz.prog.funcNamed "syntagma/syntagmalaw26.PartLeast" = some 5 by kernel_rfl).symm.trans hf) |>.symm
   obtain rfl:fn=Tryz.f5:=(Option.some.inj (Tryz.func5.symm.trans hfn)).symm
   exact ⟨by kernel_rfl,fun j t ht=>by
    rw [Tryz.params5] at ht
    match j,ht with
    | 0,ht=>obtain rfl:=Option.some.inj ht;exact (show Tryz.prog.wantsStandIn 38=false by kernel_rfl)⟩)
  (by kernel_rfl)
end Go.Proofs.YthfodompfpdmgaaGreatDoor

