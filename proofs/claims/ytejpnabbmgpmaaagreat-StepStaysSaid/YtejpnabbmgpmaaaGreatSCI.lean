/-
  What stands below a node, as a tree. (with the parts that follow it)
-/
import Derived.Test.YtejpnabbmgpmaaaGreatSCH
import Derived.Test.YtejpnabbmgpmaaaGreatSCG
import Derived.Test.YtejpnabbmgpmaaaGreatSCF
set_option linter.unusedSimpArgs false
namespace Go.Proofs.YtejpnabbmgpmaaaGreat
open Go.Ab
def plM (its:List Int) (n:Nat):List (Int × D):=(List.range n).map fun j:Nat=>(its.getD j 0,i64 (j:Int))
theorem um (its:List Int) (n:Nat):plM its (n+1)=plM its n++[(its.getD n 0,i64 (n:Int))]:=by
 unfold plM
 rw [List.range_succ,List.map_append]
 rfl
theorem Ae {ms ns:List (Int × D)} {k:Int}:mlook (ms++ns) k=(mlook ms k).or (mlook ns k):=by
 induction ms with
 | nil=>simp [mlook]
 | cons q r ih =>
   rw [List.cons_append,mlook,mlook]
   split
   ·rfl
   ·exact ih
theorem uO {k:Int} {d:D}:∀ {ms:List (Int × D)},(∀ q∈ms,q.1≠k)→mset ms k d=ms++[(k,d)]
 | [],_=>rfl
 | q::r,h=>by
   rw [mset,if_neg (h q List.mem_cons_self),uO fun x hx=>h x (List.mem_cons_of_mem _ hx)]
   rfl
theorem ni {k:Int}:∀ {ms:List (Int × D)},(∀ q∈ms,q.1≠k)→mlook ms k=none
 | [],_=>rfl
 | q::r,h=>by
   rw [mlook,if_neg (h q List.mem_cons_self)]
   exact ni fun x hx=>h x (List.mem_cons_of_mem _ hx)
theorem yH {its:List Int} {n:Nat} (hn:n≤its.length) {q:Int × D} (h:q∈plM its n):q.1∈its.take n:=by
 obtain ⟨j,hj,rfl⟩:=List.mem_map.1 h
 have hj:=List.mem_range.1 hj
 refine List.mem_iff_getElem.2 ⟨j,by rw [List.length_take];omega,?_⟩
 simp [List.getElem_take,show j<its.length by omega]
theorem yF {its:List Int} (hnd:its.Nodup) {n:Nat} (h:n<its.length):its[n] ∉ its.take n:=by
 intro hm
 obtain ⟨j,hj,e⟩:=List.mem_iff_getElem.1 hm
 rw [List.length_take] at hj
 rw [List.getElem_take] at e
 have h1:=List.Nodup.idxOf_getElem hnd j (by omega)
 have h2:=List.Nodup.idxOf_getElem hnd n h
 rw [e] at h1
 omega
theorem tx {its:List Int} (hnd:its.Nodup) {k:Int}:∀ {n:Nat},n≤its.length→k∈its.take n→mlook (plM its n) k=some (i64 (its.idxOf k:Int))
 | 0,_,h=>by simp at h
 | n+1,hn,h=>by
   have hlt:n<its.length:=by omega
   have hg:its.getD n 0=its[n]:=by simp [hlt]
   rw [um,Ae,hg]
   rw [List.take_succ_eq_append_getElem hlt] at h
   rcases List.mem_append.1 h with h | h
   ·rw [tx hnd (by omega) h];rfl
   ·rw [List.mem_singleton] at h
    subst h
    rw [ni fun q hq e=>yF hnd hlt (by rw [← e];exact yH (by omega) hq),List.Nodup.idxOf_getElem hnd]
    simp [mlook]
theorem ET {its:List Int} (hnd:its.Nodup) {n:Nat} (hn:n<its.length):mset (plM its n) its[n] (i64 (n:Int))=plM its (n+1):=by
 have hg:its.getD n 0=its[n]:=by simp [hn]
 rw [um,hg,uO]
 intro q hq e
 exact yF hnd hn (by rw [← e];exact yH (by omega) hq)
theorem Gt:vj Tryz.prog 3 (fun n:Int=>i64 n) (fun n=>.int .i64 n):=Hu (by rw [ti3])
theorem IB:th Tryz.prog 3=some (i64 0):=by kernel_rfl
structure Walk (ns:List EN) (its:List Int):Prop where
 nd:its.Nodup
 inn:∀ x∈its,0≤x∧x<(ns.length:Int)
 pre:∀ n (h:n<its.length),∀ k∈ah (ndE ns its[n].toNat),k∈its.take n
def lD (ns:List EN) (its:List Int) (x:Int):EN:=aI (ndE ns x.toNat) ((ah (ndE ns x.toNat)).map fun k=>(its.idxOf k:Int))
def jJ (ns:List EN) (its:List Int) (n:Nat):List EN:=(its.take n).map (lD ns its)
theorem yX {ns:List EN} {its:List Int} {n:Nat} (h:n<its.length):jJ ns its (n+1)=jJ ns its n++[lD ns its its[n]]:=by
 unfold jJ
 rw [List.take_succ_eq_append_getElem h,List.map_append]
 rfl
theorem uM {ns:List EN} {its:List Int} {n:Nat} (h:n≤its.length):(jJ ns its n).length=n:=by
 unfold jJ
 rw [List.length_map,List.length_take]
 omega
def Bp (ns:List EN) (its:List Int) (n:Nat):St:=mk [(2,.at [2] 0),(4,.at [4] 0),(5,.at [5] 0),(6,.at [6] 0)]
 [([2],.box [.d (.sl (some 9) (ns.map enD))]),([4],.box [.d .nils]),([5],.box [.vw [99] 0 n]),([99],.arr (some 9) ((jJ ns its n).map enD)),([6],.box [.mp [11]]),([11],.map (menc (fun n:Int=>i64 n) (plM its n)))] [2,4,5,6,11,99]
set_option maxHeartbeats 1000000 in
theorem HS {G} (ns:List EN) (r:Nat) (hr:r<ns.length) (hN:ns.length≤1000000) (hs:∀ n∈ns,n.l.length≤900000) (hk:∀ i,i<ns.length→(ah (ndE ns i)).all (inB i)=true) (hw:Walk ns (aJ ns ns.length r)) (hl:(aJ ns ns.length r).length≤1000000) :
  HP Tryz.prog G 57 [exD ns,i64 r] (fun q=>q=.d (exD (jJ ns (aJ ns ns.length r) (aJ ns ns.length r).length))):=by
 have hs':∀ n∈ns,n.l.length≤1000000:=fun n hn=>by have:=hs n hn;omega
 have hit:=D4 (G:=G) ns r hr hN hs' hk
 have hb:=El (G:=G) ns r
 unfold wIt at hit
 generalize hits:aJ ns ns.length r=its at hit hw hl ⊢
 unfold exD at hb hit ⊢
 refine gB Tryz.func57 rfl (by decide +kernel) (by simp [Tryz.ntmps57]) fun B0 hB0=>?_
 refine aB (al fun E=>?_)
 simp only [go_sem]
 refine aB (al fun E=>?_)
 simp only [go_sem]
 refine aB (al fun E=>?_)
 simp only [go_sem]
 refine pK E (by simp only [go_sem]) (by rw [aa];decide) ?_
 simp only [go_sem]
 refine aB (aB (al fun E=>?_))
 simp only [go_sem]
 refine ae E hb rfl rfl (by simp) ?_
 rintro _ rfl
 simp only [go_sem]
 refine rB [5] 0 99 (some 9) [.d .nils] rfl rfl (by rw [aa];decide) ?_
 simp only [go_sem]
 refine dI (mS rfl hit rfl (X:=Unit) (fun n _=>Bp ns its n) (by simp) (fun n hn=>rfl) ⟨(),id,?_⟩ ?_ ?_)
 ·refine LeL.le ?_
  simp only [go_sem]
  exact ⟨rfl,rfl⟩
 ·rintro n ⟨⟩ hn lb
  unfold Bp
  refine veil fun E=>?_
  simp only [go_sem]
  refine CF fun E=>?_
  simp only [go_sem]
  have hgx:its.getD n 0=its[n]:=by simp [hn]
  have hxi:=hw.inn _ (List.getElem_mem hn)
  have hpre:=hw.pre n hn
  have hstep:=yX (ns:=ns) hn
  have hpl:=ET hw.nd hn
  unfold lD at hstep
  rw [hgx]
  obtain ⟨x,hx⟩:∃ x:Nat,its[n]=(x:Int):=⟨its[n].toNat,by omega⟩
  rw [hx] at hxi hpre hpl ⊢
  rw [hx,Int.toNat_natCast] at hstep
  rw [Int.toNat_natCast] at hpre ⊢
  have hxl:x<ns.length:=by omega
  have hg:=aN hxl
  have hsi:=hs _ (by rw [bd hxl];exact List.getElem_mem hxl:ndE ns x∈ns)
  generalize ndE ns x=nd at hg hsi hpre hstep
  have hkc:=dr (G:=G) nd (by omega)
  have hwc:=qM (G:=G) nd ((ah nd).map fun k=>(its.idxOf k:Int)) (by omega) (by rw [List.length_map,aV];unfold aG;have:=bJ nd.k;split<;>omega)
  obtain ⟨K,hK⟩:∃ K,K=ah nd:=⟨_,rfl⟩
  have hKl:K.length≤1000003:=by rw [hK,aV];unfold aG;have:=bJ nd.k;split<;>omega
  rw [← hK] at hkc hpre hstep hwc
  rw [hg]
  refine ⟨⟨by omega,by omega⟩,?_⟩
  simp only [go_sem]
  refine ab E [.d (enD nd)] [] [] hkc rfl rfl ⟨by simp only [go_sem],by rw [aa];decide⟩ rfl (by simp only [go_sem]) (by simp only [go_sem]) ?_
  rintro _ _ ⟨rfl,rfl⟩
  simp only [go_sem]
  refine fF E [21,0] none (K.map i64) rfl ?_
  simp only [go_sem]
  refine lQ E 8 98 none rfl (by rw [aa];decide) ?_
  simp only [go_sem]
  refine a9 E (X:={ q:Nat // q≤K.length }) (fun y=>[(2,.at [2] 0),(4,.at [4] 0),(5,.at [5] 0),(6,.at [6] 0),(7,.d (i64 x)),(8,.vw [98] 0 y.1),(21,.d (.sl none (K.map i64))),(22,.d (i64 K.length)),(23,.d (i64 y.1))])
   (fun y=>[([2],.box [.d (.sl (some 9) (ns.map enD))]),([4],.box [.d .nils]),([5],.box [.vw [99] 0 n]),([99],.arr (some 9) ((jJ ns its n).map enD)),([6],.box [.mp [11]]),([11],.map (menc (fun n:Int=>i64 n) (plM its n))),([98],.arr none (((K.take y.1).map fun k=>(its.idxOf k:Int)).map i64))]) [2,4,5,6,11,98,99] (fun y=>K.length-y.1) ⟨0,Nat.zero_le _⟩ id ?_ ?_
  ·simp only [go_sem]
   all_goals rfl
  rintro ⟨q,hq⟩ E0
  refine bb E0 fun Q' hQ E'=>?_
  simp only at hq ⊢
  simp only [go_sem]
  refine ai E' (fun g1=>?_) (fun g1=>?_)<;>simp only [go_sem]
  ·have hq':q<K.length:=by omega
   refine ⟨⟨by omega,by omega⟩,?_⟩
   rw [bk hq',show K.getD q 0=K[q] by simp [hq']]
   simp only [go_sem]
   refine uu E' [11] (plM its n) K[q] (i64 0) (by rw [DF]) Gt IB rfl rfl rfl (by simp) ?_
   rw [tx hw.nd (by omega) (hpre _ (List.getElem_mem hq'))]
   simp only [go_sem]
   refine ⟨by omega,?_⟩
   rw [ak (n:=(q:Int)+1) ⟨by omega,by omega⟩]
   rw [show List.take q (List.map i64 (List.map (fun k=>(its.idxOf k:Int)) (List.take q K)))++[i64 (its.idxOf K[q]:Int)]=((K.take (q+1)).map fun k=>(its.idxOf k:Int)).map i64 by
    rw [List.take_of_length_le (by simp;omega),List.take_succ_eq_append_getElem hq',List.map_append,List.map_append];rfl]
   rw [hQ]
   simp only [go_sem]
   refine ⟨⟨q+1,by omega⟩,by show K.length-(q+1)<_;omega,tau [([98],[32])],?_⟩
   simp only [go_sem]
   all_goals rfl
  ·rw [hQ]
   have h3:q=K.length:=by omega
   subst h3
   rw [List.take_length]
   simp only [go_sem]
   refine mi E [11] (plM its n) (x:Int) (i64 (n:Int)) (by rw [DF]) Gt rfl rfl rfl rfl rfl ?_
   rw [hpl]
   simp only [go_sem]
   refine fF E [98] none ((K.map fun k=>(its.idxOf k:Int)).map i64) rfl ?_
   simp only [go_sem]
   refine aj mixed E fun X=>?_
   simp only [go_sem]
   refine ⟨⟨by omega,by omega⟩,?_⟩
   rw [hg]
   simp only [go_sem]
   rw [List.take_of_length_le (l:=List.map i64 _) (by simp)]
   refine cP X hwc rfl rfl (by simp) ?_
   obtain ⟨M,hM⟩:∃ M,M=aI nd (K.map fun k=>(its.idxOf k:Int)):=⟨_,rfl⟩
   rw [← hM] at hstep ⊢
   rw [nk M]
   simp only [go_sem]
   rw [show List.take n (List.map enD (jJ ns its n))++[.agg [i64 M.k,i64 M.a,i64 M.b,i64 M.c,i64 M.n,.str M.name,.str M.s,.sl (some 3) (M.l.map fD),i64 M.pos]]=(jJ ns its (n+1)).map enD by
    rw [hstep,List.take_of_length_le (by rw [List.length_map,uM (by omega)];exact Nat.le_refl _),List.map_append];rfl]
   refine ⟨by omega,by decide +kernel,?_⟩
   refine BS ?_ () (tau [([99],[49])]) rfl ?_
   ·simp only [go_sem]
    trace_state
   ·simp only [go_sem]
    all_goals rfl
 ·rintro ⟨⟩
  unfold Bp
  refine mm ?_
  refine al fun E=>?_
  simp only [go_sem]
  refine lA (.inl rfl) hB0 ?_
  simp only [go_sem]
  refine ⟨[([99],some 9,(jJ ns its its.length).map enD)],?_⟩
  simp only [go_sem]
  rw [List.take_of_length_le (by rw [List.length_map,uM (Nat.le_refl _)];exact Nat.le_refl _)]
end Go.Proofs.YtejpnabbmgpmaaaGreat

namespace Go.Proofs.YtejpnabbmgpmaaaGreat
open Go.Ab
structure a8 (ns:List EN):Prop where
 pos:0<ns.length
 few:ns.length≤600
 right:∀ i,i<ns.length→aX (ndE ns i)=true
 link:∀ i,i<ns.length→dZ ns i=true
 once:md ns=true
 deep:lS ns≤100
theorem Cw {ns:List EN} (h:bB ns=0):a8 ns:=by
 unfold bB at h
 split at h
 ·exact absurd h (by decide)
 rename_i h1
 split at h
 ·rename_i h2
  split at h
  ·exact absurd h (by decide)
  ·rename_i h3
   rw [Bool.and_eq_true] at h2
   have h4:∀ i,i<ns.length→aX (ndE ns i)=true∧dZ ns i=true:=fun i hi=>by
    have:=List.all_eq_true.1 h2.1 i (List.mem_range.2 hi)
    simpa [Bool.and_eq_true] using this
   exact ⟨by omega,by omega,fun i hi=>(h4 i hi).1,fun i hi=>(h4 i hi).2,h2.2,by omega⟩
 ·exact absurd h (by decide)
theorem a8.kids {ns:List EN} (h:a8 ns):∀ i,i<ns.length→(ah (ndE ns i)).all (inB i)=true:=fun i hi=>x8 (h.link i hi)
theorem ju {n:EN} (h:aX n=true):n.l.length≤30:=by
 unfold aX cy at h
 simp only [Bool.and_eq_true] at h
 have h1:=h.2.1.2
 split at h1
 ·simp only [Bool.and_eq_true,decide_eq_true_eq] at h1
  exact h1.2.1.2
 ·have:n.l=[]:=by simpa using h1
  rw [this];decide
theorem a8.l {ns:List EN} (h:a8 ns):∀ n∈ns,n.l.length≤30:=fun n hn=>by
 obtain ⟨i,hi,rfl⟩:=List.mem_iff_getElem.1 hn
 have:=h.right i hi
 rw [bd hi] at this
 exact ju this
theorem Tr.sub {ns:List EN} (h:Tr ns):jJ ns (aJ ns ns.length ((ns.length:Int)-1)) (aJ ns ns.length ((ns.length:Int)-1)).length=ns:=by
 have h1:=h.norm
 have h0:=h.kids.1
 unfold Ia at h1
 rw [show ((ns.length:Int)-1).toNat+1=ns.length by omega] at h1
 unfold jJ lD
 rw [List.take_length]
 exact h1
end Go.Proofs.YtejpnabbmgpmaaaGreat

namespace Go.Ab
section
variable {P:Program} {cf:Cf} {ops:Array Oper} {K:St→Ns→Prop} {r:List Oper} {s:St} {ns:Ns}
end
end Go.Ab

namespace Go.Proofs.YtejpnabbmgpmaaaGreat
open Go.Ab
end Go.Proofs.YtejpnabbmgpmaaaGreat

namespace Go.Proofs.YtejpnabbmgpmaaaGreat
open Go.Ab
def wx (n:EN):EN:={ n with l:=n.l.take 60 }
def uc (ns:List EN):List EN:=(ns.take 700).map wx
theorem HY {G} (ns:List EN) (hl:ns.length≤9223372036854775807) (hll:∀ n∈ns,n.l.length≤9223372036854775807):HP Tryz.prog G 19 [exD ns] (fun r=>r=.d (exD (uc ns))):=by
 unfold exD
 refine aR Tryz.func19 rfl (by decide +kernel) (by simp [Tryz.ntmps19]) (veil fun E=>?_)
 simp only [go_sem]
 refine wC E [3] 0 99 (some 9) [.d .nils] rfl rfl (by rw [aa];decide) ?_
 simp only [go_sem]
 refine a9 E (X:={ i:Nat // i≤ns.length∧i≤700 }) (fun x=>[(1,.at [1] 0),(2,.at [2] 0),(3,.at [3] 0),(4,.d (i64 x.1))])
  (fun x=>[([1],.box [.d (.sl (some 9) (ns.map enD))]),([2],.box [.d .nils]),([3],.box [.vw [99] 0 x.1]),([99],.arr (some 9) (((ns.take x.1).map wx).map enD))]) [1,2,3,99] (fun x=>ns.length-x.1) ⟨0,by simp⟩ id ?_ ?_
 ·simp only [go_sem]
  all_goals first | rfl | exact ⟨rfl,rfl⟩
 rintro ⟨i,hi,hi7⟩ E0
 refine bb E0 fun Q' hQ E'=>?_
 simp only at hi hi7 ⊢
 simp only [go_sem]
 repeat (first
  | (apply fg E';(· simp only [go_sem]);(· intro h;(try simp only [bq] at h);simp only [↓h,go_sem];rfl);simp only [go_sem])
  | (apply cD E';(· simp only [go_sem]);(· intro h;(try simp only [bq] at h);simp only [↓h,go_sem];rfl);(· intro h;(try simp only [bq] at h);simp only [↓h,go_sem];rfl);simp only [go_sem])
  | (apply cC E';(· simp only [go_sem]);(· rfl);(· intro h h';(try simp only [bq] at h h');simp only [↓h,↓h',go_sem];rfl);simp only [go_sem])
  | (apply bC E';(· simp only [go_sem]);(· rfl);(· intro h h';(try simp only [bq] at h h');simp only [↓h,↓h',go_sem];rfl);(· intro h h';(try simp only [bq] at h h');simp only [↓h,↓h',go_sem];rfl);simp only [go_sem])
  | (apply eI E';(· decide);simp only [go_sem]))
 refine aZ E' (fun g1=>?_) (fun g1=>?_)<;>simp only [go_sem]
 ·have g2:i<ns.length∧i<700:=by
   simp only [Bool.and_eq_true,decide_eq_true_eq] at g1
   omega
  refine ⟨⟨by omega,by omega⟩,?_⟩
  have hg:=aN g2.1
  have hmn:=hll _ (by rw [bd g2.1];exact List.getElem_mem g2.1:ndE ns i∈ns)
  obtain ⟨n,hne⟩:∃ n,n=ndE ns i:=⟨_,rfl⟩
  rw [← hne] at hg hmn
  rw [hg]
  simp only [go_sem]
  have h60:((0≤if (60:Int)<(n.l.length:Int) then 60 else (n.l.length:Int))∧(if (60:Int)<(n.l.length:Int) then 60 else (n.l.length:Int))≤(n.l.length:Int)):=by split<;>omega
  have ht:List.take ((if (60:Int)<(n.l.length:Int) then 60 else (n.l.length:Int)).toNat-0) (List.map fD n.l)=(n.l.take 60).map fD:=by
   rw [← List.map_take]
   split
   ·rfl
   ·rw [List.take_of_length_le (by omega),List.take_of_length_le (by omega)]
  refine ⟨h60,?_⟩
  rw [ht]
  refine ⟨by rw [List.length_map,List.length_take];omega,?_⟩
  refine iZ E' [31] (some 3) ((n.l.take 60).map fD) rfl (by simp only [go_sem];rfl) ?_
  simp only [go_sem]
  refine ⟨by omega,?_⟩
  rw [ak ⟨by omega,by omega⟩]
  rw [show List.take i (List.map enD (List.map wx (List.take i ns)))++[.agg [i64 n.k,i64 n.a,i64 n.b,i64 n.c,i64 n.n,.str n.name,.str n.s,.sl (some 3) ((n.l.take 60).map fD),i64 n.pos]]=((ns.take (i+1)).map wx).map enD by
   rw [List.take_of_length_le (by simp;omega),List.take_succ_eq_append_getElem g2.1,List.map_append,List.map_append,← bd g2.1,← hne];rfl]
  rw [hQ]
  simp only [go_sem]
  refine ⟨⟨i+1,by omega,by omega⟩,by show ns.length-(i+1)<_;omega,tau [([99],[37])],?_⟩
  simp only [go_sem]
  all_goals first | rfl | exact ⟨rfl,rfl⟩
 ·rw [hQ]
  simp only [go_sem]
  refine ⟨[([99],some 9,((ns.take i).map wx).map enD)],?_⟩
  simp only [go_sem]
  have g2:¬ (i<ns.length∧i<700):=by
   rw [Bool.eq_false_iff] at g1
   intro h
   apply g1
   simp only [Bool.and_eq_true,decide_eq_true_eq]
   omega
  rw [List.take_of_length_le (l:=List.map enD _) (by simp;omega)]
  have:ns.take i=ns.take 700:=by
   by_cases h:i=700
   ·rw [h]
   ·rw [List.take_of_length_le (by omega),List.take_of_length_le (by omega)]
  rw [this]
  rfl
theorem ko {ns:List EN} {k:Nat}:∀ {i:Nat},i≤ns.length→k<i→(b6 ns i).getD k 0=(b6 ns (k+1)).getD k 0
 | 0,_,h=>absurd h (Nat.not_lt_zero _)
 | i+1,hi,hk=>by
   by_cases h:k=i
   ·rw [h]
   ·have ih:=ko (ns:=ns) (k:=k) (i:=i) (by omega) (by omega)
    have hl:=(dJ (ns:=ns) (i:=i) (by omega)).1
    rw [gm (by omega),List.getD_eq_getElem?_getD,List.getElem?_append_left (by omega),← List.getD_eq_getElem?_getD,ih]
theorem FI {ns:List EN} {i:Nat} (hi:i<ns.length):(bT ns []).getD i 0=mx (b6 ns i) (ah (ndE ns i))+1:=by
 have h1:bT ns []=b6 ns ns.length:=by unfold b6;rw [List.take_length]
 have hl:=(dJ (ns:=ns) (i:=i) (by omega)).1
 rw [h1,ko (Nat.le_refl _) hi,gm hi,List.getD_eq_getElem?_getD,List.getElem?_append_right (by omega),hl,Nat.sub_self,q3]
 rfl
theorem Bk {ns:List EN} {i k:Nat} (hi:i≤ns.length) (hk:k<i):(bT ns []).getD k 0=(b6 ns i).getD k 0:=by
 have h1:bT ns []=b6 ns ns.length:=by unfold b6;rw [List.take_length]
 rw [h1,ko (Nat.le_refl _) (by omega),ko hi hk]
end Go.Proofs.YtejpnabbmgpmaaaGreat

namespace Go.Ab
section
variable {P:Program} {cf:Cf} {Q:Exit→St→Prop} {s:St} {k:List It}
theorem tJ (n cap:Nat) (h:n≤cap) (w:World):(Instr.sliceBounds true n cap none (some (.int .i64 n)) (some (.int .i64 n))).run P w=.ok (0,n,n) w:=by
 have hb:∀ code,(Instr.sliceBound (.int .i64 (n:Int)) cap code).run P w=.ok n w:=fun code=>by
  have:=jm (P:=P) .i64 (n:Int) cap code (by omega) (by omega) w
  simpa using this
 have hc:∀ code,(Instr.sliceBound (.int .i64 (n:Int)) n code).run P w=.ok n w:=fun code=>by
  have:=jm (P:=P) .i64 (n:Int) n code (by omega) (by omega) w
  simpa using this
 simp [Instr.sliceBounds,hb,hc]
theorem Ja (E:Eng P cf Q) {d t e:Nat} {x h m:Operand} {ty:TypeId} {pos:String} {af:Array Edge} {wf:W} {xs:List D} (hk:(P.ti t).k=.slice e) (hw:(P.ti e).isW wf=true) (hd:d<cf.n)
  (hx:ev s x=.d (.sl wf xs)) (hh:ev s h=.d (.int .i64 xs.length)) (hm:ev s m=.d (.int .i64 xs.length)) (hr:E.run k (s.put d (.d (.slx wf xs)))) :
  E.stp { dst:=some d,op:=.slice t x none (some h) (some m),type:=ty,pos:=pos,after:=af,guard:=none } s k .no:=by
 refine lP E rfl hd (fun c hc=>by cases hc) (fun B β a w hs=>?_) hr
 have hvx:=hs.ev x
 have hvh:=hs.ev h
 have hvm:=hs.ev m
 rw [hx] at hvx
 rw [hh] at hvh
 rw [hm] at hvm
 obtain ⟨hg,hwd,_⟩:=bM hw
 have hu:=bo hk
 have hrep:=hvx.toD
 obtain ⟨a0,cap,hxv,hcap,hdd⟩:=hrep.se
 have hb:=tJ (P:=P) xs.length cap hcap w
 have e1:(Instr.sliceAt t (a.eval x) none (some (a.eval h)) (some (a.eval m))).run P w=.ok (.slice a0 xs.length xs.length) w:=by
  rw [hxv,hvh.int,hvm.int]
  have e2:Option.map (fun x:Addr=>x.add 0) a0=a0:=by
   cases a0 with
   | none=>rfl
   | some q=>cases q;simp [Addr.add]
  simp only [Instr.sliceAt,Instr.slice,Sem.run_bind,run_underlying hu,Result.andThen_ok,hb,run_sizeOf hg,Sem.run_pure,Nat.sub_zero]
  simp only [Nat.zero_mul,e2,ite_self]
 refine ⟨.slice a0 xs.length xs.length,by simp [execOp,e1],.d _ _ (.slx _ _ _ ?_ ⟨a0,rfl⟩)⟩
 by_cases h0:xs=[]
 ·subst h0
  exact .sl0 _ _ _
 ·obtain ⟨b',o,c,e',fz,rfl,hb',hn,hz,hok,hc⟩:=hdd h0
  exact .sl b' o xs.length c e' fz wf xs hb' hn (Nat.le_refl _) hz hok hc
theorem G1 (E:Eng P cf Q) {d t e:Nat} {x y:Operand} {ty:TypeId} {pos:String} {af:Array Edge} {xs ys:List D} (hk:(P.ti t).k=.slice e) (hz:(P.ti e).zOk=true) (hw:(P.ti e).isW (P.ti e).w=true)
  (hd:d<cf.n∧d ∉ s.used) (hx:ev s x=.d (.slx (P.ti e).w xs)) (hy:bN (P.ti e).w s.hp (ev s y)=some ys) (h0:0<ys.length) (hl:(xs.length+ys.length)*(P.ti e).by1≤140737488355328)
  (h:E.run k ((s.add d (.arr (P.ti e).w (xs++ys))).put d (.vw [d] 0 (xs.length+ys.length)))) :
  E.stp { dst:=some d,op:=.call { callee:=.builtin .append,args:=#[x,y],argTypes:=#[t,t] },type:=ty,pos:=pos,after:=af,guard:=none } s k .no:=by
 rw [aK]
 rw [E.run_eq] at h
 intro B hB ds β a w hds hs Q'
 have hvx:=hs.ev x
 have hvy:=hs.ev y
 rw [hx] at hvx
 obtain ⟨hg,hwd,_⟩:=bM hw
 obtain ⟨z,hz,hzl⟩:∃ z,(P.ti e).z=some z∧z.length=(P.ti e).sz:=by
  unfold TI.zOk at hz
  split at hz
  ·rename_i z h1;exact ⟨z,h1,by simpa using hz⟩
  ·cases hz
 obtain ⟨zv,hr,hm,it,hi,hiz,his,hib⟩:=eT hz
 have hu:=bo hk
 have hby:(xs.length+ys.length)*it.bytes≤140737488355328∧xs.length+ys.length≤140737488355328:=by
  unfold TI.by1 at hl
  rw [hib]
  split at hl
  ·rename_i h0;rw [h0];simp at hl ⊢;exact hl
  ·exact ⟨hl,Nat.le_trans (Nat.le_mul_of_pos_right _ (by omega)) hl⟩
 have hrep:=hvx.toD
 obtain ⟨hsl,a0,hxv⟩:Rep w.heap (s.own B.A β) (a.eval x) (.sl (P.ti e).w xs)∧∃ a0,a.eval x=.slice a0 xs.length xs.length:=by
  generalize a.eval x=v at hrep
  cases hrep with
  | slx _ _ _ h1 h2=>exact ⟨h1,h2⟩
 obtain ⟨olds,hsx⟩:=db (P:=P) hs (y:=.d (.sl (P.ti e).w xs)) (.d _ _ hsl) (wf:=(P.ti e).w) (ys:=xs) (by simp [bN])
 obtain ⟨news,hsy⟩:=db (P:=P) hs hvy hy
 obtain ⟨nc,hnc,hrun⟩:=dD (P:=P) (t:=t) hu hi hiz ty (by rw [his,hwd]) hsx hsy hxv (by omega) hby.1 hby.2
 obtain ⟨r1,r2⟩:=mq hsx hsy (Builtin.zeroCells zv.cells (nc-(xs.length+ys.length)))
 have hzs:zv.cells.size=wd (P.ti e).w:=by
  have:=(gH (H:=w.heap) (own:=s.own B.A β) hm).1
  simp at this;omega
 have hsz:(olds.toArray++news.toArray++Builtin.zeroCells zv.cells (nc-(xs.length+ys.length))).size=nc*wd (P.ti e).w:=by
  simp only [Array.size_append,List.size_toArray,hsx.size,hsy.size,size_zeroCells,hzs,← Nat.add_mul];congr 1;omega
 have hdn:d<B.n:=by rw [hB.1];exact hd.1
 have hnew:=eu (hs.mK (w':=w.drew) rfl rfl) hdn hd.2 (c:=olds.toArray++news.toArray++Builtin.zeroCells zv.cells (nc-(xs.length+ys.length))) (wf:=(P.ti e).w) (xs:=xs++ys) (cap:=nc) (by simpa using hnc)
  (by rw [hsz];exact Nat.le_refl _) r1 (fun i x j d hi hj=>r2 i x j d hi hj) e none rfl
 obtain ⟨β',hsim⟩:=hnew
 rw [List.length_append] at hsim
 exact aE (v:=.slice (some ⟨w.heap.size,0,none⟩) (xs.length+ys.length) nc) (by simp) (by simp [execOp,resolve,invoke,builtin,hrun]) (.inl rfl) ⟨hds,_,β',aU h,hsim⟩
end
end Go.Ab

namespace Go.Proofs.YtejpnabbmgpmaaaGreat
open Go.Ab
abbrev Bi:=Int × Int
abbrev Reach:=List (List UInt8 × Bi)
def bD (b:Bi):D:=.agg [i64 b.1,i64 b.2]
def kD (q:List UInt8 × Bi):D:=.agg [.str q.1,i64 q.2.1,i64 q.2.2]
def dp (r:Reach):D:=.sl (some 3) (r.map kD)
def noB:Bi:=(-1,-1)
def cB (r:Reach) (nm:List UInt8):Bi:=match r.reverse.find? (fun q=>decide (q.1=nm)) with
 | some q=>q.2
 | none=>noB
theorem jV (r:Reach) (q:List UInt8 × Bi) (nm:List UInt8):cB (r++[q]) nm=if q.1=nm then q.2 else cB r nm:=by
 unfold cB
 rw [List.reverse_append,List.reverse_singleton,List.singleton_append,List.find?_cons]
 by_cases h:q.1=nm<;>simp [h]
theorem xR {G}:HP Tryz.prog G 203 [] (fun r=>r=.d (.agg [i64 (-1),i64 (-1)])):=by
 refine aR Tryz.func203 rfl (by decide +kernel) (by simp [Tryz.ntmps203]) (veil fun E=>?_)
 simp only [go_sem]
 refine ⟨[],?_⟩
 simp only [go_sem]
theorem uX {r:Reach} {i:Nat} (h:i<r.length):(r.map kD).getD i .nilp=.agg [.str r[i].1,i64 r[i].2.1,i64 r[i].2.2]:=by simp [h,kD]
theorem Gc {G} (r:Reach) (nm:List UInt8) (hl:r.length≤1000000):HP Tryz.prog G 204 [dp r,.str nm] (fun q=>q=.d (.agg [i64 (cB r nm).1,i64 (cB r nm).2])):=by
 generalize hF:cB r nm=F
 unfold dp
 refine aR Tryz.func204 rfl (by decide +kernel) (by simp [Tryz.ntmps204]) (veil fun E=>?_)
 simp only [go_sem]
 rw [ak ⟨by omega,by omega⟩]
 refine cM E (X:={ c:Nat // c≤r.length∧cB (r.take c) nm=F }) (fun x=>[(0,.d (.sl (some 3) (r.map kD))),(1,.d (.str nm)),(4,.at [4] 0),(5,.d (i64 ((x.1:Int)-1)))]) (fun _=>[([4],.box [.d (i64 0),.d (i64 0)])]) [4] (fun x=>x.1) ⟨r.length,Nat.le_refl _,by rw [List.take_length];exact hF⟩ ?_ ?_
 ·simp only [go_sem]
  all_goals first | rfl | exact ⟨rfl,rfl⟩
 rintro ⟨c,hc,hcf⟩ E0
 refine bb E0 fun Q' hQ E'=>?_
 simp only at hc hcf ⊢
 simp only [go_sem]
 refine ai E' (fun g1=>?_) (fun g1=>?_)<;>simp only [go_sem]
 ·obtain ⟨c,rfl⟩:∃ d,c=d+1:=⟨c-1,by omega⟩
  have hc':c<r.length:=by omega
  rw [List.take_succ_eq_append_getElem hc',jV] at hcf
  refine ⟨⟨by omega,by omega⟩,?_⟩
  rw [show (((c+1:Nat):Int)-1).toNat=c by omega,uX hc']
  simp only [go_sem]
  refine aZ E' (fun g2=>?_) (fun g2=>?_)<;>simp only [go_sem]
  ·refine ⟨⟨by omega,by omega⟩,?_⟩
   rw [show (((c+1:Nat):Int)-1).toNat=c by omega,uX hc']
   simp only [go_sem]
   rw [hQ]
   simp only [go_sem]
   rw [if_pos (by simpa using g2)] at hcf
   refine ⟨[],?_⟩
   simp only [go_sem]
   rw [hcf]
  ·rw [if_neg (by simpa using g2)] at hcf
   rw [hQ]
   simp only [go_sem]
   refine ⟨⟨c,by omega,hcf⟩,by show c<c+1;omega,?_⟩
   rw [ak ⟨by omega,by omega⟩,show ((c+1:Nat):Int)-1-1=(c:Int)-1 by omega]
 ·have hc0:c=0:=by omega
  subst hc0
  rw [hQ]
  simp only [go_sem]
  refine ae E xR rfl rfl (by simp) ?_
  rintro _ rfl
  simp only [go_sem]
  refine ⟨[],?_⟩
  simp only [go_sem]
  rw [← hcf]
  rfl
theorem Fs {G} (r:Reach):HP Tryz.prog G 258 [dp r] (fun q=>q=.d (.slx (some 3) (r.map kD))):=by
 unfold dp
 refine ao Tryz.func258 rfl (by decide +kernel) (by simp [Tryz.ntmps258]) (veil fun E=>?_)
 simp only [go_sem]
 refine Ja E (t:=239) (e:=278) (wf:=some 3) (xs:=r.map kD) (by rw [BT]) (by rw [nE];rfl) (by simp only [go_sem]) rfl (by simp only [go_sem]) (by simp only [go_sem]) ?_
 simp only [go_sem]
theorem mY {G} (r:Reach) (nm:List UInt8) (a b:Int) (hl:r.length≤1000000):HP Tryz.prog G 205 [dp r,.str nm,i64 a,i64 b] (fun q=>q=.d (dp (r++[(nm,a,b)]))):=by
 have c:=Fs (G:=G) r
 unfold dp at *
 refine aR Tryz.func205 rfl (by decide +kernel) (by simp [Tryz.ntmps205]) (veil fun E=>?_)
 simp only [go_sem]
 refine ae E c rfl rfl (by simp) ?_
 rintro _ rfl
 simp only [go_sem]
 refine G1 E (t:=239) (e:=278) (xs:=r.map kD) (ys:=[.agg [.str nm,i64 a,i64 b]]) (by rw [BT]) (by rw [nE];rfl) (by rw [nE];rfl) ⟨by simp only [go_sem],by rw [aa];decide⟩ (by rw [nE];rfl) (by rw [nE];rfl) (by simp) (by rw [nE,List.length_map];simp [TI.by1];omega) ?_
 simp only [go_sem]
 refine ⟨[([17],some 3,(r++[(nm,a,b)]).map kD)],?_⟩
 rw [show List.map kD r++[.agg [.str nm,i64 a,i64 b]]=(r++[(nm,a,b)]).map kD by rw [List.map_append];rfl]
 simp only [go_sem]
 rw [List.take_of_length_le (by simp)]
end Go.Proofs.YtejpnabbmgpmaaaGreat

namespace Go.Proofs.YtejpnabbmgpmaaaGreat
open Go.Ab
def cE (ns:List EN):Nat→Nat→Reach→List Bi→List Bi
 | 0,_,_,l=>l
 | m+1,i,r,l =>
   let n:=ndE ns i
   let l0:=l.set i noB
   if n.k=4 then l0.set i (cB r n.name)
   else if n.k=5 then cE ns m n.a.toNat (r++[(n.name,(i:Int),-1)]) l0
   else if n.k=7 then cE ns m n.b.toNat (r++[(n.name,(i:Int),-1)]) (cE ns m n.a.toNat r l0)
   else if n.k=8 then cE ns m n.b.toNat (r++[(n.name,(i:Int),-1)]) (cE ns m n.a.toNat (r++[(n.name,(i:Int),-1)]) l0)
   else if n.k=14 then (List.range n.l.length).foldl (fun l k=>cE ns m (fdE n.l k).to.toNat (r++[((fdE n.l k).var,(i:Int),(k:Int))]) l) (cE ns m n.a.toNat r l0)
   else (ah n).foldl (fun l k=>cE ns m k.toNat r l) l0
theorem cZ (ns:List EN):∀ (m i:Nat) (r:Reach) (l:List Bi),(cE ns m i r l).length=l.length
 | 0,_,_,_=>rfl
 | m+1,i,r,l=>by
   have ih:=cZ ns m
   have fold:∀ {α:Type} (f:List Bi→α→List Bi),(∀ l a,(f l a).length=l.length)→∀ (xs:List α) (l:List Bi),(xs.foldl f l).length=l.length:=by
    intro α f hf xs
    induction xs with
    | nil=>intro l;rfl
    | cons a r ih=>intro l;rw [List.foldl_cons,ih,hf]
   unfold cE
   simp only
   repeat' split
   ·simp
   ·rw [ih];simp
   ·rw [ih,ih];simp
   ·rw [ih,ih];simp
   ·rw [fold _ (fun l a=>ih _ _ _),ih];simp
   ·rw [fold _ (fun l a=>ih _ _ _)];simp
def BO (ns:List EN) (l:List Bi):List (Name × Ob):=[([101],.box [.d (.sl (some 9) (ns.map enD))]),([102],.box [.vw [103] 0 ns.length]),([103],.arr (some 2) (l.map bD)),([104],.box [.clo 202 [.at [101] 0,.at [102] 0,.at [104] 0]])]
def BU:List Nat:=[101,102,103,104]
def bA (i:Nat) (r:Reach):List AV:=[.d (i64 i),.d (dp r),.at [101] 0,.at [102] 0,.at [104] 0]
def BW (ns:List EN) (m:Nat) (G:List (Nat × Obj)):Prop:=∀ (i:Nat) (r:Reach) (l:List Bi),i<m→i<ns.length→l.length=ns.length→r.length+i≤1000000→HCall Tryz.prog G 202 (bA i r) (BO ns l) BU (fun q hp'=>q=.tup []∧hp'=BO ns (cE ns m i r l))
theorem BW.get {G} {ns:List EN} {m:Nat} (h:BW ns m G) {j:Int} {i:Nat} {r:Reach} {l:List Bi} (h1:0≤j∧j<(i:Int)) (h2:i≤m) (h3:i<ns.length) (h4:l.length=ns.length) (h5:r.length+j.toNat≤1000000) :
  ∃ l1,cE ns m j.toNat r l=l1∧l1.length=ns.length∧HCall Tryz.prog G 202 [.d (i64 j),.d (.sl (some 3) (r.map kD)),.at [101] 0,.at [102] 0,.at [104] 0] [([101],.box [.d (.sl (some 9) (ns.map enD))]),([102],.box [.vw [103] 0 ns.length]),([103],.arr (some 2) (l.map bD)),([104],.box [.clo 202 [.at [101] 0,.at [102] 0,.at [104] 0]])] [101,102,103,104]
   (fun q hp'=>q=.tup []∧hp'=[([101],.box [.d (.sl (some 9) (ns.map enD))]),([102],.box [.vw [103] 0 ns.length]),([103],.arr (some 2) (l1.map bD)),([104],.box [.clo 202 [.at [101] 0,.at [102] 0,.at [104] 0]])]):=by
 have:=h j.toNat r l (by omega) (by omega) h4 h5
 refine ⟨_,rfl,by rw [cZ,h4],?_⟩
 unfold bA at this
 rw [show ((j.toNat:Nat):Int)=j by omega] at this
 exact this
set_option maxHeartbeats 2000000 in
theorem xx {G} (ns:List EN) (hN:ns.length≤1000000) (hs:∀ n∈ns,n.l.length≤1000000) (hk:∀ i,i<ns.length→(ah (ndE ns i)).all (inB i)=true) :
  ∀ (m:Nat),BW ns m G
 | 0,_,_,_,h,_,_,_=>absurd h (Nat.not_lt_zero _)
 | m+1,i,r,l,him,hi,hl,hr=>by
   have hg:=aN hi
   have hki:=hk i hi
   have hsi:=hs _ (by rw [bd hi];exact List.getElem_mem hi:ndE ns i∈ns)
   generalize hR:cE ns (m+1) i r l=R
   unfold cE at hR
   obtain ⟨n,hne⟩:∃ n,n=ndE ns i:=⟨_,rfl⟩
   rw [← hne] at hg hki hsi hR
   simp only at hR
   have ih:=xx (G:=G) ns hN hs hk m
   unfold BO bA BU dp
   refine aq Tryz.func202 rfl (by decide +kernel) (by simp [Tryz.ntmps202]) (veil fun E=>?_)
   simp only [go_sem]
   refine ⟨⟨by omega,by omega⟩,?_⟩
   rw [hg]
   simp only [go_sem]
   refine aj mixed E fun X=>?_
   simp only [go_sem]
   refine cP X xR rfl rfl (by simp) ?_
   simp only [go_sem]
   refine ⟨⟨by omega,by omega⟩,?_⟩
   refine ⟨by decide +kernel,?_⟩
   obtain ⟨l0,h0⟩:∃ l0,l0=l.set i noB:=⟨_,rfl⟩
   have h0l:l0.length=ns.length:=by rw [h0,List.length_set,hl]
   rw [← h0] at hR
   rw [show (l.map bD).set i (.agg [i64 (-1),i64 (-1)])=l0.map bD by rw [h0,List.map_set];rfl]
   clear h0
   refine ai E (fun g1=>?_) (fun g1=>?_)<;>simp only [go_sem]
   ·rw [if_pos g1] at hR
    refine aj mixed E fun X=>?_
    simp only [go_sem]
    refine cP X (Gc r n.name (by omega)) rfl rfl (by simp) ?_
    simp only [go_sem]
    refine ⟨⟨by omega,by omega⟩,?_⟩
    refine ⟨by decide +kernel,?_⟩
    rw [show (l0.map bD).set i (.agg [i64 (cB r n.name).1,i64 (cB r n.name).2])=R.map bD by rw [← hR,List.map_set];rfl]
    refine ⟨_,_,[101,102,103,104],id,⟨rfl,rfl⟩,?_⟩
    simp only [go_sem]
   rw [if_neg g1] at hR
   refine ai E (fun g2=>?_) (fun g2=>?_)<;>simp only [go_sem]
   ·rw [if_pos g2] at hR
    have hka:0≤n.a∧n.a<i:=by
     have:=hki
     unfold ah aH aw inB at this
     simp [g2] at this
     omega
    refine aj mixed E fun X=>?_
    simp only [go_sem]
    refine cP X (mY r n.name (i:Int) (-1) (by omega)) rfl rfl (by simp) ?_
    simp only [go_sem]
    obtain ⟨l1,h1,h1l,hc1⟩:=ih.get (r:=r++[(n.name,(i:Int),-1)]) (l:=l0) hka (by omega) hi h0l (by simp;omega)
    rw [h1] at hR
    subst hR
    unfold dp
    refine aM X _ _ _ _ _ hc1 rfl rfl ⟨by simp only [go_sem],by first | (rw [aa];decide) | (simp only [go_sem]<;>(try rw [aa])<;>decide)⟩ (by simp only [go_sem]) (by simp only [go_sem]) (by simp only [go_sem]) (by simp only [go_sem];try omega) ?_
    simp only [go_sem]
    refine ⟨by decide +kernel,?_⟩
    refine ⟨_,_,[101,102,103,104],id,⟨rfl,rfl⟩,?_⟩
    simp only [go_sem]
   rw [if_neg g2] at hR
   refine ai E (fun g3=>?_) (fun g3=>?_)<;>simp only [go_sem]
   ·rw [if_pos g3] at hR
    have hka:(0≤n.a∧n.a<i)∧(0≤n.b∧n.b<i):=by
     have:=hki
     unfold ah aH aw inB at this
     simp [g3] at this
     omega
    obtain ⟨l1,h1,h1l,hc1⟩:=ih.get (r:=r) (l:=l0) hka.1 (by omega) hi h0l (by omega)
    obtain ⟨l2,h2,h2l,hc2⟩:=ih.get (r:=r++[(n.name,(i:Int),-1)]) (l:=l1) hka.2 (by omega) hi h1l (by simp;omega)
    rw [h1,h2] at hR
    subst hR
    refine ab E _ _ _ hc1 rfl rfl ⟨by simp only [go_sem],by first | (rw [aa];decide) | (simp only [go_sem]<;>(try rw [aa])<;>decide)⟩ (by simp only [go_sem]) (by simp only [go_sem]) (by simp only [go_sem]) ?_
    rintro _ _ ⟨rfl,rfl⟩
    refine ⟨by simp only [go_sem];try omega,?_⟩
    simp only [go_sem]
    refine aj mixed E fun X=>?_
    simp only [go_sem]
    refine cP X (mY r n.name (i:Int) (-1) (by omega)) rfl rfl (by simp) ?_
    simp only [go_sem]
    unfold dp
    refine aM X _ _ _ _ _ hc2 rfl rfl ⟨by simp only [go_sem],by first | (rw [aa];decide) | (simp only [go_sem]<;>(try rw [aa])<;>decide)⟩ (by simp only [go_sem]) (by simp only [go_sem]) (by simp only [go_sem]) (by simp only [go_sem];try omega) ?_
    simp only [go_sem]
    refine ⟨by decide +kernel,?_⟩
    refine ⟨_,_,[101,102,103,104],id,⟨rfl,rfl⟩,?_⟩
    simp only [go_sem]
   rw [if_neg g3] at hR
   refine ai E (fun g4=>?_) (fun g4=>?_)<;>simp only [go_sem]
   ·rw [if_pos g4] at hR
    have hka:(0≤n.a∧n.a<i)∧(0≤n.b∧n.b<i):=by
     have:=hki
     unfold ah aH aw inB at this
     simp [g4] at this
     omega
    obtain ⟨l1,h1,h1l,hc1⟩:=ih.get (r:=r++[(n.name,(i:Int),-1)]) (l:=l0) hka.1 (by omega) hi h0l (by simp;omega)
    obtain ⟨l2,h2,h2l,hc2⟩:=ih.get (r:=r++[(n.name,(i:Int),-1)]) (l:=l1) hka.2 (by omega) hi h1l (by simp;omega)
    rw [h1,h2] at hR
    subst hR
    refine ae E (mY r n.name (i:Int) (-1) (by omega)) rfl rfl (by simp) ?_
    rintro _ rfl
    unfold dp
    simp only [go_sem]
    refine ab E _ _ _ hc1 rfl rfl ⟨by simp only [go_sem],by first | (rw [aa];decide) | (simp only [go_sem]<;>(try rw [aa])<;>decide)⟩ (by simp only [go_sem]) (by simp only [go_sem]) (by simp only [go_sem]) ?_
    rintro _ _ ⟨rfl,rfl⟩
    refine ⟨by simp only [go_sem];try omega,?_⟩
    simp only [go_sem]
    refine ab E _ _ _ hc2 rfl rfl ⟨by simp only [go_sem],by first | (rw [aa];decide) | (simp only [go_sem]<;>(try rw [aa])<;>decide)⟩ (by simp only [go_sem]) (by simp only [go_sem]) (by simp only [go_sem]) ?_
    rintro _ _ ⟨rfl,rfl⟩
    refine ⟨by simp only [go_sem];try omega,?_⟩
    simp only [go_sem]
    refine ⟨_,_,[101,102,103,104],id,⟨rfl,rfl⟩,?_⟩
    simp only [go_sem]
   rw [if_neg g4] at hR
   refine ai E (fun g5=>?_) (fun g5=>?_)<;>simp only [go_sem]
   ·rw [if_pos g5] at hR
    have hka:(0≤n.a∧n.a<i)∧∀ k,k<n.l.length→(0≤(fdE n.l k).to∧(fdE n.l k).to<i):=by
     have:=hki
     unfold ah aH aw inB at this
     simp [g5] at this
     refine ⟨by omega,fun k hk=>?_⟩
     have h:=this.2 n.l[k] (List.getElem_mem hk)
     unfold fdE
     simp [hk]
     omega
    obtain ⟨l1,h1,h1l,hc1⟩:=ih.get (r:=r) (l:=l0) hka.1 (by omega) hi h0l (by omega)
    rw [h1] at hR
    refine ab E _ _ _ hc1 rfl rfl ⟨by simp only [go_sem],by first | (rw [aa];decide) | (simp only [go_sem]<;>(try rw [aa])<;>decide)⟩ (by simp only [go_sem]) (by simp only [go_sem]) (by simp only [go_sem]) ?_
    rintro _ _ ⟨rfl,rfl⟩
    refine ⟨by simp only [go_sem];try omega,?_⟩
    simp only [go_sem]
    obtain ⟨step,hst⟩:∃ step,step=fun (l:List Bi) (k:Nat)=>cE ns m (fdE n.l k).to.toNat (r++[((fdE n.l k).var,(i:Int),(k:Int))]) l:=⟨_,rfl⟩
    rw [← hst] at hR
    refine cM E (X:={ q:Nat × List Bi // q.1≤n.l.length∧q.2.length=ns.length∧((List.range n.l.length).drop q.1).foldl step q.2=R }) (fun x=>[(0,.d (i64 i)),(1,.d (.sl (some 3) (r.map kD))),(2,.at [101] 0),(3,.at [102] 0),(4,.at [104] 0),(7,.at [7] 0),(97,.d (.sl (some 3) (n.l.map fD))),(98,.d (i64 n.l.length)),(99,.d (i64 x.1.1))])
     (fun x=>[([101],.box [.d (.sl (some 9) (ns.map enD))]),([102],.box [.vw [103] 0 ns.length]),([103],.arr (some 2) (x.1.2.map bD)),([104],.box [.clo 202 [.at [101] 0,.at [102] 0,.at [104] 0]]),([7],.box [.d (i64 n.k),.d (i64 n.a),.d (i64 n.b),.d (i64 n.c),.d (i64 n.n),.d (.str n.name),.d (.str n.s),.d (.sl (some 3) (n.l.map fD)),.d (i64 n.pos)])]) [7,101,102,103,104] (fun x=>n.l.length-x.1.1) ⟨(0,l1),Nat.zero_le _,h1l,hR⟩ ?_ ?_
    ·simp only [go_sem]
     all_goals first | rfl | exact ⟨rfl,rfl⟩
    rintro ⟨⟨q,lq⟩,hq,hql,hqR⟩ E0
    refine bb E0 fun Q' hQ E'=>?_
    simp only at hq hql hqR ⊢
    simp only [go_sem]
    refine ai E' (fun f1=>?_) (fun f1=>?_)<;>simp only [go_sem]
    ·have hq':q<n.l.length:=by omega
     refine ⟨⟨by omega,by omega⟩,?_⟩
     rw [gu hq']
     obtain ⟨fd,hfd⟩:∃ fd,fd=fdE n.l q:=⟨_,rfl⟩
     have hkq:=hka.2 q hq'
     have hstq:step lq q=cE ns m fd.to.toNat (r++[(fd.var,(i:Int),(q:Int))]) lq:=by rw [hst,hfd]
     rw [← hfd] at hkq ⊢
     simp only [go_sem]
     obtain ⟨l2,h2,h2l,hc2⟩:=ih.get (r:=r++[(fd.var,(i:Int),(q:Int))]) (l:=lq) hkq (by omega) hi hql (by simp;omega)
     refine aj mixed E' fun X=>?_
     simp only [go_sem]
     refine cP X (mY r fd.var (i:Int) (q:Int) (by omega)) rfl rfl (by simp) ?_
     simp only [go_sem]
     unfold dp
     refine aM X _ _ _ _ _ hc2 rfl rfl ⟨by simp only [go_sem],by first | (rw [aa];decide) | (simp only [go_sem]<;>(try rw [aa])<;>decide)⟩ (by simp only [go_sem]) (by simp only [go_sem]) (by simp only [go_sem]) (by simp only [go_sem];try omega) ?_
     simp only [go_sem]
     refine ⟨by decide +kernel,?_⟩
     rw [ak ⟨by omega,by omega⟩,hQ]
     simp only [go_sem]
     refine ⟨⟨(q+1,l2),by show q+1≤_;omega,h2l,?_⟩,by show n.l.length-(q+1)<_;omega,?_⟩
     ·show ((List.range n.l.length).drop (q+1)).foldl step l2=R
      rw [← hqR,List.drop_eq_getElem_cons (i:=q) (by simpa using hq'),List.foldl_cons,List.getElem_range,hstq,h2]
     simp only [go_sem]
     first | rfl | exact ⟨rfl,rfl⟩
    ·rw [hQ]
     have h3:q=n.l.length:=by omega
     rw [List.drop_of_length_le (by simp;omega)] at hqR
     have h4:lq=R:=hqR
     subst h4
     simp only [go_sem]
     refine ⟨_,_,[101,102,103,104],id,⟨rfl,rfl⟩,?_⟩
     simp only [go_sem]
   rw [if_neg g5] at hR
   have hkc:=dr (G:=G) n hsi
   obtain ⟨K,hK⟩:∃ K,K=ah n:=⟨_,rfl⟩
   have hKl:K.length≤1000003:=by rw [hK,aV];unfold aG;have:=bJ n.k;split<;>omega
   rw [← hK] at hkc hki hR
   refine ab E [.d (enD n)] [] [] hkc rfl rfl ⟨by simp only [go_sem],by rw [aa];decide⟩ rfl (by simp only [go_sem]) (by simp only [go_sem]) ?_
   rintro _ _ ⟨rfl,rfl⟩
   simp only [go_sem]
   refine fF E [25,0] none (K.map i64) rfl ?_
   simp only [go_sem]
   obtain ⟨step,hst⟩:∃ step,step=fun (l:List Bi) (k:Int)=>cE ns m k.toNat r l:=⟨_,rfl⟩
   rw [← hst] at hR
   refine cM E (X:={ q:Nat × List Bi // q.1≤K.length∧q.2.length=ns.length∧(K.drop q.1).foldl step q.2=R }) (fun x=>[(0,.d (i64 i)),(1,.d (.sl (some 3) (r.map kD))),(2,.at [101] 0),(3,.at [102] 0),(4,.at [104] 0),(7,.at [7] 0),(25,.d (.sl none (K.map i64))),(26,.d (i64 K.length)),(27,.d (i64 x.1.1))])
    (fun x=>[([101],.box [.d (.sl (some 9) (ns.map enD))]),([102],.box [.vw [103] 0 ns.length]),([103],.arr (some 2) (x.1.2.map bD)),([104],.box [.clo 202 [.at [101] 0,.at [102] 0,.at [104] 0]]),([7],.box [.d (i64 n.k),.d (i64 n.a),.d (i64 n.b),.d (i64 n.c),.d (i64 n.n),.d (.str n.name),.d (.str n.s),.d (.sl (some 3) (n.l.map fD)),.d (i64 n.pos)])]) [7,101,102,103,104] (fun x=>K.length-x.1.1) ⟨(0,l0),Nat.zero_le _,h0l,hR⟩ ?_ ?_
   ·simp only [go_sem]
    all_goals first | rfl | exact ⟨rfl,rfl⟩
   rintro ⟨⟨q,lq⟩,hq,hql,hqR⟩ E0
   refine bb E0 fun Q' hQ E'=>?_
   simp only at hq hql hqR ⊢
   simp only [go_sem]
   refine ai E' (fun f1=>?_) (fun f1=>?_)<;>simp only [go_sem]
   ·have hq':q<K.length:=by omega
    have hkq:0≤K[q]∧K[q]<(i:Int):=by
     have:=List.all_eq_true.1 hki K[q] (List.getElem_mem hq')
     simpa [inB] using this
    refine ⟨⟨by omega,by omega⟩,?_⟩
    rw [bk hq',show K.getD q 0=K[q] by simp [hq']]
    obtain ⟨l2,h2,h2l,hc2⟩:=ih.get (r:=r) (l:=lq) hkq (by omega) hi hql (by omega)
    simp only [go_sem]
    refine ab E' _ _ _ hc2 rfl rfl ⟨by simp only [go_sem],by first | (rw [aa];decide) | (simp only [go_sem]<;>(try rw [aa])<;>decide)⟩ (by simp only [go_sem]) (by simp only [go_sem]) (by simp only [go_sem]) ?_
    rintro _ _ ⟨rfl,rfl⟩
    refine ⟨by simp only [go_sem];try omega,?_⟩
    simp only [go_sem]
    rw [ak ⟨by omega,by omega⟩,hQ]
    simp only [go_sem]
    refine ⟨⟨(q+1,l2),by show q+1≤_;omega,h2l,?_⟩,by show K.length-(q+1)<_;omega,?_⟩
    ·show (K.drop (q+1)).foldl step l2=R
     rw [← hqR,List.drop_eq_getElem_cons hq',List.foldl_cons,hst]
     simp only
     rw [h2]
    simp only [go_sem]
    first | rfl | exact ⟨rfl,rfl⟩
   ·rw [hQ]
    have h3:q=K.length:=by omega
    rw [List.drop_of_length_le (by omega)] at hqR
    have h4:lq=R:=hqR
    subst h4
    simp only [go_sem]
    refine ⟨_,_,[101,102,103,104],id,⟨rfl,rfl⟩,?_⟩
    simp only [go_sem]
def fo (ns:List EN):List Bi:=cE ns ns.length (ns.length-1) [] (List.replicate ns.length (0,0))
theorem fJ (ns:List EN):(fo ns).length=ns.length:=by unfold fo;rw [cZ,List.length_replicate]
theorem Gk {G} (ns:List EN) (h0:0<ns.length) (hN:ns.length≤1000000) (hs:∀ n∈ns,n.l.length≤1000000) (hk:∀ i,i<ns.length→(ah (ndE ns i)).all (inB i)=true) :
  HP Tryz.prog G 133 [exD ns] (fun q=>q=.d (.sl (some 2) ((fo ns).map bD))):=by
 have hc:=xx (G:=G) ns hN hs hk ns.length (ns.length-1) [] (List.replicate ns.length (0,0)) (by omega) (by omega) (by simp) (by simp;omega)
 obtain ⟨B,hB⟩:∃ B,B=fo ns:=⟨_,rfl⟩
 have hbl:=fJ ns
 rw [← hB] at hbl ⊢
 rw [show cE ns ns.length (ns.length-1) [] (List.replicate ns.length (0,0))=B from hB.symm] at hc
 unfold bA BO BU dp at hc
 have hc2:=HCall.sub (args:=[.d (i64 ((ns.length-1:Nat):Int)),.d .nils,.at [101] 0,.at [102] 0,.at [104] 0]) (args':=[.d (i64 ((ns.length-1:Nat):Int)),.d (.sl (some 3) []),.at [101] 0,.at [102] 0,.at [104] 0]) rfl (fun j x y hx hy=>by
  match j with
  | 1=>exact .inr ⟨some 3,(Option.some.inj hx).symm,(Option.some.inj hy).symm⟩
  | 0 | 2 | 3 | 4=>exact .inl (Option.some.inj (hx.symm.trans hy))
  | j+5=>cases hx) hc
 rw [show ((ns.length-1:Nat):Int)=(ns.length:Int)-1 by omega] at hc2
 unfold exD
 refine aR Tryz.func133 rfl (by decide +kernel) (by simp [Tryz.ntmps133]) (veil fun E=>?_)
 simp only [go_sem]
 refine ⟨⟨by omega,by omega,by omega,by omega⟩,?_⟩
 rw [ak ⟨by omega,by omega⟩]
 rw [show (D.agg [D.int IntKind.i64 0,D.int IntKind.i64 0])=bD (0,0) from rfl,← List.map_replicate]
 refine cL E (tau [([101],[1]),([102],[3]),([103],[8]),([104],[4])]) _ _ _ hc2 rfl (by simp only [go_sem];try rfl) ⟨by simp only [go_sem],by first | (rw [aa];decide) | (simp only [go_sem]<;>(try rw [aa])<;>decide)⟩ rfl (by simp only [go_sem];try rfl) (by simp only [go_sem]) ?_
 rintro _ _ ⟨rfl,rfl⟩
 refine ⟨by simp only [go_sem];try simp;try omega,?_⟩
 simp only [go_sem]
 refine ⟨[([8],some 2,B.map bD)],?_⟩
 simp only [go_sem]
 rw [List.take_of_length_le (by simp;omega)]
end Go.Proofs.YtejpnabbmgpmaaaGreat

namespace Go.Ab
section
variable {P:Program} {cf:Cf} {k:List It} {s:St} {Φ:Exit→Act→World→Prop} {I:Base→List Deferred→Prop}
theorem nf {B:Base} {β:Name→Option Blk} {tm:Array Value} {w:World} {all:Array Oper} {j gt:Nat} {gb:Bool} (hs:Sim B β s tm w) (hj:(all[j]?).bind (·.dst)=some gt) (hgt:s.fr gt=.d (.bool gb)):yielded all tm j=some gb:=by
 have hv:=hs.slots gt
 rw [hgt] at hv
 have hb:=hv.bool
 have hlt:gt<tm.size:=by
  rcases Nat.lt_or_ge gt tm.size with hlt | hge
  ·exact hlt
  ·simp [Array.getD_eq_getD_getElem?,Array.getElem?_eq_none hge] at hb;cases hb
 simp [Array.getD_eq_getD_getElem?,hlt] at hb
 simp [yielded,hj,Array.getElem?_eq_getElem hlt,hb]
theorem GG {all:Array Oper} {o:Oper} {r:List Oper} {j gt:Nat} {gb:Bool} (hg:o.guard=some (j,gb)) (hj:(all[j]?).bind (·.dst)=some gt) (hgt:s.fr gt=.d (.bool gb)) (h:(opR P.ti cf.n o.op o.dst s).run (fun s'=>ARY P cf Φ I (.ops all r::k) s') False):ARY P cf Φ I (.ops all (o::r)::k) s:=by
 intro B hB ds β a w hds hI hs l hl
 cases l with
 | nil=>simp at hl
 | cons i l =>
   simp only [List.map_cons,List.cons.injEq] at hl
   obtain ⟨hi,hl⟩:=hl
   have hw:Region.wanted o (yielded all a.tmps)=true:=by simp [Region.wanted,hg,nf hs hj hgt]
   simp only [wpOpsIn,hi,hw,if_true]
   rw [← hB.1] at h
   rcases eL hs h with hz | ⟨nx,v,w',s',β',hrun,hnx,hf,hs'⟩
   ·exact hz.elim
   ·have hnd:∀ c,o.op≠.defer c:=by
     intro c hc
     have:∃ d w2,(execOp a.eval o).run P w=.ok (.defer d) w2∨∃ h w2,(execOp a.eval o).run P w=.halt h w2:=by
      simp only [execOp,hc,Sem.run_bind]
      cases (resolve a.eval c o.type).run P w with
      | ok d w2=>exact ⟨d,w2,.inl rfl⟩
      | halt hh w2=>exact ⟨default,w2,.inr ⟨hh,w2,rfl⟩⟩
     obtain ⟨d,w2,h1 | ⟨hh,w3,h1⟩⟩:=this
     ·rw [hrun] at h1;cases h1;rcases hnx with h2 | ⟨h2,_⟩<;>cases h2
     ·rw [hrun] at h1;cases h1
    refine aE hnd hrun hnx (hf B hB ds β' _ w' ?_ hI hs' l hl)
    cases o.dst<;>exact hds
end
section
variable {P:Program} {cf:Cf} {N:Nat} {xs:Nat→List D} {z:Itz} {k:List It} {s:St}
theorem CE (hz:z.Ok P cf.G N xs) {Φ:Exit→Act→World→Prop} {n t:Nat} {all:Array Oper} {fv:Operand} {args:Array Operand} {at':Array TypeId} {ty:TypeId} {pos:String} {af:Array Edge} {r:List Oper} {j gt:Nat} {gb:Bool} (hj:(all[j]?).bind (·.dst)=some gt) (hgt:s.fr gt=.d (.bool gb))
  (hn:n<N) (ht:t<cf.n) (hev:ev s fv=.d (.yl z.l)) (hargs:args.toList.map (ev s)=(xs n).map .d)
  (h1:ARY P cf Φ (II z (n+1)) (.ops all r::k) (s.put t (.d (.bool true)))) (h2:ARY P cf Φ (IX z) (.ops all r::k) (s.put t (.d (.bool false)))) :
  ARY P cf Φ (II z n) (.ops all ({ dst:=some t,op:=.call { callee:=.value fv,args:=args,argTypes:=at' },type:=ty,pos:=pos,after:=af,guard:=some (j,gb) }::r)::k) s:=by
 intro B hB ds β a w hds hI hs l hl
 cases l with
 | nil=>simp at hl
 | cons i l =>
   simp only [List.map_cons,List.cons.injEq] at hl
   obtain ⟨hi,hl⟩:=hl
   have hw:(yielded all a.tmps j == some gb)=true:=by rw [nf hs hj hgt];simp
   simp only [wpOpsIn,hi,Region.wanted,hw,if_true]
   obtain ⟨C,X,W0,hW0,hJ,hst,hA,hX,hzw⟩:=IJ.stp hI hs
   have hJ':=hz.stab _ _ _ _ _ _ hJ hst
   have hf:=hs.ev fv
   rw [hev] at hf
   have hfv:a.eval fv=.func (.yield z.l) #[] #[]:=by
    have:=hf.toD
    generalize a.eval fv=v at this
    cases this;rfl
   have hlen:args.size=(xs n).length:=by simpa using congrArg List.length hargs
   have hrd:=hz.round n C (aL s β) w (args.map a.eval) hn hJ' (by simpa using hlen) (fun j d hj=>by
    have hx:(args.toList.map (ev s))[j]?=some (.d d):=by rw [hargs,List.getElem?_map,hj];rfl
    have:=(cq hs args.toList j _ hx).toD
    rw [show (args.map a.eval).getD j undef=(args.toList.map a.eval).toArray.getD j undef by simp [Array.getD_eq_getD_getElem?]]
    refine this.mono (fun _ _ _=>rfl) (fun b _ hb=>?_)
    rcases hb with hb | hb
    ·exact .inl ((hA b).2 hb)
    ·exact .inr hb)
   obtain ⟨fn,tmps,assign,body,hy,hrd⟩:=hrd
   refine ⟨fun _ _=>trivial,?_⟩
   have hrun:(execOp a.eval { dst:=some t,op:=.call { callee:=.value fv,args:=args,argTypes:=at' },type:=ty,pos:=pos,after:=af,guard:=some (j,gb) }:Sem Next).run P w=.ok (.round z.l fn tmps assign body) w:=by
    have e:(execOp a.eval { dst:=some t,op:=.call { callee:=.value fv,args:=args,argTypes:=at' },type:=ty,pos:=pos,after:=af,guard:=some (j,gb) }:Sem Next)=Instr.yield z.l (#[]++args.map a.eval++#[]):=by
     show (do let d ← (Deferred.ofValue (a.eval fv) (args.map a.eval));invoke d.target d.args:Sem Next)=_
     rw [hfv];rfl
    rw [e]
    simpa using hy
   rw [Oper.semAt_eq _ _ _ (by simp),hrun,Oper.uponIn_round]
   refine ⟨fun hdep=>by simp [dn] at hdep,?_⟩
   have hrd':RoundIn (Fw cf.ro) (0-1) P z.l fn tmps assign body w _:=hrd
   refine hrd'.mono ?_
   rintro e W' ⟨C',⟨c1,c2,c3,c4,c5⟩,hq⟩
   have hG':∀ q∈B.G,W'.heap[q.1]?=some q.2∧¬ aL s β q.1:=fun q hq=>by
    obtain ⟨g1,g2⟩:=B.hG q hq
    have hlt:=an g1
    refine ⟨(c4 q (by rw [← hB.2.2];exact hq)).trans ((hs.frame _ hlt g2).trans g1),fun hb=>?_⟩
    rcases (hs.bc hb).2.2 with g3 | g3
    ·omega
    ·exact g2 g3
   let B':Base:={ n:=B.n,io:=B.io,G:=B.G,H0:=W'.heap,O0:=aL s β,A:=C',U0:=B.U0,β0:=B.β0,hA:=fun b hb=>(c5 b hb).2,hG:=hG' }
   have hs':Sim B' β s a.tmps W':=by
    refine hs.mv rfl (c1.trans hs.io) (Nat.le_refl _) (fun _ _ _=>rfl) c2 (fun b hb hn=>c3 b hb (fun hc=>hn ((hA b).2 hc))) (fun b hb hc=>?_) (fun p k hp hk=>.inr ⟨p,k,hp,hk,rfl⟩) hs.us hs.stay
    rcases (c5 b hc).1 with h | h
    ·exact (hA b).2 h
    ·omega
   have hIJ:∀ J:(Nat→Prop)→(Nat→Prop)→World→Prop,J C' (aL s β) W'→IJ z J B' ds:=fun J hj=>⟨hI.1,C',_,W',rfl,c1.trans hs.io,hj,fun _=>Iff.rfl,fun _=>Iff.rfl,hX,Nat.le_trans hzw c2⟩
   rcases hq with ⟨rfl,hj⟩ | ⟨rfl,hj⟩
   ·exact h1 B' ⟨hB.1,hB.2.1,hB.2.2⟩ ds β (a.put (some t) (.bool true)) W' hds (hIJ _ hj) (hs'.put (by show t<B.n;rw [hB.1];exact ht) (.d _ _ (.bool _))) l hl
   ·exact h2 B' ⟨hB.1,hB.2.1,hB.2.2⟩ ds β (a.put (some t) (.bool false)) W' hds (hIJ _ ⟨_,hj⟩) (hs'.put (by show t<B.n;rw [hB.1];exact ht) (.d _ _ (.bool _))) l hl
end
end Go.Ab

namespace Go.Proofs.YtejpnabbmgpmaaaGreat
open Go.Ab
def dc (ns:List EN) (B:List Bi) (i:Nat):Bool:=decide ((ndE ns i).k=4) && decide ((B.getD i noB).1<0)
def iq (ns:List EN):List Nat:=(List.range ns.length).filter (dc ns (fo ns))
def jC (ns:List EN) (B:List Bi) (i:Nat):Nat:=((List.range i).filter (dc ns B)).length
theorem vB {ns:List EN} {B:List Bi} {i:Nat}:jC ns B (i+1)=jC ns B i+if dc ns B i then 1 else 0:=by
 unfold jC
 rw [List.range_succ,List.filter_append,List.length_append]
 by_cases h:dc ns B i<;>simp [h]
theorem pG:∀ {i n:Nat},i≤n→∃ r,List.range n=List.range i++r
 | i,n,h=>by
   obtain ⟨d,rfl⟩:∃ d,n=i+d:=⟨n-i,by omega⟩
   exact ⟨_,List.range_add⟩
theorem Aa {ns:List EN} {B:List Bi} {i n:Nat} (hi:i<n) (h:dc ns B i=true):jC ns B i<((List.range n).filter (dc ns B)).length∧((List.range n).filter (dc ns B)).getD (jC ns B i) 0=i:=by
 obtain ⟨r,hr⟩:=pG (i:=i+1) (n:=n) (by omega)
 have:(List.range n).filter (dc ns B)=(List.range i).filter (dc ns B)++i::r.filter (dc ns B):=by
  rw [hr,List.range_succ,List.append_assoc,List.filter_append,List.singleton_append,List.filter_cons,if_pos h]
 unfold jC
 rw [this]
 simp
theorem Hx {G} (ns:List EN):HP Tryz.prog G 81 [exD ns] (fun r=>r=.d (.clo 132 [.ptr (exD ns)])):=by
 have h:HCall Tryz.prog G 81 [.d (exD ns)] [] [] (fun r hp'=>r=.clo 132 [.at [1] 0]∧hp'=[([1],.box [.d (.sl (some 9) (ns.map enD))])]):=by
  unfold exD
  refine aq Tryz.func81 rfl (by decide +kernel) (by simp [Tryz.ntmps81]) (veil fun E=>?_)
  simp only [go_sem]
  refine ⟨_,_,[1],id,⟨rfl,rfl⟩,?_⟩
  simp only [go_sem]
 have h2:=HCall.fB (Q':=fun r hp'=>r=.d (.clo 132 [.ptr (exD ns)])∧hp'=[]) h [1] (exD ns) (by
  rintro r hp' ⟨rfl,rfl⟩
  refine ⟨rfl,rfl,?_,?_⟩
  ·simp only [go_sem]
  ·simp only [go_sem])
 exact h2.mono fun r hp' ⟨h1,h3⟩=>⟨h1,by rw [h1];rfl,h3⟩
theorem zi {B:List Bi} {i:Nat} (h:i<B.length):(B.map bD).getD i .nilp=.agg [i64 (B.getD i noB).1,i64 (B.getD i noB).2]:=by simp [h,bD]
def ud (ns:List EN) (n:Nat):List D:=[i64 ((iq ns).getD n 0:Nat)]
set_option maxHeartbeats 1000000 in
theorem EX {G} (ns:List EN) (h0:0<ns.length) (hN:ns.length≤1000000) (hs:∀ n∈ns,n.l.length≤1000000) (hk:∀ i,i<ns.length→(ah (ndE ns i)).all (inB i)=true) :
  ItC Tryz.prog G 132 [.ptr (exD ns)] (iq ns).length (ud ns):=by
 have hb:=Gk (G:=G) ns h0 hN hs hk
 have hbl:=fJ ns
 have hhit:∀ i,i<ns.length→dc ns (fo ns) i=true→jC ns (fo ns) i<(iq ns).length∧ud ns (jC ns (fo ns) i)=[i64 i]:=fun i hi h=>by
  obtain ⟨h1,h2⟩:=Aa hi h
  exact ⟨h1,by unfold ud iq;rw [h2]⟩
 have hlast:jC ns (fo ns) ns.length=(iq ns).length:=rfl
 obtain ⟨B,hB⟩:∃ B,B=fo ns:=⟨_,rfl⟩
 rw [← hB] at hb hbl hhit hlast
 unfold exD at hb
 refine rm Tryz.func132 rfl (by decide +kernel) (by simp [Tryz.ntmps132]) rfl fun z hz=>?_
 unfold exD
 refine aB (al fun E=>?_)
 simp only [go_sem]
 refine ae E hb rfl rfl (by simp) ?_
 rintro _ rfl
 simp only [go_sem]
 rw [hbl]
 refine dI (vh (X:={ i:Nat // i≤ns.length }) (fun x=>mk [(0,.d (.yl z.l)),(1,.d (.ptr (.agg [.sl (some 9) (ns.map enD)]))),(6,.d (.sl (some 2) (B.map bD))),(7,.d (i64 ns.length)),(8,.d (i64 x.1))] [] []) (fun x=>II z (jC ns B x.1)) (fun x=>ns.length-x.1) ⟨0,Nat.zero_le _⟩ ⟨id,LeL.le ?_⟩ (fun _ _ h=>h) ?_)
 ·simp only [go_sem]
  all_goals rfl
 rintro ⟨i,hi⟩
 simp only at hi ⊢
 generalize hΦ:lpY _ _ _ _ _ _ _ _=Φ'
 refine aB (al fun E=>?_)
 simp only [go_sem]
 refine aB (al fun E=>?_)
 simp only [go_sem]
 refine ai E (fun h1=>?_) (fun h1=>?_)<;>simp only [go_sem]
 ·have hi':i<ns.length:=by omega
  have hg:=aN hi'
  have hbg:=zi (B:=B) (i:=i) (by omega)
  have hstep:=vB (ns:=ns) (B:=B) (i:=i)
  have hh:=hhit i hi'
  unfold dc at hstep hh
  obtain ⟨n,hne⟩:∃ n,n=ndE ns i:=⟨_,rfl⟩
  obtain ⟨b,hbe⟩:∃ b,b=B.getD i noB:=⟨_,rfl⟩
  rw [← hne] at hg hstep hh
  rw [← hbe] at hbg hstep hh
  refine aB (dI (aB (al fun E=>?_)))
  simp only [go_sem]
  refine ⟨⟨by omega,by omega⟩,?_⟩
  rw [hbg]
  simp only [go_sem]
  by_cases hfr:n.k=4∧b.1<0
  ·have hft:(decide (n.k=4) && decide (b.1<0))=true:=by simp [hfr]
   obtain ⟨hlt,hxs⟩:=hh hft
   rw [hft,if_pos rfl] at hstep
   refine aB (fM (kR rfl ?_))
   simp only [go_sem]
   iterate 3
    refine kR rfl ?_
    simp only [go_sem]
   refine ⟨⟨by omega,by omega⟩,?_⟩
   rw [hg]
   iterate 4
    refine kR rfl ?_
    simp only [go_sem]
   rw [decide_eq_true hfr.1]
   iterate 3
    refine GG rfl rfl rfl ?_
    simp only [go_sem]
   rw [decide_eq_true hfr.2]
   iterate 2
    refine kR rfl ?_
    simp only [go_sem]
   iterate 2
    refine GG rfl rfl rfl ?_
    simp only [go_sem]
   refine CE hz rfl rfl hlt (by simp) rfl (by rw [hxs];rfl) ?_ ?_
   ·refine jb fun E=>?_
    simp only [go_sem]
    refine al fun E=>?_
    simp only [go_sem]
    refine mm (al fun E=>?_)
    simp only [go_sem]
    rw [ak ⟨by omega,by omega⟩]
    subst hΦ
    refine dW (show { i:Nat // i≤ns.length } from ⟨i+1,by omega⟩) ?_ id (LeL.le ?_) (fun _ _ h=>by rw [hstep];exact h)
    ·show ns.length-(i+1)<ns.length-i
     omega
    ·simp only [go_sem]
     rfl
   ·refine jb fun E=>?_
    simp only [go_sem]
    refine al fun E=>?_
    simp only [go_sem]
    subst hΦ
    exact gM (wo hz (.inr rfl))
  ·have hff:(decide (n.k=4) && decide (b.1<0))=false:=by
    rw [Bool.eq_false_iff]
    intro h
    simp only [Bool.and_eq_true,decide_eq_true_eq] at h
    exact hfr h
   rw [hff,if_neg (by decide)] at hstep
   refine aB (al fun E=>?_)
   simp only [go_sem]
   refine ⟨⟨by omega,by omega⟩,?_⟩
   rw [hg]
   simp only [go_sem]
   by_cases hk4:n.k=4
   ·have hb0:¬ b.1<0:=fun h=>hfr ⟨hk4,h⟩
    rw [decide_eq_true hk4]
    simp only [go_sem]
    rw [decide_eq_false hb0]
    simp only [go_sem]
    refine al fun E=>?_
    simp only [go_sem]
    refine mm (al fun E=>?_)
    simp only [go_sem]
    rw [ak ⟨by omega,by omega⟩]
    subst hΦ
    refine dW (show { i:Nat // i≤ns.length } from ⟨i+1,by omega⟩) ?_ id (LeL.le ?_) (fun _ _ h=>by rw [hstep];exact h)
    ·show ns.length-(i+1)<ns.length-i
     omega
    ·simp only [go_sem]
     rfl
   ·rw [decide_eq_false hk4]
    simp only [go_sem]
    refine al fun E=>?_
    simp only [go_sem]
    refine mm (al fun E=>?_)
    simp only [go_sem]
    rw [ak ⟨by omega,by omega⟩]
    subst hΦ
    refine dW (show { i:Nat // i≤ns.length } from ⟨i+1,by omega⟩) ?_ id (LeL.le ?_) (fun _ _ h=>by rw [hstep];exact h)
    ·show ns.length-(i+1)<ns.length-i
     omega
    ·simp only [go_sem]
     rfl
 ·subst hΦ
  refine iO ?_
  simp only [go_sem]
  refine xS ?_
  have:i=ns.length:=by omega
  subst this
  rw [hlast]
  exact rS hz (.inl rfl)
end Go.Proofs.YtejpnabbmgpmaaaGreat

namespace Go.Proofs.YtejpnabbmgpmaaaGreat
open Go.Ab
def bK (ns:List EN):Int × Int:=if bB ns=0 then (match iq ns with
 | []=>(0,0)
 | i::_=>((i:Int),10)) else (0,bB ns)
theorem av {ns:List EN} (h:a8 ns):∀ i,i<ns.length→(ah (ndE ns i)).all (inB i)=true:=fun i hi=>by
 have:=h.link i hi
 unfold dZ at this
 exact (Bool.and_eq_true_iff.1 this).1
theorem IF {P:Program} {cf:Cf} {Q:Exit→St→Prop} {fr:List (Nat × AV)} {k:List It} (E:Eng P cf Q) {o:Oper}:E.stp o (mk fr [([0],.map [])] []) k .no:=by
 rw [aK]
 intro B hB ds β a w hds hs Q'
 obtain ⟨⟨_,_,_,h⟩,_⟩:=hs.objs [0] _ rfl
 cases h
def Ht:St:=mk [(2,.at [2] 0),(3,.at [3] 0)] [([2],.box [.d (i64 0)]),([3],.box [.d (i64 0)])] [2,3]
set_option maxHeartbeats 1000000 in
theorem C6 {G} (ns:List EN) (hs:∀ n∈ns,fO BIG n) (hN:ns.length≤1000000) (hl:∀ n∈ns,n.l.length≤1000000):HP Tryz.prog G 41 [exD ns] (fun r=>r=.tup [.d (i64 (bK ns).1),.d (i64 (bK ns).2)]):=by
 have hm:=jO (G:=G) ns hs hN
 unfold bK
 by_cases h0:bB ns=0
 ·have ht:=Cw h0
  have hit:=EX (G:=G) ns ht.pos hN hl (av ht)
  have hfr:=Hx (G:=G) ns
  rw [if_pos h0]
  rw [h0] at hm
  refine gB Tryz.func41 rfl (by decide +kernel) (by simp [Tryz.ntmps41]) fun B0 hB0=>?_
  unfold exD at hm hfr ⊢
  refine aB (al fun E=>?_)
  simp only [go_sem]
  refine aB (al fun E=>?_)
  simp only [go_sem]
  refine ae E hm rfl rfl (by simp) ?_
  rintro _ rfl
  simp only [go_sem]
  refine aB (aB (al fun E=>?_))
  simp only [go_sem]
  refine ae E hfr rfl rfl (by simp) ?_
  rintro _ rfl
  simp only [go_sem]
  unfold exD at hit
  refine dI (mS rfl hit rfl (X:=Unit) (fun n _=>if n=0 then Ht else E9) (by simp) (fun n hn=>rfl) ⟨(),id,?_⟩ ?_ ?_)
  ·rw [if_pos rfl]
   refine LeL.le ?_
   simp only [go_sem]
   all_goals rfl
  ·rintro n ⟨⟩ hn lb
   by_cases hn0:n=0
   ·subst hn0
    simp only [if_true]
    obtain ⟨i,r,hir⟩:∃ i r,iq ns=i::r:=by
     cases hc:iq ns with
     | nil=>rw [hc] at hn;cases hn
     | cons i r=>exact ⟨i,r,rfl⟩
    unfold ud Ht
    rw [hir]
    rw [show ((i::r).getD 0 0)=i from rfl]
    refine veil fun E=>?_
    simp only [go_sem]
    refine CF fun E=>?_
    simp only [go_sem]
    refine CN ?_ (lA (.inl rfl) hB0 ?_)
    ·simp only [go_sem]
    ·simp only [go_sem]
     refine ⟨[],?_⟩
     simp only [go_sem]
   ·simp only [if_neg hn0]
    unfold E9 ud
    refine veil fun E=>?_
    simp only [go_sem]
    refine CF fun E=>?_
    simp only [go_sem]
    exact IF E
  ·rintro ⟨⟩
   by_cases hn0:(iq ns).length=0
   ·rw [hn0,if_pos rfl]
    rw [List.length_eq_zero_iff.1 hn0]
    refine mm ?_
    unfold Ht
    refine al fun E=>?_
    simp only [go_sem]
    refine lA (.inl rfl) hB0 ?_
    simp only [go_sem]
    refine ⟨[],?_⟩
    simp only [go_sem]
   ·rw [if_neg hn0]
    exact x9
 ·rw [if_neg h0]
  generalize bB ns=m at hm h0 ⊢
  unfold exD at hm ⊢
  refine gB Tryz.func41 rfl (by decide +kernel) (by simp [Tryz.ntmps41]) fun B0 hB0=>?_
  refine aB (al fun E=>?_)
  simp only [go_sem]
  refine aB (al fun E=>?_)
  simp only [go_sem]
  refine ae E hm rfl rfl (by simp) ?_
  rintro _ rfl
  simp only [go_sem]
  refine ai E (fun h1=>?_) (fun h1=>absurd h1 (by simpa using h0))<;>simp only [go_sem]
  refine lA (.inl rfl) hB0 ?_
  simp only [go_sem]
  refine ⟨[],?_⟩
  simp only [go_sem]
end Go.Proofs.YtejpnabbmgpmaaaGreat

namespace Go.Proofs.YtejpnabbmgpmaaaGreat
open Go.Ab
def yW (ks:List Int) (j:Nat) (p:List Int):List Int:=ks.foldl (fun p k=>p.set k.toNat (j:Int)) p
def px (ns:List EN):Nat→List Int
 | 0=>List.replicate ns.length 0
 | j+1=>yW (ah (ndE ns j)) j (px ns j)
def lh (ns:List EN):List Int:=(px ns ns.length).set (ns.length-1) (-1)
theorem DJ (ks:List Int) (j:Nat):∀ p:List Int,(yW ks j p).length=p.length:=by
 unfold yW
 induction ks with
 | nil=>intro p;rfl
 | cons k r ih=>intro p;rw [List.foldl_cons,ih,List.length_set]
theorem nV (ns:List EN):∀ j,(px ns j).length=ns.length
 | 0=>by simp [px]
 | j+1=>by rw [px,DJ,nV ns j]
def bG (n:EN) (k:Int) (nm:List UInt8):Int :=
 if (n.k=5∧n.name=nm)∨(n.k=7∧n.name=nm∧k=n.b)∨(n.k=8∧n.name=nm) then -1
 else if n.k=14 then (match (List.range n.l.length).find? (fun j=>decide ((fdE n.l j).to=k) && decide ((fdE n.l j).var=nm)) with
  | some j=>(j:Int)
  | none=>-2) else -2
end Go.Proofs.YtejpnabbmgpmaaaGreat

namespace Go.Proofs.YtejpnabbmgpmaaaGreat
open Go.Ab
theorem uf {j k:Nat}:∀ {ks p:List Int},k<p.length→(∀ x∈ks,0≤x)→(yW ks j p).getD k 0=if (k:Int)∈ks then (j:Int) else p.getD k 0
 | [],p,_,_=>by simp [yW]
 | x::r,p,hk,hx=>by
   show (yW r j (p.set x.toNat j)).getD k 0=_
   rw [uf (by rw [List.length_set];exact hk) (fun y hy=>hx y (List.mem_cons_of_mem _ hy))]
   have hx0:=hx x List.mem_cons_self
   by_cases h1:(k:Int)∈r
   ·rw [if_pos h1,if_pos (List.mem_cons_of_mem _ h1)]
   rw [if_neg h1]
   by_cases h2:(k:Int)=x
   ·rw [if_pos (by rw [h2];exact List.mem_cons_self)]
    have:x.toNat=k:=by omega
    rw [this]
    simp [hk]
   ·rw [if_neg (by simp [h1,h2])]
    have:x.toNat≠k:=by omega
    simp [List.getD_eq_getElem?_getD,List.getElem?_set_ne this]
theorem ax {ns:List EN} (hk:∀ i,i<ns.length→(ah (ndE ns i)).all (inB i)=true) {i:Nat} (hi:i<ns.length):∀ x∈ah (ndE ns i),0≤x∧x<(i:Int):=fun x hx=>by
 have:=List.all_eq_true.1 (hk i hi) x hx
 simpa [inB] using this
theorem sF {ns:List EN} (hk:∀ i,i<ns.length→(ah (ndE ns i)).all (inB i)=true) {k:Nat} (h:k<ns.length):∀ i,i≤ns.length→(∀ j,j<i→(k:Int) ∉ ah (ndE ns j))∨∃ j:Nat,j<i∧(k:Int)∈ah (ndE ns j)∧(px ns i).getD k 0=(j:Int)
 | 0,_=>.inl fun j hj=>absurd hj (Nat.not_lt_zero _)
 | i+1,hi=>by
   have hg:(px ns (i+1)).getD k 0=if (k:Int)∈ah (ndE ns i) then (i:Int) else (px ns i).getD k 0:=uf (by rw [nV];exact h) (fun x hx=>(ax hk (by omega) x hx).1)
   by_cases h1:(k:Int)∈ah (ndE ns i)
   ·rw [if_pos h1] at hg
    exact .inr ⟨i,by omega,h1,hg⟩
   ·rw [if_neg h1] at hg
    rcases sF hk h i (by omega) with h2 | ⟨j,h2,h3,h4⟩
    ·refine .inl fun j hj=>?_
     rcases Nat.lt_or_ge j i with h3 | h3
     ·exact h2 j h3
     ·rw [show j=i by omega];exact h1
    ·exact .inr ⟨j,by omega,h3,hg.trans h4⟩
theorem ky {ns:List EN} (ht:a8 ns) {k:Nat} (h:k<ns.length):(k=ns.length-1∧(lh ns).getD k 0 = -1)∨∃ j:Nat,k<j∧j<ns.length∧(k:Int)∈ah (ndE ns j)∧(lh ns).getD k 0=(j:Int):=by
 have hk:=av ht
 unfold lh
 by_cases hl:k=ns.length-1
 ·refine .inl ⟨hl,?_⟩
  rw [← hl]
  simp [List.getD_eq_getElem?_getD,nV,h]
 refine .inr ?_
 have hne:ns.length-1≠k:=fun e=>hl e.symm
 rw [show ((px ns ns.length).set (ns.length-1) (-1)).getD k 0=(px ns ns.length).getD k 0 by
  simp [List.getD_eq_getElem?_getD,List.getElem?_set_ne hne]]
 rcases sF hk h ns.length (Nat.le_refl _) with h2 | ⟨j,h2,h3,h4⟩
 ·exfalso
  have hc:=List.all_eq_true.1 ht.once k (by simp;omega)
  have hc2:pd ns k=1:=by simpa using hc
  unfold pd at hc2
  obtain ⟨x,hx,hxk⟩:=List.countP_pos_iff.1 (by omega:0<List.countP (fun x=>decide (x=(k:Int))) (ns.flatMap ah))
  obtain ⟨n,hn,hxn⟩:=List.mem_flatMap.1 hx
  obtain ⟨j,hj,hjn⟩:=List.getElem_of_mem hn
  have hxk2:x=(k:Int):=by simpa using hxk
  refine h2 j hj ?_
  rw [bd hj,hjn,← hxk2]
  exact hxn
 ·exact ⟨j,by have:=(ax hk h2 _ h3).2;omega,h2,h3,h4⟩
end Go.Proofs.YtejpnabbmgpmaaaGreat

namespace Go.Proofs.YtejpnabbmgpmaaaGreat
open Go.Ab
def climb (ns:List EN) (p:List Int) (nm:List UInt8):Nat→Int→Int→Bi
 | 0,_,_=>noB
 | m+1,c,j=>if j<0 then noB else if bG (ndE ns j.toNat) c nm > -2 then (j,bG (ndE ns j.toNat) c nm) else climb ns p nm m j (p.getD j.toNat 0)
def fy (ns:List EN) (i:Nat):Bi:=if (ndE ns i).k=4 then climb ns (lh ns) (ndE ns i).name ns.length i ((lh ns).getD i 0) else noB
def nQ (ns:List EN):List Bi:=(List.range ns.length).map (fy ns)
theorem yK (ns:List EN):(nQ ns).length=ns.length:=by unfold nQ;simp
end Go.Proofs.YtejpnabbmgpmaaaGreat

namespace Go.Proofs.YtejpnabbmgpmaaaGreat
open Go.Ab
def lZ (ns:List EN):Int:=match (List.range ns.length).find? (fun i=>decide ((ndE ns i).k=4) && decide ((fy ns i).1<0)) with
 | some i=>(i:Int)
 | none=>-1
end Go.Proofs.YtejpnabbmgpmaaaGreat

namespace Go.Proofs.YtejpnabbmgpmaaaGreat
open Go.Ab
theorem ml {α:Type} {l:List α} {f:α→List Int} {p:Int→Bool} {j:Nat} (hj:j<l.length):(l.flatMap f).countP p=((l.take j).flatMap f).countP p+((f l[j]).countP p+((l.drop (j+1)).flatMap f).countP p):=by
 have:l.flatMap f=(l.take j).flatMap f++(f l[j]++(l.drop (j+1)).flatMap f):=by
  rw [← List.flatMap_cons,← List.drop_eq_getElem_cons hj,← List.flatMap_append,List.take_append_drop]
 rw [this,List.countP_append,List.countP_append]
theorem xQ {ns:List EN} (ht:a8 ns) {k:Nat} (h:k<ns.length-1):pd ns k=1:=by
 have hc:=List.all_eq_true.1 ht.once k (by simp;omega)
 simpa using hc
theorem kN {ns:List EN} (ht:a8 ns) {i k:Nat} (hi:i<ns.length) (h:k<ns.length-1):(ah (ndE ns i)).countP (fun x=>decide (x=(k:Int)))≤1:=by
 have h1:=xQ ht h
 unfold pd at h1
 rw [ml hi,← bd hi] at h1
 omega
theorem yD {ns:List EN} (ht:a8 ns) {i j k:Nat} (hi:i<j) (hj:j<ns.length) (h1:(k:Int)∈ah (ndE ns i)) (h2:(k:Int)∈ah (ndE ns j)):False:=by
 have hk:=(ax (av ht) (show i<ns.length by omega) _ h1).2
 have h3:=xQ ht (k:=k) (by omega)
 unfold pd at h3
 rw [ml hj,← bd hj] at h3
 have h4:0<((ns.take j).flatMap ah).countP (fun x=>decide (x=(k:Int))):=by
  refine List.countP_pos_iff.2 ⟨k,List.mem_flatMap.2 ⟨ndE ns i,?_,h1⟩,by simp⟩
  rw [bd (show i<ns.length by omega)]
  exact List.mem_take_iff_getElem.2 ⟨i,by omega,rfl⟩
 have h5:0<(ah (ndE ns j)).countP (fun x=>decide (x=(k:Int))):=List.countP_pos_iff.2 ⟨k,h2,by simp⟩
 omega
theorem kJ {ns:List EN} (ht:a8 ns) {i k:Nat} (hi:i<ns.length) (h:(k:Int)∈ah (ndE ns i)):(lh ns).getD k 0=(i:Int):=by
 have hk:=(ax (av ht) hi _ h).2
 rcases ky ht (k:=k) (by omega) with ⟨h1,_⟩ | ⟨j,_,h2,h3,h4⟩
 ·omega
 ·rw [h4]
  rcases Nat.lt_trichotomy i j with h5 | h5 | h5
  ·exact (yD ht h5 h2 h h3).elim
  ·rw [h5]
  ·exact (yD ht h5 hi h3 h).elim
def Sees (ns:List EN) (i:Nat) (r:Reach):Prop:=∀ nm m,ns.length≤i+m+1→climb ns (lh ns) nm m i ((lh ns).getD i 0)=cB r nm
theorem Sees.root {ns:List EN} (ht:a8 ns):Sees ns (ns.length-1) []:=fun nm m hm=>by
 have hp:=ht.pos
 rcases ky ht (k:=ns.length-1) (by omega) with ⟨_,h⟩ | ⟨j,h1,h2,_⟩
 ·rw [h]
  cases m with
  | zero=>rfl
  | succ m=>unfold climb;rw [if_pos (by decide)];rfl
 ·omega
theorem Sees.kid {ns:List EN} (ht:a8 ns) {i k:Nat} {r r':Reach} (hs:Sees ns i r) (hi:i<ns.length) (h:(k:Int)∈ah (ndE ns i))
  (hb:∀ nm,cB r' nm=if bG (ndE ns i) k nm > -2 then ((i:Int),bG (ndE ns i) k nm) else cB r nm):Sees ns k r':=fun nm m hm=>by
 have hk:=(ax (av ht) hi _ h).2
 rw [kJ ht hi h,hb nm]
 cases m with
 | zero=>omega
 | succ m =>
   unfold climb
   rw [if_neg (by omega)]
   simp only [Int.toNat_natCast]
   rw [hs nm m (by omega)]
end Go.Proofs.YtejpnabbmgpmaaaGreat

namespace Go.Proofs.YtejpnabbmgpmaaaGreat
open Go.Ab
theorem zt {ns:List EN} {i:Nat} {r:Reach} (hs:Sees ns i r):fy ns i=if (ndE ns i).k=4 then cB r (ndE ns i).name else noB:=by
 unfold fy
 split
 ·exact hs _ _ (by omega)
 ·rfl
theorem lX {α:Type} {n q:Nat} {v:Bi} {S:α→Prop} {step:List Bi→α→List Bi} (hlen:∀ l a,(step l a).length=l.length) :
  ∀ (xs:List α),(∀ a∈xs,∀ l,l.length=n→(l.getD q noB=v∨S a)→(step l a).getD q noB=v)→∀ l:List Bi,l.length=n→(l.getD q noB=v∨∃ a∈xs,S a)→(xs.foldl step l).getD q noB=v
 | [],_,l,_,h=>by
   rcases h with h | ⟨a,ha,_⟩
   ·exact h
   ·cases ha
 | x::r,hs,l,hl,h=>by
   rw [List.foldl_cons]
   refine lX hlen r (fun a ha=>hs a (List.mem_cons_of_mem _ ha)) _ (by rw [hlen,hl]) ?_
   rcases h with h | ⟨a,ha,h⟩
   ·exact .inl (hs x List.mem_cons_self l hl (.inl h))
   ·rcases List.mem_cons.1 ha with rfl | ha
    ·exact .inl (hs _ List.mem_cons_self l hl (.inr h))
    ·exact .inr ⟨a,ha,h⟩
theorem eD {ns:List EN} {m:Nat} {i x:Int}:x∈aJ ns (m+1) i↔(∃ k∈ah (ndE ns i.toNat),x∈aJ ns m k)∨x=i:=by
 show x∈(ah (ndE ns i.toNat)).flatMap (aJ ns m)++[i]↔_
 rw [List.mem_append,List.mem_flatMap,List.mem_singleton]
theorem kE {n:EN} {k:Int} {nm:List UInt8} (h5:n.k≠5) (h7:n.k=7→k≠n.b) (h8:n.k≠8) (h14:n.k=14→∀ j,j<n.l.length→(fdE n.l j).to≠k):bG n k nm = -2:=by
 unfold bG
 rw [if_neg (by
  rintro (⟨a,_⟩ | ⟨a,_,b⟩ | ⟨a,_⟩)
  ·exact h5 a
  ·exact h7 a b
  ·exact h8 a)]
 split
 ·rename_i h
  rw [show (List.range n.l.length).find? (fun j=>decide ((fdE n.l j).to=k) && decide ((fdE n.l j).var=nm))=none from List.find?_eq_none.2 fun j hj=>by
   simp [h14 h j (List.mem_range.1 hj)]]
 ·rfl
theorem nG {n:EN} {k:Int} {nm:List UInt8} (h:n.k=5∨(n.k=7∧k=n.b)∨n.k=8):bG n k nm=if n.name=nm then -1 else -2:=by
 unfold bG
 by_cases hn:n.name=nm
 ·have hc:(n.k=5∧n.name=nm)∨(n.k=7∧n.name=nm∧k=n.b)∨(n.k=8∧n.name=nm):=by
   rcases h with a | ⟨a,b⟩ | a
   ·exact .inl ⟨a,hn⟩
   ·exact .inr (.inl ⟨a,hn,b⟩)
   ·exact .inr (.inr ⟨a,hn⟩)
  rw [if_pos hc,if_pos hn]
 ·rw [if_neg (by rintro (⟨_,a⟩ | ⟨_,a,_⟩ | ⟨_,a⟩)<;>exact hn a),if_neg hn,if_neg (by omega)]
theorem oR {ns:List EN} {i:Nat} {k:Int} {r:Reach} {nm:List UInt8} (h:(ndE ns i).k=5∨((ndE ns i).k=7∧k=(ndE ns i).b)∨(ndE ns i).k=8) :
  cB (r++[((ndE ns i).name,(i:Int),-1)]) nm=if bG (ndE ns i) k nm > -2 then ((i:Int),bG (ndE ns i) k nm) else cB r nm:=by
 rw [jV,nG h]
 by_cases hn:(ndE ns i).name=nm
 ·rw [if_pos hn,if_pos hn,if_pos (by decide)]
 ·rw [if_neg hn,if_neg hn,if_neg (by decide)]
theorem qN {ns:List EN} {i:Nat} {k:Int} {r:Reach} {nm:List UInt8} (h5:(ndE ns i).k≠5) (h7:(ndE ns i).k=7→k≠(ndE ns i).b) (h8:(ndE ns i).k≠8) (h14:(ndE ns i).k=14→∀ j,j<(ndE ns i).l.length→(fdE (ndE ns i).l j).to≠k) :
  cB r nm=if bG (ndE ns i) k nm > -2 then ((i:Int),bG (ndE ns i) k nm) else cB r nm:=by
 rw [kE h5 h7 h8 h14,if_neg (by decide)]
end Go.Proofs.YtejpnabbmgpmaaaGreat

namespace Go.Proofs.YtejpnabbmgpmaaaGreat
open Go.Ab
theorem j7 {L:List Int} {x:Int} (h:L.countP (fun y=>decide (y=x))≤1) {j j':Nat} (hjj:j<j') (h1:L[j]?=some x) (h2:L[j']?=some x):False:=by
 have h3:L.countP (fun y=>decide (y=x))=(L.take j').countP (fun y=>decide (y=x))+(L.drop j').countP (fun y=>decide (y=x)):=by
  rw [← List.countP_append,List.take_append_drop]
 obtain ⟨hl2,he2⟩:=List.getElem?_eq_some_iff.1 h2
 obtain ⟨hl1,he1⟩:=List.getElem?_eq_some_iff.1 h1
 have h4:0<(L.take j').countP (fun y=>decide (y=x)):=List.countP_pos_iff.2 ⟨x,List.mem_take_iff_getElem.2 ⟨j,by omega,he1⟩,by simp⟩
 have h5:0<(L.drop j').countP (fun y=>decide (y=x)):=List.countP_pos_iff.2 ⟨x,by rw [List.drop_eq_getElem_cons hl2,he2];exact List.mem_cons_self,by simp⟩
 omega
theorem oN {n:EN} (h:n.k=14):ah n=n.a::n.l.map (·.to):=by unfold ah aH aw;simp [h]
theorem ry {n:EN} {j:Nat} (h:n.k=14) (hj:j<n.l.length):(ah n)[j+1]?=some (fdE n.l j).to:=by
 rw [oN h]
 simp [fdE,hj]
theorem Dh {ns:List EN} (ht:a8 ns) {i j:Nat} {r:Reach} {nm:List UInt8} (hi:i<ns.length) (h:(ndE ns i).k=14) (hj:j<(ndE ns i).l.length) :
  cB (r++[((fdE (ndE ns i).l j).var,(i:Int),(j:Int))]) nm=if bG (ndE ns i) (fdE (ndE ns i).l j).to nm > -2 then ((i:Int),bG (ndE ns i) (fdE (ndE ns i).l j).to nm) else cB r nm:=by
 have hka:=ry h hj
 have hkm:(fdE (ndE ns i).l j).to∈ah (ndE ns i):=List.mem_of_getElem? hka
 obtain ⟨hn0,hn1⟩:=ax (av ht) hi _ hkm
 have hon:=kN ht (k:=(fdE (ndE ns i).l j).to.toNat) hi (by omega)
 rw [Int.toNat_of_nonneg hn0] at hon
 have hne:∀ j',j' < (ndE ns i).l.length→(fdE (ndE ns i).l j').to=(fdE (ndE ns i).l j).to→j'=j:=fun j' hj' he=>by
  have hk2:=ry h hj'
  rw [he] at hk2
  rcases Nat.lt_trichotomy j j' with h1 | h1 | h1
  ·exact (j7 hon (show j+1<j'+1 by omega) hka hk2).elim
  ·exact h1.symm
  ·exact (j7 hon (show j'+1<j+1 by omega) hk2 hka).elim
 rw [jV]
 generalize ndE ns i=n at *
 have hb:bG n (fdE n.l j).to nm=if (fdE n.l j).var=nm then (j:Int) else -2:=by
  unfold bG
  rw [if_neg (by rintro (⟨a,_⟩ | ⟨a,_,_⟩ | ⟨a,_⟩)<;>omega),if_pos h]
  by_cases hv:(fdE n.l j).var=nm
  ·rw [if_pos hv]
   obtain ⟨rr,hrr⟩:=pG (i:=j+1) (n:=n.l.length) (by omega)
   rw [hrr,List.range_succ,List.append_assoc,List.find?_append,List.find?_eq_none.2 (fun j' hj'=>by
    have hlt:=List.mem_range.1 hj'
    have:(fdE n.l j').to≠(fdE n.l j).to:=fun e=>by have:=hne j' (by omega) e;omega
    simp [this]),List.singleton_append,List.find?_cons]
   simp [hv]
  ·rw [if_neg hv,List.find?_eq_none.2 (fun j' hj'=>by
    have hlt:=List.mem_range.1 hj'
    by_cases e:(fdE n.l j').to=(fdE n.l j).to
    ·have:=hne j' hlt e
     subst this
     simp [hv]
    ·simp [e])]
 rw [hb]
 by_cases hv:(fdE n.l j).var=nm
 ·rw [if_pos hv,if_pos hv,if_pos (by omega)]
 ·rw [if_neg hv,if_neg hv,if_neg (by decide)]
end Go.Proofs.YtejpnabbmgpmaaaGreat

namespace Go.Proofs.YtejpnabbmgpmaaaGreat
open Go.Ab
theorem vW {l:List Bi} {i q:Nat} {v:Bi} (hi:i<l.length):(l.set i v).getD q noB=if q=i then v else l.getD q noB:=by
 by_cases h:q=i
 ·subst h
  rw [if_pos rfl]
  simp [hi]
 ·rw [if_neg h]
  have h2:i≠q:=fun e=>h e.symm
  simp [List.getD_eq_getElem?_getD,List.getElem?_set_ne h2]
theorem pZ {ns:List EN} (ht:a8 ns):∀ (m i:Nat) (r:Reach) (l:List Bi),i<m→i<ns.length→l.length=ns.length→Sees ns i r→∀ q,q<ns.length→(l.getD q noB=fy ns q∨(q:Int)∈aJ ns m i)→(cE ns m i r l).getD q noB=fy ns q
 | 0,_,_,_,h,_,_,_,_,_,_=>absurd h (Nat.not_lt_zero _)
 | m+1,i,r,l,him,hi,hl,hs,q,hq,hg=>by
   have ih:=pZ ht m
   have hkn:=ax (av ht) hi
   have hrs:=zt hs
   have kid:∀ (a:Int) (r':Reach) (l':List Bi),a∈ah (ndE ns i)→l'.length=ns.length→(∀ nm,cB r' nm=if bG (ndE ns i) a nm > -2 then ((i:Int),bG (ndE ns i) a nm) else cB r nm)→(l'.getD q noB=fy ns q∨(q:Int)∈aJ ns m a)→(cE ns m a.toNat r' l').getD q noB=fy ns q:=by
    intro a r' l' ha hl' hf hgd
    obtain ⟨h1,h2⟩:=hkn a ha
    obtain ⟨k,rfl⟩:∃ k:Nat,a=(k:Int):=⟨a.toNat,by omega⟩
    rw [Int.toNat_natCast]
    exact ih k r' l' (by omega) (by omega) hl' (hs.kid ht hi ha hf) q hq hgd
   rw [eD] at hg
   simp only [Int.toNat_natCast] at hg
   have hg2:(l.getD q noB=fy ns q∨q=i)∨∃ k∈ah (ndE ns i),(q:Int)∈aJ ns m k:=by
    rcases hg with h | h | h
    ·exact .inl (.inl h)
    ·exact .inr h
    ·exact .inl (.inr (by omega))
   have h0l:(l.set i noB).length=ns.length:=by rw [List.length_set,hl]
   have h0:(ndE ns i).k≠4→(l.getD q noB=fy ns q∨q=i)→(l.set i noB).getD q noB=fy ns q:=by
    intro h4 h
    rw [vW (by omega)]
    by_cases hqi:q=i
    ·rw [if_pos hqi,hqi,hrs,if_neg h4]
    ·rw [if_neg hqi]
     exact h.resolve_right hqi
   have hkd:ah (ndE ns i)=[(ndE ns i).a,(ndE ns i).b,(ndE ns i).c].take (aH (ndE ns i).k)++(if aw (ndE ns i).k then (ndE ns i).l.map (·.to) else []):=rfl
   unfold cE
   simp only
   by_cases h4:(ndE ns i).k=4
   ·rw [if_pos h4,vW (by omega)]
    by_cases hqi:q=i
    ·rw [if_pos hqi,hqi,hrs,if_pos h4]
    ·rw [if_neg hqi,vW (by omega),if_neg hqi]
     rcases hg2 with h | ⟨k,hk,_⟩
     ·exact h.resolve_right hqi
     ·rw [hkd,h4] at hk
      simp [aH,aw] at hk
   have hg3:(l.set i noB).getD q noB=fy ns q∨∃ k∈ah (ndE ns i),(q:Int)∈aJ ns m k:=hg2.imp (h0 h4) id
   rw [if_neg h4]
   by_cases h5:(ndE ns i).k=5
   ·rw [if_pos h5]
    have hke:ah (ndE ns i)=[(ndE ns i).a]:=by rw [hkd,h5];simp [aH,aw]
    refine kid _ _ _ (by rw [hke];exact List.mem_singleton_self _) h0l (fun nm=>oR (.inl h5)) (hg3.imp id fun ⟨k,hk,hb⟩=>?_)
    rw [hke,List.mem_singleton] at hk
    rw [← hk];exact hb
   rw [if_neg h5]
   by_cases h7:(ndE ns i).k=7
   ·rw [if_pos h7]
    have hke:ah (ndE ns i)=[(ndE ns i).a,(ndE ns i).b]:=by rw [hkd,h7];simp [aH,aw]
    have ham:(ndE ns i).a∈ah (ndE ns i):=by rw [hke];simp
    have hab:(ndE ns i).a≠(ndE ns i).b:=by
     intro e
     obtain ⟨h1,h2⟩:=hkn _ ham
     have hon:=kN ht (k:=(ndE ns i).a.toNat) hi (by omega)
     rw [Int.toNat_of_nonneg h1] at hon
     exact j7 hon (j:=0) (j':=1) (by omega) (by rw [hke];rfl) (by rw [hke,e];rfl)
    refine kid _ _ _ (by rw [hke];simp) (by rw [cZ,h0l]) (fun nm=>oR (.inr (.inl ⟨h7,rfl⟩))) ?_
    rcases hg3 with h | ⟨k,hk,hb⟩
    ·exact .inl (kid _ _ _ ham h0l (fun nm=>qN h5 (fun _=>hab) (by omega) (fun h=>by omega)) (.inl h))
    ·rw [hke] at hk
     rcases List.mem_cons.1 hk with rfl | hk
     ·exact .inl (kid _ _ _ ham h0l (fun nm=>qN h5 (fun _=>hab) (by omega) (fun h=>by omega)) (.inr hb))
     ·rw [List.mem_singleton] at hk
      exact .inr (by rw [← hk];exact hb)
   rw [if_neg h7]
   by_cases h8:(ndE ns i).k=8
   ·rw [if_pos h8]
    have hke:ah (ndE ns i)=[(ndE ns i).a,(ndE ns i).b]:=by rw [hkd,h8];simp [aH,aw]
    have ham:(ndE ns i).a∈ah (ndE ns i):=by rw [hke];simp
    refine kid _ _ _ (by rw [hke];simp) (by rw [cZ,h0l]) (fun nm=>oR (.inr (.inr h8))) ?_
    rcases hg3 with h | ⟨k,hk,hb⟩
    ·exact .inl (kid _ _ _ ham h0l (fun nm=>oR (.inr (.inr h8))) (.inl h))
    ·rw [hke] at hk
     rcases List.mem_cons.1 hk with rfl | hk
     ·exact .inl (kid _ _ _ ham h0l (fun nm=>oR (.inr (.inr h8))) (.inr hb))
     ·rw [List.mem_singleton] at hk
      exact .inr (by rw [← hk];exact hb)
   rw [if_neg h8]
   by_cases h14:(ndE ns i).k=14
   ·rw [if_pos h14]
    have hke:=oN h14
    have ham:(ndE ns i).a∈ah (ndE ns i):=by rw [hke];exact List.mem_cons_self
    have han:∀ j,j<(ndE ns i).l.length→(fdE (ndE ns i).l j).to≠(ndE ns i).a:=by
     intro j hj e
     obtain ⟨h1,h2⟩:=hkn _ ham
     have hon:=kN ht (k:=(ndE ns i).a.toNat) hi (by omega)
     rw [Int.toNat_of_nonneg h1] at hon
     exact j7 hon (j:=0) (j':=j+1) (by omega) (by rw [hke];rfl) (by rw [ry h14 hj,e])
    have ha:=fun h=>kid _ _ _ ham h0l (fun nm=>qN (r:=r) h5 (fun h=>absurd h h7) h8 (fun _=>han)) h
    refine lX (n:=ns.length) (S:=fun j=>(q:Int)∈aJ ns m (fdE (ndE ns i).l j).to) (fun l a=>cZ _ _ _ _ _) _ (fun j hj l' hl' hgd=>?_) _ (by rw [cZ,h0l]) ?_
    ·have hjl:=List.mem_range.1 hj
     exact kid _ _ _ (List.mem_of_getElem? (ry h14 hjl)) hl' (fun nm=>Dh ht hi h14 hjl) hgd
    ·rcases hg3 with h | ⟨k,hk,hb⟩
     ·exact .inl (ha (.inl h))
     ·rw [hke] at hk
      rcases List.mem_cons.1 hk with rfl | hk
      ·exact .inl (ha (.inr hb))
      ·obtain ⟨j,hj,hjk⟩:=List.getElem_of_mem hk
       have hjl:j<(ndE ns i).l.length:=by simpa using hj
       refine .inr ⟨j,List.mem_range.2 hjl,?_⟩
       have:(fdE (ndE ns i).l j).to=k:=by rw [← hjk];simp [fdE,hjl]
       rw [this];exact hb
   rw [if_neg h14]
   exact lX (n:=ns.length) (S:=fun k=>(q:Int)∈aJ ns m k) (fun l a=>cZ _ _ _ _ _) _ (fun k hk l' hl' hgd=>kid _ _ _ hk hl' (fun nm=>qN h5 (fun h=>absurd h h7) h8 (fun h=>absurd h h14)) hgd) _ h0l hg3
end Go.Proofs.YtejpnabbmgpmaaaGreat

namespace Go.Proofs.YtejpnabbmgpmaaaGreat
open Go.Ab
theorem nH {ns:List EN} (hk:∀ i,i<ns.length→(ah (ndE ns i)).all (inB i)=true) {j:Nat} {x:Int} (hx:x∈ah (ndE ns j)):∀ (m i:Nat),i<m→i<ns.length→(j:Int)∈aJ ns m i→x∈aJ ns m i
 | 0,_,h,_,_=>absurd h (Nat.not_lt_zero _)
 | m+1,i,him,hi,hj=>by
   rw [eD] at hj ⊢
   simp only [Int.toNat_natCast] at hj ⊢
   rcases hj with ⟨c,hc,hjc⟩ | hj
   ·obtain ⟨h1,h2⟩:=ax hk hi c hc
    obtain ⟨c,rfl⟩:∃ k:Nat,c=(k:Int):=⟨c.toNat,by omega⟩
    exact .inl ⟨_,hc,nH hk hx m c (by omega) (by omega) hjc⟩
   ·have:j=i:=by omega
    subst this
    refine .inl ⟨x,hx,?_⟩
    obtain ⟨h1,h2⟩:=ax hk hi x hx
    cases m with
    | zero=>omega
    | succ m=>exact eD.2 (.inr rfl)
theorem rj {ns:List EN} (ht:a8 ns):∀ (d k:Nat),ns.length-1-k≤d→k<ns.length→(k:Int)∈aJ ns ns.length ((ns.length-1:Nat):Int)
 | d,k,hd,hkn=>by
   have hp:=ht.pos
   rcases ky ht hkn with ⟨h1,_⟩ | ⟨j,h1,h2,h3,_⟩
   ·obtain ⟨n,hn⟩:∃ n,ns.length=n+1:=⟨ns.length-1,by omega⟩
    rw [hn]
    exact eD.2 (.inr (by omega))
   ·cases d with
    | zero=>omega
    | succ d=>exact nH (av ht) h3 _ _ (by omega) (by omega) (rj ht d j (by omega) h2)
theorem y4 {ns:List EN} (ht:a8 ns):fo ns=nQ ns:=by
 have hp:=ht.pos
 refine List.ext_getElem (by rw [fJ,yK]) fun q h1 h2=>?_
 rw [fJ] at h1
 have h:=pZ ht ns.length (ns.length-1) [] (List.replicate ns.length (0,0)) (by omega) (by omega) (by simp) (.root ht) q h1 (.inr (rj ht _ q (Nat.le_refl _) h1))
 have h3:(fo ns).getD q noB=(fo ns)[q]:=by simp [fJ,h1]
 have h4:(nQ ns)[q]=fy ns q:=by simp [nQ]
 rw [← h3,h4]
 exact h
theorem head_filter {α:Type} (p:α→Bool):∀ l:List α,(l.filter p).head?=l.find? p
 | []=>rfl
 | x::r=>by
   rw [List.filter_cons,List.find?_cons]
   cases h:p x
   ·simp
   ·simp
theorem CS {ns:List EN} (ht:a8 ns):(iq ns).head?=(List.range ns.length).find? (fun i=>decide ((ndE ns i).k=4) && decide ((fy ns i).1<0)):=by
 unfold iq
 rw [head_filter]
 have:∀ i∈List.range ns.length,dc ns (fo ns) i=(decide ((ndE ns i).k=4) && decide ((fy ns i).1<0)):=fun i hi=>by
  have hin:=List.mem_range.1 hi
  unfold dc
  rw [y4 ht]
  rw [show (nQ ns).getD i noB=fy ns i by simp [nQ,hin]]
 have key:∀ (l:List Nat) (p q:Nat→Bool),(∀ i∈l,p i=q i)→l.find? p=l.find? q:=by
  intro l p q
  induction l with
  | nil=>intro _;rfl
  | cons x r ih =>
    intro h
    rw [List.find?_cons,List.find?_cons,h x List.mem_cons_self,ih (fun i hi=>h i (List.mem_cons_of_mem _ hi))]
 exact key _ _ _ this
theorem vD {ns:List EN} (hm:bB ns=0):((bK ns).2=0↔lZ ns<0)∧((bK ns).2≠0→(bK ns).2=10):=by
 have h:=CS (Cw hm)
 unfold bK lZ
 rw [if_pos hm,← h]
 cases iq ns with
 | nil=>simp
 | cons i r=>simp
end Go.Proofs.YtejpnabbmgpmaaaGreat

namespace Go.Proofs.YtejpnabbmgpmaaaGreat
open Go.Ab
end Go.Proofs.YtejpnabbmgpmaaaGreat

namespace Go.Proofs.YtejpnabbmgpmaaaGreat
open Go.Ab
end Go.Proofs.YtejpnabbmgpmaaaGreat

namespace Go.Proofs.YtejpnabbmgpmaaaGreat
open Go.Ab
end Go.Proofs.YtejpnabbmgpmaaaGreat

namespace Go.Proofs.YtejpnabbmgpmaaaGreat
open Go.Ab
theorem gL {ns:List EN} (hk:∀ i,i<ns.length→(ah (ndE ns i)).all (inB i)=true):∀ (m i:Nat),i<ns.length→∀ x∈aJ ns m i,0≤x∧x≤(i:Int)
 | 0,_,_,_,h=>by cases h
 | m+1,i,hi,x,h=>by
   rw [eD] at h
   simp only [Int.toNat_natCast] at h
   rcases h with ⟨c,hc,h⟩ | h
   ·obtain ⟨h1,h2⟩:=ax hk hi c hc
    obtain ⟨c,rfl⟩:∃ k:Nat,c=(k:Int):=⟨c.toNat,by omega⟩
    have:=gL hk m c (by omega) x h
    omega
   ·omega
theorem kA {ns:List EN} (ht:a8 ns):∀ (m i:Nat),i<ns.length→∀ x:Nat,(x:Int)∈aJ ns m i→x≠i→(lh ns).getD x 0∈aJ ns m i
 | 0,_,_,_,h,_=>by cases h
 | m+1,i,hi,x,h,hne=>by
   rw [eD] at h ⊢
   simp only [Int.toNat_natCast] at h ⊢
   rcases h with ⟨c,hc,h⟩ | h
   ·obtain ⟨h1,h2⟩:=ax (av ht) hi c hc
    obtain ⟨c,rfl⟩:∃ k:Nat,c=(k:Int):=⟨c.toNat,by omega⟩
    by_cases hxc:x=c
    ·subst hxc
     exact .inr (kJ ht hi hc)
    ·exact .inl ⟨_,hc,kA ht m c (by omega) x h hxc⟩
   ·omega
theorem p9 {ns:List EN} (ht:a8 ns) {m i c d:Nat} (hi:i<ns.length) (hc:(c:Int)∈ah (ndE ns i)) (hd:(d:Int)∈ah (ndE ns i)) (hcd:c≠d):∀ (f x:Nat),i≤x+f→(x:Int)∈aJ ns m c→(x:Int)∈aJ ns m d→False
 | f,x,hf,h1,h2=>by
   have hk:=av ht
   have hci:=(ax hk hi _ hc).2
   have hdi:=(ax hk hi _ hd).2
   have hxc:=(gL hk m c (by omega) _ h1).2
   have hxd:=(gL hk m d (by omega) _ h2).2
   by_cases e1:x=c
   ·subst e1
    have:=kA ht m d (by omega) x h2 hcd
    rw [kJ ht hi hc] at this
    have:=(gL hk m d (by omega) _ this).2
    omega
   by_cases e2:x=d
   ·subst e2
    have:=kA ht m c (by omega) x h1 (fun e=>hcd e.symm)
    rw [kJ ht hi hd] at this
    have:=(gL hk m c (by omega) _ this).2
    omega
   have p1:=kA ht m c (by omega) x h1 e1
   have p2:=kA ht m d (by omega) x h2 e2
   rcases ky ht (k:=x) (by omega) with ⟨h3,_⟩ | ⟨j,h3,_,_,h4⟩
   ·omega
   ·rw [h4] at p1 p2
    cases f with
    | zero=>omega
    | succ f=>exact p9 ht hi hc hd hcd f j (by omega) p1 p2
theorem jX {ns:List EN} (ht:a8 ns) {i:Nat} (hi:i<ns.length):(ah (ndE ns i)).Nodup:=by
 refine List.pairwise_iff_getElem.2 fun a b ha hb hab e=>?_
 have hm:=List.getElem_mem ha
 obtain ⟨h1,h2⟩:=ax (av ht) hi _ hm
 have hon:=kN ht (k:=((ah (ndE ns i))[a]).toNat) hi (by omega)
 rw [Int.toNat_of_nonneg h1] at hon
 exact j7 hon hab (List.getElem?_eq_getElem ha) (by rw [List.getElem?_eq_getElem hb,e])
theorem qd {ns:List EN} (ht:a8 ns):∀ (m i:Nat),i<ns.length→(aJ ns m i).Nodup
 | 0,_,_=>List.Pairwise.nil
 | m+1,i,hi=>by
   have hk:=av ht
   show (((ah (ndE ns (i:Int).toNat)).flatMap (aJ ns m))++[(i:Int)]).Nodup
   rw [Int.toNat_natCast]
   refine List.pairwise_append.2 ⟨List.pairwise_flatMap.2 ⟨fun c hc=>?_,?_⟩,List.pairwise_singleton _ _,?_⟩
   ·obtain ⟨h1,h2⟩:=ax hk hi c hc
    obtain ⟨c,rfl⟩:∃ k:Nat,c=(k:Int):=⟨c.toNat,by omega⟩
    exact qd ht m c (by omega)
   ·refine (jX ht hi).imp_of_mem fun {c d} hc hd hcd x hx y hy e=>?_
    subst e
    obtain ⟨h1,h2⟩:=ax hk hi c hc
    obtain ⟨h3,h4⟩:=ax hk hi d hd
    obtain ⟨c,rfl⟩:∃ k:Nat,c=(k:Int):=⟨c.toNat,by omega⟩
    obtain ⟨d,rfl⟩:∃ k:Nat,d=(k:Int):=⟨d.toNat,by omega⟩
    have hx0:=(gL hk m c (by omega) _ hx).1
    obtain ⟨x,rfl⟩:∃ k:Nat,x=(k:Int):=⟨x.toNat,by omega⟩
    exact p9 ht hi hc hd (by omega) i x (by omega) hx hy
   ·intro x hx y hy e
    rw [List.mem_singleton] at hy
    obtain ⟨c,hc,hxc⟩:=List.mem_flatMap.1 hx
    obtain ⟨h1,h2⟩:=ax hk hi c hc
    obtain ⟨c,rfl⟩:∃ k:Nat,c=(k:Int):=⟨c.toNat,by omega⟩
    have:=(gL hk m c (by omega) _ hxc).2
    omega
end Go.Proofs.YtejpnabbmgpmaaaGreat

namespace Go.Proofs.YtejpnabbmgpmaaaGreat
open Go.Ab
theorem j9 {α β:Type} {f g:α→List β}:∀ {l:List α},(∀ a∈l,f a=g a)→l.flatMap f=l.flatMap g
 | [],_=>rfl
 | x::r,h=>by rw [List.flatMap_cons,List.flatMap_cons,h x List.mem_cons_self,j9 (fun a ha=>h a (List.mem_cons_of_mem _ ha))]
theorem oz {ns:List EN} (hk:∀ i,i<ns.length→(ah (ndE ns i)).all (inB i)=true):∀ (m m' i:Nat),i<m→i<m'→i<ns.length→aJ ns m i=aJ ns m' i
 | 0,_,_,h,_,_=>absurd h (Nat.not_lt_zero _)
 | _+1,0,_,_,h,_=>absurd h (Nat.not_lt_zero _)
 | m+1,m'+1,i,h1,h2,hi=>by
   show (ah (ndE ns (i:Int).toNat)).flatMap (aJ ns m)++[(i:Int)]=(ah (ndE ns (i:Int).toNat)).flatMap (aJ ns m')++[(i:Int)]
   rw [Int.toNat_natCast,j9 (fun c hc=>?_)]
   obtain ⟨h3,h4⟩:=ax hk hi c hc
   obtain ⟨c,rfl⟩:∃ k:Nat,c=(k:Int):=⟨c.toNat,by omega⟩
   exact oz hk m m' c (by omega) (by omega) (by omega)
theorem tU {ns:List EN} (hk:∀ i,i<ns.length→(ah (ndE ns i)).all (inB i)=true):∀ (m i:Nat),i<m→i<ns.length→∀ j:Nat,(j:Int)∈aJ ns m i→∃ p s,aJ ns m i=p++(aJ ns m j++s)
 | 0,_,h,_,_,_=>absurd h (Nat.not_lt_zero _)
 | m+1,i,him,hi,j,hj=>by
   by_cases hij:j=i
   ·subst hij
    exact ⟨[],[],by simp⟩
   rw [eD] at hj
   simp only [Int.toNat_natCast] at hj
   rcases hj with ⟨c,hc,hjc⟩ | hj
   ·obtain ⟨h1,h2⟩:=ax hk hi c hc
    obtain ⟨c,rfl⟩:∃ k:Nat,c=(k:Int):=⟨c.toNat,by omega⟩
    have hjl:=(gL hk m c (by omega) _ hjc).2
    obtain ⟨p,s,hps⟩:=tU hk m c (by omega) (by omega) j hjc
    obtain ⟨K1,K2,hK⟩:=List.append_of_mem hc
    refine ⟨K1.flatMap (aJ ns m)++p,s++(K2.flatMap (aJ ns m)++[(i:Int)]),?_⟩
    show (ah (ndE ns (i:Int).toNat)).flatMap (aJ ns m)++[(i:Int)]=_
    rw [Int.toNat_natCast,hK,List.flatMap_append,List.flatMap_cons,hps,oz hk (m+1) m j (by omega) (by omega) (by omega)]
    simp only [List.append_assoc]
   ·omega
theorem GZ {l P Q:List Int} {u v:Int} (hl:l=P++Q) (hn:l.Nodup) (hu:u∈P) (hv:v∈Q):l.idxOf u<l.idxOf v:=by
 subst hl
 have hvP:v ∉ P:=fun h=>(List.nodup_append.1 hn).2.2 v h v hv rfl
 rw [List.idxOf_append,List.idxOf_append,if_pos hu,if_neg hvP]
 have:=List.idxOf_lt_length_of_mem hu
 omega
end Go.Proofs.YtejpnabbmgpmaaaGreat

namespace Go.Proofs.YtejpnabbmgpmaaaGreat
open Go.Ab
def aT (ns:List EN) (i:Nat):List Int:=aJ ns ns.length (i:Int)
def sbE (ns:List EN) (i:Nat):List EN:=(aT ns i).map (lD ns (aT ns i))
theorem fZ {ns:List EN} (ht:a8 ns) {i:Nat} (hi:i<ns.length):aT ns i=(ah (ndE ns i)).flatMap (aJ ns ns.length)++[(i:Int)]:=by
 have hk:=av ht
 obtain ⟨m,hm⟩:∃ m,ns.length=m+1:=⟨ns.length-1,by omega⟩
 unfold aT
 rw [hm]
 show (ah (ndE ns (i:Int).toNat)).flatMap (aJ ns m)++[(i:Int)]=_
 rw [Int.toNat_natCast,j9 (fun c hc=>?_)]
 obtain ⟨h1,h2⟩:=ax hk hi c hc
 obtain ⟨c,rfl⟩:∃ k:Nat,c=(k:Int):=⟨c.toNat,by omega⟩
 exact oz hk m (m+1) c (by omega) (by omega) (by omega)
theorem gN {ns:List EN} (ht:a8 ns) {i:Nat} (hi:i<ns.length):(aT ns i).Nodup:=qd ht _ _ hi
theorem tW {ns:List EN} {i:Nat} (hi:i<ns.length):(i:Int)∈aT ns i:=by
 obtain ⟨m,hm⟩:∃ m,ns.length=m+1:=⟨ns.length-1,by omega⟩
 unfold aT
 rw [hm]
 exact eD.2 (.inr rfl)
theorem ix {ns:List EN} (ht:a8 ns) {i:Nat} (hi:i<ns.length) {x:Int} (hx:x∈aT ns i):0≤x∧x≤(i:Int):=gL (av ht) _ _ hi x hx
theorem iC {ns:List EN} (ht:a8 ns) {i x:Nat} (hi:i<ns.length) (hx:(x:Int)∈aT ns i) {k:Int} (hk:k∈ah (ndE ns x)):k∈aT ns i:=nH (av ht) hk _ _ hi hi hx
theorem q0 {ns:List EN} (ht:a8 ns) {i x:Nat} (hi:i<ns.length) (hx:(x:Int)∈aT ns i) {k:Nat} (hk:(k:Int)∈ah (ndE ns x)):(aT ns i).idxOf (k:Int)<(aT ns i).idxOf (x:Int):=by
 have hkk:=av ht
 have hxl:=(ix ht hi hx).2
 obtain ⟨p,s,h⟩:=tU hkk ns.length i hi hi x hx
 have hb:=fZ ht (i:=x) (by omega)
 unfold aT at hb
 refine GZ (P:=p++(ah (ndE ns x)).flatMap (aJ ns ns.length)) (Q:=[(x:Int)]++s) (by unfold aT;rw [h,hb];simp only [List.append_assoc]) (gN ht hi) (List.mem_append_right _ (List.mem_flatMap.2 ⟨_,hk,?_⟩)) (List.mem_append_left _ (List.mem_singleton_self _))
 obtain ⟨h1,h2⟩:=ax hkk (by omega) _ hk
 exact tW (by omega)
theorem Cn {ns:List EN} (ht:a8 ns) {i:Nat} (hi:i<ns.length):Walk ns (aT ns i):=by
 refine ⟨gN ht hi,fun x hx=>?_,fun n hn k hk=>?_⟩
 ·have:=ix ht hi hx
  exact ⟨this.1,by omega⟩
 ·have hm:=List.getElem_mem hn
  have hx:=ix ht hi hm
  obtain ⟨x,hxx⟩:∃ x:Nat,(aT ns i)[n]=(x:Int):=⟨((aT ns i)[n]).toNat,by omega⟩
  have hid:=List.Nodup.idxOf_getElem (gN ht hi) n hn
  rw [hxx] at hk hm hid hx
  rw [Int.toNat_natCast] at hk
  have hkn:=ax (av ht) (show x<ns.length by omega) k hk
  obtain ⟨k,rfl⟩:∃ q:Nat,k=(q:Int):=⟨k.toNat,by omega⟩
  have hlt:=q0 ht hi hm hk
  rw [hid] at hlt
  have hki:=iC ht hi hm hk
  have hkl:=List.idxOf_lt_length_of_mem hki
  refine List.mem_take_iff_getElem.2 ⟨(aT ns i).idxOf (k:Int),by omega,?_⟩
  exact List.getElem_idxOf hkl
theorem vF {n:EN} {ks:List Int} (p:Nat) (h:ks.length=aG n):aF p (aI n ks)=aI n (ks.map fun x:Int=>x+p):=by
 unfold aF
 rw [bY h,fX (by rw [List.length_map,h];exact Nat.le_refl _)]
theorem A3 {ns:List EN} (ht:a8 ns):∀ (ks P Q W rs:List Int),W=P++(ks.flatMap (aJ ns ns.length)++Q)→W.Nodup→(∀ k∈ks,0≤k∧k<(ns.length:Int)) →
  bl (ks.map fun k=>sbE ns k.toNat) (P.map (lD ns W)) rs=((P++ks.flatMap (aJ ns ns.length)).map (lD ns W),rs++ks.map (fun k=>(W.idxOf k:Int)))
 | [],P,Q,W,rs,_,_,_=>by simp [bl]
 | k::r,P,Q,W,rs,hW,hnd,hk=>by
   obtain ⟨h1,h2⟩:=hk k List.mem_cons_self
   obtain ⟨k,rfl⟩:∃ q:Nat,k=(q:Int):=⟨k.toNat,by omega⟩
   have hkl:k<ns.length:=by omega
   have hW2:W=P++(aT ns k++(r.flatMap (aJ ns ns.length)++Q)):=by
    rw [hW,List.flatMap_cons]
    unfold aT
    simp only [List.append_assoc]
   have hnP:∀ c∈aT ns k,c ∉ P:=fun c hc hp=>by
    rw [hW2] at hnd
    exact (List.nodup_append.1 hnd).2.2 c hp c (List.mem_append_left _ hc) rfl
   have hix:∀ c∈aT ns k,W.idxOf c=P.length+(aT ns k).idxOf c:=fun c hc=>by
    rw [hW2,List.idxOf_append,if_neg (hnP c hc),List.idxOf_append,if_pos hc,Nat.add_comm]
   have key1:(sbE ns k).map (aF (P.map (lD ns W)).length)=(aT ns k).map (lD ns W):=by
    unfold sbE
    rw [List.map_map,List.length_map]
    refine List.map_congr_left fun x hx=>?_
    have hxi:=ix ht hkl hx
    obtain ⟨x,rfl⟩:∃ q:Nat,x=(q:Int):=⟨x.toNat,by omega⟩
    show aF P.length (aI (ndE ns (x:Int).toNat) _)=aI (ndE ns (x:Int).toNat) _
    rw [vF _ (by rw [List.length_map,aV]),List.map_map]
    congr 1
    refine List.map_congr_left fun c hc=>?_
    rw [Int.toNat_natCast] at hc
    show ((aT ns k).idxOf c:Int)+(P.length:Int)=(W.idxOf c:Int)
    rw [hix c (iC ht hkl hx hc)]
    omega
   have key2:((((P.map (lD ns W)).length+(sbE ns k).length:Nat):Int)-1)=(W.idxOf (k:Int):Int):=by
    have hb:=fZ ht hkl
    have hno:(k:Int) ∉ (ah (ndE ns k)).flatMap (aJ ns ns.length):=fun hm=>by
     have:=gN ht hkl
     rw [hb] at this
     exact (List.nodup_append.1 this).2.2 _ hm _ (List.mem_singleton_self _) rfl
    rw [hix _ (tW hkl)]
    have h3:(aT ns k).idxOf (k:Int)=((ah (ndE ns k)).flatMap (aJ ns ns.length)).length:=by
     rw [hb,List.idxOf_append,if_neg hno]
     simp
    have h4:(sbE ns k).length=((ah (ndE ns k)).flatMap (aJ ns ns.length)).length+1:=by
     unfold sbE
     rw [List.length_map,hb,List.length_append]
     rfl
    rw [h3,h4,List.length_map]
    omega
   rw [List.map_cons,bl,Int.toNat_natCast,key1,← List.map_append,key2]
   rw [A3 ht r (P++aT ns k) Q W _ (by rw [hW2];simp only [List.append_assoc]) hnd (fun c hc=>hk c (List.mem_cons_of_mem _ hc))]
   rw [List.flatMap_cons,List.map_cons]
   unfold aT
   simp only [List.append_assoc,List.singleton_append]
theorem EU {ns:List EN} (ht:a8 ns) {i:Nat} (hi:i<ns.length):sbE ns i=aD (ndE ns i) ((ah (ndE ns i)).map fun k=>sbE ns k.toNat):=by
 have hb:=fZ ht hi
 have hc:=A3 ht (ah (ndE ns i)) [] [(i:Int)] (aT ns i) [] (by rw [hb];rfl) (gN ht hi) (fun k hk=>by have:=ax (av ht) hi k hk;exact ⟨this.1,by omega⟩)
 rw [List.map_nil] at hc
 unfold aD
 rw [hc]
 show (aT ns i).map (lD ns (aT ns i))=_
 conv=>lhs;rw [hb]
 rw [List.map_append,← hb]
 rfl
inductive RT where
 | mk (n:EN) (ts:List RT)
mutual
def RT.enc:RT→List EN
 | .mk n ts=>aD n (RT.encs ts)
def RT.encs:List RT→List (List EN)
 | []=>[]
 | t::r=>t.enc::RT.encs r
end
theorem bV:∀ ts:List RT,RT.encs ts=ts.map RT.enc
 | []=>rfl
 | t::r=>by rw [RT.encs,bV r];rfl
def can (n:EN):EN:=aI n (List.replicate (aG n) 0)
theorem oQ {n:EN} {ks:List Int}:can (aI n ks)=can n:=by
 unfold can
 rw [nK,fX (by rw [List.length_replicate];exact Nat.le_refl _)]
theorem ku (n:EN):can (can n)=can n:=oQ
theorem nt (n:EN):aG (can n)=aG n:=nK _ _
theorem Cl {n:EN} {ks:List Int} (h:aG n≤ks.length):aI (can n) ks=aI n ks:=fX h
theorem uD (ls:List (List EN)):(bl ls [] []).2.length=ls.length:=by
 obtain ⟨X,Y,e,h⟩:=fj ls [] []
 rw [e]
 simpa using h
theorem kr {n:EN} {ls:List (List EN)} (h:aG n≤ls.length):aD (can n) ls=aD n ls:=by
 unfold aD
 rw [Cl (by rw [uD];exact h)]
def rtE (ns:List EN):Nat→Int→RT
 | 0,_=>.mk (can (ndE [] 0)) []
 | m+1,i=>.mk (can (ndE ns i.toNat)) ((ah (ndE ns i.toNat)).map (rtE ns m))
theorem AD {ns:List EN} (ht:a8 ns):∀ (m i:Nat),i<m→i<ns.length→(rtE ns m i).enc=sbE ns i
 | 0,_,h,_=>absurd h (Nat.not_lt_zero _)
 | m+1,i,him,hi=>by
   rw [rtE,RT.enc,Int.toNat_natCast,bV,List.map_map,kr (by rw [List.length_map,aV];exact Nat.le_refl _),EU ht hi]
   congr 1
   refine List.map_congr_left fun k hk=>?_
   obtain ⟨h1,h2⟩:=ax (av ht) hi k hk
   obtain ⟨k,rfl⟩:∃ q:Nat,k=(q:Int):=⟨k.toNat,by omega⟩
   show (rtE ns m k).enc=_
   rw [Int.toNat_natCast]
   exact AD ht m k (by omega) (by omega)
theorem yb {ns:List EN} (hk:∀ i,i<ns.length→(ah (ndE ns i)).all (inB i)=true):∀ (m m' i:Nat),i<m→i<m'→i<ns.length→rtE ns m i=rtE ns m' i
 | 0,_,_,h,_,_=>absurd h (Nat.not_lt_zero _)
 | _+1,0,_,_,h,_=>absurd h (Nat.not_lt_zero _)
 | m+1,m'+1,i,h1,h2,hi=>by
   rw [rtE,rtE,Int.toNat_natCast]
   congr 1
   refine List.map_congr_left fun k hkk=>?_
   obtain ⟨h3,h4⟩:=ax hk hi k hkk
   obtain ⟨k,rfl⟩:∃ q:Nat,k=(q:Int):=⟨k.toNat,by omega⟩
   exact yb hk m m' k (by omega) (by omega) (by omega)
def trE (ns:List EN) (i:Nat):RT:=rtE ns ns.length i
theorem ui {ns:List EN} (hk:∀ i,i<ns.length→(ah (ndE ns i)).all (inB i)=true) {i:Nat} (hi:i<ns.length):trE ns i=.mk (can (ndE ns i)) ((ah (ndE ns i)).map fun k=>trE ns k.toNat):=by
 unfold trE
 obtain ⟨m,hm⟩:∃ m,ns.length=m+1:=⟨ns.length-1,by omega⟩
 conv=>lhs;rw [hm]
 rw [rtE,Int.toNat_natCast]
 congr 1
 refine List.map_congr_left fun k hkk=>?_
 obtain ⟨h3,h4⟩:=ax hk hi k hkk
 obtain ⟨k,rfl⟩:∃ q:Nat,k=(q:Int):=⟨k.toNat,by omega⟩
 rw [Int.toNat_natCast]
 exact yb hk m ns.length k (by omega) (by omega) (by omega)
theorem cH {ns:List EN} (ht:a8 ns) {i:Nat} (hi:i<ns.length):(trE ns i).enc=sbE ns i:=AD ht _ _ hi hi
end Go.Proofs.YtejpnabbmgpmaaaGreat

namespace Go.Proofs.YtejpnabbmgpmaaaGreat
open Go.Ab
mutual
def RT.ok:RT→Prop
 | .mk n ts=>(aG n=ts.length∧can n=n)∧RT.oks ts
def RT.oks:List RT→Prop
 | []=>True
 | t::r=>t.ok∧RT.oks r
end
theorem mZ:∀ ts:List RT,RT.oks ts↔∀ t∈ts,t.ok
 | []=>by simp [RT.oks]
 | t::r=>by rw [RT.oks,mZ r];simp
theorem iE (ts:List RT):(RT.encs ts).length=ts.length:=by rw [bV,List.length_map]
mutual
theorem rK:∀ t:RT,t.ok→Tr t.enc
 | .mk n ts,h=>by
   rw [RT.ok] at h
   rw [RT.enc]
   exact .join n _ (by rw [iE];exact h.1.1) (wy ts h.2)
theorem wy:∀ ts:List RT,RT.oks ts→∀ l∈RT.encs ts,Tr l
 | [],_,l,h=>by rw [RT.encs] at h;cases h
 | t::r,h,l,hl=>by
   rw [RT.oks] at h
   rw [RT.encs] at hl
   rcases List.mem_cons.1 hl with rfl | hl
   ·exact rK t h.1
   ·exact wy r h.2 l hl
end
mutual
theorem yk:∀ t:RT,t.ok→∀ (M:List EN) (off m:Nat),Lies M t.enc off→off+t.enc.length≤m→rtE M m (((off+t.enc.length:Nat):Int)-1)=t
 | .mk n ts,h,M,off,m,hM,hm=>by
   rw [RT.ok] at h
   obtain ⟨X,Y,e,hY⟩:=fj (RT.encs ts) [] []
   have hj:aD n (RT.encs ts)=X++[aI n Y]:=by unfold aD;rw [e];simp
   rw [RT.enc,hj] at hM hm ⊢
   rw [List.length_append] at hm ⊢
   simp only [List.length_singleton] at hm ⊢
   have hroot:ndE M (off+X.length)=aF off (aI n Y):=by
    have:=hM X.length (by simp)
    rw [this]
    congr 1
    simp [ndE]
   have hyl:Y.length=aG n:=by rw [hY,iE];exact h.1.1.symm
   cases m with
   | zero=>omega
   | succ m =>
     have hi:(((off+(X.length+1):Nat):Int)-1).toNat=off+X.length:=by omega
     rw [rtE,hi,hroot,eV,bY hyl]
     have:=uZ ts h.2 [] [] Y X (by simpa using e) M off m (fun j hj=>?_) (by simp;omega)
     ·rw [this]
      unfold aF
      rw [oQ,oQ,h.1.2]
     ·simp only [List.nil_append] at hj ⊢
      rw [hM j (by simp;omega)]
      congr 1
      simp [ndE,List.getElem?_append_left hj]
theorem uZ:∀ ts:List RT,RT.oks ts→∀ (acc:List EN) (rs Y:List Int) (X:List EN),bl (RT.encs ts) acc rs=(acc++X,rs++Y)→∀ (M:List EN) (off m:Nat),Lies M (acc++X) off→off+(acc++X).length≤m →
  (Y.map fun x:Int=>x+off).map (rtE M m)=ts
 | [],_,acc,rs,Y,X,e,M,off,m,_,_=>by
   simp only [RT.encs,bl,Prod.mk.injEq] at e
   have h2:Y=[]:=by have:=congrArg List.length e.2;simp at this;exact this
   subst h2;simp
 | t::r,h,acc,rs,Y,X,e,M,off,m,hM,hm=>by
   rw [RT.oks] at h
   obtain ⟨X',Y',e',_⟩:=fj (RT.encs r) (acc++t.enc.map (aF acc.length)) (rs++[((acc.length+t.enc.length:Nat):Int)-1])
   rw [RT.encs,bl,e'] at e
   simp only [Prod.mk.injEq,List.append_assoc,List.append_cancel_left_eq] at e
   obtain ⟨rfl,rfl⟩:=e
   have hlen:(acc++(t.enc.map (aF acc.length)++X')).length=acc.length+t.enc.length+X'.length:=by simp [Nat.add_assoc]
   have ih:=uZ r h.2 (acc++t.enc.map (aF acc.length)) (rs++[((acc.length+t.enc.length:Nat):Int)-1]) Y' X' e' M off m (by rw [List.append_assoc];exact hM) (by rw [List.append_assoc];exact hm)
   have h1:rtE M m ((((acc.length+t.enc.length:Nat):Int)-1)+off)=t:=by
    have:=yk t h.1 M (off+acc.length) m (fun j hj=>?_) (by omega)
    ·rw [← this]
     congr 1
     rw [this]
     omega
    ·have hj2:=hM (acc.length+j) (by rw [hlen];omega)
     rw [← Nat.add_assoc] at hj2
     rw [hj2]
     have:ndE (acc++(t.enc.map (aF acc.length)++X')) (acc.length+j)=aF acc.length (ndE t.enc j):=by
      unfold ndE
      rw [List.getD_eq_getElem?_getD,List.getElem?_append_right (by omega),List.getElem?_append_left (by simp;omega)]
      simp [hj]
     rw [this,iY]
   simp only [List.singleton_append,List.map_cons]
   rw [h1,ih]
end
theorem lR {t:RT} (h:t.ok):trE t.enc (t.enc.length-1)=t:=by
 have ht:=rK t h
 obtain ⟨h0,_⟩:=ht.kids
 have:=yk t h t.enc 0 t.enc.length (fun j hj=>by
  rw [Nat.zero_add]
  refine (ht.self _ ?_).symm
  have:ndE t.enc j=t.enc[j]:=by simp [ndE,hj]
  rw [this];exact List.getElem_mem hj) (by omega)
 unfold trE
 rw [show ((t.enc.length-1:Nat):Int)=((0+t.enc.length:Nat):Int)-1 by omega]
 exact this
theorem Gw {ns:List EN} (hk:∀ i,i<ns.length→(ah (ndE ns i)).all (inB i)=true):∀ (m i:Nat),i<m→i<ns.length→(rtE ns m i).ok
 | 0,_,h,_=>absurd h (Nat.not_lt_zero _)
 | m+1,i,him,hi=>by
   rw [rtE,RT.ok,Int.toNat_natCast,mZ]
   refine ⟨⟨by rw [nt,List.length_map,aV],ku _⟩,fun t ht=>?_⟩
   obtain ⟨k,hkk,rfl⟩:=List.mem_map.1 ht
   obtain ⟨h3,h4⟩:=ax hk hi k hkk
   obtain ⟨k,rfl⟩:∃ q:Nat,k=(q:Int):=⟨k.toNat,by omega⟩
   exact Gw hk m k (by omega) (by omega)
theorem GJ {ns:List EN} (hk:∀ i,i<ns.length→(ah (ndE ns i)).all (inB i)=true) {i:Nat} (hi:i<ns.length):(trE ns i).ok:=Gw hk _ _ hi hi
end Go.Proofs.YtejpnabbmgpmaaaGreat

namespace Go.Proofs.YtejpnabbmgpmaaaGreat
open Go.Ab
theorem fW {β:Type} (g:EF→β) (hg:∀ (f:EF) (v:Int),g { f with to:=v }=g f) (ks:List Int) (o:Nat):∀ (l:List EF) (i:Nat),(aW ks o l i).map g=l.map g
 | [],_=>rfl
 | f::r,i=>by
   rw [aW,List.map_cons,List.map_cons,fW g hg ks o r (i+1)]
   split
   ·rw [hg]
   ·rfl
theorem all_map' {α:Type} (p:α→Bool):∀ l:List α,l.all p=(l.map p).all id
 | []=>rfl
 | x::r=>by rw [List.all_cons,List.map_cons,List.all_cons,all_map' p r];rfl
theorem jP {n:EN} {ks:List Int} (h:aX n=true):aX (aI n ks)=true:=by
 unfold aX at h ⊢
 simp only [Bool.and_eq_true] at h
 obtain ⟨h1,⟨⟨h2,h3⟩,h4⟩,_⟩:=h
 have e1:dz (aI n ks)=dz n:=rfl
 have e2:bU (aI n ks)=bU n:=rfl
 have e3:cy (aI n ks)=true:=by
  unfold cy at h4 ⊢
  rw [gw]
  by_cases hp:aw n.k=true
  ·rw [if_pos hp] at h4 ⊢
   have hl:(aI n ks).l=aW ks (aH n.k) n.l 0:=by show (if aw n.k then _ else [])=_;rw [if_pos hp]
   rw [hl,all_map',fW (iV n.k) (fun f v=>by unfold iV;rfl),← all_map',cR,fW (·.nm) (fun _ _=>rfl)]
   exact h4
  ·rw [if_neg hp]
   have hl:(aI n ks).l=[]:=by show (if aw n.k then _ else [])=_;rw [if_neg hp]
   rw [hl]
   rfl
 have e4:dj (aI n ks)=true:=by
  unfold dj
  rw [gw]
  show ([if 0<aH n.k then ks.getD 0 0 else 0,if 1<aH n.k then ks.getD 1 0 else 0,if 2<aH n.k then ks.getD 2 0 else 0].drop (aH n.k)).all _=true
  have:=bJ n.k
  generalize aH n.k=q at this
  match q,this with
  | 0,_=>simp
  | 1,_=>simp
  | 2,_=>simp
  | 3,_=>simp
 have e5:(aI n ks).pos=n.pos:=rfl
 rw [e1,e2,e3,e4,e5,gw,h2,h3]
 simp only [Bool.and_eq_true] at h1 ⊢
 exact ⟨h1,by simp⟩
theorem gD (ns:List EN) (i:Nat):(sbE ns i).length=(aT ns i).length:=List.length_map ..
theorem mO {ns:List EN} (ht:a8 ns) {i:Nat} (hi:i<ns.length):(aT ns i).length≤ns.length:=by
 have:=List.Nodup.length_le_of_subset (l₂:=(List.range ns.length).map fun j:Nat=>(j:Int)) (gN ht hi) (fun x hx=>by
  have:=ix ht hi hx
  exact List.mem_map.2 ⟨x.toNat,List.mem_range.2 (by omega),by omega⟩)
 simpa using this
theorem sH {ns:List EN} (ht:a8 ns) {i:Nat} (hi:i<ns.length) {j:Nat} (hj:j<(aT ns i).length) :
  ∃ x:Nat,(aT ns i)[j]=(x:Int)∧x≤i∧(x:Int)∈aT ns i∧(aT ns i).idxOf (x:Int)=j∧ndE (sbE ns i) j=aI (ndE ns x) ((ah (ndE ns x)).map fun k=>((aT ns i).idxOf k:Int)):=by
 have hm:=List.getElem_mem hj
 have hx:=ix ht hi hm
 have hid:=List.Nodup.idxOf_getElem (gN ht hi) j hj
 obtain ⟨x,hxx⟩:∃ x:Nat,(aT ns i)[j]=(x:Int):=⟨((aT ns i)[j]).toNat,by omega⟩
 rw [hxx] at hm hid hx
 refine ⟨x,hxx,by omega,hm,hid,?_⟩
 have hj2:j<(sbE ns i).length:=by rw [gD];exact hj
 have hs:(sbE ns i)[j]?=some (lD ns (aT ns i) (aT ns i)[j]):=by
  unfold sbE
  rw [List.getElem?_map,List.getElem?_eq_getElem hj]
  rfl
 rw [List.getElem?_eq_getElem hj2] at hs
 rw [bd hj2,Option.some.inj hs,hxx]
 show aI (ndE ns (x:Int).toNat) ((ah (ndE ns (x:Int).toNat)).map _)=_
 rw [Int.toNat_natCast]
theorem IE {ns:List EN} (ht:a8 ns) {i:Nat} (hi:i<ns.length) {x:Nat} (hx:(x:Int)∈aT ns i) :
  ndE (sbE ns i) ((aT ns i).idxOf (x:Int))=aI (ndE ns x) ((ah (ndE ns x)).map fun k=>((aT ns i).idxOf k:Int)):=by
 have hl:=List.idxOf_lt_length_of_mem hx
 obtain ⟨y,h1,_,_,_,h5⟩:=sH ht hi hl
 have:(aT ns i)[(aT ns i).idxOf (x:Int)]=(x:Int):=List.getElem_idxOf hl
 have:y=x:=by omega
 subst this
 exact h5
theorem wG {α:Type} (f:α→List α):∀ ks:List α,(ks.flatMap fun k=>f k++[k]).Perm (ks.flatMap f++ks)
 | []=>.refl _
 | k::r=>by
   rw [List.flatMap_cons,List.flatMap_cons,List.append_assoc,List.append_assoc]
   refine List.Perm.append_left _ ?_
   refine .trans (List.Perm.append_left [k] (wG f r)) ?_
   show (k::(r.flatMap f++r)).Perm _
   exact List.perm_middle.symm
theorem xT {α β:Type} {f g:α→List β}:∀ {ks:List α},(∀ k∈ks,(f k).Perm (g k))→(ks.flatMap f).Perm (ks.flatMap g)
 | [],_=>.refl _
 | k::r,h=>by
   rw [List.flatMap_cons,List.flatMap_cons]
   exact (h k List.mem_cons_self).append (xT fun x hx=>h x (List.mem_cons_of_mem _ hx))
theorem tF {ns:List EN} (ht:a8 ns):∀ (d i:Nat),i≤d→i<ns.length→((aT ns i).flatMap (fun x=>ah (ndE ns x.toNat))++[(i:Int)]).Perm (aT ns i)
 | d,i,hd,hi=>by
   have hk:=av ht
   have hb:=fZ ht hi
   have ih:∀ k∈ah (ndE ns i),((aJ ns ns.length k).flatMap (fun x=>ah (ndE ns x.toNat))++[k]).Perm (aJ ns ns.length k):=fun k hkk=>by
    obtain ⟨h1,h2⟩:=ax hk hi k hkk
    obtain ⟨k,rfl⟩:∃ q:Nat,k=(q:Int):=⟨k.toNat,by omega⟩
    cases d with
    | zero=>omega
    | succ d=>exact tF ht d k (by omega) (by omega)
   rw [hb,List.flatMap_append,List.flatMap_cons,List.flatMap_nil,List.append_nil,Int.toNat_natCast]
   refine List.Perm.append_right _ ?_
   rw [List.flatMap_assoc]
   exact (wG (fun k=>(aJ ns ns.length k).flatMap (fun x=>ah (ndE ns x.toNat))) _).symm.trans (xT ih)
theorem sZ {x:Int}:∀ {l:List Int},l.Nodup→x∈l→l.countP (fun y=>decide (y=x))=1
 | [],_,h=>by cases h
 | y::r,hn,h=>by
   obtain ⟨h1,h2⟩:=List.nodup_cons.1 hn
   rw [List.countP_cons]
   by_cases e:y=x
   ·subst e
    have:r.countP (fun z=>decide (z=y))=0:=List.countP_eq_zero.2 fun z hz=>by
     simp only [decide_eq_true_eq]
     intro e
     exact h1 (e ▸ hz)
    rw [this]
    simp
   ·have hr:=(List.mem_cons.1 h).resolve_left (fun e'=>e e'.symm)
    rw [sZ h2 hr]
    simp [e]
theorem qs {α:Type} {p q:α→Bool}:∀ {l:List α},(∀ x∈l,p x=q x)→l.countP p=l.countP q
 | [],_=>rfl
 | x::r,h=>by rw [List.countP_cons,List.countP_cons,h x List.mem_cons_self,qs fun y hy=>h y (List.mem_cons_of_mem _ hy)]
theorem qD {α β:Type} {p:β→Bool} {f:α→β}:∀ {l:List α},(l.map f).countP p=l.countP (fun x=>p (f x))
 | []=>rfl
 | x::r=>by rw [List.map_cons,List.countP_cons,List.countP_cons,qD]
theorem Aj {α β γ:Type} {f:α→List β} {g:β→γ}:∀ {l:List α},l.flatMap (fun x=>(f x).map g)=(l.flatMap f).map g
 | []=>rfl
 | x::r=>by rw [List.flatMap_cons,List.flatMap_cons,List.map_append,Aj]
theorem GO {α β γ:Type} {f:α→β} {g:β→List γ}:∀ {l:List α},(l.map f).flatMap g=l.flatMap (fun x=>g (f x))
 | []=>rfl
 | x::r=>by rw [List.map_cons,List.flatMap_cons,List.flatMap_cons,GO]
theorem Gp {ns:List EN} (ht:a8 ns) {i:Nat} (hi:i<ns.length):md (sbE ns i)=true:=by
 unfold md
 refine List.all_eq_true.2 fun k hk=>?_
 have hk:=List.mem_range.1 hk
 rw [gD] at hk
 have hkl:k<(aT ns i).length:=by omega
 obtain ⟨c,h1,h2,h3,h4,_⟩:=sH ht hi hkl
 have hci:c≠i:=by
  intro e
  subst e
  have hb:=fZ ht hi
  have hno:(c:Int) ∉ (ah (ndE ns c)).flatMap (aJ ns ns.length):=fun hm=>by
   have:=gN ht hi
   rw [hb] at this
   exact (List.nodup_append.1 this).2.2 _ hm _ (List.mem_singleton_self _) rfl
  rw [hb,List.idxOf_append,if_neg hno] at h4
  rw [hb,List.length_append] at hk
  simp at h4 hk
  omega
 have e1:pd (sbE ns i) k=((aT ns i).flatMap (fun x=>ah (ndE ns x.toNat))).countP (fun y=>decide (y=(c:Int))):=by
  unfold pd sbE
  rw [GO]
  have:∀ x∈aT ns i,ah (lD ns (aT ns i) x)=(ah (ndE ns x.toNat)).map fun k=>((aT ns i).idxOf k:Int):=fun x _=>bY (by rw [List.length_map,aV])
  rw [j9 this,Aj,qD]
  refine qs fun y hy=>?_
  obtain ⟨x,hx,hyx⟩:=List.mem_flatMap.1 hy
  have hxi:=ix ht hi hx
  obtain ⟨x,rfl⟩:∃ q:Nat,x=(q:Int):=⟨x.toNat,by omega⟩
  rw [Int.toNat_natCast] at hyx
  have hyi:=iC ht hi hx hyx
  refine decide_eq_decide.2 ⟨fun e=>?_,fun e=>?_⟩
  ·have e2:(aT ns i).idxOf y=k:=by omega
   have hyl:=List.idxOf_lt_length_of_mem hyi
   have:(aT ns i)[(aT ns i).idxOf y]=y:=List.getElem_idxOf hyl
   simp only [e2] at this
   rw [← this,h1]
  ·rw [e,h4]
 rw [e1]
 have hp:=(tF ht i i (Nat.le_refl _) hi).countP_eq (fun y=>decide (y=(c:Int)))
 rw [List.countP_append,sZ (gN ht hi) h3] at hp
 have:List.countP (fun y=>decide (y=(c:Int))) [(i:Int)]=0:=List.countP_eq_zero.2 fun z hz=>by
  rw [List.mem_singleton] at hz
  simp only [decide_eq_true_eq]
  omega
 rw [this] at hp
 exact decide_eq_true (by omega)
theorem GI {d d':List Int} {f:Int→Int}:∀ {ks:List Int},(∀ c∈ks,d.getD (f c).toNat 0=d'.getD c.toNat 0)→mx d (ks.map f)=mx d' ks:=by
 suffices g:∀ (ks:List Int) (m:Int),(∀ c∈ks,d.getD (f c).toNat 0=d'.getD c.toNat 0)→(ks.map f).foldl (fun m k=>max m (d.getD k.toNat 0)) m=ks.foldl (fun m k=>max m (d'.getD k.toNat 0)) m from fun {ks} h=>g ks 0 h
 intro ks
 induction ks with
 | nil=>intro m _;rfl
 | cons c r ih =>
   intro m h
   rw [List.map_cons,List.foldl_cons,List.foldl_cons,h c List.mem_cons_self]
   exact ih _ fun x hx=>h x (List.mem_cons_of_mem _ hx)
theorem Il {d:List Int} {ks:List Int} {c:Int} (h:c∈ks):d.getD c.toNat 0≤mx d ks:=by
 suffices g:∀ (ks:List Int) (m:Int),m≤ks.foldl (fun m k=>max m (d.getD k.toNat 0)) m∧∀ c∈ks,d.getD c.toNat 0≤ks.foldl (fun m k=>max m (d.getD k.toNat 0)) m from (g ks 0).2 c h
 intro ks
 induction ks with
 | nil=>exact fun m=>⟨Int.le_refl _,fun _ h=>by cases h⟩
 | cons x r ih =>
   intro m
   obtain ⟨h1,h2⟩:=ih (max m (d.getD x.toNat 0))
   rw [List.foldl_cons]
   refine ⟨by omega,fun c hc=>?_⟩
   rcases List.mem_cons.1 hc with rfl | hc
   ·omega
   ·exact h2 c hc
theorem oO {ns:List EN} {i:Nat} (hi:i<ns.length) (hk:∀ c∈ah (ndE ns i),0≤c∧c<(i:Int)):(bT ns []).getD i 0=mx (bT ns []) (ah (ndE ns i))+1:=by
 rw [FI hi]
 have:=GI (d:=b6 ns i) (d':=bT ns []) (f:=id) (ks:=ah (ndE ns i)) fun c hc=>by
  have:=hk c hc
  exact (Bk (Nat.le_of_lt hi) (show c.toNat<i by omega)).symm
 rw [List.map_id] at this
 rw [this]
theorem pJ {ns:List EN} (ht:a8 ns):∀ (d k:Nat),ns.length-1-k≤d→k<ns.length→(bT ns []).getD k 0≤lS ns
 | d,k,hd,hk=>by
   have hp:=ht.pos
   rcases ky ht hk with ⟨h1,_⟩ | ⟨j,h1,h2,h3,_⟩
   ·subst h1
    exact Int.le_refl _
   ·cases d with
    | zero=>omega
    | succ d =>
      have ih:=pJ ht d j (by omega) h2
      have h4:=oO h2 (ax (av ht) h2)
      have h5:=Il (d:=bT ns []) h3
      rw [Int.toNat_natCast] at h5
      omega
theorem Ce {ns:List EN} (ht:a8 ns) {i:Nat} (hi:i<ns.length) {j:Nat} (hj:j<(aT ns i).length):∀ c∈ah (ndE (sbE ns i) j),0≤c∧c<(j:Int):=fun c hc=>by
 obtain ⟨x,h1,h2,h3,h4,h5⟩:=sH ht hi hj
 rw [h5,bY (by rw [List.length_map,aV])] at hc
 obtain ⟨k,hk,rfl⟩:=List.mem_map.1 hc
 obtain ⟨g1,g2⟩:=ax (av ht) (by omega) k hk
 obtain ⟨k,rfl⟩:∃ q:Nat,k=(q:Int):=⟨k.toNat,by omega⟩
 have:=q0 ht hi h3 hk
 omega
theorem xb {ns:List EN} (ht:a8 ns) {i:Nat} (hi:i<ns.length):∀ (m j:Nat),j<m→(hj:j<(aT ns i).length)→(bT (sbE ns i) []).getD j 0=(bT ns []).getD ((aT ns i)[j]).toNat 0
 | 0,_,h,_=>absurd h (Nat.not_lt_zero _)
 | m+1,j,hm,hj=>by
   obtain ⟨x,h1,h2,h3,h4,h5⟩:=sH ht hi hj
   rw [oO (by rw [gD];exact hj) (Ce ht hi hj),h1,Int.toNat_natCast,oO (by omega) (ax (av ht) (by omega)),h5,bY (by rw [List.length_map,aV])]
   congr 1
   refine GI fun c hc=>?_
   obtain ⟨g1,g2⟩:=ax (av ht) (by omega) c hc
   have hci:=iC ht hi h3 hc
   obtain ⟨c,rfl⟩:∃ q:Nat,c=(q:Int):=⟨c.toNat,by omega⟩
   have hlt:=q0 ht hi h3 hc
   have hcl:=List.idxOf_lt_length_of_mem hci
   rw [Int.toNat_natCast,Int.toNat_natCast,xb ht hi m _ (by omega) hcl,List.getElem_idxOf hcl,Int.toNat_natCast]
theorem As {ns:List EN} (ht:a8 ns) {i:Nat} (hi:i<ns.length):bB (sbE ns i)=0:=by
 have hb:=fZ ht hi
 have hL:(aT ns i).length=((ah (ndE ns i)).flatMap (aJ ns ns.length)).length+1:=by rw [hb,List.length_append];rfl
 have hfew:=mO ht hi
 have h600:=ht.few
 unfold bB
 rw [if_neg (by rw [gD];omega)]
 have hok:okE (sbE ns i)=true:=by
  unfold okE
  refine List.all_eq_true.2 fun j hj=>?_
  have hj:=List.mem_range.1 hj
  rw [gD] at hj
  obtain ⟨x,h1,h2,h3,h4,h5⟩:=sH ht hi hj
  have hr:aX (ndE (sbE ns i) j)=true:=by rw [h5];exact jP (ht.right x (by omega))
  rw [hr,Bool.true_and]
  unfold dZ
  rw [Bool.and_eq_true]
  refine ⟨List.all_eq_true.2 fun c hc=>?_,?_⟩
  ·have:=Ce ht hi hj c hc
   simp only [Bool.and_eq_true,decide_eq_true_eq]
   exact this
  ·have hlk:=ht.link x (by omega)
   unfold dZ at hlk
   rw [Bool.and_eq_true] at hlk
   rw [h5,gw]
   by_cases h8:(ndE ns x).k=8
   ·have h9:=hlk.2
    simp only [h8,Bool.or_eq_true,decide_eq_true_eq] at h9
    have h9:=h9.resolve_left (by simp)
    have hke:ah (ndE ns x)=[(ndE ns x).a,(ndE ns x).b]:=by simp [ah,h8,aH,aw]
    have ham:(ndE ns x).a∈ah (ndE ns x):=by rw [hke];exact List.mem_cons_self
    obtain ⟨g1,g2⟩:=ax (av ht) (by omega) _ ham
    have hai:=iC ht hi h3 ham
    have e:(aI (ndE ns x) ((ah (ndE ns x)).map fun k=>((aT ns i).idxOf k:Int))).a=((aT ns i).idxOf (ndE ns x).a:Int):=by
     show (if 0<aH (ndE ns x).k then _ else _)=_
     rw [if_pos (by rw [h8];decide),hke]
     rfl
    rw [e,Int.toNat_natCast]
    obtain ⟨a,ha⟩:∃ a:Nat,(ndE ns x).a=(a:Int):=⟨(ndE ns x).a.toNat,by omega⟩
    rw [ha,Int.toNat_natCast] at h9
    rw [ha] at hai ⊢
    rw [IE ht hi hai,gw,h9]
    simp
   ·simp [h8]
 rw [hok,Gp ht hi,Bool.and_self,if_pos rfl]
 have hd:lS (sbE ns i)=(bT ns []).getD i 0:=by
  have hlt:(sbE ns i).length-1<(aT ns i).length:=by rw [gD];omega
  unfold lS
  rw [xb ht hi _ _ (Nat.lt_succ_self _) hlt]
  congr 1
  have:(aT ns i)[(sbE ns i).length-1]=(i:Int):=by
   simp only [gD,hb]
   simp
  rw [this,Int.toNat_natCast]
 have:=pJ ht _ i (Nat.le_refl _) hi
 have:=ht.deep
 rw [if_neg (by omega)]
end Go.Proofs.YtejpnabbmgpmaaaGreat

namespace Go.Proofs.YtejpnabbmgpmaaaGreat
open Go.Ab
def GL (n:EN):Prop:=aX n=true∧inR n.n
theorem GL.with {n:EN} (ks:List Int) (h:GL n):GL (aI n ks):=⟨jP h.1,h.2⟩
mutual
def RT.rt:RT→Prop
 | .mk n ts=>GL n∧RT.rts ts
def RT.rts:List RT→Prop
 | []=>True
 | t::r=>t.rt∧RT.rts r
end
theorem mW:∀ ts:List RT,RT.rts ts↔∀ t∈ts,t.rt
 | []=>by simp [RT.rts]
 | t::r=>by rw [RT.rts,mW r];simp
theorem Gx {P:EN→Prop} (hP:∀ n ks,P n→P (aI n ks)):∀ (ls:List (List EN)) (acc:List EN) (rs:List Int),(∀ l∈ls,∀ x∈l,P x)→(∀ x∈acc,P x)→∀ x∈(bl ls acc rs).1,P x
 | [],_,_,_,h=>h
 | l::r,acc,rs,hl,h=>by
   refine Gx hP r _ _ (fun x hx=>hl x (List.mem_cons_of_mem _ hx)) fun x hx=>?_
   rcases List.mem_append.1 hx with hx | hx
   ·exact h x hx
   ·obtain ⟨y,hy,rfl⟩:=List.mem_map.1 hx
    exact hP _ _ (hl l List.mem_cons_self y hy)
mutual
theorem cT:∀ t:RT,t.rt→∀ x∈t.enc,GL x
 | .mk n ts,h,x,hx=>by
   rw [RT.rt] at h
   rw [RT.enc] at hx
   rcases List.mem_append.1 hx with hx | hx
   ·exact Gx (fun _ ks h=>h.with ks) _ _ _ (oD ts h.2) (fun _ h=>by cases h) x hx
   ·rw [List.mem_singleton.1 hx]
    exact h.1.with _
theorem oD:∀ ts:List RT,RT.rts ts→∀ l∈RT.encs ts,∀ x∈l,GL x
 | [],_,l,hl=>by rw [RT.encs] at hl;cases hl
 | t::r,h,l,hl=>by
   rw [RT.rts] at h
   rw [RT.encs] at hl
   rcases List.mem_cons.1 hl with rfl | hl
   ·exact cT t h.1
   ·exact oD r h.2 l hl
end
theorem r9 {s:List UInt8} (h:fu s=true):s.length≤20:=by
 unfold fu fE at h
 simp only [Bool.and_eq_true,decide_eq_true_eq] at h
 exact h.1.1.1.2
theorem Be {s:List UInt8} (h:rC s=true):s.length≤20:=by
 unfold rC fE at h
 simp only [Bool.and_eq_true,decide_eq_true_eq] at h
 exact h.1.1.2
theorem rU {n:EN} (h:aX n=true):n.s.length≤200:=by
 unfold aX bU at h
 simp only [Bool.and_eq_true] at h
 have h1:=h.2.1.1.2
 (repeat' split at h1)<;>simp only [Bool.and_eq_true,decide_eq_true_eq,List.isEmpty_iff] at h1
 ·rw [h1];decide
 ·rw [h1.2];decide
 ·rw [h1.2];decide
 ·exact h1.2
 ·rw [h1.2];decide
theorem m5 {n:EN} (h:aX n=true):fO BIG n:=by
 have hl:=ju h
 have hs:=rU h
 have hx:(20:Nat)≤BIG:=by unfold BIG;omega
 refine ⟨?_,by unfold BIG;omega,by omega,fun f hf=>?_⟩
 ·unfold aX dz at h
  simp only [Bool.and_eq_true] at h
  have h1:=h.2.1.1.1
  (repeat' split at h1)
  ·have:=r9 h1;omega
  ·have:=Be h1;omega
  ·rw [List.isEmpty_iff] at h1
   rw [h1]
   exact Nat.zero_le _
 ·unfold aX cy at h
  simp only [Bool.and_eq_true] at h
  have h1:=h.2.1.2
  split at h1
  ·simp only [Bool.and_eq_true] at h1
   have h2:=List.all_eq_true.1 h1.1 f hf
   unfold iV at h2
   split at h2<;>simp only [Bool.and_eq_true,List.isEmpty_iff] at h2
   ·have:=r9 h2.1
    rw [h2.2]
    exact ⟨by omega,Nat.zero_le _⟩
   ·have:=Be h2.1
    have:=r9 h2.2
    exact ⟨by omega,by omega⟩
  ·rw [List.isEmpty_iff] at h1
   rw [h1] at hf
   cases hf
theorem Gv {ns:List EN} (ht:a8 ns) (hr:∀ n∈ns,inR n.n):∀ (m i:Nat),i<m→i<ns.length→(rtE ns m i).rt
 | 0,_,h,_=>absurd h (Nat.not_lt_zero _)
 | m+1,i,him,hi=>by
   rw [rtE,RT.rt,Int.toNat_natCast,mW]
   refine ⟨GL.with _ ⟨ht.right i hi,hr _ (by rw [bd hi];exact List.getElem_mem hi)⟩,fun t htm=>?_⟩
   obtain ⟨k,hkk,rfl⟩:=List.mem_map.1 htm
   obtain ⟨h3,h4⟩:=ax (av ht) hi k hkk
   obtain ⟨k,rfl⟩:∃ q:Nat,k=(q:Int):=⟨k.toNat,by omega⟩
   exact Gv ht hr m k (by omega) (by omega)
structure RT.good (t:RT):Prop where
 ok:t.ok
 rt:t.rt
theorem dL {ns:List EN} (ht:a8 ns) (hr:∀ n∈ns,inR n.n) {i:Nat} (hi:i<ns.length):(trE ns i).good:=⟨GJ (av ht) hi,Gv ht hr _ _ hi hi⟩
theorem bj {n:EN} {ts:List RT}:(RT.mk n ts).good↔(aG n=ts.length∧can n=n∧GL n)∧∀ t∈ts,t.good:=by
 constructor
 ·rintro ⟨h1,h2⟩
  rw [RT.ok,mZ] at h1
  rw [RT.rt,mW] at h2
  exact ⟨⟨h1.1.1,h1.1.2,h2.1⟩,fun t ht=>⟨h1.2 t ht,h2.2 t ht⟩⟩
 ·rintro ⟨⟨h1,h2,h3⟩,h4⟩
  refine ⟨?_,?_⟩
  ·rw [RT.ok,mZ]
   exact ⟨⟨h1,h2⟩,fun t ht=>(h4 t ht).ok⟩
  ·rw [RT.rt,mW]
   exact ⟨h3,fun t ht=>(h4 t ht).rt⟩
def aC:RT:=.mk (can (ndE [] 0)) []
def RT.lab:RT→EN
 | .mk n _=>n
def RT.kids:RT→List RT
 | .mk _ ts=>ts
def RT.kid (t:RT) (j:Nat):RT:=t.kids.getD j aC
mutual
def dm:RT→Bool
 | .mk n ts=>if n.k=11∨n.k=13 then tH ts else decide (n.k=1) || decide (n.k=2) || decide (n.k=3) || decide (n.k=5)
def tH:List RT→Bool
 | []=>true
 | t::r=>dm t && tH r
end
theorem pM:∀ ts:List RT,tH ts=ts.all dm
 | []=>by rw [tH];rfl
 | t::r=>by rw [tH,pM r];rfl
def aS (n:EN) (k:Nat) (x:List UInt8):Bool :=
 if n.k=5∨n.k=8 then n.name == x else if n.k=7 then (n.name == x) && decide (k=1) else if n.k=14 then decide (0<k) && ((fdE n.l (k-1)).var == x) else false
mutual
def dE (x:List UInt8) (v:RT):RT→RT
 | .mk n ts=>if n.k=4∧n.name=x then v else .mk n (dx x v n 0 ts)
def dx (x:List UInt8) (v:RT) (n:EN):Nat→List RT→List RT
 | _,[]=>[]
 | k,t::r=>(if aS n k x then t else dE x v t)::dx x v n (k+1) r
end
theorem lx (x:List UInt8) (v:RT) (n:EN):∀ (k:Nat) (ts:List RT),(dx x v n k ts).length=ts.length
 | _,[]=>by rw [dx]
 | k,t::r=>by rw [dx,List.length_cons,List.length_cons,lx x v n (k+1) r]
mutual
theorem fN {x:List UInt8} {v:RT} (hv:v.good):∀ t:RT,t.good→(dE x v t).good
 | .mk n ts,h=>by
   rw [dE]
   split
   ·exact hv
   ·rw [bj] at h ⊢
    refine ⟨⟨?_,h.1.2⟩,qg hv n 0 ts h.2⟩
    rw [h.1.1]
    exact (lx x v n 0 ts).symm
theorem qg {x:List UInt8} {v:RT} (hv:v.good) (n:EN):∀ (k:Nat) (ts:List RT),(∀ t∈ts,t.good)→∀ t∈dx x v n k ts,t.good
 | _,[],_,t,ht=>by rw [dx] at ht;cases ht
 | k,t::r,h,u,hu=>by
   rw [dx] at hu
   rcases List.mem_cons.1 hu with rfl | hu
   ·split
    ·exact h t List.mem_cons_self
    ·exact fN hv t (h t List.mem_cons_self)
   ·exact qg hv n (k+1) r (fun y hy=>h y (List.mem_cons_of_mem _ hy)) u hu
end
def RT.sz (t:RT):Nat:=t.enc.length
def szs (ts:List RT):Nat:=(ts.map RT.sz).sum
theorem ll (ts:List RT):bg (RT.encs ts)=szs ts:=by
 unfold bg szs
 rw [bV,List.map_map]
 rfl
theorem im (n:EN) (ts:List RT):(RT.mk n ts).sz=szs ts+1:=by
 unfold RT.sz
 rw [RT.enc,cI,ll]
theorem bw (t:RT) (r:List RT):szs (t::r)=t.sz+szs r:=by simp [szs]
theorem iT:∀ t:RT,1≤t.sz
 | .mk n ts=>by rw [im];omega
mutual
theorem vS {x:List UInt8} {v:RT}:∀ t:RT,(dE x v t).sz≤t.sz*v.sz
 | .mk n ts=>by
   have hv:=iT v
   rw [dE]
   split
   ·rw [im,Nat.add_mul]
    omega
   ·have:=ym (x:=x) (v:=v) n 0 ts
    rw [im,im,Nat.add_mul]
    omega
theorem ym {x:List UInt8} {v:RT} (n:EN):∀ (k:Nat) (ts:List RT),szs (dx x v n k ts)≤szs ts*v.sz
 | _,[]=>by rw [dx];exact Nat.zero_le _
 | k,t::r=>by
   have hv:=iT v
   have h1:=vS (x:=x) (v:=v) t
   have h2:=ym (x:=x) (v:=v) n (k+1) r
   rw [dx,bw,bw,Nat.add_mul]
   split
   ·have:t.sz*1≤t.sz*v.sz:=Nat.mul_le_mul_left _ hv
    omega
   ·omega
end
theorem lY {t u:RT} (h:u∈t.kids):u.sz<t.sz:=by
 cases t with
 | mk n ts =>
   rw [im]
   have:u∈ts:=h
   have key:∀ ts:List RT,u∈ts→u.sz≤szs ts:=by
    intro ts
    induction ts with
    | nil=>intro h;cases h
    | cons x r ih =>
      intro h
      rw [bw]
      rcases List.mem_cons.1 h with rfl | h
      ·omega
      ·have:=ih h;omega
   have:=key ts this
   omega
theorem kq {t:RT} {j:Nat} (h:j<t.kids.length):t.kid j∈t.kids:=by
 unfold RT.kid
 rw [List.getD_eq_getElem?_getD,List.getElem?_eq_getElem h]
 exact List.getElem_mem h
theorem kp {t:RT} (h:t.good) {j:Nat} (hj:j<t.kids.length):(t.kid j).good:=by
 have hm:=kq hj
 cases t with
 | mk n ts=>exact (bj.1 h).2 _ hm
def kH (n:EN):RT:=.mk (can n) []
def jE (n a b:EN):Int × RT :=
 if n.n=7 then (if a.k=3∧b.k=3 then (5,kH ⟨3,0,0,0,0,[],(a.s++b.s).take 200,[],n.pos⟩) else (4,aC))
 else if a.k=1∧b.k=1 then (if mC n.n b.n≠0 then (2,aC) else (5,kH ⟨if 5≤n.n then 2 else 1,0,0,0,fT n.n a.n b.n,[],[],[],n.pos⟩)) else (4,aC)
def dN (n:EN) (f:RT):RT :=
 if f.lab.name=n.name then f else .mk (can ⟨5,0,0,0,0,f.lab.name,[],[],f.lab.pos⟩) [.mk (can ⟨8,0,0,0,0,n.name,[],[],n.pos⟩) [f,f.kid 0]]
def eH (l:List EF) (x:List UInt8):Nat:=l.findIdx fun f=>f.nm == x
def az (n:EN) (ts:List RT):Int × RT :=
 let c:=fun j=>ts.getD j aC
 if n.k=6 then (if (c 0).lab.k=5 then (5,dE (c 0).lab.name (c 1) ((c 0).kid 0)) else (4,aC))
 else if n.k=7 then (5,dE n.name (c 0) (c 1))
 else if n.k=8 then (5,dE n.name (dN n (c 0)) (c 1))
 else if n.k=9 then (if (c 0).lab.k=2 then (5,if (c 0).lab.n=1 then c 1 else c 2) else (4,aC))
 else if n.k=10 then jE n (c 0).lab (c 1).lab
 else if n.k=12 then (if (c 0).lab.k=11∧eH (c 0).lab.l n.name<(c 0).lab.l.length then (5,(c 0).kid (eH (c 0).lab.l n.name)) else (4,aC))
 else if n.k=14 then (if (c 0).lab.k=13∧eH n.l (c 0).lab.name<n.l.length then (5,dE (fdE n.l (eH n.l (c 0).lab.name)).var ((c 0).kid 0) (c (eH n.l (c 0).lab.name+1))) else (4,aC))
 else (4,aC)
def eh (n:EN) (k:Nat):Bool:=if n.k=6∨n.k=10∨n.k=11 then true else if n.k=7∨n.k=9∨n.k=12∨n.k=13∨n.k=14 then decide (k=0) else false
mutual
def stT:RT→Int × RT
 | .mk n ts=>match gi n 0 ts with
   | none=>az n ts
   | some (h,us)=>if h=5 then (5,.mk n us) else (h,aC)
def gi (n:EN):Nat→List RT→Option (Int × List RT)
 | _,[]=>none
 | k,t::r=>if eh n k && !dm t then some ((stT t).1,(stT t).2::r) else (gi n (k+1) r).map fun q=>(q.1,t::q.2)
end
end Go.Proofs.YtejpnabbmgpmaaaGreat

