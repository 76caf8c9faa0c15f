/-
  Whether a tree may be. (with the parts that follow it)
-/
import Derived.Test.YtejpnabbmgpmaaaGreatSEI
import Derived.Test.YtejpnabbmgpmaaaGreatSEF
import Derived.Test.YtejpnabbmgpmaaaGreatSEG
import Derived.Test.YtejpnabbmgpmaaaGreatSEH
set_option linter.all false
namespace Go.Proofs.YtejpnabbmgpmaaaGreat
open Go.Ab
theorem Cn {cs:List Int} {k:Int} {j:Nat} (hj:j<cs.length) (hk:0≤k):(bump cs k).getD j 0=cs.getD j 0+(if k=(j:Int) then 1 else 0):=by
 unfold bump
 rw [List.getD_eq_getElem?_getD,List.getElem?_set]
 by_cases h:k.toNat=j
 ·rw [if_pos h,if_pos (by omega)]
  have:k=(j:Int):=by omega
  subst this
  simp [hj]
 ·rw [if_neg h,if_neg (by omega)]
  simp
theorem p7 {j:Nat}:∀ (ks cs:List Int),j<cs.length→(∀ k∈ks,0≤k)→(bumps cs ks).getD j 0=cs.getD j 0+(ks.countP (fun x=>decide (x=(j:Int))):Nat)
 | [],cs,_,_=>by simp [bumps]
 | k::r,cs,hj,hk=>by
   show (bumps (bump cs k) r).getD j 0=_
   rw [p7 r _ (by rw [sF];exact hj) (fun x hx=>hk x (List.mem_cons_of_mem _ hx)),Cn hj (hk k List.mem_cons_self),List.countP_cons]
   by_cases h:k=(j:Int)<;>simp [h]<;>omega
theorem y0 (cs a b:List Int):bumps cs (a++b)=bumps (bumps cs a) b:=by simp [bumps]
def cnts (ns:List EN) (i:Nat):List Int:=bumps (List.replicate ns.length 0) ((ns.take i).flatMap aj)
theorem gK (ns:List EN) (i:Nat):(cnts ns i).length=ns.length:=by unfold cnts;rw [fw,List.length_replicate]
theorem mn {ns:List EN} {i:Nat} (h:i<ns.length):cnts ns (i+1)=bumps (cnts ns i) (aj (ndE ns i)):=by
 unfold cnts
 rw [List.take_succ_eq_append_getElem h,List.flatMap_append,y0,bG h]
 simp
theorem rE {ns:List EN} (hs:∀ n∈ns,n.l.length≤1000000):∀ {i:Nat},i≤ns.length→Bd (i*1000003) (cnts ns i)
 | 0,_=>by
   intro c hc
   rw [show cnts ns 0=List.replicate ns.length 0 by simp [cnts,bumps],List.mem_replicate] at hc
   omega
 | i+1,h=>by
   have ih:=rE hs (i:=i) (by omega)
   rw [mn (by omega)]
   intro c hc
   have:=ih.bumps (ks:=aj (ndE ns i)) c hc
   have hl:(aj (ndE ns i)).length≤1000003:=by
    rw [br];unfold bf
    have:=bB (ndE ns i).k
    have h2:(ndE ns i).l.length≤1000000:=by rw [bG (by omega)];exact hs _ (List.getElem_mem _)
    split<;>omega
   omega
theorem tz {ns:List EN} (hk:∀ i,i<ns.length→(aj (ndE ns i)).all (inB i)=true):((cnts ns ns.length).take (ns.length-1)).any (fun c=>!decide (c=1))=!mG ns:=by
 have hnn:∀ k∈ns.flatMap aj,0≤k:=fun k hkm=>by
  obtain ⟨n,hn,hkn⟩:=List.mem_flatMap.1 hkm
  obtain ⟨i,hi,rfl⟩:=List.mem_iff_getElem.1 hn
  have h1:=hk i hi
  rw [bG hi] at h1
  have:=List.all_eq_true.1 h1 k hkn
  simp only [inB,Bool.and_eq_true,decide_eq_true_eq] at this
  exact this.1
 have hget:∀ j,j<ns.length→(cnts ns ns.length).getD j 0=(uj ns j:Int):=fun j hj=>by
  unfold cnts uj
  rw [List.take_length,p7 _ _ (by simpa using hj) hnn]
  simp [hj]
 have hl:=gK ns ns.length
 unfold mG
 rw [Bool.eq_iff_iff]
 simp only [List.any_eq_true,Bool.not_eq_true',decide_eq_false_iff_not,List.all_eq_false,List.mem_range,decide_eq_true_eq]
 constructor
 ·rintro ⟨c,hc,h1⟩
  obtain ⟨j,hj,rfl⟩:=List.mem_iff_getElem.1 hc
  rw [List.length_take] at hj
  refine ⟨j,by omega,fun h=>h1 ?_⟩
  have:=hget j (by omega)
  rw [h] at this
  rw [List.getElem_take]
  rw [List.getD_eq_getElem?_getD,List.getElem?_eq_getElem (by omega)] at this
  simpa using this
 ·rintro ⟨j,hj,h1⟩
  refine ⟨(cnts ns ns.length)[j],List.mem_iff_getElem.2 ⟨j,by rw [List.length_take];omega,by rw [List.getElem_take]⟩,fun h=>h1 ?_⟩
  have:=hget j (by omega)
  rw [List.getD_eq_getElem?_getD,List.getElem?_eq_getElem (by omega)] at this
  simp only [Option.getD_some,h] at this
  omega
theorem HP.clo {P:Program} {G:List (Nat × Obj)} {f:FuncId} {args:List AV} {ds:List D} {Q:AV→Prop} (hl:args.length=ds.length)
  (hr:∀ (i:Nat) x y,args[i]?=some x→ds[i]?=some y→x=.d y∨∃ g,x=.clo g []∧y=.clo g []) (h:HP P G f ds Q):HCall P G f args [] [] (fun r hp'=>Q r∧r.inU []=true∧hp'=[]):=by
 refine ⟨h.1,fun B β vs w h1 h2 h3 h4 h5=>h.2 B β vs w (h1.trans (by simpa using hl)) h2 h3 h4 { tms:=h5.tms,io:=h5.io,size:=h5.size,frame:=h5.frame,slots:=fun t=>?_,objs:=h5.objs,blocks:=h5.blocks,inj:=h5.inj,us:=h5.us,stay:=h5.stay }⟩
 have hv:=h5.slots t
 rw [eJ,bg,if_pos (Nat.zero_le _),Nat.sub_zero] at hv ⊢
 show VR w.heap ((mk (aG 0 (ds.map .d)) [] []).own B.A β) [] _ β _ _
 rw [List.getElem?_map]
 cases hx:args[t]? with
 | none =>
   rw [List.getElem?_eq_none (by rw [← hl];exact List.getElem?_eq_none_iff.1 hx)]
   exact .un _
 | some x =>
   have hlt:=(List.getElem?_eq_some_iff.1 hx).1
   have hy:ds[t]?=some ds[t]:=List.getElem?_eq_getElem (by omega)
   rw [hx] at hv
   rw [hy]
   simp only [Option.map_some,Option.getD_some] at hv ⊢
   rcases hr t _ _ hx hy with e | ⟨g,e1,e2⟩
   ·rw [← e];exact hv
   ·rw [e1] at hv
    rw [e2]
    generalize vs.getD t undef=v at hv ⊢
    cases hv with
    | clo _ vs' _ hs hc=>exact .d _ _ (.clo _ _ _ hs (fun i d hd=>by simp at hd))
def okI (ns:List EN) (i:Nat):Bool:=bL (ndE ns i) && dN ns i
theorem rl {ns:List EN} {i:Nat} (h:dN ns i=true):(aj (ndE ns i)).all (inB i)=true:=by
 unfold dN at h
 rw [Bool.and_eq_true] at h
 exact h.1
set_option maxHeartbeats 1000000 in
theorem og {G} (ns:List EN) (hs:∀ n∈ns,dc BIG n) (hN:ns.length≤1000000):HP Tryz.prog G 17 [exD ns] (fun r=>r=.d (i64 (cA ns))):=by
 generalize hb:cA ns=b
 unfold cA at hb
 unfold exD
 refine al Tryz.func17 rfl (by decide +kernel) (by simp [Tryz.ntmps17]) (veil fun E=>?_)
 simp only [go_sem]
 repeat (first
  | (apply b6 E;(· simp only [go_sem]);(· intro h;(try simp only [bq] at h);simp only [↓h,go_sem];rfl);simp only [go_sem])
  | (apply ba E;(· simp only [go_sem]);(· intro h;(try simp only [bq] at h);simp only [↓h,go_sem];rfl);(· intro h;(try simp only [bq] at h);simp only [↓h,go_sem];rfl);simp only [go_sem])
  | (apply a8 E;(· simp only [go_sem]);(· rfl);(· intro h h';(try simp only [bq] at h h');simp only [↓h,↓h',go_sem];rfl);simp only [go_sem])
  | (apply aI E;(· simp only [go_sem]);(· rfl);(· intro h h';(try simp only [bq] at h h');simp only [↓h,↓h',go_sem];rfl);(· intro h h';(try simp only [bq] at h h');simp only [↓h,↓h',go_sem];rfl);simp only [go_sem])
  | (apply bV E;(· decide);simp only [go_sem]))
 refine aB E (fun g=>?_) (fun g=>?_)<;>simp only [go_sem]
 ·simp only [Bool.or_eq_true,decide_eq_true_eq] at g
  rw [if_pos (by omega)] at hb
  rw [hb]
 have g':0<ns.length∧ns.length≤600:=by
  simp only [Bool.or_eq_false_iff,decide_eq_false_iff_not] at g
  omega
 rw [if_neg (by omega)] at hb
 refine ⟨⟨by omega,by omega,by omega,by omega⟩,?_⟩
 have hs':∀ n∈ns,n.l.length≤1000000:=fun n hn=>(hs n hn).l
 refine bl E (X:={ i:Nat // i≤ns.length∧∀ j,j<i→okI ns j=true }) (fun x=>[(1,.bx [1] 0),(2,.d (i64 0)),(3,.vw [19] 0 ns.length),(21,.d (.sl (some 9) (ns.map enD))),(22,.d (i64 ns.length)),(23,.d (i64 x.1))])
  (fun x=>[([1],.box [.d (.sl (some 9) (ns.map enD))]),([19],.arr none ((cnts ns x.1).map i64))]) [19,1] (fun x=>ns.length-x.1) ⟨0,Nat.zero_le _,fun j h=>absurd h (Nat.not_lt_zero _)⟩ ?_ ?_
 ·rw [show cnts ns 0=List.replicate ns.length 0 by simp [cnts,bumps],List.map_replicate]
  simp only [go_sem]
  all_goals rfl
 rintro ⟨i,hi,hok⟩ E0
 refine aC E0 fun Q' hQ E'=>?_
 simp only at hi hok ⊢
 simp only [go_sem]
 refine ah E' (fun g1=>?_) (fun g1=>?_)<;>simp only [go_sem]
 ·have hi':i<ns.length:=by omega
  refine ⟨⟨by omega,by omega⟩,?_⟩
  have hg:=aN hi'
  have hsn:=hs _ (by rw [bG hi'];exact List.getElem_mem hi':ndE ns i∈ns)
  have hc1:=Gi (G:=G) _ hsn
  have hc2:=Hd (G:=G) ns i (cnts ns i) (i*1000003) hi' hN (gK ns i) hsn.l (rE hs' hi) (by omega)
  have hok1:okI ns i=(bL (ndE ns i) && dN ns i):=rfl
  have hcs:=mn hi'
  rw [← hcs] at hc2
  have bad:okI ns i=false→okE ns=false:=fun h=>List.all_eq_false.2 ⟨i,List.mem_range.2 hi',by
   show ¬ okI ns i=true
   rw [h];decide⟩
  have good:okI ns i=true→∀ j,j<i+1→okI ns j=true:=fun h j hj=>by
   by_cases e:j=i
   ·rw [e];exact h
   ·exact hok j (by omega)
  generalize ndE ns i=n at hg hc1 hok1
  generalize bL n=x at hc1 hok1
  generalize dN ns i=y at hc2 hok1
  rw [hg]
  simp only [go_sem]
  refine ag E' hc1 rfl rfl (by simp) ?_
  rintro _ rfl
  simp only [go_sem]
  refine bU E' (fun h1=>?_) (fun h1=>?_)<;>simp only [go_sem]
  ·have hx:x=false:=by simpa using h1
   rw [hQ]
   simp only [go_sem]
   rw [bad (by rw [hok1,hx];rfl),Bool.false_and] at hb
   rw [← hb]
   rfl
  ·have hx:x=true:=by simpa using h1
   rw [ij]
   simp only [go_sem]
   refine aS E' (tau [([100],[19])]) [.d (exD ns),.d (i64 i),.vw [100] 0 ns.length] [([100],.arr none ((cnts ns i).map i64))] [100] hc2 rfl (by simp only [go_sem];try rfl) ⟨by simp only [go_sem],by rw [aa];decide⟩ rfl (by simp only [go_sem]) (by simp only [go_sem]) ?_
   rintro _ _ ⟨cs',hl',hcs',rfl,rfl⟩
   simp only [go_sem]
   refine ⟨by rw [gK,hl'];exact Nat.le_refl _,?_⟩
   refine aB E' (fun h2=>?_) (fun h2=>?_)<;>simp only [go_sem]
   ·rw [hQ]
    simp only [go_sem]
    rw [bad (by rw [hok1,show y=false by simpa using h2,Bool.and_false]),Bool.false_and] at hb
    rw [← hb]
    rfl
   ·have hy:y=true:=by simpa using h2
    rw [hQ,hcs' hy,ai (n:=(i:Int)+1) ⟨by omega,by omega⟩]
    simp only [go_sem]
    refine ⟨⟨i+1,by omega,good (by rw [hok1,hx,hy];rfl)⟩,by show ns.length-(i+1)<_;omega,?_⟩
    first | rfl | exact ⟨rfl,rfl⟩
 ·rw [hQ]
  have h3:i=ns.length:=by omega
  subst h3
  simp only [go_sem]
  rw [ai (n:=(ns.length:Int)-1) ⟨by omega,by omega⟩]
  refine ⟨⟨by omega,by omega⟩,?_⟩
  rw [show ((ns.length:Int)-1).toNat-0=ns.length-1 by omega]
  have hkk:∀ i,i<ns.length→(aj (ndE ns i)).all (inB i)=true:=fun i hi=>by
   have:=hok i hi
   unfold okI at this
   rw [Bool.and_eq_true] at this
   exact rl this.2
  have hokE:okE ns=true:=List.all_eq_true.2 fun j hj=>hok j (List.mem_range.1 hj)
  have hcl:=gK ns ns.length
  have hc3:=AX (G:=G) ((cnts ns ns.length).take (ns.length-1)) (fun c=>!decide (c=1)) 61 [] (by rw [List.length_take];omega) (fun x _=>GU x)
  rw [tz hkk,List.map_take] at hc3
  have hc4:=HP.clo (args:=[.d (.sl none (((cnts ns ns.length).map i64).take (ns.length-1))),.clo 61 []]) rfl (fun i x y hx hy=>by
   rcases i with _ | _ | i
   ·cases hx;cases hy;exact .inl rfl
   ·cases hx;cases hy;exact .inr ⟨61,rfl,rfl⟩
   ·cases hx) hc3
  refine z6 E [([19],none,(cnts ns ns.length).map i64)] [.d (.sl none (((cnts ns ns.length).map i64).take (ns.length-1))),.clo 61 []] [] [] hc4 (by rintro _ _ ⟨rfl,_,rfl⟩;exact ⟨rfl,rfl⟩) (by simp only [go_sem]) rfl (by simp only [go_sem];try rfl) ⟨by simp only [go_sem],by rw [aa];decide⟩ rfl (by simp only [go_sem]) (by simp only [go_sem]) ?_
  rintro _ _ ⟨rfl,_,rfl⟩
  simp only [go_sem]
  rw [hokE,Bool.true_and] at hb
  have hdl:=(cS (ns:=ns) (Nat.le_refl _)).1
  unfold bJ at hdl
  rw [List.take_length] at hdl
  refine aB E (fun k1=>?_) (fun k1=>?_)<;>simp only [go_sem]
  ·have:mG ns=false:=by simpa using k1
   rw [this] at hb
   rw [← hb]
   rfl
  ·have:mG ns=true:=by simpa using k1
   rw [this,if_pos rfl] at hb
   unfold iy at hb
   have hc5:=AM (G:=G) ns hN hs' hkk
   unfold exD at hc5
   refine ak mixed E fun X=>?_
   simp only [go_sem]
   refine bK X hc5 rfl rfl (by simp) ?_
   simp only [go_sem]
   rw [ai (n:=(ns.length:Int)-1) ⟨by omega,by omega⟩]
   refine ⟨⟨by omega,by rw [hdl];omega⟩,?_⟩
   rw [av (by omega),show ((ns.length:Int)-1).toNat=ns.length-1 by omega]
   simp only [go_sem]
   refine ⟨by decide +kernel,?_⟩
   refine ah E (fun k2=>?_) (fun k2=>?_)<;>simp only [go_sem]
   ·rw [if_pos k2] at hb
    rw [← hb]
   ·rw [if_neg k2] at hb
    rw [← hb]
end Go.Proofs.YtejpnabbmgpmaaaGreat

namespace Go.Proofs.YtejpnabbmgpmaaaGreat
open Go.Ab
def Seg (N:Nat) (xs:Nat→List D) (n:Nat) (L:List Int):Prop:=n+L.length≤N∧∀ j,j<L.length→xs (n+j)=[i64 (L.getD j 0)]
theorem Seg.left {N:Nat} {xs:Nat→List D} {n:Nat} {a b:List Int} (h:Seg N xs n (a++b)):Seg N xs n a :=
 ⟨by have:=h.1;rw [List.length_append] at this;omega,fun j hj=>by
  rw [h.2 j (by rw [List.length_append];omega),List.getD_eq_getElem?_getD,List.getD_eq_getElem?_getD,List.getElem?_append_left hj]⟩
theorem Seg.right {N:Nat} {xs:Nat→List D} {n:Nat} {a b:List Int} (h:Seg N xs n (a++b)):Seg N xs (n+a.length) b :=
 ⟨by have:=h.1;rw [List.length_append] at this;omega,fun j hj=>by
  have:=h.2 (a.length+j) (by rw [List.length_append];omega)
  rw [← Nat.add_assoc] at this
  rw [this,List.getD_eq_getElem?_getD,List.getD_eq_getElem?_getD,List.getElem?_append_right (by omega)]
  simp⟩
end Go.Proofs.YtejpnabbmgpmaaaGreat

namespace Go.Proofs.YtejpnabbmgpmaaaGreat
open Go.Ab
structure Walk (ns:List EN) (its:List Int):Prop where
 nd:its.Nodup
 inn:∀ x∈its,0≤x∧x<(ns.length:Int)
 pre:∀ n (h:n<its.length),∀ k∈aj (ndE ns its[n].toNat),k∈its.take n
def IY (ns:List EN) (its:List Int) (x:Int):EN:=bk (ndE ns x.toNat) ((aj (ndE ns x.toNat)).map fun k=>(its.idxOf k:Int))
def HB (ns:List EN) (its:List Int) (n:Nat):List EN:=(its.take n).map (IY ns its)
end Go.Proofs.YtejpnabbmgpmaaaGreat

namespace Go.Proofs.YtejpnabbmgpmaaaGreat
open Go.Ab
structure cV (ns:List EN):Prop where
 pos:0<ns.length
 few:ns.length≤600
 right:∀ i,i<ns.length→bL (ndE ns i)=true
 link:∀ i,i<ns.length→dN ns i=true
 once:mG ns=true
 deep:iy ns≤100
theorem sh {ns:List EN} (h:cA ns=0):cV ns:=by
 unfold cA at h
 split at h
 ·exact absurd h (by decide)
 rename_i h1
 split at h
 ·rename_i h2
  split at h
  ·exact absurd h (by decide)
  ·rename_i h3
   rw [Bool.and_eq_true] at h2
   have h4:∀ i,i<ns.length→bL (ndE ns i)=true∧dN ns i=true:=fun i hi=>by
    have:=List.all_eq_true.1 h2.1 i (List.mem_range.2 hi)
    simpa [Bool.and_eq_true] using this
   exact ⟨by omega,by omega,fun i hi=>(h4 i hi).1,fun i hi=>(h4 i hi).2,h2.2,by omega⟩
 ·exact absurd h (by decide)
theorem cV.kids {ns:List EN} (h:cV ns):∀ i,i<ns.length→(aj (ndE ns i)).all (inB i)=true:=fun i hi=>rl (h.link i hi)
theorem EB {n:EN} (h:bL n=true):n.l.length≤30:=by
 unfold bL bY at h
 simp only [Bool.and_eq_true] at h
 have h1:=h.2.1.2
 split at h1
 ·simp only [Bool.and_eq_true,decide_eq_true_eq] at h1
  exact h1.2.1.2
 ·have:n.l=[]:=by simpa using h1
  rw [this];decide
theorem cV.l {ns:List EN} (h:cV ns):∀ n∈ns,n.l.length≤30:=fun n hn=>by
 obtain ⟨i,hi,rfl⟩:=List.mem_iff_getElem.1 hn
 have:=h.right i hi
 rw [bG hi] at this
 exact EB this
theorem Tr.sub {ns:List EN} (h:Tr ns):HB ns (bz ns ns.length ((ns.length:Int)-1)) (bz ns ns.length ((ns.length:Int)-1)).length=ns:=by
 have h1:=h.norm
 have h0:=h.kids.1
 unfold GC at h1
 rw [show ((ns.length:Int)-1).toNat+1=ns.length by omega] at h1
 unfold HB IY
 rw [List.take_length]
 exact h1
end Go.Proofs.YtejpnabbmgpmaaaGreat

namespace Go.Proofs.YtejpnabbmgpmaaaGreat
open Go.Ab
theorem Dp {ns:List EN} {i:Nat} {k:Int} (hk:k∈aj (ndE ns i)) (h:inB i k=false):dN ns i=false:=by
 have:(aj (ndE ns i)).all (inB i)=false:=List.all_eq_false.2 ⟨k,hk,by rw [h];decide⟩
 unfold dN
 rw [show ((aj (ndE ns i)).all fun k=>decide (0≤k) && decide (k<(i:Int)))=false from this,Bool.false_and]
theorem Bv {ns:List EN} {i:Nat} (h:(aj (ndE ns i)).all (inB i)=true):dN ns i=(decide ((ndE ns i).k≠8) || decide ((ndE ns (ndE ns i).a.toNat).k=5)):=by
 unfold dN
 rw [show ((aj (ndE ns i)).all fun k=>decide (0≤k) && decide (k<(i:Int)))=true from h,Bool.true_and]
set_option maxHeartbeats 4000000 in
theorem nX {G} (ns:List EN) (hs:∀ n∈ns,dc BIG n) (hN:ns.length≤1000000):HP Tryz.prog G 67 [exD ns] (fun r=>r=.d (i64 (cA ns))):=by
 generalize hb:cA ns=b
 unfold cA at hb
 unfold exD
 refine al Tryz.func67 rfl (by decide +kernel) (by simp [Tryz.ntmps67]) (veil fun E=>?_)
 simp only [go_sem]
 repeat (first
  | (apply b6 E;(· simp only [go_sem]);(· intro h;(try simp only [bq] at h);simp only [↓h,go_sem];rfl);simp only [go_sem])
  | (apply ba E;(· simp only [go_sem]);(· intro h;(try simp only [bq] at h);simp only [↓h,go_sem];rfl);(· intro h;(try simp only [bq] at h);simp only [↓h,go_sem];rfl);simp only [go_sem])
  | (apply a8 E;(· simp only [go_sem]);(· rfl);(· intro h h';(try simp only [bq] at h h');simp only [↓h,↓h',go_sem];rfl);simp only [go_sem])
  | (apply aI E;(· simp only [go_sem]);(· rfl);(· intro h h';(try simp only [bq] at h h');simp only [↓h,↓h',go_sem];rfl);(· intro h h';(try simp only [bq] at h h');simp only [↓h,↓h',go_sem];rfl);simp only [go_sem])
  | (apply bV E;(· decide);simp only [go_sem]))
 refine aB E (fun g=>?_) (fun g=>?_)
 ·simp only [go_sem]
  simp only [Bool.or_eq_true,decide_eq_true_eq] at g
  rw [if_pos (by omega)] at hb
  rw [← hb]
 have g':0<ns.length∧ns.length≤600:=by
  simp only [Bool.or_eq_false_iff,decide_eq_false_iff_not] at g
  omega
 rw [if_neg (by omega)] at hb
 simp only [go_sem]
 refine ak mixed E fun X=>?_
 simp only [go_sem]
 refine CG X (d:=22) (t:=95) (e:=3) (n:=ns.length) (z:=i64 0) (by rw [CT]) (by rw [ti3];rfl) (by rw [ti3];rfl) rfl rfl (by rw [ti3];exact ⟨by simp only;omega,by omega⟩) ⟨by simp only [go_sem],by rw [aa];decide⟩ ?_
 simp only [go_sem]
 refine CG X (d:=26) (t:=95) (e:=3) (n:=ns.length) (z:=i64 0) (by rw [CT]) (by rw [ti3];rfl) (by rw [ti3];rfl) rfl rfl (by rw [ti3];exact ⟨by simp only;omega,by omega⟩) ⟨by simp only [go_sem],by rw [aa];decide⟩ ?_
 simp only [go_sem]
 refine ⟨by decide +kernel,?_⟩
 have hs':∀ n∈ns,n.l.length≤1000000:=fun n hn=>(hs n hn).l
 refine bl E (X:={ i:Nat // i≤ns.length∧∀ j,j<i→okI ns j=true }) (fun x=>[(1,.bx [1] 0),(2,.d (i64 0)),(3,.vw [22] 0 ns.length),(4,.vw [26] 0 ns.length),(5,.d (i64 x.1))])
  (fun x=>[([1],.box [.d (.sl (some 9) (ns.map enD))]),([22],.arr none ((cnts ns x.1).map i64)),([26],.arr none ((je ns x.1).map i64))]) [1,22,26] (fun x=>ns.length-x.1) ⟨0,Nat.zero_le _,fun j h=>absurd h (Nat.not_lt_zero _)⟩ ?_ ?_
 ·rw [show cnts ns 0=List.replicate ns.length 0 by simp [cnts,bumps],pS,List.map_replicate]
  simp only [go_sem]
  all_goals first | rfl | exact ⟨rfl,rfl⟩ | exact ⟨rfl,rfl,rfl⟩
 rintro ⟨i,hi,hok⟩ E0
 refine aC E0 fun Q' hQ E'=>?_
 simp only at hi hok ⊢
 simp only [go_sem]
 refine ah E' (fun g1=>?_) (fun g1=>?_)<;>simp only [go_sem]
 ·have hi':i<ns.length:=by omega
  have hg:=aN hi'
  have hsn:=hs _ (by rw [bG hi'];exact List.getElem_mem hi':ndE ns i∈ns)
  have hc1:=De (G:=G) _ hsn
  have hc2:=l7 (G:=G) _ hsn.l
  have hok1:okI ns i=(bL (ndE ns i) && dN ns i):=rfl
  have hcs:=mn hi'
  have hdt:=qc hi'
  rw [nr] at hdt
  have hlno:∀ k∈aj (ndE ns i),inB i k=false→dN ns i=false:=fun k h1 h2=>Dp h1 h2
  have hlrec:=Bv (ns:=ns) (i:=i)
  have bad:okI ns i=false→okE ns=false:=fun h=>List.all_eq_false.2 ⟨i,List.mem_range.2 hi',by
   show ¬ okI ns i=true
   rw [h];decide⟩
  have good:okI ns i=true→∀ j,j<i+1→okI ns j=true:=fun h j hj=>by
   by_cases e:j=i
   ·rw [e];exact h
   ·exact hok j (by omega)
  obtain ⟨n,hne⟩:∃ n,n=ndE ns i:=⟨_,rfl⟩
  rw [← hne] at hg hsn hc1 hc2 hok1 hcs hdt hlno hlrec
  generalize bL n=x at hc1 hok1
  generalize dN ns i=y at hlno hlrec hok1
  obtain ⟨K,hK⟩:∃ K,K=aj n:=⟨_,rfl⟩
  have hKl:K.length≤1000003:=by rw [hK,br];unfold bf;have:=bB n.k;have:=hsn.l;split<;>omega
  rw [← hK] at hc2 hcs hdt hlno hlrec
  obtain ⟨hd1,hd2⟩:=cS (ns:=ns) (i:=i) hi
  have hcb:=rE hs' hi
  have hcl:=gK ns i
  rw [show je ns i=eD ns i 0 by unfold je;rw [if_pos hi']]
  refine ⟨⟨by omega,by omega⟩,?_⟩
  rw [hg]
  simp only [go_sem]
  refine ag E' hc1 rfl rfl (by simp) ?_
  rintro _ rfl
  simp only [go_sem]
  refine aB E' (fun h1=>?_) (fun h1=>?_)<;>simp only [go_sem]
  ·have hx:x=false:=by simpa using h1
   rw [hQ]
   simp only [go_sem]
   rw [bad (by rw [hok1,hx];rfl),Bool.false_and] at hb
   rw [← hb]
   rfl
  have hx:x=true:=by simpa using h1
  refine ⟨⟨by omega,by omega⟩,?_⟩
  rw [hg]
  simp only [go_sem]
  refine ag E' hc2 rfl rfl (by simp) ?_
  rintro _ rfl
  simp only [go_sem]
  refine bl E' (X:={ q:Nat // q≤K.length∧(K.take q).all (inB i)=true }) (fun x=>[(1,.bx [1] 0),(2,.d (i64 0)),(3,.vw [22] 0 ns.length),(4,.vw [26] 0 ns.length),(5,.d (i64 i)),(6,.d (.sl none (K.map i64))),(7,.d (i64 x.1))])
   (fun x=>[([1],.box [.d (.sl (some 9) (ns.map enD))]),([22],.arr none ((bumps (cnts ns i) (K.take x.1)).map i64)),([26],.arr none ((eD ns i (mx (bJ ns i) (K.take x.1))).map i64))]) [1,22,26] (fun x=>K.length-x.1) ⟨0,Nat.zero_le _,by simp⟩ ?_ ?_
  ·simp only [go_sem]
   all_goals first | rfl | exact ⟨rfl,rfl⟩ | exact ⟨rfl,rfl,rfl⟩
  rintro ⟨q,hq,hall⟩ E2
  refine aC E2 fun Q2 hQ2 E3=>?_
  simp only at hq hall ⊢
  have hal:=uz hi' (mx (bJ ns i) (K.take q))
  have hmb:=wq hd2 (K.take q)
  have hbl:=fw (K.take q) (cnts ns i)
  have htl:(K.take q).length≤1000003:=by rw [List.length_take];omega
  simp only [go_sem]
  refine ah E3 (fun g2=>?_) (fun g2=>?_)<;>simp only [go_sem]
  ·have hq':q<K.length:=by omega
   have hkm:K[q]∈K:=List.getElem_mem hq'
   have hbd:=(hcb.bumps (ks:=K.take q)).get K[q].toNat
   refine ⟨⟨by omega,by omega⟩,?_⟩
   rw [av hq',show K.getD q 0=K[q] by simp [hq']]
   simp only [go_sem]
   refine an E3 (fun g3=>?_) (fun g3=>?_)
   ·simp only [go_sem]
    have g5:inB i K[q]=false:=by
     rw [Bool.eq_false_iff]
     intro hc
     simp only [inB,Bool.and_eq_true,decide_eq_true_eq] at hc
     omega
    rw [hQ2]
    simp only [go_sem]
    rw [hQ]
    simp only [go_sem]
    rw [bad (by rw [hok1,hlno _ hkm g5,Bool.and_false]),Bool.false_and] at hb
    rw [← hb]
    try rfl
   ·simp only [go_sem]
    refine ⟨⟨by omega,by omega⟩,?_⟩
    rw [av hq',show K.getD q 0=K[q] by simp [hq']]
    simp only [go_sem]
    refine ah E3 (fun g4=>?_) (fun g4=>?_)<;>simp only [go_sem]
    ·have g5:inB i K[q]=false:=by
      rw [Bool.eq_false_iff]
      intro hc
      simp only [inB,Bool.and_eq_true,decide_eq_true_eq] at hc
      omega
     rw [hQ2]
     simp only [go_sem]
     rw [hQ]
     simp only [go_sem]
     rw [bad (by rw [hok1,hlno _ hkm g5,Bool.and_false]),Bool.false_and] at hb
     rw [← hb]
     try rfl
    have g5:inB i K[q]=true:=by
     unfold inB
     rw [decide_eq_true (show 0≤K[q] by omega),decide_eq_true (show K[q]<(i:Int) by omega)]
     rfl
    refine ⟨⟨by omega,by omega⟩,?_⟩
    rw [av hq',show K.getD q 0=K[q] by simp [hq']]
    simp only [go_sem]
    refine ⟨⟨by omega,by omega⟩,?_⟩
    rw [av (by omega)]
    simp only [go_sem]
    refine ⟨⟨by omega,by omega⟩,?_⟩
    rw [ai (n:=(bumps (cnts ns i) (K.take q)).getD K[q].toNat 0+1) ⟨by omega,by omega⟩]
    rw [show (List.map i64 (bumps (cnts ns i) (K.take q))).set K[q].toNat (.int .i64 ((bumps (cnts ns i) (K.take q)).getD K[q].toNat 0+1))=(bumps (cnts ns i) (K.take (q+1))).map i64 by
     rw [List.take_succ_eq_append_getElem hq',ow];unfold bump;rw [List.map_set]]
    refine ak mixed E3 fun X=>?_
    simp only [go_sem]
    refine ⟨⟨by omega,by omega⟩,?_⟩
    rw [av (by omega),kT hi']
    simp only [go_sem]
    refine ⟨⟨by omega,by omega⟩,?_⟩
    rw [av hq',show K.getD q 0=K[q] by simp [hq']]
    simp only [go_sem]
    refine ⟨⟨by omega,by omega⟩,?_⟩
    rw [av (by omega),tN hi _ (show K[q].toNat<i by omega)]
    simp only [go_sem]
    refine ⟨⟨by omega,by omega⟩,?_⟩
    refine ⟨by decide +kernel,?_⟩
    rw [ai (n:=(q:Int)+1) ⟨by omega,by omega⟩]
    rw [show (List.map i64 (eD ns i (mx (bJ ns i) (K.take q)))).set i (.int .i64 (if (bJ ns i).getD K[q].toNat 0 > mx (bJ ns i) (K.take q) then (bJ ns i).getD K[q].toNat 0 else mx (bJ ns i) (K.take q)))=(eD ns i (mx (bJ ns i) (K.take (q+1)))).map i64 by
     rw [List.take_succ_eq_append_getElem hq',rv,vn,← List.map_set,lD hi']]
    rw [hQ2]
    simp only [go_sem]
    refine ⟨⟨q+1,by omega,by rw [List.take_succ_eq_append_getElem hq',List.all_append,hall];simpa using g5⟩,by show K.length-(q+1)<_;omega,?_⟩
    first | rfl | exact ⟨rfl,rfl⟩ | exact ⟨rfl,rfl,rfl⟩
  ·rw [hQ2]
   have h3:q=K.length:=by omega
   subst h3
   rw [List.take_length] at *
   simp only [go_sem]
   refine ⟨⟨by omega,by omega⟩,?_⟩
   rw [av (by omega),kT hi']
   simp only [go_sem]
   refine ⟨⟨by omega,by omega⟩,?_⟩
   rw [ai (n:=mx (bJ ns i) K+1) ⟨by omega,by omega⟩]
   rw [show (List.map i64 (eD ns i (mx (bJ ns i) K))).set i (.int .i64 (mx (bJ ns i) K+1))=(je ns (i+1)).map i64 by
    rw [← hdt,← List.map_set,lD hi'],← hcs]
   have hy:=hlrec hall
   refine ak mixed E' fun X=>?_
   simp only [go_sem]
   refine ⟨⟨by omega,by omega⟩,?_⟩
   rw [hg]
   simp only [go_sem]
   refine om X (fun k8=>?_) (fun k8=>?_)<;>simp only [go_sem]
   ·have hka:K=[n.a,n.b]:=by rw [hK];unfold aj;rw [k8];rfl
    have ha:0≤n.a∧n.a<(i:Int):=by
     rw [hka] at hall
     simp only [List.all_cons,inB,Bool.and_eq_true,decide_eq_true_eq] at hall
     exact hall.1
    rw [ij]
    simp only [go_sem]
    refine ⟨⟨by omega,by omega⟩,?_⟩
    rw [hg]
    simp only [go_sem]
    refine ⟨⟨by omega,by omega⟩,?_⟩
    rw [aN (show n.a.toNat<ns.length by omega)]
    simp only [go_sem]
    refine ⟨by decide +kernel,?_⟩
    rw [decide_eq_false (show ¬ n.k≠8 from fun h=>h k8),Bool.false_or] at hy
    refine ah E' (fun g6=>?_) (fun g6=>?_)<;>simp only [go_sem]
    ·rw [hQ]
     simp only [go_sem]
     rw [bad (by rw [hok1,hy,decide_eq_false g6,Bool.and_false]),Bool.false_and] at hb
     rw [← hb]
     try rfl
    ·rw [hQ]
     simp only [go_sem]
     rw [ai (n:=(i:Int)+1) ⟨by omega,by omega⟩]
     refine ⟨⟨i+1,by omega,good (by rw [hok1,hx,hy,decide_eq_true (by simpa using g6)];rfl)⟩,by show ns.length-(i+1)<_;omega,?_⟩
     first | rfl | exact ⟨rfl,rfl⟩ | exact ⟨rfl,rfl,rfl⟩
   ·rw [decide_eq_true (show n.k≠8 from k8),Bool.true_or] at hy
    refine ⟨by decide +kernel,?_⟩
    rw [hQ]
    simp only [go_sem]
    rw [ai (n:=(i:Int)+1) ⟨by omega,by omega⟩]
    refine ⟨⟨i+1,by omega,good (by rw [hok1,hx,hy];rfl)⟩,by show ns.length-(i+1)<_;omega,?_⟩
    first | rfl | exact ⟨rfl,rfl⟩ | exact ⟨rfl,rfl,rfl⟩
 ·rw [hQ]
  have h3:i=ns.length:=by omega
  subst h3
  simp only [go_sem]
  have hokE:okE ns=true:=List.all_eq_true.2 fun j hj=>hok j (List.mem_range.1 hj)
  have hkk:∀ i,i<ns.length→(aj (ndE ns i)).all (inB i)=true:=fun i hi=>by
   have:=hok i hi
   unfold okI at this
   rw [Bool.and_eq_true] at this
   exact rl this.2
  have hoa:=tz hkk
  have hcl:=gK ns ns.length
  have hdl:=(cS (ns:=ns) (Nat.le_refl _)).1
  unfold bJ at hdl
  rw [List.take_length] at hdl
  rw [hokE,Bool.true_and] at hb
  rw [show je ns ns.length=dy ns [] by unfold je;rw [if_neg (Nat.lt_irrefl _)]]
  generalize cnts ns ns.length=C at hoa hcl ⊢
  refine bl E (X:={ j:Nat // j≤ns.length-1∧(C.take j).any (fun c=>!decide (c=1))=false }) (fun x=>[(1,.bx [1] 0),(2,.d (i64 0)),(3,.vw [22] 0 ns.length),(4,.vw [26] 0 ns.length),(8,.d (i64 x.1))])
   (fun _=>[([1],.box [.d (.sl (some 9) (ns.map enD))]),([22],.arr none (C.map i64)),([26],.arr none ((dy ns []).map i64))]) [1,22,26] (fun x=>ns.length-x.1) ⟨0,Nat.zero_le _,by simp⟩ ?_ ?_
  ·simp only [go_sem]
   all_goals first | rfl | exact ⟨rfl,rfl⟩
  rintro ⟨j,hj,hone⟩ E2
  refine aC E2 fun Q2 hQ2 E3=>?_
  simp only at hj hone ⊢
  simp only [go_sem]
  rw [ai (n:=(ns.length:Int)-1) ⟨by omega,by omega⟩]
  refine ah E3 (fun g2=>?_) (fun g2=>?_)<;>simp only [go_sem]
  ·have hjc:j<C.length:=by omega
   refine ⟨⟨by omega,by omega⟩,?_⟩
   rw [av hjc,show C.getD j 0=C[j] by simp [hjc]]
   simp only [go_sem]
   refine ah E3 (fun g3=>?_) (fun g3=>?_)<;>simp only [go_sem]
   ·rw [hQ2]
    simp only [go_sem]
    have hm:C[j]∈C.take (ns.length-1):=List.mem_iff_getElem.2 ⟨j,by rw [List.length_take];omega,by rw [List.getElem_take]⟩
    have:(C.take (ns.length-1)).any (fun c=>!decide (c=1))=true:=List.any_eq_true.2 ⟨_,hm,by simpa using g3⟩
    rw [this] at hoa
    rw [show mG ns=false by simpa using hoa.symm] at hb
    rw [← hb]
    rfl
   ·rw [hQ2]
    simp only [go_sem]
    rw [ai (n:=(j:Int)+1) ⟨by omega,by omega⟩]
    refine ⟨⟨j+1,by omega,jJ hjc hone (by simpa using g3)⟩,by show ns.length-(j+1)<_;omega,?_⟩
    first | rfl | exact ⟨rfl,rfl⟩ | exact ⟨rfl,rfl,rfl⟩
  ·rw [hQ2]
   have h4:j=ns.length-1:=by omega
   subst h4
   rw [hone] at hoa
   rw [show mG ns=true by simpa using hoa.symm,if_pos rfl] at hb
   unfold iy at hb
   simp only [go_sem]
   rw [ai (n:=(ns.length:Int)-1) ⟨by omega,by omega⟩]
   refine ⟨⟨by omega,by omega⟩,?_⟩
   rw [show ((ns.length:Int)-1).toNat=ns.length-1 by omega,av (by omega)]
   simp only [go_sem]
   refine ah E (fun k2=>?_) (fun k2=>?_)<;>simp only [go_sem]
   ·rw [if_pos k2] at hb
    rw [← hb]
    try rfl
   ·rw [if_neg k2] at hb
    rw [← hb]
    try rfl
end Go.Proofs.YtejpnabbmgpmaaaGreat

namespace Go.Proofs.YtejpnabbmgpmaaaGreat
open Go.Ab
theorem lE {ns:List EN} {k:Nat}:∀ {i:Nat},i≤ns.length→k<i→(bJ ns i).getD k 0=(bJ ns (k+1)).getD k 0
 | 0,_,h=>absurd h (Nat.not_lt_zero _)
 | i+1,hi,hk=>by
   by_cases h:k=i
   ·rw [h]
   ·have ih:=lE (ns:=ns) (k:=k) (i:=i) (by omega) (by omega)
    have hl:=(cS (ns:=ns) (i:=i) (by omega)).1
    rw [gF (by omega),List.getD_eq_getElem?_getD,List.getElem?_append_left (by omega),← List.getD_eq_getElem?_getD,ih]
theorem Ez {ns:List EN} {i:Nat} (hi:i<ns.length):(dy ns []).getD i 0=mx (bJ ns i) (aj (ndE ns i))+1:=by
 have h1:dy ns []=bJ ns ns.length:=by unfold bJ;rw [List.take_length]
 have hl:=(cS (ns:=ns) (i:=i) (by omega)).1
 rw [h1,lE (Nat.le_refl _) hi,gF hi,List.getD_eq_getElem?_getD,List.getElem?_append_right (by omega),hl,Nat.sub_self,nr]
 rfl
theorem zP {ns:List EN} {i k:Nat} (hi:i≤ns.length) (hk:k<i):(dy ns []).getD k 0=(bJ ns i).getD k 0:=by
 have h1:dy ns []=bJ ns ns.length:=by unfold bJ;rw [List.take_length]
 rw [h1,lE (Nat.le_refl _) (by omega),lE hi hk]
theorem C9 {G} (ns:List EN) (hN:ns.length≤1000000) (hs:∀ n∈ns,n.l.length≤1000000) (hk:∀ i,i<ns.length→(aj (ndE ns i)).all (inB i)=true) :
  ∀ (m i:Nat),i<m→i<ns.length→HP Tryz.prog G 31 [exD ns,i64 i] (fun r=>r=.d (i64 ((dy ns []).getD i 0)))
 | 0,_,h,_=>absurd h (Nat.not_lt_zero _)
 | m+1,i,him,hi=>by
   have hg:=aN hi
   have hki:=hk i hi
   have hsi:=hs _ (by rw [bG hi];exact List.getElem_mem hi:ndE ns i∈ns)
   rw [Ez hi]
   obtain ⟨n,hne⟩:∃ n,n=ndE ns i:=⟨_,rfl⟩
   rw [← hne] at hg hki hsi ⊢
   have hc:=l7 (G:=G) n hsi
   obtain ⟨K,hK⟩:∃ K,K=aj n:=⟨_,rfl⟩
   have hKl:K.length≤1000003:=by rw [hK,br];unfold bf;have:=bB n.k;split<;>omega
   rw [← hK] at hki hc ⊢
   obtain ⟨hd1,hd2⟩:=cS (ns:=ns) (i:=i) (by omega)
   have ih:∀ k:Nat,k<i→HP Tryz.prog G 31 [.agg [.sl (some 9) (ns.map enD)],i64 k] (fun r=>r=.d (i64 ((bJ ns i).getD k 0))):=fun k hk1=>by
    have:=C9 (G:=G) ns hN hs hk m k (by omega) (by omega)
    rw [zP (by omega) hk1] at this
    exact this
   generalize bJ ns i=D at hd1 hd2 ih ⊢
   unfold exD
   refine al Tryz.func31 rfl (by decide +kernel) (by simp [Tryz.ntmps31]) (veil fun E=>?_)
   simp only [go_sem]
   refine ⟨⟨by omega,by omega⟩,?_⟩
   rw [hg]
   simp only [go_sem]
   refine ag E hc rfl rfl (by simp) ?_
   rintro _ rfl
   simp only [go_sem]
   refine bl E (X:={ q:Nat // q≤K.length }) (fun x=>[(2,.bx [2] 0),(5,.d (i64 (mx D (K.take x.1)))),(6,.d (.sl none (K.map i64))),(7,.d (i64 x.1))])
    (fun _=>[([2],.box [.d (.sl (some 9) (ns.map enD))])]) [2] (fun x=>K.length-x.1) ⟨0,Nat.zero_le _⟩ ?_ ?_
   ·simp only [go_sem]
    all_goals first | rfl | exact ⟨rfl,rfl⟩
   rintro ⟨q,hq⟩ E0
   refine aC E0 fun Q' hQ E'=>?_
   simp only at hq ⊢
   simp only [go_sem]
   refine ah E' (fun g1=>?_) (fun g1=>?_)<;>simp only [go_sem]
   ·have hq':q<K.length:=by omega
    have hkq:0≤K[q]∧K[q]<(i:Int):=by
     have:=List.all_eq_true.1 hki K[q] (List.getElem_mem hq')
     simpa [inB] using this
    obtain ⟨k,hkk⟩:∃ k:Nat,K[q]=(k:Int):=⟨K[q].toNat,by omega⟩
    have hst:mx D (K.take (q+1))=max (mx D (K.take q)) (D.getD k 0):=by
     rw [List.take_succ_eq_append_getElem hq',rv,hkk,Int.toNat_natCast]
    refine ak mixed E' fun X=>?_
    simp only [go_sem]
    refine ⟨⟨by omega,by omega⟩,?_⟩
    rw [av hq',show K.getD q 0=K[q] by simp [hq'],hkk]
    simp only [go_sem]
    refine bK X (ih k (by omega)) rfl rfl (by simp) ?_
    simp only [go_sem]
    refine ⟨by decide +kernel,?_⟩
    rw [vn,← hst,ai ⟨by omega,by omega⟩]
    rw [hQ]
    simp only [go_sem]
    refine ⟨⟨q+1,by omega⟩,by show K.length-(q+1)<_;omega,?_⟩
    first | rfl | exact ⟨rfl,rfl⟩
   ·rw [hQ]
    have h3:q=K.length:=by omega
    subst h3
    rw [List.take_length]
    have hmb:=wq hd2 K
    simp only [go_sem]
    rw [ai ⟨by omega,by omega⟩,Int.add_comm]
theorem EU {G} (ns:List EN) (hs:∀ n∈ns,dc BIG n) (hN:ns.length≤1000000):HP Tryz.prog G 116 [exD ns] (fun r=>r=.d (i64 (if cA ns=0 then iy ns else 0))):=by
 have c1:=og (G:=G) ns hs hN
 by_cases hm:cA ns=0
 ·have ht:=sh hm
  have c2:=AM (G:=G) ns hN (fun n hn=>(hs n hn).l) ht.kids
  have hp:=ht.pos
  have hdl:=(cS (ns:=ns) (Nat.le_refl _)).1
  unfold bJ at hdl
  rw [List.take_length] at hdl
  rw [if_pos hm]
  rw [hm] at c1
  unfold iy
  unfold exD at *
  refine al Tryz.func116 rfl (by decide +kernel) (by simp [Tryz.ntmps116]) (veil fun E=>?_)
  simp only [go_sem]
  refine ag E c1 rfl rfl (by simp) ?_
  rintro _ rfl
  simp only [go_sem]
  refine ak mixed E fun X=>?_
  simp only [go_sem]
  refine bK X c2 rfl rfl (by simp) ?_
  simp only [go_sem]
  rw [ai (n:=(ns.length:Int)-1) ⟨by omega,by omega⟩]
  refine ⟨⟨by omega,by rw [hdl];omega⟩,?_⟩
  rw [av (by omega),show ((ns.length:Int)-1).toNat=ns.length-1 by omega]
  simp only [go_sem]
  first | (exact ⟨by decide +kernel,trivial⟩) | (exact ⟨by decide +kernel,rfl⟩) | decide +kernel | (refine ⟨?_,rfl⟩;decide +kernel)
 ·rw [if_neg hm]
  generalize cA ns=b at c1 hm
  unfold exD at *
  refine al Tryz.func116 rfl (by decide +kernel) (by simp [Tryz.ntmps116]) (veil fun E=>?_)
  simp only [go_sem]
  refine ag E c1 rfl rfl (by simp) ?_
  rintro _ rfl
  simp only [go_sem]
  refine ah E (fun _=>?_) (fun h=>absurd hm (by simpa using h))<;>simp only [go_sem]
end Go.Proofs.YtejpnabbmgpmaaaGreat

namespace Go.Proofs.YtejpnabbmgpmaaaGreat
open Go.Ab
abbrev Bi:=Int × Int
abbrev Reach:=List (List UInt8 × Bi)
def bD (b:Bi):D:=.agg [i64 b.1,i64 b.2]
def kD (q:List UInt8 × Bi):D:=.agg [.str q.1,i64 q.2.1,i64 q.2.2]
def ec (r:Reach):D:=.sl (some 3) (r.map kD)
def noB:Bi:=(-1,-1)
def dp (r:Reach) (nm:List UInt8):Bi:=match r.reverse.find? (fun q=>decide (q.1=nm)) with
 | some q=>q.2
 | none=>noB
theorem j7 (r:Reach) (q:List UInt8 × Bi) (nm:List UInt8):dp (r++[q]) nm=if q.1=nm then q.2 else dp r nm:=by
 unfold dp
 rw [List.reverse_append,List.reverse_singleton,List.singleton_append,List.find?_cons]
 by_cases h:q.1=nm<;>simp [h]
theorem x6 {G}:HP Tryz.prog G 203 [] (fun r=>r=.d (.agg [i64 (-1),i64 (-1)])):=by
 refine aw Tryz.func203 rfl (by decide +kernel) (by simp [Tryz.ntmps203]) (veil fun E=>?_)
 simp only [go_sem]
 refine ⟨[],?_⟩
 simp only [go_sem]
theorem tq {r:Reach} {i:Nat} (h:i<r.length):(r.map kD).getD i .nilp=.agg [.str r[i].1,i64 r[i].2.1,i64 r[i].2.2]:=by simp [h,kD]
theorem Es {G} (r:Reach) (nm:List UInt8) (hl:r.length≤1000000):HP Tryz.prog G 204 [ec r,.str nm] (fun q=>q=.d (.agg [i64 (dp r nm).1,i64 (dp r nm).2])):=by
 generalize hF:dp r nm=F
 unfold ec
 refine aw Tryz.func204 rfl (by decide +kernel) (by simp [Tryz.ntmps204]) (veil fun E=>?_)
 simp only [go_sem]
 rw [ai ⟨by omega,by omega⟩]
 refine bl E (X:={ c:Nat // c≤r.length∧dp (r.take c) nm=F }) (fun x=>[(0,.d (.sl (some 3) (r.map kD))),(1,.d (.str nm)),(4,.bx [4] 0),(5,.d (i64 ((x.1:Int)-1)))]) (fun _=>[([4],.box [.d (i64 0),.d (i64 0)])]) [4] (fun x=>x.1) ⟨r.length,Nat.le_refl _,by rw [List.take_length];exact hF⟩ ?_ ?_
 ·simp only [go_sem]
  all_goals first | rfl | exact ⟨rfl,rfl⟩
 rintro ⟨c,hc,hcf⟩ E0
 refine aC E0 fun Q' hQ E'=>?_
 simp only at hc hcf ⊢
 simp only [go_sem]
 refine ah E' (fun g1=>?_) (fun g1=>?_)<;>simp only [go_sem]
 ·obtain ⟨c,rfl⟩:∃ d,c=d+1:=⟨c-1,by omega⟩
  have hc':c<r.length:=by omega
  rw [List.take_succ_eq_append_getElem hc',j7] at hcf
  refine ⟨⟨by omega,by omega⟩,?_⟩
  rw [show (((c+1:Nat):Int)-1).toNat=c by omega,tq hc']
  simp only [go_sem]
  refine aB E' (fun g2=>?_) (fun g2=>?_)<;>simp only [go_sem]
  ·refine ⟨⟨by omega,by omega⟩,?_⟩
   rw [show (((c+1:Nat):Int)-1).toNat=c by omega,tq hc']
   simp only [go_sem]
   rw [hQ]
   simp only [go_sem]
   rw [if_pos (by simpa using g2)] at hcf
   refine ⟨[],?_⟩
   simp only [go_sem]
   rw [hcf]
  ·rw [if_neg (by simpa using g2)] at hcf
   rw [hQ]
   simp only [go_sem]
   refine ⟨⟨c,by omega,hcf⟩,by show c<c+1;omega,?_⟩
   rw [ai ⟨by omega,by omega⟩,show ((c+1:Nat):Int)-1-1=(c:Int)-1 by omega]
 ·have hc0:c=0:=by omega
  subst hc0
  rw [hQ]
  simp only [go_sem]
  refine ag E x6 rfl rfl (by simp) ?_
  rintro _ rfl
  simp only [go_sem]
  refine ⟨[],?_⟩
  simp only [go_sem]
  rw [← hcf]
  rfl
theorem En {G} (r:Reach):HP Tryz.prog G 258 [ec r] (fun q=>q=.d (.slx (some 3) (r.map kD))):=by
 unfold ec
 refine al Tryz.func258 rfl (by decide +kernel) (by simp [Tryz.ntmps258]) (veil fun E=>?_)
 simp only [go_sem]
 refine Ie E (t:=239) (e:=278) (wf:=some 3) (xs:=r.map kD) (by rw [Bf]) (by rw [nF];rfl) (by simp only [go_sem]) rfl (by simp only [go_sem]) (by simp only [go_sem]) ?_
 simp only [go_sem]
theorem m7 {G} (r:Reach) (nm:List UInt8) (a b:Int) (hl:r.length≤1000000):HP Tryz.prog G 205 [ec r,.str nm,i64 a,i64 b] (fun q=>q=.d (ec (r++[(nm,a,b)]))):=by
 have c:=En (G:=G) r
 unfold ec at *
 refine aw Tryz.func205 rfl (by decide +kernel) (by simp [Tryz.ntmps205]) (veil fun E=>?_)
 simp only [go_sem]
 refine ag E c rfl rfl (by simp) ?_
 rintro _ rfl
 simp only [go_sem]
 refine G2 E (t:=239) (e:=278) (xs:=r.map kD) (ys:=[.agg [.str nm,i64 a,i64 b]]) (by rw [Bf]) (by rw [nF];rfl) (by rw [nF];rfl) ⟨by simp only [go_sem],by rw [aa];decide⟩ (by rw [nF];rfl) (by rw [nF];rfl) (by simp) (by rw [nF,List.length_map];simp [TI.by1];omega) ?_
 simp only [go_sem]
 refine ⟨[([17],some 3,(r++[(nm,a,b)]).map kD)],?_⟩
 rw [show List.map kD r++[.agg [.str nm,i64 a,i64 b]]=(r++[(nm,a,b)]).map kD by rw [List.map_append];rfl]
 simp only [go_sem]
 rw [List.take_of_length_le (by simp)]
end Go.Proofs.YtejpnabbmgpmaaaGreat

namespace Go.Proofs.YtejpnabbmgpmaaaGreat
open Go.Ab
def dq (ns:List EN):Nat→Nat→Reach→List Bi→List Bi
 | 0,_,_,l=>l
 | m+1,i,r,l =>
   let n:=ndE ns i
   let l0:=l.set i noB
   if n.k=4 then l0.set i (dp r n.name)
   else if n.k=5 then dq ns m n.a.toNat (r++[(n.name,(i:Int),-1)]) l0
   else if n.k=7 then dq ns m n.b.toNat (r++[(n.name,(i:Int),-1)]) (dq ns m n.a.toNat r l0)
   else if n.k=8 then dq ns m n.b.toNat (r++[(n.name,(i:Int),-1)]) (dq ns m n.a.toNat (r++[(n.name,(i:Int),-1)]) l0)
   else if n.k=14 then (List.range n.l.length).foldl (fun l k=>dq ns m (fdE n.l k).to.toNat (r++[((fdE n.l k).var,(i:Int),(k:Int))]) l) (dq ns m n.a.toNat r l0)
   else (aj n).foldl (fun l k=>dq ns m k.toNat r l) l0
theorem dM (ns:List EN):∀ (m i:Nat) (r:Reach) (l:List Bi),(dq ns m i r l).length=l.length
 | 0,_,_,_=>rfl
 | m+1,i,r,l=>by
   have ih:=dM ns m
   have fold:∀ {α:Type} (f:List Bi→α→List Bi),(∀ l a,(f l a).length=l.length)→∀ (xs:List α) (l:List Bi),(xs.foldl f l).length=l.length:=by
    intro α f hf xs
    induction xs with
    | nil=>intro l;rfl
    | cons a r ih=>intro l;rw [List.foldl_cons,ih,hf]
   unfold dq
   simp only
   repeat' split
   ·simp
   ·rw [ih];simp
   ·rw [ih,ih];simp
   ·rw [ih,ih];simp
   ·rw [fold _ (fun l a=>ih _ _ _),ih];simp
   ·rw [fold _ (fun l a=>ih _ _ _)];simp
def BO (ns:List EN) (l:List Bi):List (Name × Ob):=[([101],.box [.d (.sl (some 9) (ns.map enD))]),([102],.box [.vw [103] 0 ns.length]),([103],.arr (some 2) (l.map bD)),([104],.box [.clo 202 [.bx [101] 0,.bx [102] 0,.bx [104] 0]])]
def BU:List Nat:=[101,102,103,104]
def bA (i:Nat) (r:Reach):List AV:=[.d (i64 i),.d (ec r),.bx [101] 0,.bx [102] 0,.bx [104] 0]
def BW (ns:List EN) (m:Nat) (G:List (Nat × Obj)):Prop:=∀ (i:Nat) (r:Reach) (l:List Bi),i<m→i<ns.length→l.length=ns.length→r.length+i≤1000000→HCall Tryz.prog G 202 (bA i r) (BO ns l) BU (fun q hp'=>q=.tup []∧hp'=BO ns (dq ns m i r l))
theorem BW.get {G} {ns:List EN} {m:Nat} (h:BW ns m G) {j:Int} {i:Nat} {r:Reach} {l:List Bi} (h1:0≤j∧j<(i:Int)) (h2:i≤m) (h3:i<ns.length) (h4:l.length=ns.length) (h5:r.length+j.toNat≤1000000) :
  ∃ l1,dq ns m j.toNat r l=l1∧l1.length=ns.length∧HCall Tryz.prog G 202 [.d (i64 j),.d (.sl (some 3) (r.map kD)),.bx [101] 0,.bx [102] 0,.bx [104] 0] [([101],.box [.d (.sl (some 9) (ns.map enD))]),([102],.box [.vw [103] 0 ns.length]),([103],.arr (some 2) (l.map bD)),([104],.box [.clo 202 [.bx [101] 0,.bx [102] 0,.bx [104] 0]])] [101,102,103,104]
   (fun q hp'=>q=.tup []∧hp'=[([101],.box [.d (.sl (some 9) (ns.map enD))]),([102],.box [.vw [103] 0 ns.length]),([103],.arr (some 2) (l1.map bD)),([104],.box [.clo 202 [.bx [101] 0,.bx [102] 0,.bx [104] 0]])]):=by
 have:=h j.toNat r l (by omega) (by omega) h4 h5
 refine ⟨_,rfl,by rw [dM,h4],?_⟩
 unfold bA at this
 rw [show ((j.toNat:Nat):Int)=j by omega] at this
 exact this
set_option maxHeartbeats 2000000 in
theorem xJ {G} (ns:List EN) (hN:ns.length≤1000000) (hs:∀ n∈ns,n.l.length≤1000000) (hk:∀ i,i<ns.length→(aj (ndE ns i)).all (inB i)=true) :
  ∀ (m:Nat),BW ns m G
 | 0,_,_,_,h,_,_,_=>absurd h (Nat.not_lt_zero _)
 | m+1,i,r,l,him,hi,hl,hr=>by
   have hg:=aN hi
   have hki:=hk i hi
   have hsi:=hs _ (by rw [bG hi];exact List.getElem_mem hi:ndE ns i∈ns)
   generalize hR:dq ns (m+1) i r l=R
   unfold dq at hR
   obtain ⟨n,hne⟩:∃ n,n=ndE ns i:=⟨_,rfl⟩
   rw [← hne] at hg hki hsi hR
   simp only at hR
   have ih:=xJ (G:=G) ns hN hs hk m
   unfold BO bA BU ec
   refine aq Tryz.func202 rfl (by decide +kernel) (by simp [Tryz.ntmps202]) (veil fun E=>?_)
   simp only [go_sem]
   refine ⟨⟨by omega,by omega⟩,?_⟩
   rw [hg]
   simp only [go_sem]
   refine ak mixed E fun X=>?_
   simp only [go_sem]
   refine bK X x6 rfl rfl (by simp) ?_
   simp only [go_sem]
   refine ⟨⟨by omega,by omega⟩,?_⟩
   refine ⟨by decide +kernel,?_⟩
   obtain ⟨l0,h0⟩:∃ l0,l0=l.set i noB:=⟨_,rfl⟩
   have h0l:l0.length=ns.length:=by rw [h0,List.length_set,hl]
   rw [← h0] at hR
   rw [show (l.map bD).set i (.agg [i64 (-1),i64 (-1)])=l0.map bD by rw [h0,List.map_set];rfl]
   clear h0
   refine ah E (fun g1=>?_) (fun g1=>?_)<;>simp only [go_sem]
   ·rw [if_pos g1] at hR
    refine ak mixed E fun X=>?_
    simp only [go_sem]
    refine bK X (Es r n.name (by omega)) rfl rfl (by simp) ?_
    simp only [go_sem]
    refine ⟨⟨by omega,by omega⟩,?_⟩
    refine ⟨by decide +kernel,?_⟩
    rw [show (l0.map bD).set i (.agg [i64 (dp r n.name).1,i64 (dp r n.name).2])=R.map bD by rw [← hR,List.map_set];rfl]
    refine ⟨_,_,[101,102,103,104],id,⟨rfl,rfl⟩,?_⟩
    simp only [go_sem]
   rw [if_neg g1] at hR
   refine ah E (fun g2=>?_) (fun g2=>?_)<;>simp only [go_sem]
   ·rw [if_pos g2] at hR
    have hka:0≤n.a∧n.a<i:=by
     have:=hki
     unfold aj aF aH inB at this
     simp [g2] at this
     omega
    refine ak mixed E fun X=>?_
    simp only [go_sem]
    refine bK X (m7 r n.name (i:Int) (-1) (by omega)) rfl rfl (by simp) ?_
    simp only [go_sem]
    obtain ⟨l1,h1,h1l,hc1⟩:=ih.get (r:=r++[(n.name,(i:Int),-1)]) (l:=l0) hka (by omega) hi h0l (by simp;omega)
    rw [h1] at hR
    subst hR
    unfold ec
    refine aZ X _ _ _ _ _ hc1 rfl rfl ⟨by simp only [go_sem],by first | (rw [aa];decide) | (simp only [go_sem]<;>(try rw [aa])<;>decide)⟩ (by simp only [go_sem]) (by simp only [go_sem]) (by simp only [go_sem]) (by simp only [go_sem];try omega) ?_
    simp only [go_sem]
    refine ⟨by decide +kernel,?_⟩
    refine ⟨_,_,[101,102,103,104],id,⟨rfl,rfl⟩,?_⟩
    simp only [go_sem]
   rw [if_neg g2] at hR
   refine ah E (fun g3=>?_) (fun g3=>?_)<;>simp only [go_sem]
   ·rw [if_pos g3] at hR
    have hka:(0≤n.a∧n.a<i)∧(0≤n.b∧n.b<i):=by
     have:=hki
     unfold aj aF aH inB at this
     simp [g3] at this
     omega
    obtain ⟨l1,h1,h1l,hc1⟩:=ih.get (r:=r) (l:=l0) hka.1 (by omega) hi h0l (by omega)
    obtain ⟨l2,h2,h2l,hc2⟩:=ih.get (r:=r++[(n.name,(i:Int),-1)]) (l:=l1) hka.2 (by omega) hi h1l (by simp;omega)
    rw [h1,h2] at hR
    subst hR
    refine ab E _ _ _ hc1 rfl rfl ⟨by simp only [go_sem],by first | (rw [aa];decide) | (simp only [go_sem]<;>(try rw [aa])<;>decide)⟩ (by simp only [go_sem]) (by simp only [go_sem]) (by simp only [go_sem]) ?_
    rintro _ _ ⟨rfl,rfl⟩
    refine ⟨by simp only [go_sem];try omega,?_⟩
    simp only [go_sem]
    refine ak mixed E fun X=>?_
    simp only [go_sem]
    refine bK X (m7 r n.name (i:Int) (-1) (by omega)) rfl rfl (by simp) ?_
    simp only [go_sem]
    unfold ec
    refine aZ X _ _ _ _ _ hc2 rfl rfl ⟨by simp only [go_sem],by first | (rw [aa];decide) | (simp only [go_sem]<;>(try rw [aa])<;>decide)⟩ (by simp only [go_sem]) (by simp only [go_sem]) (by simp only [go_sem]) (by simp only [go_sem];try omega) ?_
    simp only [go_sem]
    refine ⟨by decide +kernel,?_⟩
    refine ⟨_,_,[101,102,103,104],id,⟨rfl,rfl⟩,?_⟩
    simp only [go_sem]
   rw [if_neg g3] at hR
   refine ah E (fun g4=>?_) (fun g4=>?_)<;>simp only [go_sem]
   ·rw [if_pos g4] at hR
    have hka:(0≤n.a∧n.a<i)∧(0≤n.b∧n.b<i):=by
     have:=hki
     unfold aj aF aH inB at this
     simp [g4] at this
     omega
    obtain ⟨l1,h1,h1l,hc1⟩:=ih.get (r:=r++[(n.name,(i:Int),-1)]) (l:=l0) hka.1 (by omega) hi h0l (by simp;omega)
    obtain ⟨l2,h2,h2l,hc2⟩:=ih.get (r:=r++[(n.name,(i:Int),-1)]) (l:=l1) hka.2 (by omega) hi h1l (by simp;omega)
    rw [h1,h2] at hR
    subst hR
    refine ag E (m7 r n.name (i:Int) (-1) (by omega)) rfl rfl (by simp) ?_
    rintro _ rfl
    unfold ec
    simp only [go_sem]
    refine ab E _ _ _ hc1 rfl rfl ⟨by simp only [go_sem],by first | (rw [aa];decide) | (simp only [go_sem]<;>(try rw [aa])<;>decide)⟩ (by simp only [go_sem]) (by simp only [go_sem]) (by simp only [go_sem]) ?_
    rintro _ _ ⟨rfl,rfl⟩
    refine ⟨by simp only [go_sem];try omega,?_⟩
    simp only [go_sem]
    refine ab E _ _ _ hc2 rfl rfl ⟨by simp only [go_sem],by first | (rw [aa];decide) | (simp only [go_sem]<;>(try rw [aa])<;>decide)⟩ (by simp only [go_sem]) (by simp only [go_sem]) (by simp only [go_sem]) ?_
    rintro _ _ ⟨rfl,rfl⟩
    refine ⟨by simp only [go_sem];try omega,?_⟩
    simp only [go_sem]
    refine ⟨_,_,[101,102,103,104],id,⟨rfl,rfl⟩,?_⟩
    simp only [go_sem]
   rw [if_neg g4] at hR
   refine ah E (fun g5=>?_) (fun g5=>?_)<;>simp only [go_sem]
   ·rw [if_pos g5] at hR
    have hka:(0≤n.a∧n.a<i)∧∀ k,k<n.l.length→(0≤(fdE n.l k).to∧(fdE n.l k).to<i):=by
     have:=hki
     unfold aj aF aH inB at this
     simp [g5] at this
     refine ⟨by omega,fun k hk=>?_⟩
     have h:=this.2 n.l[k] (List.getElem_mem hk)
     unfold fdE
     simp [hk]
     omega
    obtain ⟨l1,h1,h1l,hc1⟩:=ih.get (r:=r) (l:=l0) hka.1 (by omega) hi h0l (by omega)
    rw [h1] at hR
    refine ab E _ _ _ hc1 rfl rfl ⟨by simp only [go_sem],by first | (rw [aa];decide) | (simp only [go_sem]<;>(try rw [aa])<;>decide)⟩ (by simp only [go_sem]) (by simp only [go_sem]) (by simp only [go_sem]) ?_
    rintro _ _ ⟨rfl,rfl⟩
    refine ⟨by simp only [go_sem];try omega,?_⟩
    simp only [go_sem]
    obtain ⟨step,hst⟩:∃ step,step=fun (l:List Bi) (k:Nat)=>dq ns m (fdE n.l k).to.toNat (r++[((fdE n.l k).var,(i:Int),(k:Int))]) l:=⟨_,rfl⟩
    rw [← hst] at hR
    refine bl E (X:={ q:Nat × List Bi // q.1≤n.l.length∧q.2.length=ns.length∧((List.range n.l.length).drop q.1).foldl step q.2=R }) (fun x=>[(0,.d (i64 i)),(1,.d (.sl (some 3) (r.map kD))),(2,.bx [101] 0),(3,.bx [102] 0),(4,.bx [104] 0),(7,.bx [7] 0),(97,.d (.sl (some 3) (n.l.map fD))),(98,.d (i64 n.l.length)),(99,.d (i64 x.1.1))])
     (fun x=>[([101],.box [.d (.sl (some 9) (ns.map enD))]),([102],.box [.vw [103] 0 ns.length]),([103],.arr (some 2) (x.1.2.map bD)),([104],.box [.clo 202 [.bx [101] 0,.bx [102] 0,.bx [104] 0]]),([7],.box [.d (i64 n.k),.d (i64 n.a),.d (i64 n.b),.d (i64 n.c),.d (i64 n.n),.d (.str n.name),.d (.str n.s),.d (.sl (some 3) (n.l.map fD)),.d (i64 n.pos)])]) [7,101,102,103,104] (fun x=>n.l.length-x.1.1) ⟨(0,l1),Nat.zero_le _,h1l,hR⟩ ?_ ?_
    ·simp only [go_sem]
     all_goals first | rfl | exact ⟨rfl,rfl⟩
    rintro ⟨⟨q,lq⟩,hq,hql,hqR⟩ E0
    refine aC E0 fun Q' hQ E'=>?_
    simp only at hq hql hqR ⊢
    simp only [go_sem]
    refine ah E' (fun f1=>?_) (fun f1=>?_)<;>simp only [go_sem]
    ·have hq':q<n.l.length:=by omega
     refine ⟨⟨by omega,by omega⟩,?_⟩
     rw [jK hq']
     obtain ⟨fd,hfd⟩:∃ fd,fd=fdE n.l q:=⟨_,rfl⟩
     have hkq:=hka.2 q hq'
     have hstq:step lq q=dq ns m fd.to.toNat (r++[(fd.var,(i:Int),(q:Int))]) lq:=by rw [hst,hfd]
     rw [← hfd] at hkq ⊢
     simp only [go_sem]
     obtain ⟨l2,h2,h2l,hc2⟩:=ih.get (r:=r++[(fd.var,(i:Int),(q:Int))]) (l:=lq) hkq (by omega) hi hql (by simp;omega)
     refine ak mixed E' fun X=>?_
     simp only [go_sem]
     refine bK X (m7 r fd.var (i:Int) (q:Int) (by omega)) rfl rfl (by simp) ?_
     simp only [go_sem]
     unfold ec
     refine aZ X _ _ _ _ _ hc2 rfl rfl ⟨by simp only [go_sem],by first | (rw [aa];decide) | (simp only [go_sem]<;>(try rw [aa])<;>decide)⟩ (by simp only [go_sem]) (by simp only [go_sem]) (by simp only [go_sem]) (by simp only [go_sem];try omega) ?_
     simp only [go_sem]
     refine ⟨by decide +kernel,?_⟩
     rw [ai ⟨by omega,by omega⟩,hQ]
     simp only [go_sem]
     refine ⟨⟨(q+1,l2),by show q+1≤_;omega,h2l,?_⟩,by show n.l.length-(q+1)<_;omega,?_⟩
     ·show ((List.range n.l.length).drop (q+1)).foldl step l2=R
      rw [← hqR,List.drop_eq_getElem_cons (i:=q) (by simpa using hq'),List.foldl_cons,List.getElem_range,hstq,h2]
     simp only [go_sem]
     first | rfl | exact ⟨rfl,rfl⟩
    ·rw [hQ]
     have h3:q=n.l.length:=by omega
     rw [List.drop_of_length_le (by simp;omega)] at hqR
     have h4:lq=R:=hqR
     subst h4
     simp only [go_sem]
     refine ⟨_,_,[101,102,103,104],id,⟨rfl,rfl⟩,?_⟩
     simp only [go_sem]
   rw [if_neg g5] at hR
   have hkc:=gQ (G:=G) n hsi
   obtain ⟨K,hK⟩:∃ K,K=aj n:=⟨_,rfl⟩
   have hKl:K.length≤1000003:=by rw [hK,br];unfold bf;have:=bB n.k;split<;>omega
   rw [← hK] at hkc hki hR
   refine ab E [.d (enD n)] [] [] hkc rfl rfl ⟨by simp only [go_sem],by rw [aa];decide⟩ rfl (by simp only [go_sem]) (by simp only [go_sem]) ?_
   rintro _ _ ⟨rfl,rfl⟩
   simp only [go_sem]
   refine jb E [25,0] none (K.map i64) rfl ?_
   simp only [go_sem]
   obtain ⟨step,hst⟩:∃ step,step=fun (l:List Bi) (k:Int)=>dq ns m k.toNat r l:=⟨_,rfl⟩
   rw [← hst] at hR
   refine bl E (X:={ q:Nat × List Bi // q.1≤K.length∧q.2.length=ns.length∧(K.drop q.1).foldl step q.2=R }) (fun x=>[(0,.d (i64 i)),(1,.d (.sl (some 3) (r.map kD))),(2,.bx [101] 0),(3,.bx [102] 0),(4,.bx [104] 0),(7,.bx [7] 0),(25,.d (.sl none (K.map i64))),(26,.d (i64 K.length)),(27,.d (i64 x.1.1))])
    (fun x=>[([101],.box [.d (.sl (some 9) (ns.map enD))]),([102],.box [.vw [103] 0 ns.length]),([103],.arr (some 2) (x.1.2.map bD)),([104],.box [.clo 202 [.bx [101] 0,.bx [102] 0,.bx [104] 0]]),([7],.box [.d (i64 n.k),.d (i64 n.a),.d (i64 n.b),.d (i64 n.c),.d (i64 n.n),.d (.str n.name),.d (.str n.s),.d (.sl (some 3) (n.l.map fD)),.d (i64 n.pos)])]) [7,101,102,103,104] (fun x=>K.length-x.1.1) ⟨(0,l0),Nat.zero_le _,h0l,hR⟩ ?_ ?_
   ·simp only [go_sem]
    all_goals first | rfl | exact ⟨rfl,rfl⟩
   rintro ⟨⟨q,lq⟩,hq,hql,hqR⟩ E0
   refine aC E0 fun Q' hQ E'=>?_
   simp only at hq hql hqR ⊢
   simp only [go_sem]
   refine ah E' (fun f1=>?_) (fun f1=>?_)<;>simp only [go_sem]
   ·have hq':q<K.length:=by omega
    have hkq:0≤K[q]∧K[q]<(i:Int):=by
     have:=List.all_eq_true.1 hki K[q] (List.getElem_mem hq')
     simpa [inB] using this
    refine ⟨⟨by omega,by omega⟩,?_⟩
    rw [av hq',show K.getD q 0=K[q] by simp [hq']]
    obtain ⟨l2,h2,h2l,hc2⟩:=ih.get (r:=r) (l:=lq) hkq (by omega) hi hql (by omega)
    simp only [go_sem]
    refine ab E' _ _ _ hc2 rfl rfl ⟨by simp only [go_sem],by first | (rw [aa];decide) | (simp only [go_sem]<;>(try rw [aa])<;>decide)⟩ (by simp only [go_sem]) (by simp only [go_sem]) (by simp only [go_sem]) ?_
    rintro _ _ ⟨rfl,rfl⟩
    refine ⟨by simp only [go_sem];try omega,?_⟩
    simp only [go_sem]
    rw [ai ⟨by omega,by omega⟩,hQ]
    simp only [go_sem]
    refine ⟨⟨(q+1,l2),by show q+1≤_;omega,h2l,?_⟩,by show K.length-(q+1)<_;omega,?_⟩
    ·show (K.drop (q+1)).foldl step l2=R
     rw [← hqR,List.drop_eq_getElem_cons hq',List.foldl_cons,hst]
     simp only
     rw [h2]
    simp only [go_sem]
    first | rfl | exact ⟨rfl,rfl⟩
   ·rw [hQ]
    have h3:q=K.length:=by omega
    rw [List.drop_of_length_le (by omega)] at hqR
    have h4:lq=R:=hqR
    subst h4
    simp only [go_sem]
    refine ⟨_,_,[101,102,103,104],id,⟨rfl,rfl⟩,?_⟩
    simp only [go_sem]
def fQ (ns:List EN):List Bi:=dq ns ns.length (ns.length-1) [] (List.replicate ns.length (0,0))
theorem gC (ns:List EN):(fQ ns).length=ns.length:=by unfold fQ;rw [dM,List.length_replicate]
theorem wE {G} (ns:List EN) (h0:0<ns.length) (hN:ns.length≤1000000) (hs:∀ n∈ns,n.l.length≤1000000) (hk:∀ i,i<ns.length→(aj (ndE ns i)).all (inB i)=true) :
  HP Tryz.prog G 133 [exD ns] (fun q=>q=.d (.sl (some 2) ((fQ ns).map bD))):=by
 have hc:=xJ (G:=G) ns hN hs hk ns.length (ns.length-1) [] (List.replicate ns.length (0,0)) (by omega) (by omega) (by simp) (by simp;omega)
 obtain ⟨B,hB⟩:∃ B,B=fQ ns:=⟨_,rfl⟩
 have hbl:=gC ns
 rw [← hB] at hbl ⊢
 rw [show dq ns ns.length (ns.length-1) [] (List.replicate ns.length (0,0))=B from hB.symm] at hc
 unfold bA BO BU ec at hc
 have hc2:=HCall.sub (args:=[.d (i64 ((ns.length-1:Nat):Int)),.d .nils,.bx [101] 0,.bx [102] 0,.bx [104] 0]) (args':=[.d (i64 ((ns.length-1:Nat):Int)),.d (.sl (some 3) []),.bx [101] 0,.bx [102] 0,.bx [104] 0]) rfl (fun j x y hx hy=>by
  match j with
  | 1=>exact .inr ⟨some 3,(Option.some.inj hx).symm,(Option.some.inj hy).symm⟩
  | 0 | 2 | 3 | 4=>exact .inl (Option.some.inj (hx.symm.trans hy))
  | j+5=>cases hx) hc
 rw [show ((ns.length-1:Nat):Int)=(ns.length:Int)-1 by omega] at hc2
 unfold exD
 refine aw Tryz.func133 rfl (by decide +kernel) (by simp [Tryz.ntmps133]) (veil fun E=>?_)
 simp only [go_sem]
 refine ⟨⟨by omega,by omega,by omega,by omega⟩,?_⟩
 rw [ai ⟨by omega,by omega⟩]
 rw [show (D.agg [D.int IntKind.i64 0,D.int IntKind.i64 0])=bD (0,0) from rfl,← List.map_replicate]
 refine aS E (tau [([101],[1]),([102],[3]),([103],[8]),([104],[4])]) _ _ _ hc2 rfl (by simp only [go_sem];try rfl) ⟨by simp only [go_sem],by first | (rw [aa];decide) | (simp only [go_sem]<;>(try rw [aa])<;>decide)⟩ rfl (by simp only [go_sem];try rfl) (by simp only [go_sem]) ?_
 rintro _ _ ⟨rfl,rfl⟩
 refine ⟨by simp only [go_sem];try simp;try omega,?_⟩
 simp only [go_sem]
 refine ⟨[([8],some 2,B.map bD)],?_⟩
 simp only [go_sem]
 rw [List.take_of_length_le (by simp;omega)]
end Go.Proofs.YtejpnabbmgpmaaaGreat

namespace Go.Proofs.YtejpnabbmgpmaaaGreat
open Go.Ab
def ee (ns:List EN) (B:List Bi) (i:Nat):Bool:=decide ((ndE ns i).k=4) && decide ((B.getD i noB).1<0)
def iH (ns:List EN):List Nat:=(List.range ns.length).filter (ee ns (fQ ns))
def j3 (ns:List EN) (B:List Bi) (i:Nat):Nat:=((List.range i).filter (ee ns B)).length
theorem vT {ns:List EN} {B:List Bi} {i:Nat}:j3 ns B (i+1)=j3 ns B i+if ee ns B i then 1 else 0:=by
 unfold j3
 rw [List.range_succ,List.filter_append,List.length_append]
 by_cases h:ee ns B i<;>simp [h]
theorem jP:∀ {i n:Nat},i≤n→∃ r,List.range n=List.range i++r
 | i,n,h=>by
   obtain ⟨d,rfl⟩:∃ d,n=i+d:=⟨n-i,by omega⟩
   exact ⟨_,List.range_add⟩
theorem zF {ns:List EN} {B:List Bi} {i n:Nat} (hi:i<n) (h:ee ns B i=true):j3 ns B i<((List.range n).filter (ee ns B)).length∧((List.range n).filter (ee ns B)).getD (j3 ns B i) 0=i:=by
 obtain ⟨r,hr⟩:=jP (i:=i+1) (n:=n) (by omega)
 have:(List.range n).filter (ee ns B)=(List.range i).filter (ee ns B)++i::r.filter (ee ns B):=by
  rw [hr,List.range_succ,List.append_assoc,List.filter_append,List.singleton_append,List.filter_cons,if_pos h]
 unfold j3
 rw [this]
 simp
theorem Ge {G} (ns:List EN):HP Tryz.prog G 81 [exD ns] (fun r=>r=.d (.clo 132 [.ptr (exD ns)])):=by
 have h:HCall Tryz.prog G 81 [.d (exD ns)] [] [] (fun r hp'=>r=.clo 132 [.bx [1] 0]∧hp'=[([1],.box [.d (.sl (some 9) (ns.map enD))])]):=by
  unfold exD
  refine aq Tryz.func81 rfl (by decide +kernel) (by simp [Tryz.ntmps81]) (veil fun E=>?_)
  simp only [go_sem]
  refine ⟨_,_,[1],id,⟨rfl,rfl⟩,?_⟩
  simp only [go_sem]
 have h2:=HCall.fB (Q':=fun r hp'=>r=.d (.clo 132 [.ptr (exD ns)])∧hp'=[]) h [1] (exD ns) (by
  rintro r hp' ⟨rfl,rfl⟩
  refine ⟨rfl,rfl,?_,?_⟩
  ·simp only [go_sem]
  ·simp only [go_sem])
 exact h2.mono fun r hp' ⟨h1,h3⟩=>⟨h1,by rw [h1];rfl,h3⟩
theorem p8 {B:List Bi} {i:Nat} (h:i<B.length):(B.map bD).getD i .nilp=.agg [i64 (B.getD i noB).1,i64 (B.getD i noB).2]:=by simp [h,bD]
def ux (ns:List EN) (n:Nat):List D:=[i64 ((iH ns).getD n 0:Nat)]
set_option maxHeartbeats 1000000 in
theorem EM {G} (ns:List EN) (h0:0<ns.length) (hN:ns.length≤1000000) (hs:∀ n∈ns,n.l.length≤1000000) (hk:∀ i,i<ns.length→(aj (ndE ns i)).all (inB i)=true) :
  ItC Tryz.prog G 132 [.ptr (exD ns)] (iH ns).length (ux ns):=by
 have hb:=wE (G:=G) ns h0 hN hs hk
 have hbl:=gC ns
 have hhit:∀ i,i<ns.length→ee ns (fQ ns) i=true→j3 ns (fQ ns) i<(iH ns).length∧ux ns (j3 ns (fQ ns) i)=[i64 i]:=fun i hi h=>by
  obtain ⟨h1,h2⟩:=zF hi h
  exact ⟨h1,by unfold ux iH;rw [h2]⟩
 have hlast:j3 ns (fQ ns) ns.length=(iH ns).length:=rfl
 obtain ⟨B,hB⟩:∃ B,B=fQ ns:=⟨_,rfl⟩
 rw [← hB] at hb hbl hhit hlast
 unfold exD at hb
 refine wJ Tryz.func132 rfl (by decide +kernel) (by simp [Tryz.ntmps132]) rfl fun z hz=>?_
 unfold exD
 refine aA (ao fun E=>?_)
 simp only [go_sem]
 refine ag E hb rfl rfl (by simp) ?_
 rintro _ rfl
 simp only [go_sem]
 rw [hbl]
 refine im (BJ (X:={ i:Nat // i≤ns.length }) (fun x=>mk [(0,.d (.yl z.l)),(1,.d (.ptr (.agg [.sl (some 9) (ns.map enD)]))),(6,.d (.sl (some 2) (B.map bD))),(7,.d (i64 ns.length)),(8,.d (i64 x.1))] [] []) (fun x=>II z (j3 ns B x.1)) (fun x=>ns.length-x.1) ⟨0,Nat.zero_le _⟩ ⟨id,LeL.le ?_⟩ (fun _ _ h=>h) ?_)
 ·simp only [go_sem]
  all_goals rfl
 rintro ⟨i,hi⟩
 simp only at hi ⊢
 generalize hΦ:lpY _ _ _ _ _ _ _ _=Φ'
 refine aA (ao fun E=>?_)
 simp only [go_sem]
 refine aA (ao fun E=>?_)
 simp only [go_sem]
 refine ah E (fun h1=>?_) (fun h1=>?_)<;>simp only [go_sem]
 ·have hi':i<ns.length:=by omega
  have hg:=aN hi'
  have hbg:=p8 (B:=B) (i:=i) (by omega)
  have hstep:=vT (ns:=ns) (B:=B) (i:=i)
  have hh:=hhit i hi'
  unfold ee at hstep hh
  obtain ⟨n,hne⟩:∃ n,n=ndE ns i:=⟨_,rfl⟩
  obtain ⟨b,hbe⟩:∃ b,b=B.getD i noB:=⟨_,rfl⟩
  rw [← hne] at hg hstep hh
  rw [← hbe] at hbg hstep hh
  refine aA (im (aA (ao fun E=>?_)))
  simp only [go_sem]
  refine ⟨⟨by omega,by omega⟩,?_⟩
  rw [hbg]
  simp only [go_sem]
  by_cases hfr:n.k=4∧b.1<0
  ·have hft:(decide (n.k=4) && decide (b.1<0))=true:=by simp [hfr]
   obtain ⟨hlt,hxs⟩:=hh hft
   rw [hft,if_pos rfl] at hstep
   refine aA (nV (ub rfl ?_))
   simp only [go_sem]
   iterate 3
    refine ub rfl ?_
    simp only [go_sem]
   refine ⟨⟨by omega,by omega⟩,?_⟩
   rw [hg]
   iterate 4
    refine ub rfl ?_
    simp only [go_sem]
   rw [decide_eq_true hfr.1]
   iterate 3
    refine FY rfl rfl rfl ?_
    simp only [go_sem]
   rw [decide_eq_true hfr.2]
   iterate 2
    refine ub rfl ?_
    simp only [go_sem]
   iterate 2
    refine FY rfl rfl rfl ?_
    simp only [go_sem]
   refine Al hz rfl rfl hlt (by simp) rfl (by rw [hxs];rfl) ?_ ?_
   ·refine rb fun E=>?_
    simp only [go_sem]
    refine ao fun E=>?_
    simp only [go_sem]
    refine pJ (ao fun E=>?_)
    simp only [go_sem]
    rw [ai ⟨by omega,by omega⟩]
    subst hΦ
    refine gl (show { i:Nat // i≤ns.length } from ⟨i+1,by omega⟩) ?_ id (LeL.le ?_) (fun _ _ h=>by rw [hstep];exact h)
    ·show ns.length-(i+1)<ns.length-i
     omega
    ·simp only [go_sem]
     rfl
   ·refine rb fun E=>?_
    simp only [go_sem]
    refine ao fun E=>?_
    simp only [go_sem]
    subst hΦ
    exact j8 (Ag hz (.inr rfl))
  ·have hff:(decide (n.k=4) && decide (b.1<0))=false:=by
    rw [Bool.eq_false_iff]
    intro h
    simp only [Bool.and_eq_true,decide_eq_true_eq] at h
    exact hfr h
   rw [hff,if_neg (by decide)] at hstep
   refine aA (ao fun E=>?_)
   simp only [go_sem]
   refine ⟨⟨by omega,by omega⟩,?_⟩
   rw [hg]
   simp only [go_sem]
   by_cases hk4:n.k=4
   ·have hb0:¬ b.1<0:=fun h=>hfr ⟨hk4,h⟩
    rw [decide_eq_true hk4]
    simp only [go_sem]
    rw [decide_eq_false hb0]
    simp only [go_sem]
    refine ao fun E=>?_
    simp only [go_sem]
    refine pJ (ao fun E=>?_)
    simp only [go_sem]
    rw [ai ⟨by omega,by omega⟩]
    subst hΦ
    refine gl (show { i:Nat // i≤ns.length } from ⟨i+1,by omega⟩) ?_ id (LeL.le ?_) (fun _ _ h=>by rw [hstep];exact h)
    ·show ns.length-(i+1)<ns.length-i
     omega
    ·simp only [go_sem]
     rfl
   ·rw [decide_eq_false hk4]
    simp only [go_sem]
    refine ao fun E=>?_
    simp only [go_sem]
    refine pJ (ao fun E=>?_)
    simp only [go_sem]
    rw [ai ⟨by omega,by omega⟩]
    subst hΦ
    refine gl (show { i:Nat // i≤ns.length } from ⟨i+1,by omega⟩) ?_ id (LeL.le ?_) (fun _ _ h=>by rw [hstep];exact h)
    ·show ns.length-(i+1)<ns.length-i
     omega
    ·simp only [go_sem]
     rfl
 ·subst hΦ
  refine mI ?_
  simp only [go_sem]
  refine F1 ?_
  have:i=ns.length:=by omega
  subst this
  rw [hlast]
  exact vW hz (.inl rfl)
end Go.Proofs.YtejpnabbmgpmaaaGreat

namespace Go.Proofs.YtejpnabbmgpmaaaGreat
open Go.Ab
def fj (ns:List EN):Int × Int:=if cA ns=0 then (match iH ns with
 | []=>(0,0)
 | i::_=>((i:Int),10)) else (0,cA ns)
theorem aQ {ns:List EN} (h:cV ns):∀ i,i<ns.length→(aj (ndE ns i)).all (inB i)=true:=fun i hi=>by
 have:=h.link i hi
 unfold dN at this
 exact (Bool.and_eq_true_iff.1 this).1
theorem D8 {G} (ns:List EN) (hs:∀ n∈ns,dc BIG n) (hN:ns.length≤1000000) (hl:∀ n∈ns,n.l.length≤1000000):HP Tryz.prog G 111 [exD ns] (fun r=>r=.tup [.d (if cA ns=0 then .sl (some 2) ((fQ ns).map bD) else .nils),.d (i64 (cA ns))]):=by
 have hm:=og (G:=G) ns hs hN
 by_cases h0:cA ns=0
 ·have ht:=sh h0
  have hb:=wE (G:=G) ns ht.pos hN hl (aQ ht)
  rw [if_pos h0,h0]
  rw [h0] at hm
  unfold exD at hm hb ⊢
  refine aw Tryz.func111 rfl (by decide +kernel) (by simp [Tryz.ntmps111]) (veil fun E=>?_)
  simp only [go_sem]
  refine ag E hm rfl rfl (by simp) ?_
  rintro _ rfl
  simp only [go_sem]
  refine ag E hb rfl rfl (by simp) ?_
  rintro _ rfl
  simp only [go_sem]
  refine ⟨[],?_⟩
  simp only [go_sem]
 ·rw [if_neg h0]
  generalize cA ns=m at hm h0 ⊢
  unfold exD at hm ⊢
  refine aw Tryz.func111 rfl (by decide +kernel) (by simp [Tryz.ntmps111]) (veil fun E=>?_)
  simp only [go_sem]
  refine ag E hm rfl rfl (by simp) ?_
  rintro _ rfl
  simp only [go_sem]
  refine ah E (fun h1=>?_) (fun h1=>absurd h1 (by simpa using h0))<;>simp only [go_sem]
  refine ⟨[],?_⟩
  simp only [go_sem]
theorem Il {P:Program} {cf:Cf} {Q:Exit→St→Prop} {fr:List (Nat × AV)} {k:List It} (E:Eng P cf Q) {o:Oper}:E.stp o (mk fr [([0],.map [])] []) k .no:=by
 rw [aM]
 intro B hB ds β a w hds hs Q'
 obtain ⟨⟨_,_,_,h⟩,_⟩:=hs.objs [0] _ rfl
 cases h
def Hg:St:=mk [(2,.bx [2] 0),(3,.bx [3] 0)] [([2],.box [.d (i64 0)]),([3],.box [.d (i64 0)])] [2,3]
set_option maxHeartbeats 1000000 in
theorem F9 {G} (ns:List EN) (hs:∀ n∈ns,dc BIG n) (hN:ns.length≤1000000) (hl:∀ n∈ns,n.l.length≤1000000):HP Tryz.prog G 41 [exD ns] (fun r=>r=.tup [.d (i64 (fj ns).1),.d (i64 (fj ns).2)]):=by
 have hm:=og (G:=G) ns hs hN
 unfold fj
 by_cases h0:cA ns=0
 ·have ht:=sh h0
  have hit:=EM (G:=G) ns ht.pos hN hl (aQ ht)
  have hfr:=Ge (G:=G) ns
  rw [if_pos h0]
  rw [h0] at hm
  refine gf Tryz.func41 rfl (by decide +kernel) (by simp [Tryz.ntmps41]) fun B0 hB0=>?_
  unfold exD at hm hfr ⊢
  refine aA (ao fun E=>?_)
  simp only [go_sem]
  refine aA (ao fun E=>?_)
  simp only [go_sem]
  refine ag E hm rfl rfl (by simp) ?_
  rintro _ rfl
  simp only [go_sem]
  refine aA (aA (ao fun E=>?_))
  simp only [go_sem]
  refine ag E hfr rfl rfl (by simp) ?_
  rintro _ rfl
  simp only [go_sem]
  unfold exD at hit
  refine im (ra rfl hit rfl (X:=Unit) (fun n _=>if n=0 then Hg else D6) (by simp) (fun n hn=>rfl) ⟨(),id,?_⟩ ?_ ?_)
  ·rw [if_pos rfl]
   refine LeL.le ?_
   simp only [go_sem]
   all_goals rfl
  ·rintro n ⟨⟩ hn lb
   by_cases hn0:n=0
   ·subst hn0
    simp only [if_true]
    obtain ⟨i,r,hir⟩:∃ i r,iH ns=i::r:=by
     cases hc:iH ns with
     | nil=>rw [hc] at hn;cases hn
     | cons i r=>exact ⟨i,r,rfl⟩
    unfold ux Hg
    rw [hir]
    rw [show ((i::r).getD 0 0)=i from rfl]
    refine veil fun E=>?_
    simp only [go_sem]
    refine EV fun E=>?_
    simp only [go_sem]
    refine C2 ?_ (eW (.inl rfl) hB0 ?_)
    ·simp only [go_sem]
    ·simp only [go_sem]
     refine ⟨[],?_⟩
     simp only [go_sem]
   ·simp only [if_neg hn0]
    unfold D6 ux
    refine veil fun E=>?_
    simp only [go_sem]
    refine EV fun E=>?_
    simp only [go_sem]
    exact Il E
  ·rintro ⟨⟩
   by_cases hn0:(iH ns).length=0
   ·rw [hn0,if_pos rfl]
    rw [List.length_eq_zero_iff.1 hn0]
    refine pJ ?_
    unfold Hg
    refine ao fun E=>?_
    simp only [go_sem]
    refine eW (.inl rfl) hB0 ?_
    simp only [go_sem]
    refine ⟨[],?_⟩
    simp only [go_sem]
   ·rw [if_neg hn0]
    exact wo
 ·rw [if_neg h0]
  generalize cA ns=m at hm h0 ⊢
  unfold exD at hm ⊢
  refine gf Tryz.func41 rfl (by decide +kernel) (by simp [Tryz.ntmps41]) fun B0 hB0=>?_
  refine aA (ao fun E=>?_)
  simp only [go_sem]
  refine aA (ao fun E=>?_)
  simp only [go_sem]
  refine ag E hm rfl rfl (by simp) ?_
  rintro _ rfl
  simp only [go_sem]
  refine ah E (fun h1=>?_) (fun h1=>absurd h1 (by simpa using h0))<;>simp only [go_sem]
  refine eW (.inl rfl) hB0 ?_
  simp only [go_sem]
  refine ⟨[],?_⟩
  simp only [go_sem]
end Go.Proofs.YtejpnabbmgpmaaaGreat

namespace Go.Proofs.YtejpnabbmgpmaaaGreat
open Go.Ab
def kS (ks:List Int) (j:Nat) (p:List Int):List Int:=ks.foldl (fun p k=>p.set k.toNat (j:Int)) p
def gB (ns:List EN):Nat→List Int
 | 0=>List.replicate ns.length 0
 | j+1=>kS (aj (ndE ns j)) j (gB ns j)
def fR (ns:List EN):List Int:=(gB ns ns.length).set (ns.length-1) (-1)
theorem sP (ks:List Int) (j:Nat):∀ p:List Int,(kS ks j p).length=p.length:=by
 unfold kS
 induction ks with
 | nil=>intro p;rfl
 | cons k r ih=>intro p;rw [List.foldl_cons,ih,List.length_set]
theorem zn (ks:List Int) (k:Int) (j:Nat) (p:List Int):kS (ks++[k]) j p=(kS ks j p).set k.toNat j:=by
 unfold kS;rw [List.foldl_append];rfl
theorem jo (ns:List EN):∀ j,(gB ns j).length=ns.length
 | 0=>by simp [gB]
 | j+1=>by rw [gB,sP,jo ns j]
theorem uL (ns:List EN):(fR ns).length=ns.length:=by unfold fR;rw [List.length_set,jo]
set_option maxHeartbeats 1000000 in
theorem Ej {G} (ns:List EN) (h0:0<ns.length) (hn:ns.length≤1000000) (hs:∀ n∈ns,n.l.length≤1000000) (hk:∀ i,i<ns.length→(aj (ndE ns i)).all (inB i)=true) :
  HP Tryz.prog G 162 [exD ns] (fun r=>r=.d (.sl none ((fR ns).map i64))):=by
 unfold exD
 refine aw Tryz.func162 rfl (by decide +kernel) (by simp [Tryz.ntmps162]) (veil fun E=>?_)
 simp only [go_sem]
 refine ⟨⟨by omega,by omega,by omega,by omega⟩,?_⟩
 refine bl E (X:={ i:Nat // i≤ns.length }) (fun x=>[(1,.bx [1] 0),(3,.vw [10] 0 ns.length),(4,.d (i64 x.1))])
  (fun x=>[([1],.box [.d (.sl (some 9) (ns.map enD))]),([10],.arr none ((gB ns x.1).map i64))]) [10,1] (fun x=>ns.length-x.1) ⟨0,Nat.zero_le _⟩ ?_ ?_
 ·unfold gB
  rw [List.map_replicate]
  simp only [go_sem]
  all_goals first | rfl | exact ⟨rfl,rfl⟩
 rintro ⟨i,hi⟩ E0
 refine aC E0 fun Q' hQ E'=>?_
 simp only at hi ⊢
 have hpl:=jo ns i
 simp only [go_sem]
 refine ah E' (fun g1=>?_) (fun g1=>?_)<;>simp only [go_sem]
 ·have hi':i<ns.length:=by omega
  refine ⟨⟨by omega,by omega⟩,?_⟩
  have hg:=aN hi'
  have hki:=hk i hi'
  have hsi:=hs _ (by rw [bG hi'];exact List.getElem_mem hi':ndE ns i∈ns)
  have hst:gB ns (i+1)=kS (aj (ndE ns i)) i (gB ns i):=rfl
  obtain ⟨n,hne⟩:∃ n,n=ndE ns i:=⟨_,rfl⟩
  rw [← hne] at hg hki hsi hst
  rw [hg]
  have hkc:=l7 (G:=G) n hsi
  obtain ⟨K,hK⟩:∃ K,K=aj n:=⟨_,rfl⟩
  have hKl:K.length≤1000003:=by rw [hK,br];unfold bf;have:=bB n.k;split<;>omega
  rw [← hK] at hkc hki hst
  simp only [go_sem]
  refine ag E' hkc rfl rfl (by simp) ?_
  rintro _ rfl
  simp only [go_sem]
  refine bl E' (X:={ q:Nat // q≤K.length }) (fun x=>[(1,.bx [1] 0),(3,.vw [10] 0 ns.length),(4,.d (i64 i)),(5,.d (.sl none (K.map i64))),(6,.d (i64 x.1))])
   (fun x=>[([1],.box [.d (.sl (some 9) (ns.map enD))]),([10],.arr none ((kS (K.take x.1) i (gB ns i)).map i64))]) [10,1] (fun x=>K.length-x.1) ⟨0,Nat.zero_le _⟩ ?_ ?_
  ·rw [List.take_zero,show kS [] i (gB ns i)=gB ns i from rfl]
   simp only [go_sem]
   all_goals first | rfl | exact ⟨rfl,rfl⟩
  rintro ⟨q,hq⟩ E2
  refine aC E2 fun Q2 hQ2 E3=>?_
  simp only at hq ⊢
  have hql:=sP (K.take q) i (gB ns i)
  simp only [go_sem]
  refine ah E3 (fun g2=>?_) (fun g2=>?_)<;>simp only [go_sem]
  ·have hq':q<K.length:=by omega
   have hkq:0≤K[q]∧K[q]<(i:Int):=by
    have:=List.all_eq_true.1 hki K[q] (List.getElem_mem hq')
    simpa [inB] using this
   refine ⟨⟨by omega,by omega⟩,?_⟩
   rw [av hq',show K.getD q 0=K[q] by simp [hq']]
   simp only [go_sem]
   refine ⟨⟨by omega,by omega⟩,?_⟩
   rw [ai ⟨by omega,by omega⟩]
   rw [show ((kS (K.take q) i (gB ns i)).map i64).set K[q].toNat (i64 i)=(kS (K.take (q+1)) i (gB ns i)).map i64 by
    rw [List.take_succ_eq_append_getElem hq',zn,List.map_set]]
   rw [hQ2]
   simp only [go_sem]
   refine ⟨⟨q+1,by omega⟩,by show K.length-(q+1)<_;omega,?_⟩
   first | rfl | exact ⟨rfl,rfl⟩
  ·rw [hQ2]
   have h3:q=K.length:=by omega
   subst h3
   rw [List.take_length,← hst]
   simp only [go_sem]
   rw [ai ⟨by omega,by omega⟩,hQ]
   simp only [go_sem]
   refine ⟨⟨i+1,by omega⟩,by show ns.length-(i+1)<_;omega,?_⟩
   first | rfl | exact ⟨rfl,rfl⟩
 ·have h3:i=ns.length:=by omega
  subst h3
  rw [hQ]
  simp only [go_sem]
  rw [ai ⟨by omega,by omega⟩]
  refine ⟨⟨by omega,by omega⟩,?_⟩
  rw [show ((ns.length:Int)-1).toNat=ns.length-1 by omega]
  refine ⟨[([10],none,(fR ns).map i64)],?_⟩
  simp only [go_sem]
  rw [List.take_of_length_le (by rw [List.length_map,uL];exact Nat.le_refl _)]
  unfold fR
  rw [List.map_set]
  exact ⟨rfl,rfl⟩
def b7 (n:EN) (k:Int) (nm:List UInt8):Int :=
 if (n.k=5∧n.name=nm)∨(n.k=7∧n.name=nm∧k=n.b)∨(n.k=8∧n.name=nm) then -1
 else if n.k=14 then (match (List.range n.l.length).find? (fun j=>decide ((fdE n.l j).to=k) && decide ((fdE n.l j).var=nm)) with
  | some j=>(j:Int)
  | none=>-2) else -2
set_option maxHeartbeats 1000000 in
theorem ES {G} (n:EN) (k:Int) (nm:List UInt8) (hl:n.l.length≤1000000):HP Tryz.prog G 163 [enD n,i64 k,.str nm] (fun r=>r=.d (i64 (b7 n k nm))):=by
 generalize hR:b7 n k nm=R
 unfold b7 at hR
 unfold enD efD
 refine aw Tryz.func163 rfl (by decide +kernel) (by simp [Tryz.ntmps163]) (veil fun E=>?_)
 simp only [go_sem]
 repeat (first
  | (apply b6 E;(· simp only [go_sem]);(· intro h;(try simp only [bq] at h);simp only [↓h,go_sem];rfl);simp only [go_sem])
  | (apply ba E;(· simp only [go_sem]);(· intro h;(try simp only [bq] at h);simp only [↓h,go_sem];rfl);(· intro h;(try simp only [bq] at h);simp only [↓h,go_sem];rfl);simp only [go_sem])
  | (apply a8 E;(· simp only [go_sem]);(· rfl);(· intro h h';(try simp only [bq] at h h');simp only [↓h,↓h',go_sem];rfl);simp only [go_sem])
  | (apply aI E;(· simp only [go_sem]);(· rfl);(· intro h h';(try simp only [bq] at h h');simp only [↓h,↓h',go_sem];rfl);(· intro h h';(try simp only [bq] at h h');simp only [↓h,↓h',go_sem];rfl);simp only [go_sem])
  | (apply bV E;(· decide);simp only [go_sem]))
 have hcond:(decide (n.k=5) && n.name == nm || decide (n.k=7) && n.name == nm && decide (k=n.b) || decide (n.k=8) && n.name == nm)=decide ((n.k=5∧n.name=nm)∨(n.k=7∧n.name=nm∧k=n.b)∨(n.k=8∧n.name=nm)):=by
  rw [Bool.eq_iff_iff]
  simp only [Bool.or_eq_true,Bool.and_eq_true,decide_eq_true_eq,beq_iff_eq]
  constructor
  ·rintro ((⟨a,b⟩ | ⟨⟨a,b⟩,c⟩) | ⟨a,b⟩)
   ·exact .inl ⟨a,b⟩
   ·exact .inr (.inl ⟨a,b,c⟩)
   ·exact .inr (.inr ⟨a,b⟩)
  ·rintro (⟨a,b⟩ | ⟨a,b,c⟩ | ⟨a,b⟩)
   ·exact .inl (.inl ⟨a,b⟩)
   ·exact .inl (.inr ⟨⟨a,b⟩,c⟩)
   ·exact .inr ⟨a,b⟩
 rw [hcond]
 refine ah E (fun g1=>?_) (fun g1=>?_)<;>simp only [go_sem]
 ·rw [if_pos g1] at hR
  rw [← hR]
  refine ⟨[],?_⟩
  simp only [go_sem]
 rw [if_neg g1] at hR
 refine ah E (fun g2=>?_) (fun g2=>?_)<;>simp only [go_sem]
 ·rw [if_pos g2] at hR
  obtain ⟨pr,hpr⟩:∃ pr,pr=fun j=>decide ((fdE n.l j).to=k) && decide ((fdE n.l j).var=nm):=⟨_,rfl⟩
  rw [← hpr] at hR
  refine bl E (X:={ q:Nat // q≤n.l.length∧(List.range q).find? pr=none }) (fun x=>[(1,.d (i64 k)),(2,.d (.str nm)),(3,.bx [3] 0),(7,.d (i64 x.1))])
   (fun _=>[([3],.box [.d (i64 n.k),.d (i64 n.a),.d (i64 n.b),.d (i64 n.c),.d (i64 n.n),.d (.str n.name),.d (.str n.s),.d (.sl (some 3) (n.l.map fD)),.d (i64 n.pos)])]) [3] (fun x=>n.l.length-x.1) ⟨0,Nat.zero_le _,rfl⟩ ?_ ?_
  ·simp only [go_sem]
   all_goals first | rfl | exact ⟨rfl,rfl⟩
  rintro ⟨q,hq,hqn⟩ E0
  refine aC E0 fun Q' hQ E'=>?_
  simp only at hq hqn ⊢
  simp only [go_sem]
  refine ah E' (fun f1=>?_) (fun f1=>?_)<;>simp only [go_sem]
  ·have hq':q<n.l.length:=by omega
   refine ⟨⟨by omega,by omega⟩,?_⟩
   rw [jK hq']
   simp only [go_sem]
   by_cases hto:(fdE n.l q).to=k
   ·rw [decide_eq_true hto]
    simp only [go_sem]
    refine ⟨⟨by omega,by omega⟩,?_⟩
    rw [jK hq']
    simp only [go_sem]
    refine aB E' (fun f2=>?_) (fun f2=>?_)<;>simp only [go_sem]
    ·have hpq:pr q=true:=by
      rw [hpr]
      simp only [Bool.and_eq_true,decide_eq_true_eq]
      exact ⟨hto,by simpa using f2⟩
     have hfq:(List.range n.l.length).find? pr=some q:=by
      obtain ⟨r,hr⟩:=jP (i:=q+1) (n:=n.l.length) (by omega)
      rw [hr,List.range_succ,List.append_assoc,List.find?_append,hqn,List.singleton_append,List.find?_cons,hpq]
      rfl
     rw [hfq] at hR
     rw [hQ]
     simp only [go_sem]
     rw [← hR]
     refine ⟨[],?_⟩
     simp only [go_sem]
    ·have hpq:pr q=false:=by
      rw [hpr]
      simp only [Bool.and_eq_false_iff,decide_eq_false_iff_not]
      exact .inr (by simpa using f2)
     rw [ai ⟨by omega,by omega⟩,hQ]
     simp only [go_sem]
     refine ⟨⟨q+1,by omega,?_⟩,by show n.l.length-(q+1)<_;omega,?_⟩
     ·rw [List.range_succ,List.find?_append,hqn,List.find?_cons,hpq]
      rfl
     first | rfl | exact ⟨rfl,rfl⟩
   ·rw [decide_eq_false hto]
    simp only [go_sem]
    have hpq:pr q=false:=by
     rw [hpr]
     simp only [Bool.and_eq_false_iff,decide_eq_false_iff_not]
     exact .inl hto
    rw [ai ⟨by omega,by omega⟩,hQ]
    simp only [go_sem]
    refine ⟨⟨q+1,by omega,?_⟩,by show n.l.length-(q+1)<_;omega,?_⟩
    ·rw [List.range_succ,List.find?_append,hqn,List.find?_cons,hpq]
     rfl
    first | rfl | exact ⟨rfl,rfl⟩
  ·rw [hQ]
   have h3:q=n.l.length:=by omega
   subst h3
   rw [hqn] at hR
   simp only [go_sem]
   rw [← hR]
   refine ⟨[],?_⟩
   simp only [go_sem]
 ·rw [if_neg g2] at hR
  rw [← hR]
  refine ⟨[],?_⟩
  simp only [go_sem]
end Go.Proofs.YtejpnabbmgpmaaaGreat

namespace Go.Proofs.YtejpnabbmgpmaaaGreat
open Go.Ab
theorem sO {j k:Nat}:∀ {ks p:List Int},k<p.length→(∀ x∈ks,0≤x)→(kS ks j p).getD k 0=if (k:Int)∈ks then (j:Int) else p.getD k 0
 | [],p,_,_=>by simp [kS]
 | x::r,p,hk,hx=>by
   show (kS r j (p.set x.toNat j)).getD k 0=_
   rw [sO (by rw [List.length_set];exact hk) (fun y hy=>hx y (List.mem_cons_of_mem _ hy))]
   have hx0:=hx x List.mem_cons_self
   by_cases h1:(k:Int)∈r
   ·rw [if_pos h1,if_pos (List.mem_cons_of_mem _ h1)]
   rw [if_neg h1]
   by_cases h2:(k:Int)=x
   ·rw [if_pos (by rw [h2];exact List.mem_cons_self)]
    have:x.toNat=k:=by omega
    rw [this]
    simp [hk]
   ·rw [if_neg (by simp [h1,h2])]
    have:x.toNat≠k:=by omega
    simp [List.getD_eq_getElem?_getD,List.getElem?_set_ne this]
theorem aL {ns:List EN} (hk:∀ i,i<ns.length→(aj (ndE ns i)).all (inB i)=true) {i:Nat} (hi:i<ns.length):∀ x∈aj (ndE ns i),0≤x∧x<(i:Int):=fun x hx=>by
 have:=List.all_eq_true.1 (hk i hi) x hx
 simpa [inB] using this
theorem sK {ns:List EN} (hk:∀ i,i<ns.length→(aj (ndE ns i)).all (inB i)=true) {k:Nat} (h:k<ns.length):∀ i,i≤ns.length→(∀ j,j<i→(k:Int) ∉ aj (ndE ns j))∨∃ j:Nat,j<i∧(k:Int)∈aj (ndE ns j)∧(gB ns i).getD k 0=(j:Int)
 | 0,_=>.inl fun j hj=>absurd hj (Nat.not_lt_zero _)
 | i+1,hi=>by
   have hg:(gB ns (i+1)).getD k 0=if (k:Int)∈aj (ndE ns i) then (i:Int) else (gB ns i).getD k 0:=sO (by rw [jo];exact h) (fun x hx=>(aL hk (by omega) x hx).1)
   by_cases h1:(k:Int)∈aj (ndE ns i)
   ·rw [if_pos h1] at hg
    exact .inr ⟨i,by omega,h1,hg⟩
   ·rw [if_neg h1] at hg
    rcases sK hk h i (by omega) with h2 | ⟨j,h2,h3,h4⟩
    ·refine .inl fun j hj=>?_
     rcases Nat.lt_or_ge j i with h3 | h3
     ·exact h2 j h3
     ·rw [show j=i by omega];exact h1
    ·exact .inr ⟨j,by omega,h3,hg.trans h4⟩
theorem jA {ns:List EN} (ht:cV ns) {k:Nat} (h:k<ns.length):(k=ns.length-1∧(fR ns).getD k 0 = -1)∨∃ j:Nat,k<j∧j<ns.length∧(k:Int)∈aj (ndE ns j)∧(fR ns).getD k 0=(j:Int):=by
 have hk:=aQ ht
 unfold fR
 by_cases hl:k=ns.length-1
 ·refine .inl ⟨hl,?_⟩
  rw [← hl]
  simp [List.getD_eq_getElem?_getD,jo,h]
 refine .inr ?_
 have hne:ns.length-1≠k:=fun e=>hl e.symm
 rw [show ((gB ns ns.length).set (ns.length-1) (-1)).getD k 0=(gB ns ns.length).getD k 0 by
  simp [List.getD_eq_getElem?_getD,List.getElem?_set_ne hne]]
 rcases sK hk h ns.length (Nat.le_refl _) with h2 | ⟨j,h2,h3,h4⟩
 ·exfalso
  have hc:=List.all_eq_true.1 ht.once k (by simp;omega)
  have hc2:uj ns k=1:=by simpa using hc
  unfold uj at hc2
  obtain ⟨x,hx,hxk⟩:=List.countP_pos_iff.1 (by omega:0<List.countP (fun x=>decide (x=(k:Int))) (ns.flatMap aj))
  obtain ⟨n,hn,hxn⟩:=List.mem_flatMap.1 hx
  obtain ⟨j,hj,hjn⟩:=List.getElem_of_mem hn
  have hxk2:x=(k:Int):=by simpa using hxk
  refine h2 j hj ?_
  rw [bG hj,hjn,← hxk2]
  exact hxn
 ·exact ⟨j,by have:=(aL hk h2 _ h3).2;omega,h2,h3,h4⟩
end Go.Proofs.YtejpnabbmgpmaaaGreat

namespace Go.Proofs.YtejpnabbmgpmaaaGreat
open Go.Ab
def climb (ns:List EN) (p:List Int) (nm:List UInt8):Nat→Int→Int→Bi
 | 0,_,_=>noB
 | m+1,c,j=>if j<0 then noB else if b7 (ndE ns j.toNat) c nm > -2 then (j,b7 (ndE ns j.toNat) c nm) else climb ns p nm m j (p.getD j.toNat 0)
def bE (ns:List EN) (i:Nat):Bi:=if (ndE ns i).k=4 then climb ns (fR ns) (ndE ns i).name ns.length i ((fR ns).getD i 0) else noB
def bn (ns:List EN):List Bi:=(List.range ns.length).map (bE ns)
theorem eA (ns:List EN):(bn ns).length=ns.length:=by unfold bn;simp
theorem oM {ns:List EN} {i:Nat} (h:i<ns.length):(bn ns).take (i+1)=(bn ns).take i++[bE ns i]:=by
 rw [List.take_succ_eq_append_getElem (by rw [eA];exact h)]
 simp [bn]
theorem lL {ns:List EN} {i:Nat} (h:i<ns.length) {b:Bi} (hb:b=bE ns i):List.take i (List.map bD (List.take i (bn ns)))++[.agg [i64 b.1,i64 b.2]]=((bn ns).take (i+1)).map bD:=by
 rw [List.take_of_length_le (by simp;omega),oM h,List.map_append,hb]
 rfl
set_option maxHeartbeats 1000000 in
theorem xE {G} (ns:List EN) (ht:cV ns) (hn:ns.length≤1000000) (hs:∀ n∈ns,n.l.length≤1000000) :
  HP Tryz.prog G 114 [exD ns] (fun r=>r=.d (.sl (some 2) ((bn ns).map bD))):=by
 have hpc:=Ej (G:=G) ns ht.pos hn hs (aQ ht)
 have hpl:=uL ns
 have hup:=fun k h=>jA ht (k:=k) h
 have hrB:∀ i,bE ns i=if (ndE ns i).k=4 then climb ns (fR ns) (ndE ns i).name ns.length i ((fR ns).getD i 0) else noB:=fun _=>rfl
 obtain ⟨P,hP⟩:∃ P,P=fR ns:=⟨_,rfl⟩
 rw [← hP] at hpc hpl
 simp only [← hP] at hup hrB
 unfold exD at hpc ⊢
 refine aw Tryz.func114 rfl (by decide +kernel) (by simp [Tryz.ntmps114]) (veil fun E=>?_)
 simp only [go_sem]
 refine ag E hpc rfl rfl (by simp) ?_
 rintro _ rfl
 simp only [go_sem]
 have hpget:∀ k,k<ns.length→(P.map i64).getD k .nilp=i64 (P.getD k 0):=fun k hk=>av (by omega)
 refine az E (X:={ i:Nat // i≤ns.length }) (fun x=>[(1,.bx [1] 0),(3,.d (.sl none (P.map i64))),(4,.vw [12] 0 x.1),(5,.d (i64 x.1))])
  (fun x=>[([1],.box [.d (.sl (some 9) (ns.map enD))]),([12],.arr (some 2) (((bn ns).take x.1).map bD))]) [12,1] (fun x=>ns.length-x.1) ⟨0,Nat.zero_le _⟩ id ?_ ?_
 ·simp only [go_sem]
  all_goals first | rfl | exact ⟨rfl,rfl⟩
 rintro ⟨i,hi⟩ E0
 refine aC E0 fun Q' hQ E'=>?_
 simp only at hi ⊢
 simp only [go_sem]
 refine ah E' (fun g1=>?_) (fun g1=>?_)<;>simp only [go_sem]
 ·have hi':i<ns.length:=by omega
  refine ⟨⟨by omega,by omega⟩,?_⟩
  have hg:=aN hi'
  have hRi:=hrB i
  have hst:=oM hi'
  have hui:=hup i hi'
  obtain ⟨R,hR⟩:∃ R,R=bE ns i:=⟨_,rfl⟩
  rw [← hR] at hRi hst
  obtain ⟨n,hne⟩:∃ n,n=ndE ns i:=⟨_,rfl⟩
  rw [← hne] at hg hRi
  rw [hg]
  simp only [go_sem]
  refine ah E' (fun g2=>?_) (fun g2=>?_)<;>simp only [go_sem]
  ·rw [if_pos g2] at hRi
   refine ⟨⟨by omega,by omega⟩,?_⟩
   rw [hpget i hi']
   simp only [go_sem]
   refine bl E' (X:={ x:Int × Int × Bi // (x.2.2=R∧0≤R.1)∨(x.2.2=noB∧((x.2.1 = -1∧R=noB)∨∃ jn m:Nat,x.2.1=(jn:Int)∧jn<ns.length∧ns.length≤jn+m∧climb ns P n.name m x.1 (jn:Int)=R)) })
    (fun x=>[(1,.bx [1] 0),(3,.d (.sl none (P.map i64))),(4,.vw [12] 0 i),(5,.d (i64 i)),(6,.bx [6] 0),(7,.d (i64 x.1.1)),(8,.d (i64 x.1.2.1))])
    (fun x=>[([1],.box [.d (.sl (some 9) (ns.map enD))]),([12],.arr (some 2) (((bn ns).take i).map bD)),([6],.box [.d (i64 x.1.2.2.1),.d (i64 x.1.2.2.2)])]) [6,12,1] (fun x=>if x.1.2.2.1<0∧0≤x.1.2.1 then ns.length-x.1.2.1.toNat else 0) ⟨((i:Int),P.getD i 0,noB),.inr ⟨rfl,?_⟩⟩ ?_ ?_
   ·rcases hui with ⟨_,h2⟩ | ⟨j,h1,h2,_,h4⟩
    ·refine .inl ⟨h2,?_⟩
     rw [hRi,h2]
     cases hln:ns.length with
     | zero=>omega
     | succ m=>unfold climb;rw [if_pos (by decide)]
    ·exact .inr ⟨j,ns.length,h4,h2,by omega,by rw [hRi,h4]⟩
   ·simp only [go_sem]
    all_goals first | rfl | exact ⟨rfl,rfl⟩
   rintro ⟨⟨c,j,b⟩,hx⟩ E2
   refine aC E2 fun Q2 hQ2 E3=>?_
   simp only at hx ⊢
   simp only [go_sem]
   by_cases hj:0≤j
   ·rw [decide_eq_true hj]
    simp only [go_sem]
    refine ah E3 (fun f1=>?_) (fun f1=>?_)<;>simp only [go_sem]
    ·have hx2:b=noB∧∃ jn m:Nat,j=(jn:Int)∧jn<ns.length∧ns.length≤jn+m∧climb ns P n.name m c (jn:Int)=R:=by
      rcases hx with ⟨h1,h2⟩ | ⟨h1,⟨h2,_⟩ | h2⟩
      ·rw [h1] at f1;omega
      ·omega
      ·exact ⟨h1,h2⟩
     obtain ⟨hb,jn,m,rfl,hjn,hfu,hcl⟩:=hx2
     subst hb
     obtain ⟨m,rfl⟩:∃ m',m=m'+1:=⟨m-1,by omega⟩
     unfold climb at hcl
     rw [if_neg (by omega)] at hcl
     simp only [Int.toNat_natCast] at hcl
     have hgj:=aN hjn
     have hsj:=hs _ (by rw [bG hjn];exact List.getElem_mem hjn:ndE ns jn∈ns)
     have huj:=hup jn hjn
     have hcb:=ES (G:=G) (ndE ns jn) c n.name hsj
     obtain ⟨nj,hnj⟩:∃ nj,nj=ndE ns jn:=⟨_,rfl⟩
     rw [← hnj] at hgj hsj hcb hcl
     obtain ⟨a,ha⟩:∃ a,a=b7 nj c n.name:=⟨_,rfl⟩
     rw [← ha] at hcb hcl
     refine ak mixed E3 fun X=>?_
     simp only [go_sem]
     refine ⟨⟨by omega,by omega⟩,?_⟩
     rw [hgj]
     simp only [go_sem]
     refine ⟨⟨by omega,by omega⟩,?_⟩
     rw [hg]
     simp only [go_sem]
     refine bK X hcb rfl rfl (by simp) ?_
     simp only [go_sem]
     refine ⟨by decide +kernel,?_⟩
     refine ah E3 (fun f2=>?_) (fun f2=>?_)<;>simp only [go_sem]
     ·rw [if_pos (by omega)] at hcl
      refine ⟨⟨by omega,by omega⟩,?_⟩
      rw [hpget jn hjn]
      simp only [go_sem]
      rw [hQ2]
      simp only [go_sem]
      refine ⟨⟨((jn:Int),P.getD jn 0,R),.inl ⟨rfl,by rw [← hcl];exact Int.natCast_nonneg _⟩⟩,?_,?_⟩
      ·show (if R.1<0∧0≤P.getD jn 0 then ns.length-(P.getD jn 0).toNat else 0)<(if noB.1<0∧(0:Int)≤(jn:Int) then ns.length-jn else 0)
       rw [if_neg (by rw [← hcl];simp;omega),if_pos ⟨by decide,by omega⟩]
       omega
      ·have e1:R.1=(jn:Int):=by rw [← hcl]
       have e2:R.2=a:=by rw [← hcl]
       refine ⟨⟨rfl,rfl⟩,?_⟩
       show some (Ob.boxT none [AV.d (i64 (jn:Int)),AV.d (i64 a)])=some (Ob.boxT none [AV.d (i64 R.1),AV.d (i64 R.2)])
       rw [e1,e2]
     ·rw [if_neg (by omega)] at hcl
      refine ⟨⟨by omega,by omega⟩,?_⟩
      rw [hpget jn hjn]
      simp only [go_sem]
      rw [hQ2]
      simp only [go_sem]
      refine ⟨⟨((jn:Int),P.getD jn 0,noB),.inr ⟨rfl,?_⟩⟩,?_,?_⟩
      ·rcases huj with ⟨_,h2⟩ | ⟨j',h1,h2,_,h4⟩
       ·refine .inl ⟨h2,?_⟩
        rw [← hcl,h2]
        cases m with
        | zero=>rfl
        | succ m=>unfold climb;rw [if_pos (by decide)]
       ·exact .inr ⟨j',m,h4,h2,by omega,by rw [← hcl,h4]⟩
      ·show (if noB.1<0∧0≤P.getD jn 0 then ns.length-(P.getD jn 0).toNat else 0)<(if noB.1<0∧(0:Int)≤(jn:Int) then ns.length-jn else 0)
       rw [if_pos (c:=noB.1<0∧(0:Int)≤(jn:Int)) ⟨by decide,by omega⟩]
       rcases huj with ⟨_,h2⟩ | ⟨j',h1,h2,_,h4⟩
       ·rw [h2,if_neg (by omega)]
        omega
       ·rw [h4,if_pos ⟨by decide,by omega⟩]
        omega
      ·first | rfl | exact ⟨rfl,rfl⟩ | exact ⟨⟨rfl,rfl⟩,rfl⟩
    ·rw [hQ2]
     simp only [go_sem]
     have hb:b=R:=by
      rcases hx with ⟨h1,h2⟩ | ⟨h1,_⟩
      ·exact h1
      ·rw [h1] at f1;exact absurd (by decide:noB.1<0) f1
     subst hb
     refine ⟨by omega,?_⟩
     rw [ai ⟨by omega,by omega⟩]
     have key:List.take i (List.map bD (List.take i (bn ns)))++[.agg [i64 b.1,i64 b.2]]=((bn ns).take (i+1)).map bD:=lL hi' (b:=b) hR
     rw [key,hQ]
     simp only [go_sem]
     refine ⟨⟨i+1,by omega⟩,by show ns.length-(i+1)<_;omega,tau [([12],[66])],?_⟩
     simp only [go_sem]
     all_goals first | rfl | exact ⟨rfl,rfl⟩
   ·rw [decide_eq_false hj]
    simp only [go_sem]
    rw [hQ2]
    simp only [go_sem]
    have hb:b=R:=by
     rcases hx with ⟨h1,h2⟩ | ⟨h1,⟨_,h2⟩ | ⟨jn,_,h2,_⟩⟩
     ·exact h1
     ·rw [h1,h2]
     ·omega
    subst hb
    refine ⟨by omega,?_⟩
    rw [ai ⟨by omega,by omega⟩]
    have key:List.take i (List.map bD (List.take i (bn ns)))++[.agg [i64 b.1,i64 b.2]]=((bn ns).take (i+1)).map bD:=lL hi' (b:=b) hR
    rw [key,hQ]
    simp only [go_sem]
    refine ⟨⟨i+1,by omega⟩,by show ns.length-(i+1)<_;omega,tau [([12],[66])],?_⟩
    simp only [go_sem]
    all_goals first | rfl | exact ⟨rfl,rfl⟩
  ·rw [if_neg g2] at hRi
   refine ⟨by omega,?_⟩
   rw [ai ⟨by omega,by omega⟩]
   have key:List.take i (List.map bD (List.take i (bn ns)))++[.agg [.int .i64 (-1),.int .i64 (-1)]]=((bn ns).take (i+1)).map bD:=lL hi' (b:=noB) (hRi.symm.trans hR)
   rw [key,hQ]
   simp only [go_sem]
   refine ⟨⟨i+1,by omega⟩,by show ns.length-(i+1)<_;omega,tau [([12],[66])],?_⟩
   simp only [go_sem]
   all_goals first | rfl | exact ⟨rfl,rfl⟩
 ·have h3:i=ns.length:=by omega
  subst h3
  rw [hQ]
  simp only [go_sem]
  refine ⟨[([12],some 2,(bn ns).map bD)],?_⟩
  simp only [go_sem]
  rw [List.take_of_length_le (l:=bn ns) (by rw [eA];exact Nat.le_refl _),List.take_of_length_le (by rw [List.length_map,eA];exact Nat.le_refl _)]
  exact ⟨rfl,rfl⟩
end Go.Proofs.YtejpnabbmgpmaaaGreat

namespace Go.Proofs.YtejpnabbmgpmaaaGreat
open Go.Ab
def b9 (ns:List EN):Int:=match (List.range ns.length).find? (fun i=>decide ((ndE ns i).k=4) && decide ((bE ns i).1<0)) with
 | some i=>(i:Int)
 | none=>-1
set_option maxHeartbeats 1000000 in
theorem Db {G} (ns:List EN) (ht:cV ns) (hn:ns.length≤1000000) (hs:∀ n∈ns,n.l.length≤1000000) :
  HP Tryz.prog G 113 [exD ns] (fun r=>r=.d (i64 (b9 ns))):=by
 have hbc:=xE (G:=G) ns ht hn hs
 have hbl:=eA ns
 have hbg:∀ i,i<ns.length→(bn ns).getD i noB=bE ns i:=fun i h=>by simp [bn,h]
 generalize hR:b9 ns=R
 unfold b9 at hR
 obtain ⟨pr,hpr⟩:∃ pr,pr=fun i=>decide ((ndE ns i).k=4) && decide ((bE ns i).1<0):=⟨_,rfl⟩
 rw [← hpr] at hR
 obtain ⟨B,hB⟩:∃ B,B=bn ns:=⟨_,rfl⟩
 rw [← hB] at hbc hbl hbg
 unfold exD at hbc ⊢
 refine aw Tryz.func113 rfl (by decide +kernel) (by simp [Tryz.ntmps113]) (veil fun E=>?_)
 simp only [go_sem]
 refine ag E hbc rfl rfl (by simp) ?_
 rintro _ rfl
 simp only [go_sem]
 refine bl E (X:={ q:Nat // q≤ns.length∧(List.range q).find? pr=none }) (fun x=>[(1,.bx [1] 0),(3,.d (.sl (some 2) (B.map bD))),(4,.d (i64 x.1))])
  (fun _=>[([1],.box [.d (.sl (some 9) (ns.map enD))])]) [1] (fun x=>ns.length-x.1) ⟨0,Nat.zero_le _,rfl⟩ ?_ ?_
 ·simp only [go_sem]
  all_goals first | rfl | exact ⟨rfl,rfl⟩
 rintro ⟨q,hq,hqn⟩ E0
 refine aC E0 fun Q' hQ E'=>?_
 simp only at hq hqn ⊢
 simp only [go_sem]
 refine ah E' (fun f1=>?_) (fun f1=>?_)<;>simp only [go_sem]
 ·have hq':q<ns.length:=by omega
  have hg:=aN hq'
  have hbq:=p8 (B:=B) (i:=q) (by omega)
  rw [hbg q hq'] at hbq
  have hpq:pr q=(decide ((ndE ns q).k=4) && decide ((bE ns q).1<0)):=by rw [hpr]
  obtain ⟨n,hne⟩:∃ n,n=ndE ns q:=⟨_,rfl⟩
  obtain ⟨b,hbe⟩:∃ b,b=bE ns q:=⟨_,rfl⟩
  rw [← hne] at hg hpq
  rw [← hbe] at hbq hpq
  refine ⟨⟨by omega,by omega⟩,?_⟩
  rw [hg]
  simp only [go_sem]
  by_cases hk4:n.k=4
  ·rw [decide_eq_true hk4]
   simp only [go_sem]
   refine ⟨⟨by omega,by omega⟩,?_⟩
   rw [hbq]
   simp only [go_sem]
   refine ah E' (fun f2=>?_) (fun f2=>?_)<;>simp only [go_sem]
   ·rw [decide_eq_true hk4,decide_eq_true f2] at hpq
    have hfq:(List.range ns.length).find? pr=some q:=by
     obtain ⟨r,hr⟩:=jP (i:=q+1) (n:=ns.length) (by omega)
     rw [hr,List.range_succ,List.append_assoc,List.find?_append,hqn,List.singleton_append,List.find?_cons,hpq]
     rfl
    rw [hfq] at hR
    rw [hQ]
    simp only [go_sem]
    rw [← hR]
    refine ⟨[],?_⟩
    simp only [go_sem]
   ·rw [decide_eq_false f2,Bool.and_false] at hpq
    rw [ai ⟨by omega,by omega⟩,hQ]
    simp only [go_sem]
    refine ⟨⟨q+1,by omega,?_⟩,by show ns.length-(q+1)<_;omega,?_⟩
    ·rw [List.range_succ,List.find?_append,hqn,List.find?_cons,hpq]
     rfl
    first | rfl | exact ⟨rfl,rfl⟩
  ·rw [decide_eq_false hk4,Bool.false_and] at hpq
   rw [decide_eq_false hk4]
   simp only [go_sem]
   rw [ai ⟨by omega,by omega⟩,hQ]
   simp only [go_sem]
   refine ⟨⟨q+1,by omega,?_⟩,by show ns.length-(q+1)<_;omega,?_⟩
   ·rw [List.range_succ,List.find?_append,hqn,List.find?_cons,hpq]
    rfl
   first | rfl | exact ⟨rfl,rfl⟩
 ·rw [hQ]
  have h3:q=ns.length:=by omega
  subst h3
  rw [hqn] at hR
  simp only [go_sem]
  rw [← hR]
  refine ⟨[],?_⟩
  simp only [go_sem]
end Go.Proofs.YtejpnabbmgpmaaaGreat

namespace Go.Proofs.YtejpnabbmgpmaaaGreat
open Go.Ab
theorem mE {α:Type} {l:List α} {f:α→List Int} {p:Int→Bool} {j:Nat} (hj:j<l.length):(l.flatMap f).countP p=((l.take j).flatMap f).countP p+((f l[j]).countP p+((l.drop (j+1)).flatMap f).countP p):=by
 have:l.flatMap f=(l.take j).flatMap f++(f l[j]++(l.drop (j+1)).flatMap f):=by
  rw [← List.flatMap_cons,← List.drop_eq_getElem_cons hj,← List.flatMap_append,List.take_append_drop]
 rw [this,List.countP_append,List.countP_append]
theorem xP {ns:List EN} (ht:cV ns) {k:Nat} (h:k<ns.length-1):uj ns k=1:=by
 have hc:=List.all_eq_true.1 ht.once k (by simp;omega)
 simpa using hc
theorem kE {ns:List EN} (ht:cV ns) {i k:Nat} (hi:i<ns.length) (h:k<ns.length-1):(aj (ndE ns i)).countP (fun x=>decide (x=(k:Int)))≤1:=by
 have h1:=xP ht h
 unfold uj at h1
 rw [mE hi,← bG hi] at h1
 omega
theorem x5 {ns:List EN} (ht:cV ns) {i j k:Nat} (hi:i<j) (hj:j<ns.length) (h1:(k:Int)∈aj (ndE ns i)) (h2:(k:Int)∈aj (ndE ns j)):False:=by
 have hk:=(aL (aQ ht) (show i<ns.length by omega) _ h1).2
 have h3:=xP ht (k:=k) (by omega)
 unfold uj at h3
 rw [mE hj,← bG hj] at h3
 have h4:0<((ns.take j).flatMap aj).countP (fun x=>decide (x=(k:Int))):=by
  refine List.countP_pos_iff.2 ⟨k,List.mem_flatMap.2 ⟨ndE ns i,?_,h1⟩,by simp⟩
  rw [bG (show i<ns.length by omega)]
  exact List.mem_take_iff_getElem.2 ⟨i,by omega,rfl⟩
 have h5:0<(aj (ndE ns j)).countP (fun x=>decide (x=(k:Int))):=List.countP_pos_iff.2 ⟨k,h2,by simp⟩
 omega
theorem nz {ns:List EN} (ht:cV ns) {i k:Nat} (hi:i<ns.length) (h:(k:Int)∈aj (ndE ns i)):(fR ns).getD k 0=(i:Int):=by
 have hk:=(aL (aQ ht) hi _ h).2
 rcases jA ht (k:=k) (by omega) with ⟨h1,_⟩ | ⟨j,_,h2,h3,h4⟩
 ·omega
 ·rw [h4]
  rcases Nat.lt_trichotomy i j with h5 | h5 | h5
  ·exact (x5 ht h5 h2 h h3).elim
  ·rw [h5]
  ·exact (x5 ht h5 hi h3 h).elim
def Sees (ns:List EN) (i:Nat) (r:Reach):Prop:=∀ nm m,ns.length≤i+m+1→climb ns (fR ns) nm m i ((fR ns).getD i 0)=dp r nm
theorem Sees.root {ns:List EN} (ht:cV ns):Sees ns (ns.length-1) []:=fun nm m hm=>by
 have hp:=ht.pos
 rcases jA ht (k:=ns.length-1) (by omega) with ⟨_,h⟩ | ⟨j,h1,h2,_⟩
 ·rw [h]
  cases m with
  | zero=>rfl
  | succ m=>unfold climb;rw [if_pos (by decide)];rfl
 ·omega
theorem Sees.kid {ns:List EN} (ht:cV ns) {i k:Nat} {r r':Reach} (hs:Sees ns i r) (hi:i<ns.length) (h:(k:Int)∈aj (ndE ns i))
  (hb:∀ nm,dp r' nm=if b7 (ndE ns i) k nm > -2 then ((i:Int),b7 (ndE ns i) k nm) else dp r nm):Sees ns k r':=fun nm m hm=>by
 have hk:=(aL (aQ ht) hi _ h).2
 rw [nz ht hi h,hb nm]
 cases m with
 | zero=>omega
 | succ m =>
   unfold climb
   rw [if_neg (by omega)]
   simp only [Int.toNat_natCast]
   rw [hs nm m (by omega)]
end Go.Proofs.YtejpnabbmgpmaaaGreat

namespace Go.Proofs.YtejpnabbmgpmaaaGreat
open Go.Ab
theorem yJ {ns:List EN} {i:Nat} {r:Reach} (hs:Sees ns i r):bE ns i=if (ndE ns i).k=4 then dp r (ndE ns i).name else noB:=by
 unfold bE
 split
 ·exact hs _ _ (by omega)
 ·rfl
theorem mw {α:Type} {n q:Nat} {v:Bi} {S:α→Prop} {step:List Bi→α→List Bi} (hlen:∀ l a,(step l a).length=l.length) :
  ∀ (xs:List α),(∀ a∈xs,∀ l,l.length=n→(l.getD q noB=v∨S a)→(step l a).getD q noB=v)→∀ l:List Bi,l.length=n→(l.getD q noB=v∨∃ a∈xs,S a)→(xs.foldl step l).getD q noB=v
 | [],_,l,_,h=>by
   rcases h with h | ⟨a,ha,_⟩
   ·exact h
   ·cases ha
 | x::r,hs,l,hl,h=>by
   rw [List.foldl_cons]
   refine mw hlen r (fun a ha=>hs a (List.mem_cons_of_mem _ ha)) _ (by rw [hlen,hl]) ?_
   rcases h with h | ⟨a,ha,h⟩
   ·exact .inl (hs x List.mem_cons_self l hl (.inl h))
   ·rcases List.mem_cons.1 ha with rfl | ha
    ·exact .inl (hs _ List.mem_cons_self l hl (.inr h))
    ·exact .inr ⟨a,ha,h⟩
theorem dB {ns:List EN} {m:Nat} {i x:Int}:x∈bz ns (m+1) i↔(∃ k∈aj (ndE ns i.toNat),x∈bz ns m k)∨x=i:=by
 show x∈(aj (ndE ns i.toNat)).flatMap (bz ns m)++[i]↔_
 rw [List.mem_append,List.mem_flatMap,List.mem_singleton]
theorem AU {n:EN} {k:Int} {nm:List UInt8} (h5:n.k≠5) (h7:n.k=7→k≠n.b) (h8:n.k≠8) (h14:n.k=14→∀ j,j<n.l.length→(fdE n.l j).to≠k):b7 n k nm = -2:=by
 unfold b7
 rw [if_neg (by
  rintro (⟨a,_⟩ | ⟨a,_,b⟩ | ⟨a,_⟩)
  ·exact h5 a
  ·exact h7 a b
  ·exact h8 a)]
 split
 ·rename_i h
  rw [show (List.range n.l.length).find? (fun j=>decide ((fdE n.l j).to=k) && decide ((fdE n.l j).var=nm))=none from List.find?_eq_none.2 fun j hj=>by
   simp [h14 h j (List.mem_range.1 hj)]]
 ·rfl
theorem BL {n:EN} {k:Int} {nm:List UInt8} (h:n.k=5∨(n.k=7∧k=n.b)∨n.k=8):b7 n k nm=if n.name=nm then -1 else -2:=by
 unfold b7
 by_cases hn:n.name=nm
 ·have hc:(n.k=5∧n.name=nm)∨(n.k=7∧n.name=nm∧k=n.b)∨(n.k=8∧n.name=nm):=by
   rcases h with a | ⟨a,b⟩ | a
   ·exact .inl ⟨a,hn⟩
   ·exact .inr (.inl ⟨a,hn,b⟩)
   ·exact .inr (.inr ⟨a,hn⟩)
  rw [if_pos hc,if_pos hn]
 ·rw [if_neg (by rintro (⟨_,a⟩ | ⟨_,a,_⟩ | ⟨_,a⟩)<;>exact hn a),if_neg hn,if_neg (by omega)]
theorem nL {ns:List EN} {i:Nat} {k:Int} {r:Reach} {nm:List UInt8} (h:(ndE ns i).k=5∨((ndE ns i).k=7∧k=(ndE ns i).b)∨(ndE ns i).k=8) :
  dp (r++[((ndE ns i).name,(i:Int),-1)]) nm=if b7 (ndE ns i) k nm > -2 then ((i:Int),b7 (ndE ns i) k nm) else dp r nm:=by
 rw [j7,BL h]
 by_cases hn:(ndE ns i).name=nm
 ·rw [if_pos hn,if_pos hn,if_pos (by decide)]
 ·rw [if_neg hn,if_neg hn,if_neg (by decide)]
theorem qW {ns:List EN} {i:Nat} {k:Int} {r:Reach} {nm:List UInt8} (h5:(ndE ns i).k≠5) (h7:(ndE ns i).k=7→k≠(ndE ns i).b) (h8:(ndE ns i).k≠8) (h14:(ndE ns i).k=14→∀ j,j<(ndE ns i).l.length→(fdE (ndE ns i).l j).to≠k) :
  dp r nm=if b7 (ndE ns i) k nm > -2 then ((i:Int),b7 (ndE ns i) k nm) else dp r nm:=by
 rw [AU h5 h7 h8 h14,if_neg (by decide)]
end Go.Proofs.YtejpnabbmgpmaaaGreat

namespace Go.Proofs.YtejpnabbmgpmaaaGreat
open Go.Ab
theorem kZ {L:List Int} {x:Int} (h:L.countP (fun y=>decide (y=x))≤1) {j j':Nat} (hjj:j<j') (h1:L[j]?=some x) (h2:L[j']?=some x):False:=by
 have h3:L.countP (fun y=>decide (y=x))=(L.take j').countP (fun y=>decide (y=x))+(L.drop j').countP (fun y=>decide (y=x)):=by
  rw [← List.countP_append,List.take_append_drop]
 obtain ⟨hl2,he2⟩:=List.getElem?_eq_some_iff.1 h2
 obtain ⟨hl1,he1⟩:=List.getElem?_eq_some_iff.1 h1
 have h4:0<(L.take j').countP (fun y=>decide (y=x)):=List.countP_pos_iff.2 ⟨x,List.mem_take_iff_getElem.2 ⟨j,by omega,he1⟩,by simp⟩
 have h5:0<(L.drop j').countP (fun y=>decide (y=x)):=List.countP_pos_iff.2 ⟨x,by rw [List.drop_eq_getElem_cons hl2,he2];exact List.mem_cons_self,by simp⟩
 omega
theorem Cs {n:EN} (h:n.k=14):aj n=n.a::n.l.map (·.to):=by unfold aj aF aH;simp [h]
theorem rR {n:EN} {j:Nat} (h:n.k=14) (hj:j<n.l.length):(aj n)[j+1]?=some (fdE n.l j).to:=by
 rw [Cs h]
 simp [fdE,hj]
theorem zU {ns:List EN} (ht:cV ns) {i j:Nat} {r:Reach} {nm:List UInt8} (hi:i<ns.length) (h:(ndE ns i).k=14) (hj:j<(ndE ns i).l.length) :
  dp (r++[((fdE (ndE ns i).l j).var,(i:Int),(j:Int))]) nm=if b7 (ndE ns i) (fdE (ndE ns i).l j).to nm > -2 then ((i:Int),b7 (ndE ns i) (fdE (ndE ns i).l j).to nm) else dp r nm:=by
 have hka:=rR h hj
 have hkm:(fdE (ndE ns i).l j).to∈aj (ndE ns i):=List.mem_of_getElem? hka
 obtain ⟨hn0,hn1⟩:=aL (aQ ht) hi _ hkm
 have hon:=kE ht (k:=(fdE (ndE ns i).l j).to.toNat) hi (by omega)
 rw [Int.toNat_of_nonneg hn0] at hon
 have hne:∀ j',j' < (ndE ns i).l.length→(fdE (ndE ns i).l j').to=(fdE (ndE ns i).l j).to→j'=j:=fun j' hj' he=>by
  have hk2:=rR h hj'
  rw [he] at hk2
  rcases Nat.lt_trichotomy j j' with h1 | h1 | h1
  ·exact (kZ hon (show j+1<j'+1 by omega) hka hk2).elim
  ·exact h1.symm
  ·exact (kZ hon (show j'+1<j+1 by omega) hk2 hka).elim
 rw [j7]
 generalize ndE ns i=n at *
 have hb:b7 n (fdE n.l j).to nm=if (fdE n.l j).var=nm then (j:Int) else -2:=by
  unfold b7
  rw [if_neg (by rintro (⟨a,_⟩ | ⟨a,_,_⟩ | ⟨a,_⟩)<;>omega),if_pos h]
  by_cases hv:(fdE n.l j).var=nm
  ·rw [if_pos hv]
   obtain ⟨rr,hrr⟩:=jP (i:=j+1) (n:=n.l.length) (by omega)
   rw [hrr,List.range_succ,List.append_assoc,List.find?_append,List.find?_eq_none.2 (fun j' hj'=>by
    have hlt:=List.mem_range.1 hj'
    have:(fdE n.l j').to≠(fdE n.l j).to:=fun e=>by have:=hne j' (by omega) e;omega
    simp [this]),List.singleton_append,List.find?_cons]
   simp [hv]
  ·rw [if_neg hv,List.find?_eq_none.2 (fun j' hj'=>by
    have hlt:=List.mem_range.1 hj'
    by_cases e:(fdE n.l j').to=(fdE n.l j).to
    ·have:=hne j' hlt e
     subst this
     simp [hv]
    ·simp [e])]
 rw [hb]
 by_cases hv:(fdE n.l j).var=nm
 ·rw [if_pos hv,if_pos hv,if_pos (by omega)]
 ·rw [if_neg hv,if_neg hv,if_neg (by decide)]
end Go.Proofs.YtejpnabbmgpmaaaGreat

namespace Go.Proofs.YtejpnabbmgpmaaaGreat
open Go.Ab
theorem vb {l:List Bi} {i q:Nat} {v:Bi} (hi:i<l.length):(l.set i v).getD q noB=if q=i then v else l.getD q noB:=by
 by_cases h:q=i
 ·subst h
  rw [if_pos rfl]
  simp [hi]
 ·rw [if_neg h]
  have h2:i≠q:=fun e=>h e.symm
  simp [List.getD_eq_getElem?_getD,List.getElem?_set_ne h2]
theorem pZ {ns:List EN} (ht:cV ns):∀ (m i:Nat) (r:Reach) (l:List Bi),i<m→i<ns.length→l.length=ns.length→Sees ns i r→∀ q,q<ns.length→(l.getD q noB=bE ns q∨(q:Int)∈bz ns m i)→(dq ns m i r l).getD q noB=bE ns q
 | 0,_,_,_,h,_,_,_,_,_,_=>absurd h (Nat.not_lt_zero _)
 | m+1,i,r,l,him,hi,hl,hs,q,hq,hg=>by
   have ih:=pZ ht m
   have hkn:=aL (aQ ht) hi
   have hrs:=yJ hs
   have kid:∀ (a:Int) (r':Reach) (l':List Bi),a∈aj (ndE ns i)→l'.length=ns.length→(∀ nm,dp r' nm=if b7 (ndE ns i) a nm > -2 then ((i:Int),b7 (ndE ns i) a nm) else dp r nm)→(l'.getD q noB=bE ns q∨(q:Int)∈bz ns m a)→(dq ns m a.toNat r' l').getD q noB=bE ns q:=by
    intro a r' l' ha hl' hf hgd
    obtain ⟨h1,h2⟩:=hkn a ha
    obtain ⟨k,rfl⟩:∃ k:Nat,a=(k:Int):=⟨a.toNat,by omega⟩
    rw [Int.toNat_natCast]
    exact ih k r' l' (by omega) (by omega) hl' (hs.kid ht hi ha hf) q hq hgd
   rw [dB] at hg
   simp only [Int.toNat_natCast] at hg
   have hg2:(l.getD q noB=bE ns q∨q=i)∨∃ k∈aj (ndE ns i),(q:Int)∈bz ns m k:=by
    rcases hg with h | h | h
    ·exact .inl (.inl h)
    ·exact .inr h
    ·exact .inl (.inr (by omega))
   have h0l:(l.set i noB).length=ns.length:=by rw [List.length_set,hl]
   have h0:(ndE ns i).k≠4→(l.getD q noB=bE ns q∨q=i)→(l.set i noB).getD q noB=bE ns q:=by
    intro h4 h
    rw [vb (by omega)]
    by_cases hqi:q=i
    ·rw [if_pos hqi,hqi,hrs,if_neg h4]
    ·rw [if_neg hqi]
     exact h.resolve_right hqi
   have hkd:aj (ndE ns i)=[(ndE ns i).a,(ndE ns i).b,(ndE ns i).c].take (aF (ndE ns i).k)++(if aH (ndE ns i).k then (ndE ns i).l.map (·.to) else []):=rfl
   unfold dq
   simp only
   by_cases h4:(ndE ns i).k=4
   ·rw [if_pos h4,vb (by omega)]
    by_cases hqi:q=i
    ·rw [if_pos hqi,hqi,hrs,if_pos h4]
    ·rw [if_neg hqi,vb (by omega),if_neg hqi]
     rcases hg2 with h | ⟨k,hk,_⟩
     ·exact h.resolve_right hqi
     ·rw [hkd,h4] at hk
      simp [aF,aH] at hk
   have hg3:(l.set i noB).getD q noB=bE ns q∨∃ k∈aj (ndE ns i),(q:Int)∈bz ns m k:=hg2.imp (h0 h4) id
   rw [if_neg h4]
   by_cases h5:(ndE ns i).k=5
   ·rw [if_pos h5]
    have hke:aj (ndE ns i)=[(ndE ns i).a]:=by rw [hkd,h5];simp [aF,aH]
    refine kid _ _ _ (by rw [hke];exact List.mem_singleton_self _) h0l (fun nm=>nL (.inl h5)) (hg3.imp id fun ⟨k,hk,hb⟩=>?_)
    rw [hke,List.mem_singleton] at hk
    rw [← hk];exact hb
   rw [if_neg h5]
   by_cases h7:(ndE ns i).k=7
   ·rw [if_pos h7]
    have hke:aj (ndE ns i)=[(ndE ns i).a,(ndE ns i).b]:=by rw [hkd,h7];simp [aF,aH]
    have ham:(ndE ns i).a∈aj (ndE ns i):=by rw [hke];simp
    have hab:(ndE ns i).a≠(ndE ns i).b:=by
     intro e
     obtain ⟨h1,h2⟩:=hkn _ ham
     have hon:=kE ht (k:=(ndE ns i).a.toNat) hi (by omega)
     rw [Int.toNat_of_nonneg h1] at hon
     exact kZ hon (j:=0) (j':=1) (by omega) (by rw [hke];rfl) (by rw [hke,e];rfl)
    refine kid _ _ _ (by rw [hke];simp) (by rw [dM,h0l]) (fun nm=>nL (.inr (.inl ⟨h7,rfl⟩))) ?_
    rcases hg3 with h | ⟨k,hk,hb⟩
    ·exact .inl (kid _ _ _ ham h0l (fun nm=>qW h5 (fun _=>hab) (by omega) (fun h=>by omega)) (.inl h))
    ·rw [hke] at hk
     rcases List.mem_cons.1 hk with rfl | hk
     ·exact .inl (kid _ _ _ ham h0l (fun nm=>qW h5 (fun _=>hab) (by omega) (fun h=>by omega)) (.inr hb))
     ·rw [List.mem_singleton] at hk
      exact .inr (by rw [← hk];exact hb)
   rw [if_neg h7]
   by_cases h8:(ndE ns i).k=8
   ·rw [if_pos h8]
    have hke:aj (ndE ns i)=[(ndE ns i).a,(ndE ns i).b]:=by rw [hkd,h8];simp [aF,aH]
    have ham:(ndE ns i).a∈aj (ndE ns i):=by rw [hke];simp
    refine kid _ _ _ (by rw [hke];simp) (by rw [dM,h0l]) (fun nm=>nL (.inr (.inr h8))) ?_
    rcases hg3 with h | ⟨k,hk,hb⟩
    ·exact .inl (kid _ _ _ ham h0l (fun nm=>nL (.inr (.inr h8))) (.inl h))
    ·rw [hke] at hk
     rcases List.mem_cons.1 hk with rfl | hk
     ·exact .inl (kid _ _ _ ham h0l (fun nm=>nL (.inr (.inr h8))) (.inr hb))
     ·rw [List.mem_singleton] at hk
      exact .inr (by rw [← hk];exact hb)
   rw [if_neg h8]
   by_cases h14:(ndE ns i).k=14
   ·rw [if_pos h14]
    have hke:=Cs h14
    have ham:(ndE ns i).a∈aj (ndE ns i):=by rw [hke];exact List.mem_cons_self
    have han:∀ j,j<(ndE ns i).l.length→(fdE (ndE ns i).l j).to≠(ndE ns i).a:=by
     intro j hj e
     obtain ⟨h1,h2⟩:=hkn _ ham
     have hon:=kE ht (k:=(ndE ns i).a.toNat) hi (by omega)
     rw [Int.toNat_of_nonneg h1] at hon
     exact kZ hon (j:=0) (j':=j+1) (by omega) (by rw [hke];rfl) (by rw [rR h14 hj,e])
    have ha:=fun h=>kid _ _ _ ham h0l (fun nm=>qW (r:=r) h5 (fun h=>absurd h h7) h8 (fun _=>han)) h
    refine mw (n:=ns.length) (S:=fun j=>(q:Int)∈bz ns m (fdE (ndE ns i).l j).to) (fun l a=>dM _ _ _ _ _) _ (fun j hj l' hl' hgd=>?_) _ (by rw [dM,h0l]) ?_
    ·have hjl:=List.mem_range.1 hj
     exact kid _ _ _ (List.mem_of_getElem? (rR h14 hjl)) hl' (fun nm=>zU ht hi h14 hjl) hgd
    ·rcases hg3 with h | ⟨k,hk,hb⟩
     ·exact .inl (ha (.inl h))
     ·rw [hke] at hk
      rcases List.mem_cons.1 hk with rfl | hk
      ·exact .inl (ha (.inr hb))
      ·obtain ⟨j,hj,hjk⟩:=List.getElem_of_mem hk
       have hjl:j<(ndE ns i).l.length:=by simpa using hj
       refine .inr ⟨j,List.mem_range.2 hjl,?_⟩
       have:(fdE (ndE ns i).l j).to=k:=by rw [← hjk];simp [fdE,hjl]
       rw [this];exact hb
   rw [if_neg h14]
   exact mw (n:=ns.length) (S:=fun k=>(q:Int)∈bz ns m k) (fun l a=>dM _ _ _ _ _) _ (fun k hk l' hl' hgd=>kid _ _ _ hk hl' (fun nm=>qW h5 (fun h=>absurd h h7) h8 (fun h=>absurd h h14)) hgd) _ h0l hg3
end Go.Proofs.YtejpnabbmgpmaaaGreat

namespace Go.Proofs.YtejpnabbmgpmaaaGreat
open Go.Ab
theorem nG {ns:List EN} (hk:∀ i,i<ns.length→(aj (ndE ns i)).all (inB i)=true) {j:Nat} {x:Int} (hx:x∈aj (ndE ns j)):∀ (m i:Nat),i<m→i<ns.length→(j:Int)∈bz ns m i→x∈bz ns m i
 | 0,_,h,_,_=>absurd h (Nat.not_lt_zero _)
 | m+1,i,him,hi,hj=>by
   rw [dB] at hj ⊢
   simp only [Int.toNat_natCast] at hj ⊢
   rcases hj with ⟨c,hc,hjc⟩ | hj
   ·obtain ⟨h1,h2⟩:=aL hk hi c hc
    obtain ⟨c,rfl⟩:∃ k:Nat,c=(k:Int):=⟨c.toNat,by omega⟩
    exact .inl ⟨_,hc,nG hk hx m c (by omega) (by omega) hjc⟩
   ·have:j=i:=by omega
    subst this
    refine .inl ⟨x,hx,?_⟩
    obtain ⟨h1,h2⟩:=aL hk hi x hx
    cases m with
    | zero=>omega
    | succ m=>exact dB.2 (.inr rfl)
theorem ny {ns:List EN} (ht:cV ns):∀ (d k:Nat),ns.length-1-k≤d→k<ns.length→(k:Int)∈bz ns ns.length ((ns.length-1:Nat):Int)
 | d,k,hd,hkn=>by
   have hp:=ht.pos
   rcases jA ht hkn with ⟨h1,_⟩ | ⟨j,h1,h2,h3,_⟩
   ·obtain ⟨n,hn⟩:∃ n,ns.length=n+1:=⟨ns.length-1,by omega⟩
    rw [hn]
    exact dB.2 (.inr (by omega))
   ·cases d with
    | zero=>omega
    | succ d=>exact nG (aQ ht) h3 _ _ (by omega) (by omega) (ny ht d j (by omega) h2)
theorem pR {ns:List EN} (ht:cV ns):fQ ns=bn ns:=by
 have hp:=ht.pos
 refine List.ext_getElem (by rw [gC,eA]) fun q h1 h2=>?_
 rw [gC] at h1
 have h:=pZ ht ns.length (ns.length-1) [] (List.replicate ns.length (0,0)) (by omega) (by omega) (by simp) (.root ht) q h1 (.inr (ny ht _ q (Nat.le_refl _) h1))
 have h3:(fQ ns).getD q noB=(fQ ns)[q]:=by simp [gC,h1]
 have h4:(bn ns)[q]=bE ns q:=by simp [bn]
 rw [← h3,h4]
 exact h
theorem head_filter {α:Type} (p:α→Bool):∀ l:List α,(l.filter p).head?=l.find? p
 | []=>rfl
 | x::r=>by
   rw [List.filter_cons,List.find?_cons]
   cases h:p x
   ·simp
   ·simp
theorem BG {ns:List EN} (ht:cV ns):(iH ns).head?=(List.range ns.length).find? (fun i=>decide ((ndE ns i).k=4) && decide ((bE ns i).1<0)):=by
 unfold iH
 rw [head_filter]
 have:∀ i∈List.range ns.length,ee ns (fQ ns) i=(decide ((ndE ns i).k=4) && decide ((bE ns i).1<0)):=fun i hi=>by
  have hin:=List.mem_range.1 hi
  unfold ee
  rw [pR ht]
  rw [show (bn ns).getD i noB=bE ns i by simp [bn,hin]]
 have key:∀ (l:List Nat) (p q:Nat→Bool),(∀ i∈l,p i=q i)→l.find? p=l.find? q:=by
  intro l p q
  induction l with
  | nil=>intro _;rfl
  | cons x r ih =>
    intro h
    rw [List.find?_cons,List.find?_cons,h x List.mem_cons_self,ih (fun i hi=>h i (List.mem_cons_of_mem _ hi))]
 exact key _ _ _ this
theorem vJ {ns:List EN} (hm:cA ns=0):((fj ns).2=0↔b9 ns<0)∧((fj ns).2≠0→(fj ns).2=10):=by
 have h:=BG (sh hm)
 unfold fj b9
 rw [if_pos hm,← h]
 cases iH ns with
 | nil=>simp
 | cons i r=>simp
end Go.Proofs.YtejpnabbmgpmaaaGreat

namespace Go.Proofs.YtejpnabbmgpmaaaGreat
open Go.Ab
def bo (ns:List EN):Nat→Int→Int→Bool
 | 0,_,_=>false
 | m+1,a,x=>decide (a=x) || (aj (ndE ns a.toNat)).any (fun k=>bo ns m k x)
set_option maxHeartbeats 1000000 in
theorem qy {G} (ns:List EN) (hs:∀ n∈ns,n.l.length≤1000000) (hk:∀ i,i<ns.length→(aj (ndE ns i)).all (inB i)=true) (x:Int) :
  ∀ (m i:Nat),i<m→i<ns.length→HP Tryz.prog G 164 [exD ns,i64 (i:Int),i64 x] (fun r=>r=.d (.bool (bo ns m i x)))
 | 0,_,h,_=>absurd h (Nat.not_lt_zero _)
 | m+1,i,him,hi=>by
   have ih:=qy (G:=G) ns hs hk x m
   have hg:=aN hi
   have hsi:=hs _ (by rw [bG hi];exact List.getElem_mem hi:ndE ns i∈ns)
   have hkn:=aL hk hi
   have hw:bo ns (m+1) i x=(decide ((i:Int)=x) || (aj (ndE ns i)).any (fun k=>bo ns m k x)):=rfl
   have hkc:=l7 (G:=G) (ndE ns i) hsi
   obtain ⟨n,hne⟩:∃ n,n=ndE ns i:=⟨_,rfl⟩
   rw [← hne] at hg hsi hkn hw hkc
   obtain ⟨K,hK⟩:∃ K,K=aj n:=⟨_,rfl⟩
   have hKl:K.length≤1000003:=by rw [hK,br];unfold bf;have:=bB n.k;split<;>omega
   rw [← hK] at hkc hkn hw
   generalize hR:bo ns (m+1) i x=R at hw ⊢
   unfold exD at ih ⊢
   refine aw Tryz.func164 rfl (by decide +kernel) (by simp [Tryz.ntmps164]) (veil fun E=>?_)
   simp only [go_sem]
   refine ah E (fun g1=>?_) (fun g1=>?_)<;>simp only [go_sem]
   ·rw [hw,decide_eq_true g1,Bool.true_or]
    refine ⟨[],?_⟩
    simp only [go_sem]
   rw [decide_eq_false g1,Bool.false_or] at hw
   refine ⟨⟨by omega,by omega⟩,?_⟩
   rw [hg]
   simp only [go_sem]
   refine ag E hkc rfl rfl (by simp) ?_
   rintro _ rfl
   simp only [go_sem]
   refine bl E (X:={ q:Nat // q≤K.length∧(K.take q).any (fun k=>bo ns m k x)=false }) (fun x1=>[(2,.d (i64 x)),(3,.bx [3] 0),(7,.d (.sl none (K.map i64))),(8,.d (i64 x1.1))])
    (fun _=>[([3],.box [.d (.sl (some 9) (ns.map enD))])]) [3] (fun x1=>K.length-x1.1) ⟨0,Nat.zero_le _,rfl⟩ ?_ ?_
   ·simp only [go_sem]
    all_goals first | rfl | exact ⟨rfl,rfl⟩
   rintro ⟨q,hq,hqn⟩ E0
   refine aC E0 fun Q' hQ E'=>?_
   simp only at hq hqn ⊢
   simp only [go_sem]
   refine ah E' (fun f1=>?_) (fun f1=>?_)<;>simp only [go_sem]
   ·have hq':q<K.length:=by omega
    obtain ⟨h1,h2⟩:=hkn K[q] (List.getElem_mem hq')
    obtain ⟨k,hkk⟩:∃ k:Nat,K[q]=(k:Int):=⟨K[q].toNat,by omega⟩
    have hc:=ih k (by omega) (by omega)
    obtain ⟨b,hb⟩:∃ b,b=bo ns m (k:Int) x:=⟨_,rfl⟩
    rw [← hb] at hc
    have hstep:(K.take (q+1)).any (fun k=>bo ns m k x)=b:=by
     rw [List.take_succ_eq_append_getElem hq',List.any_append,hqn,hkk,hb]
     simp
    refine ak mixed E' fun X=>?_
    simp only [go_sem]
    refine ⟨⟨by omega,by omega⟩,?_⟩
    rw [av hq',show K.getD q 0=(k:Int) by simp [hq',hkk]]
    simp only [go_sem]
    refine bK X hc rfl rfl (by simp) ?_
    simp only [go_sem]
    refine ⟨by decide +kernel,?_⟩
    cases b with
    | true =>
      simp only [go_sem]
      rw [hQ]
      simp only [go_sem]
      have:R=true:=by
       rw [hw,← List.take_append_drop (q+1) K,List.any_append,hstep,Bool.true_or]
      rw [this]
      refine ⟨[],?_⟩
      simp only [go_sem]
    | false =>
      simp only [go_sem]
      rw [ai ⟨by omega,by omega⟩,hQ]
      simp only [go_sem]
      refine ⟨⟨q+1,by omega,hstep⟩,by show K.length-(q+1)<_;omega,?_⟩
      first | rfl | exact ⟨rfl,rfl⟩
   ·have h3:q=K.length:=by omega
    subst h3
    rw [List.take_length] at hqn
    rw [hqn] at hw
    rw [hQ]
    simp only [go_sem]
    rw [hw]
    refine ⟨[],?_⟩
    simp only [go_sem]
end Go.Proofs.YtejpnabbmgpmaaaGreat

namespace Go.Proofs.YtejpnabbmgpmaaaGreat
open Go.Ab
def rG (ns:List EN):Int:=if cA ns≠0 then cA ns else if 0≤b9 ns then 10 else 0
theorem GO {G} (ns:List EN) (hs:∀ n∈ns,dc BIG n) (hN:ns.length≤1000000) (hl:∀ n∈ns,n.l.length≤1000000):HP Tryz.prog G 64 [exD ns] (fun r=>r=.d (i64 (rG ns))):=by
 have hm:=nX (G:=G) ns hs hN
 generalize hR:rG ns=R
 unfold rG at hR
 by_cases h0:cA ns=0
 ·have ht:=sh h0
  have hc:=Db (G:=G) ns ht hN hl
  rw [if_neg (by simp [h0])] at hR
  rw [h0] at hm
  obtain ⟨c,hce⟩:∃ c,c=b9 ns:=⟨_,rfl⟩
  rw [← hce] at hc hR
  unfold exD at hm hc ⊢
  refine aw Tryz.func64 rfl (by decide +kernel) (by simp [Tryz.ntmps64]) (veil fun E=>?_)
  simp only [go_sem]
  refine ag E hm rfl rfl (by simp) ?_
  rintro _ rfl
  simp only [go_sem]
  refine ag E hc rfl rfl (by simp) ?_
  rintro _ rfl
  simp only [go_sem]
  refine ah E (fun g1=>?_) (fun g1=>?_)<;>simp only [go_sem]
  ·rw [if_pos (by omega)] at hR
   rw [← hR]
   refine ⟨[],?_⟩
   simp only [go_sem]
  ·rw [if_neg (by omega)] at hR
   rw [← hR]
   refine ⟨[],?_⟩
   simp only [go_sem]
 ·rw [if_pos h0] at hR
  rw [hR] at hm h0
  unfold exD at hm ⊢
  refine aw Tryz.func64 rfl (by decide +kernel) (by simp [Tryz.ntmps64]) (veil fun E=>?_)
  simp only [go_sem]
  refine ag E hm rfl rfl (by simp) ?_
  rintro _ rfl
  simp only [go_sem]
  refine ah E (fun h1=>?_) (fun h1=>absurd h1 (by simpa using h0))<;>simp only [go_sem]
  refine ⟨[],?_⟩
  simp only [go_sem]
theorem DB (ns:List EN):(cA ns=0∧(fj ns).2=0)↔rG ns=0:=by
 unfold rG
 by_cases h0:cA ns=0
 ·have h:=(vJ h0).1
  rw [if_neg (by simp [h0])]
  by_cases hc:0≤b9 ns
  ·rw [if_pos hc]
   simp [h0,h]
   omega
  ·rw [if_neg hc]
   simp [h0,h]
   omega
 ·simp [h0]
end Go.Proofs.YtejpnabbmgpmaaaGreat

namespace Go.Proofs.YtejpnabbmgpmaaaGreat
open Go.Ab
theorem Gn {G} (s:List UInt8):HP Tryz.prog G 25 [.str s] (fun r=>r=.d (.str (s.take 500))):=by
 refine al Tryz.func25 rfl (by decide +kernel) (by simp [Tryz.ntmps25]) (veil fun E=>?_)
 simp only [go_sem]
 split
 ·refine ⟨⟨by omega,by omega⟩,?_⟩
  rfl
 ·refine ⟨⟨by omega,by omega⟩,?_⟩
  rw [List.take_of_length_le (by omega),List.take_of_length_le (by omega)]
end Go.Proofs.YtejpnabbmgpmaaaGreat

namespace Go.Proofs.YtejpnabbmgpmaaaGreat
open Go.Ab
theorem iV {ns:List EN} (hk:∀ i,i<ns.length→(aj (ndE ns i)).all (inB i)=true):∀ (m i:Nat),i<ns.length→∀ x∈bz ns m i,0≤x∧x≤(i:Int)
 | 0,_,_,_,h=>by cases h
 | m+1,i,hi,x,h=>by
   rw [dB] at h
   simp only [Int.toNat_natCast] at h
   rcases h with ⟨c,hc,h⟩ | h
   ·obtain ⟨h1,h2⟩:=aL hk hi c hc
    obtain ⟨c,rfl⟩:∃ k:Nat,c=(k:Int):=⟨c.toNat,by omega⟩
    have:=iV hk m c (by omega) x h
    omega
   ·omega
theorem kR {ns:List EN} (ht:cV ns):∀ (m i:Nat),i<ns.length→∀ x:Nat,(x:Int)∈bz ns m i→x≠i→(fR ns).getD x 0∈bz ns m i
 | 0,_,_,_,h,_=>by cases h
 | m+1,i,hi,x,h,hne=>by
   rw [dB] at h ⊢
   simp only [Int.toNat_natCast] at h ⊢
   rcases h with ⟨c,hc,h⟩ | h
   ·obtain ⟨h1,h2⟩:=aL (aQ ht) hi c hc
    obtain ⟨c,rfl⟩:∃ k:Nat,c=(k:Int):=⟨c.toNat,by omega⟩
    by_cases hxc:x=c
    ·subst hxc
     exact .inr (nz ht hi hc)
    ·exact .inl ⟨_,hc,kR ht m c (by omega) x h hxc⟩
   ·omega
theorem p6 {ns:List EN} (ht:cV ns) {m i c d:Nat} (hi:i<ns.length) (hc:(c:Int)∈aj (ndE ns i)) (hd:(d:Int)∈aj (ndE ns i)) (hcd:c≠d):∀ (f x:Nat),i≤x+f→(x:Int)∈bz ns m c→(x:Int)∈bz ns m d→False
 | f,x,hf,h1,h2=>by
   have hk:=aQ ht
   have hci:=(aL hk hi _ hc).2
   have hdi:=(aL hk hi _ hd).2
   have hxc:=(iV hk m c (by omega) _ h1).2
   have hxd:=(iV hk m d (by omega) _ h2).2
   by_cases e1:x=c
   ·subst e1
    have:=kR ht m d (by omega) x h2 hcd
    rw [nz ht hi hc] at this
    have:=(iV hk m d (by omega) _ this).2
    omega
   by_cases e2:x=d
   ·subst e2
    have:=kR ht m c (by omega) x h1 (fun e=>hcd e.symm)
    rw [nz ht hi hd] at this
    have:=(iV hk m c (by omega) _ this).2
    omega
   have p1:=kR ht m c (by omega) x h1 e1
   have p2:=kR ht m d (by omega) x h2 e2
   rcases jA ht (k:=x) (by omega) with ⟨h3,_⟩ | ⟨j,h3,_,_,h4⟩
   ·omega
   ·rw [h4] at p1 p2
    cases f with
    | zero=>omega
    | succ f=>exact p6 ht hi hc hd hcd f j (by omega) p1 p2
theorem vK {ns:List EN} (ht:cV ns) {i:Nat} (hi:i<ns.length):(aj (ndE ns i)).Nodup:=by
 refine List.pairwise_iff_getElem.2 fun a b ha hb hab e=>?_
 have hm:=List.getElem_mem ha
 obtain ⟨h1,h2⟩:=aL (aQ ht) hi _ hm
 have hon:=kE ht (k:=((aj (ndE ns i))[a]).toNat) hi (by omega)
 rw [Int.toNat_of_nonneg h1] at hon
 exact kZ hon hab (List.getElem?_eq_getElem ha) (by rw [List.getElem?_eq_getElem hb,e])
theorem lT {ns:List EN} (ht:cV ns):∀ (m i:Nat),i<ns.length→(bz ns m i).Nodup
 | 0,_,_=>List.Pairwise.nil
 | m+1,i,hi=>by
   have hk:=aQ ht
   show (((aj (ndE ns (i:Int).toNat)).flatMap (bz ns m))++[(i:Int)]).Nodup
   rw [Int.toNat_natCast]
   refine List.pairwise_append.2 ⟨List.pairwise_flatMap.2 ⟨fun c hc=>?_,?_⟩,List.pairwise_singleton _ _,?_⟩
   ·obtain ⟨h1,h2⟩:=aL hk hi c hc
    obtain ⟨c,rfl⟩:∃ k:Nat,c=(k:Int):=⟨c.toNat,by omega⟩
    exact lT ht m c (by omega)
   ·refine (vK ht hi).imp_of_mem fun {c d} hc hd hcd x hx y hy e=>?_
    subst e
    obtain ⟨h1,h2⟩:=aL hk hi c hc
    obtain ⟨h3,h4⟩:=aL hk hi d hd
    obtain ⟨c,rfl⟩:∃ k:Nat,c=(k:Int):=⟨c.toNat,by omega⟩
    obtain ⟨d,rfl⟩:∃ k:Nat,d=(k:Int):=⟨d.toNat,by omega⟩
    have hx0:=(iV hk m c (by omega) _ hx).1
    obtain ⟨x,rfl⟩:∃ k:Nat,x=(k:Int):=⟨x.toNat,by omega⟩
    exact p6 ht hi hc hd (by omega) i x (by omega) hx hy
   ·intro x hx y hy e
    rw [List.mem_singleton] at hy
    obtain ⟨c,hc,hxc⟩:=List.mem_flatMap.1 hx
    obtain ⟨h1,h2⟩:=aL hk hi c hc
    obtain ⟨c,rfl⟩:∃ k:Nat,c=(k:Int):=⟨c.toNat,by omega⟩
    have:=(iV hk m c (by omega) _ hxc).2
    omega
end Go.Proofs.YtejpnabbmgpmaaaGreat

namespace Go.Proofs.YtejpnabbmgpmaaaGreat
open Go.Ab
theorem uF {α β:Type} {f g:α→List β}:∀ {l:List α},(∀ a∈l,f a=g a)→l.flatMap f=l.flatMap g
 | [],_=>rfl
 | x::r,h=>by rw [List.flatMap_cons,List.flatMap_cons,h x List.mem_cons_self,uF (fun a ha=>h a (List.mem_cons_of_mem _ ha))]
theorem nI {ns:List EN} (hk:∀ i,i<ns.length→(aj (ndE ns i)).all (inB i)=true):∀ (m m' i:Nat),i<m→i<m'→i<ns.length→bz ns m i=bz ns m' i
 | 0,_,_,h,_,_=>absurd h (Nat.not_lt_zero _)
 | _+1,0,_,_,h,_=>absurd h (Nat.not_lt_zero _)
 | m+1,m'+1,i,h1,h2,hi=>by
   show (aj (ndE ns (i:Int).toNat)).flatMap (bz ns m)++[(i:Int)]=(aj (ndE ns (i:Int).toNat)).flatMap (bz ns m')++[(i:Int)]
   rw [Int.toNat_natCast,uF (fun c hc=>?_)]
   obtain ⟨h3,h4⟩:=aL hk hi c hc
   obtain ⟨c,rfl⟩:∃ k:Nat,c=(k:Int):=⟨c.toNat,by omega⟩
   exact nI hk m m' c (by omega) (by omega) (by omega)
theorem ox {ns:List EN} (hk:∀ i,i<ns.length→(aj (ndE ns i)).all (inB i)=true):∀ (m i:Nat),i<m→i<ns.length→∀ j:Nat,(j:Int)∈bz ns m i→∃ p s,bz ns m i=p++(bz ns m j++s)
 | 0,_,h,_,_,_=>absurd h (Nat.not_lt_zero _)
 | m+1,i,him,hi,j,hj=>by
   by_cases hij:j=i
   ·subst hij
    exact ⟨[],[],by simp⟩
   rw [dB] at hj
   simp only [Int.toNat_natCast] at hj
   rcases hj with ⟨c,hc,hjc⟩ | hj
   ·obtain ⟨h1,h2⟩:=aL hk hi c hc
    obtain ⟨c,rfl⟩:∃ k:Nat,c=(k:Int):=⟨c.toNat,by omega⟩
    have hjl:=(iV hk m c (by omega) _ hjc).2
    obtain ⟨p,s,hps⟩:=ox hk m c (by omega) (by omega) j hjc
    obtain ⟨K1,K2,hK⟩:=List.append_of_mem hc
    refine ⟨K1.flatMap (bz ns m)++p,s++(K2.flatMap (bz ns m)++[(i:Int)]),?_⟩
    show (aj (ndE ns (i:Int).toNat)).flatMap (bz ns m)++[(i:Int)]=_
    rw [Int.toNat_natCast,hK,List.flatMap_append,List.flatMap_cons,hps,nI hk (m+1) m j (by omega) (by omega) (by omega)]
    simp only [List.append_assoc]
   ·omega
theorem j6 {ns:List EN} (hk:∀ i,i<ns.length→(aj (ndE ns i)).all (inB i)=true) (x:Int):∀ (m i:Nat),i<m→i<ns.length→(bo ns m i x=true↔x∈bz ns m i)
 | 0,_,h,_=>absurd h (Nat.not_lt_zero _)
 | m+1,i,him,hi=>by
   rw [dB]
   unfold bo
   simp only [Int.toNat_natCast,Bool.or_eq_true,decide_eq_true_eq,List.any_eq_true]
   constructor
   ·rintro (h | ⟨c,hc,h⟩)
    ·exact .inr h.symm
    ·obtain ⟨h1,h2⟩:=aL hk hi c hc
     obtain ⟨c,rfl⟩:∃ k:Nat,c=(k:Int):=⟨c.toNat,by omega⟩
     exact .inl ⟨_,hc,(j6 hk x m c (by omega) (by omega)).1 h⟩
   ·rintro (⟨c,hc,h⟩ | h)
    ·obtain ⟨h1,h2⟩:=aL hk hi c hc
     obtain ⟨c,rfl⟩:∃ k:Nat,c=(k:Int):=⟨c.toNat,by omega⟩
     exact .inr ⟨_,hc,(j6 hk x m c (by omega) (by omega)).2 h⟩
    ·exact .inl h.symm
def rkE (ns:List EN) (i:Nat):Nat:=(bz ns ns.length ((ns.length-1:Nat):Int)).idxOf (i:Int)
theorem Ad {l P Q:List Int} {u v:Int} (hl:l=P++Q) (hn:l.Nodup) (hu:u∈P) (hv:v∈Q):l.idxOf u<l.idxOf v:=by
 subst hl
 have hvP:v ∉ P:=fun h=>(List.nodup_append.1 hn).2.2 v h v hv rfl
 rw [List.idxOf_append,List.idxOf_append,if_pos hu,if_neg hvP]
 have:=List.idxOf_lt_length_of_mem hu
 omega
theorem si {ns:List EN} (ht:cV ns) {i k:Nat} (hi:i<ns.length) (hk:(k:Int)∈aj (ndE ns i)):rkE ns k<rkE ns i:=by
 have hkk:=aQ ht
 have hp:=ht.pos
 obtain ⟨p,s,h⟩:=ox hkk ns.length (ns.length-1) (by omega) (by omega) i (ny ht _ i (Nat.le_refl _) hi)
 have hnd:=lT ht ns.length (ns.length-1) (by omega)
 obtain ⟨m,hm⟩:∃ m,ns.length=m+1:=⟨ns.length-1,by omega⟩
 have hb:bz ns ns.length i=(aj (ndE ns i)).flatMap (bz ns m)++[(i:Int)]:=by
  rw [hm]
  show (aj (ndE ns (i:Int).toNat)).flatMap (bz ns m)++[(i:Int)]=_
  rw [Int.toNat_natCast]
 unfold rkE
 refine Ad (P:=p++(aj (ndE ns i)).flatMap (bz ns m)) (Q:=[(i:Int)]++s) (by rw [h,hb];simp only [List.append_assoc]) hnd (List.mem_append_right _ (List.mem_flatMap.2 ⟨_,hk,?_⟩)) (List.mem_append_left _ (List.mem_singleton_self _))
 obtain ⟨h1,h2⟩:=aL hkk hi _ hk
 obtain ⟨m',hm'⟩:∃ m',m=m'+1:=⟨m-1,by omega⟩
 rw [hm']
 exact dB.2 (.inr rfl)
theorem GF {ns:List EN} (ht:cV ns) {i x a:Nat} {b:Int} (hx:x<ns.length) (hab:aj (ndE ns x)=[(a:Int),b]) (hix:(i:Int)∈bz ns ns.length x) (_hne:i≠x) (hia:(i:Int) ∉ bz ns ns.length a):rkE ns a<rkE ns i:=by
 have hkk:=aQ ht
 have hp:=ht.pos
 obtain ⟨p,s,h⟩:=ox hkk ns.length (ns.length-1) (by omega) (by omega) x (ny ht _ x (Nat.le_refl _) hx)
 have hnd:=lT ht ns.length (ns.length-1) (by omega)
 obtain ⟨m,hm⟩:∃ m,ns.length=m+1:=⟨ns.length-1,by omega⟩
 obtain ⟨h1,h2⟩:=aL hkk hx (a:Int) (by rw [hab];exact List.mem_cons_self)
 have hb:bz ns ns.length x=bz ns m a++(bz ns m b++[(x:Int)]):=by
  rw [hm]
  show (aj (ndE ns (x:Int).toNat)).flatMap (bz ns m)++[(x:Int)]=_
  rw [Int.toNat_natCast,hab]
  simp
 rw [nI hkk ns.length m a (by omega) (by omega) (by omega)] at hia
 have hin:(i:Int)∈bz ns m b++[(x:Int)]:=by
  rw [hb] at hix
  exact (List.mem_append.1 hix).resolve_left hia
 unfold rkE
 refine Ad (P:=p++bz ns m a) (Q:=(bz ns m b++[(x:Int)])++s) (by rw [h,hb];simp only [List.append_assoc]) hnd (List.mem_append_right _ ?_) (List.mem_append_left _ hin)
 obtain ⟨m',hm'⟩:∃ m',m=m'+1:=⟨m-1,by omega⟩
 rw [hm']
 exact dB.2 (.inr rfl)
theorem lX {ns:List EN} (ht:cV ns) {nm:List UInt8}:∀ (m c:Nat),c<ns.length→0≤(climb ns (fR ns) nm m c ((fR ns).getD c 0)).1→∃ x:Nat,(climb ns (fR ns) nm m c ((fR ns).getD c 0)).1=(x:Int)∧x<ns.length∧(c:Int)∈bz ns ns.length x
 | 0,_,_,h=>absurd h (by show ¬ (0:Int)≤noB.1;decide)
 | m+1,c,hc,h=>by
   unfold climb at h ⊢
   rcases jA ht hc with ⟨_,h2⟩ | ⟨j,h1,h2,h3,h4⟩
   ·rw [h2,if_pos (by decide)] at h
    exact absurd h (by decide)
   rw [h4] at h ⊢
   rw [if_neg (by omega)] at h ⊢
   simp only [Int.toNat_natCast] at h ⊢
   obtain ⟨n,hn⟩:∃ n,ns.length=n+1:=⟨ns.length-1,by omega⟩
   split
   ·refine ⟨j,rfl,h2,?_⟩
    rw [hn]
    refine dB.2 (.inl ⟨(c:Int),by rw [Int.toNat_natCast];exact h3,?_⟩)
    obtain ⟨n',hn'⟩:∃ n',n=n'+1:=⟨n-1,by omega⟩
    rw [hn']
    exact dB.2 (.inr rfl)
   ·rename_i hb
    rw [if_neg hb] at h
    obtain ⟨x,hx1,hx2,hx3⟩:=lX ht m j h2 h
    exact ⟨x,hx1,hx2,nG (aQ ht) h3 _ _ hx2 hx2 hx3⟩
def fY (ns:List EN) (i:Nat):Option Int :=
 if 0≤(bE ns i).1∧((ndE ns (bE ns i).1.toNat).k=7∨(ndE ns (bE ns i).1.toNat).k=8)∧bo ns ns.length (ndE ns (bE ns i).1.toNat).a i=false then some (ndE ns (bE ns i).1.toNat).a else none
theorem sk {ns:List EN} (ht:cV ns) {i:Nat} {a:Int} (hi:i<ns.length) (h:fY ns i=some a):0≤a∧a<(ns.length:Int)∧rkE ns a.toNat<rkE ns i:=by
 unfold fY at h
 split at h
 ·rename_i hc
  obtain ⟨h1,h2,h3⟩:=hc
  have h4:(ndE ns i).k=4:=by
   refine Classical.byContradiction fun e=>?_
   unfold bE at h1
   rw [if_neg e] at h1
   exact absurd h1 (by decide)
  have hb:bE ns i=climb ns (fR ns) (ndE ns i).name ns.length i ((fR ns).getD i 0):=by unfold bE;rw [if_pos h4]
  rw [hb] at h1
  obtain ⟨x,hx1,hx2,hx3⟩:=lX ht ns.length i hi h1
  rw [hb,hx1] at h2 h3 h
  simp only [Int.toNat_natCast] at h2 h3 h
  have hke:aj (ndE ns x)=[(ndE ns x).a,(ndE ns x).b]:=by
   rcases h2 with h2 | h2<;>simp [aj,h2,aF,aH]
  have ha:=Option.some.inj h
  rw [ha] at hke h3
  obtain ⟨g1,g2⟩:=aL (aQ ht) hx2 a (by rw [hke];exact List.mem_cons_self)
  obtain ⟨a,rfl⟩:∃ k:Nat,a=(k:Int):=⟨a.toNat,by omega⟩
  refine ⟨g1,by omega,GF ht hx2 hke hx3 (fun e=>?_) (fun e=>?_)⟩
  ·rw [e] at h4
   omega
  ·have:=(j6 (aQ ht) (i:Int) ns.length a (by omega) (by omega)).2 e
   rw [h3] at this
   cases this
 ·cases h
end Go.Proofs.YtejpnabbmgpmaaaGreat

