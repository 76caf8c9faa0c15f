/-
  Whether a tree may be. (with the parts that follow it)
-/
import Derived.Test.YtejpnabbmgpmaaaGreatSFI
import Derived.Test.YtejpnabbmgpmaaaGreatSFF
import Derived.Test.YtejpnabbmgpmaaaGreatSFG
import Derived.Test.YtejpnabbmgpmaaaGreatSFH
set_option linter.all false
namespace Go.Proofs.YtejpnabbmgpmaaaGreat
open Go.Ab
theorem Cr {cs:List Int} {k:Int} {j:Nat} (hj:j<cs.length) (hk:0≤k):(bump cs k).getD j 0=cs.getD j 0+(if k=(j:Int) then 1 else 0):=by
 unfold bump
 rw [List.getD_eq_getElem?_getD,List.getElem?_set]
 by_cases h:k.toNat=j
 ·rw [if_pos h,if_pos (by omega)]
  have:k=(j:Int):=by omega
  subst this
  simp [hj]
 ·rw [if_neg h,if_neg (by omega)]
  simp
theorem qa {j:Nat}:∀ (ks cs:List Int),j<cs.length→(∀ k∈ks,0≤k)→(bumps cs ks).getD j 0=cs.getD j 0+(ks.countP (fun x=>decide (x=(j:Int))):Nat)
 | [],cs,_,_=>by simp [bumps]
 | k::r,cs,hj,hk=>by
   show (bumps (bump cs k) r).getD j 0=_
   rw [qa r _ (by rw [td];exact hj) (fun x hx=>hk x (List.mem_cons_of_mem _ hx)),Cr hj (hk k List.mem_cons_self),List.countP_cons]
   by_cases h:k=(j:Int)<;>simp [h]<;>omega
theorem y9 (cs a b:List Int):bumps cs (a++b)=bumps (bumps cs a) b:=by simp [bumps]
def cnts (ns:List EN) (i:Nat):List Int:=bumps (List.replicate ns.length 0) ((ns.take i).flatMap aj)
theorem gX (ns:List EN) (i:Nat):(cnts ns i).length=ns.length:=by unfold cnts;rw [fx,List.length_replicate]
theorem lS {ns:List EN} {i:Nat} (h:i<ns.length):cnts ns (i+1)=bumps (cnts ns i) (aj (ndE ns i)):=by
 unfold cnts
 rw [List.take_succ_eq_append_getElem h,List.flatMap_append,y9,bG h]
 simp
theorem rG {ns:List EN} (hs:∀ n∈ns,n.l.length≤1000000):∀ {i:Nat},i≤ns.length→Bd (i*1000003) (cnts ns i)
 | 0,_=>by
   intro c hc
   rw [show cnts ns 0=List.replicate ns.length 0 by simp [cnts,bumps],List.mem_replicate] at hc
   omega
 | i+1,h=>by
   have ih:=rG hs (i:=i) (by omega)
   rw [lS (by omega)]
   intro c hc
   have:=ih.bumps (ks:=aj (ndE ns i)) c hc
   have hl:(aj (ndE ns i)).length≤1000003:=by
    rw [bt];unfold bf
    have:=bC (ndE ns i).k
    have h2:(ndE ns i).l.length≤1000000:=by rw [bG (by omega)];exact hs _ (List.getElem_mem _)
    split<;>omega
   omega
theorem sJ {ns:List EN} (hk:∀ i,i<ns.length→(aj (ndE ns i)).all (inB i)=true):((cnts ns ns.length).take (ns.length-1)).any (fun c=>!decide (c=1))=!mK ns:=by
 have hnn:∀ k∈ns.flatMap aj,0≤k:=fun k hkm=>by
  obtain ⟨n,hn,hkn⟩:=List.mem_flatMap.1 hkm
  obtain ⟨i,hi,rfl⟩:=List.mem_iff_getElem.1 hn
  have h1:=hk i hi
  rw [bG hi] at h1
  have:=List.all_eq_true.1 h1 k hkn
  simp only [inB,Bool.and_eq_true,decide_eq_true_eq] at this
  exact this.1
 have hget:∀ j,j<ns.length→(cnts ns ns.length).getD j 0=(uD ns j:Int):=fun j hj=>by
  unfold cnts uD
  rw [List.take_length,qa _ _ (by simpa using hj) hnn]
  simp [hj]
 have hl:=gX ns ns.length
 unfold mK
 rw [Bool.eq_iff_iff]
 simp only [List.any_eq_true,Bool.not_eq_true',decide_eq_false_iff_not,List.all_eq_false,List.mem_range,decide_eq_true_eq]
 constructor
 ·rintro ⟨c,hc,h1⟩
  obtain ⟨j,hj,rfl⟩:=List.mem_iff_getElem.1 hc
  rw [List.length_take] at hj
  refine ⟨j,by omega,fun h=>h1 ?_⟩
  have:=hget j (by omega)
  rw [h] at this
  rw [List.getElem_take]
  rw [List.getD_eq_getElem?_getD,List.getElem?_eq_getElem (by omega)] at this
  simpa using this
 ·rintro ⟨j,hj,h1⟩
  refine ⟨(cnts ns ns.length)[j],List.mem_iff_getElem.2 ⟨j,by rw [List.length_take];omega,by rw [List.getElem_take]⟩,fun h=>h1 ?_⟩
  have:=hget j (by omega)
  rw [List.getD_eq_getElem?_getD,List.getElem?_eq_getElem (by omega)] at this
  simp only [Option.getD_some,h] at this
  omega
theorem HP.clo {P:Program} {G:List (Nat × Obj)} {f:FuncId} {args:List AV} {ds:List D} {Q:AV→Prop} (hl:args.length=ds.length)
  (hr:∀ (i:Nat) x y,args[i]?=some x→ds[i]?=some y→x=.d y∨∃ g,x=.clo g []∧y=.clo g []) (h:HP P G f ds Q):HCall P G f args [] [] (fun r hp'=>Q r∧r.inU []=true∧hp'=[]):=by
 refine ⟨h.1,fun B β vs w h1 h2 h3 h4 h5=>h.2 B β vs w (h1.trans (by simpa using hl)) h2 h3 h4 { tms:=h5.tms,io:=h5.io,size:=h5.size,frame:=h5.frame,slots:=fun t=>?_,objs:=h5.objs,blocks:=h5.blocks,inj:=h5.inj,us:=h5.us,stay:=h5.stay }⟩
 have hv:=h5.slots t
 rw [eP,bg,if_pos (Nat.zero_le _),Nat.sub_zero] at hv ⊢
 show VR w.heap ((mk (aH 0 (ds.map .d)) [] []).own B.A β) [] _ β _ _
 rw [List.getElem?_map]
 cases hx:args[t]? with
 | none =>
   rw [List.getElem?_eq_none (by rw [← hl];exact List.getElem?_eq_none_iff.1 hx)]
   exact .un _
 | some x =>
   have hlt:=(List.getElem?_eq_some_iff.1 hx).1
   have hy:ds[t]?=some ds[t]:=List.getElem?_eq_getElem (by omega)
   rw [hx] at hv
   rw [hy]
   simp only [Option.map_some,Option.getD_some] at hv ⊢
   rcases hr t _ _ hx hy with e | ⟨g,e1,e2⟩
   ·rw [← e];exact hv
   ·rw [e1] at hv
    rw [e2]
    generalize vs.getD t undef=v at hv ⊢
    cases hv with
    | clo _ vs' _ hs hc=>exact .d _ _ (.clo _ _ _ hs (fun i d hd=>by simp at hd))
def okI (ns:List EN) (i:Nat):Bool:=bN (ndE ns i) && dS ns i
theorem rL {ns:List EN} {i:Nat} (h:dS ns i=true):(aj (ndE ns i)).all (inB i)=true:=by
 unfold dS at h
 rw [Bool.and_eq_true] at h
 exact h.1
set_option maxHeartbeats 1000000 in
theorem o0 {G} (ns:List EN) (hs:∀ n∈ns,dx BIG n) (hN:ns.length≤1000000):HP Tryz.prog G 17 [exD ns] (fun r=>r=.d (i64 (cH ns))):=by
 generalize hb:cH ns=b
 unfold cH at hb
 unfold exD
 refine al Tryz.func17 rfl (by decide +kernel) (by simp [Tryz.ntmps17]) (veil fun E=>?_)
 simp only [go_sem]
 repeat (first
  | (apply b6 E;(· simp only [go_sem]);(· intro h;(try simp only [bq] at h);simp only [↓h,go_sem];rfl);simp only [go_sem])
  | (apply a9 E;(· simp only [go_sem]);(· intro h;(try simp only [bq] at h);simp only [↓h,go_sem];rfl);(· intro h;(try simp only [bq] at h);simp only [↓h,go_sem];rfl);simp only [go_sem])
  | (apply a8 E;(· simp only [go_sem]);(· rfl);(· intro h h';(try simp only [bq] at h h');simp only [↓h,↓h',go_sem];rfl);simp only [go_sem])
  | (apply aK E;(· simp only [go_sem]);(· rfl);(· intro h h';(try simp only [bq] at h h');simp only [↓h,↓h',go_sem];rfl);(· intro h h';(try simp only [bq] at h h');simp only [↓h,↓h',go_sem];rfl);simp only [go_sem])
  | (apply bY E;(· decide);simp only [go_sem]))
 refine aD E (fun g=>?_) (fun g=>?_)<;>simp only [go_sem]
 ·simp only [Bool.or_eq_true,decide_eq_true_eq] at g
  rw [if_pos (by omega)] at hb
  rw [hb]
 have g':0<ns.length∧ns.length≤600:=by
  simp only [Bool.or_eq_false_iff,decide_eq_false_iff_not] at g
  omega
 rw [if_neg (by omega)] at hb
 refine ⟨⟨by omega,by omega,by omega,by omega⟩,?_⟩
 have hs':∀ n∈ns,n.l.length≤1000000:=fun n hn=>(hs n hn).l
 refine bl E (X:={ i:Nat // i≤ns.length∧∀ j,j<i→okI ns j=true }) (fun x=>[(1,.bx [1] 0),(2,.d (i64 0)),(3,.vw [19] 0 ns.length),(21,.d (.sl (some 9) (ns.map enD))),(22,.d (i64 ns.length)),(23,.d (i64 x.1))])
  (fun x=>[([1],.box [.d (.sl (some 9) (ns.map enD))]),([19],.arr none ((cnts ns x.1).map i64))]) [19,1] (fun x=>ns.length-x.1) ⟨0,Nat.zero_le _,fun j h=>absurd h (Nat.not_lt_zero _)⟩ ?_ ?_
 ·rw [show cnts ns 0=List.replicate ns.length 0 by simp [cnts,bumps],List.map_replicate]
  simp only [go_sem]
  all_goals rfl
 rintro ⟨i,hi,hok⟩ E0
 refine aC E0 fun Q' hQ E'=>?_
 simp only at hi hok ⊢
 simp only [go_sem]
 refine ah E' (fun g1=>?_) (fun g1=>?_)<;>simp only [go_sem]
 ·have hi':i<ns.length:=by omega
  refine ⟨⟨by omega,by omega⟩,?_⟩
  have hg:=aP hi'
  have hsn:=hs _ (by rw [bG hi'];exact List.getElem_mem hi':ndE ns i∈ns)
  have hc1:=Ha (G:=G) _ hsn
  have hc2:=Hk (G:=G) ns i (cnts ns i) (i*1000003) hi' hN (gX ns i) hsn.l (rG hs' hi) (by omega)
  have hok1:okI ns i=(bN (ndE ns i) && dS ns i):=rfl
  have hcs:=lS hi'
  rw [← hcs] at hc2
  have bad:okI ns i=false→okE ns=false:=fun h=>List.all_eq_false.2 ⟨i,List.mem_range.2 hi',by
   show ¬ okI ns i=true
   rw [h];decide⟩
  have good:okI ns i=true→∀ j,j<i+1→okI ns j=true:=fun h j hj=>by
   by_cases e:j=i
   ·rw [e];exact h
   ·exact hok j (by omega)
  generalize ndE ns i=n at hg hc1 hok1
  generalize bN n=x at hc1 hok1
  generalize dS ns i=y at hc2 hok1
  rw [hg]
  simp only [go_sem]
  refine ag E' hc1 rfl rfl (by simp) ?_
  rintro _ rfl
  simp only [go_sem]
  refine bU E' (fun h1=>?_) (fun h1=>?_)<;>simp only [go_sem]
  ·have hx:x=false:=by simpa using h1
   rw [hQ]
   simp only [go_sem]
   rw [bad (by rw [hok1,hx];rfl),Bool.false_and] at hb
   rw [← hb]
   rfl
  ·have hx:x=true:=by simpa using h1
   rw [ij]
   simp only [go_sem]
   refine aU E' (tau [([100],[19])]) [.d (exD ns),.d (i64 i),.vw [100] 0 ns.length] [([100],.arr none ((cnts ns i).map i64))] [100] hc2 rfl (by simp only [go_sem];try rfl) ⟨by simp only [go_sem],by rw [aa];decide⟩ rfl (by simp only [go_sem]) (by simp only [go_sem]) ?_
   rintro _ _ ⟨cs',hl',hcs',rfl,rfl⟩
   simp only [go_sem]
   refine ⟨by rw [gX,hl'];exact Nat.le_refl _,?_⟩
   refine aD E' (fun h2=>?_) (fun h2=>?_)<;>simp only [go_sem]
   ·rw [hQ]
    simp only [go_sem]
    rw [bad (by rw [hok1,show y=false by simpa using h2,Bool.and_false]),Bool.false_and] at hb
    rw [← hb]
    rfl
   ·have hy:y=true:=by simpa using h2
    rw [hQ,hcs' hy,ai (n:=(i:Int)+1) ⟨by omega,by omega⟩]
    simp only [go_sem]
    refine ⟨⟨i+1,by omega,good (by rw [hok1,hx,hy];rfl)⟩,by show ns.length-(i+1)<_;omega,?_⟩
    first | rfl | exact ⟨rfl,rfl⟩
 ·rw [hQ]
  have h3:i=ns.length:=by omega
  subst h3
  simp only [go_sem]
  rw [ai (n:=(ns.length:Int)-1) ⟨by omega,by omega⟩]
  refine ⟨⟨by omega,by omega⟩,?_⟩
  rw [show ((ns.length:Int)-1).toNat-0=ns.length-1 by omega]
  have hkk:∀ i,i<ns.length→(aj (ndE ns i)).all (inB i)=true:=fun i hi=>by
   have:=hok i hi
   unfold okI at this
   rw [Bool.and_eq_true] at this
   exact rL this.2
  have hokE:okE ns=true:=List.all_eq_true.2 fun j hj=>hok j (List.mem_range.1 hj)
  have hcl:=gX ns ns.length
  have hc3:=BE (G:=G) ((cnts ns ns.length).take (ns.length-1)) (fun c=>!decide (c=1)) 61 [] (by rw [List.length_take];omega) (fun x _=>Gq x)
  rw [sJ hkk,List.map_take] at hc3
  have hc4:=HP.clo (args:=[.d (.sl none (((cnts ns ns.length).map i64).take (ns.length-1))),.clo 61 []]) rfl (fun i x y hx hy=>by
   rcases i with _ | _ | i
   ·cases hx;cases hy;exact .inl rfl
   ·cases hx;cases hy;exact .inr ⟨61,rfl,rfl⟩
   ·cases hx) hc3
  refine Cw E [([19],none,(cnts ns ns.length).map i64)] [.d (.sl none (((cnts ns ns.length).map i64).take (ns.length-1))),.clo 61 []] [] [] hc4 (by rintro _ _ ⟨rfl,_,rfl⟩;exact ⟨rfl,rfl⟩) (by simp only [go_sem]) rfl (by simp only [go_sem];try rfl) ⟨by simp only [go_sem],by rw [aa];decide⟩ rfl (by simp only [go_sem]) (by simp only [go_sem]) ?_
  rintro _ _ ⟨rfl,_,rfl⟩
  simp only [go_sem]
  rw [hokE,Bool.true_and] at hb
  have hdl:=(cV (ns:=ns) (Nat.le_refl _)).1
  unfold bL at hdl
  rw [List.take_length] at hdl
  refine aD E (fun k1=>?_) (fun k1=>?_)<;>simp only [go_sem]
  ·have:mK ns=false:=by simpa using k1
   rw [this] at hb
   rw [← hb]
   rfl
  ·have:mK ns=true:=by simpa using k1
   rw [this,if_pos rfl] at hb
   unfold bJ at hb
   have hc5:=Cz (G:=G) ns hN hs' hkk
   unfold exD at hc5
   refine ak mixed E fun X=>?_
   simp only [go_sem]
   refine bK X hc5 rfl rfl (by simp) ?_
   simp only [go_sem]
   rw [ai (n:=(ns.length:Int)-1) ⟨by omega,by omega⟩]
   refine ⟨⟨by omega,by rw [hdl];omega⟩,?_⟩
   rw [aw (by omega),show ((ns.length:Int)-1).toNat=ns.length-1 by omega]
   simp only [go_sem]
   refine ⟨by decide +kernel,?_⟩
   refine ah E (fun k2=>?_) (fun k2=>?_)<;>simp only [go_sem]
   ·rw [if_pos k2] at hb
    rw [← hb]
   ·rw [if_neg k2] at hb
    rw [← hb]
end Go.Proofs.YtejpnabbmgpmaaaGreat

namespace Go.Proofs.YtejpnabbmgpmaaaGreat
open Go.Ab
def Seg (N:Nat) (xs:Nat→List D) (n:Nat) (L:List Int):Prop:=n+L.length≤N∧∀ j,j<L.length→xs (n+j)=[i64 (L.getD j 0)]
theorem Seg.left {N:Nat} {xs:Nat→List D} {n:Nat} {a b:List Int} (h:Seg N xs n (a++b)):Seg N xs n a :=
 ⟨by have:=h.1;rw [List.length_append] at this;omega,fun j hj=>by
  rw [h.2 j (by rw [List.length_append];omega),List.getD_eq_getElem?_getD,List.getD_eq_getElem?_getD,List.getElem?_append_left hj]⟩
theorem Seg.right {N:Nat} {xs:Nat→List D} {n:Nat} {a b:List Int} (h:Seg N xs n (a++b)):Seg N xs (n+a.length) b :=
 ⟨by have:=h.1;rw [List.length_append] at this;omega,fun j hj=>by
  have:=h.2 (a.length+j) (by rw [List.length_append];omega)
  rw [← Nat.add_assoc] at this
  rw [this,List.getD_eq_getElem?_getD,List.getD_eq_getElem?_getD,List.getElem?_append_right (by omega)]
  simp⟩
end Go.Proofs.YtejpnabbmgpmaaaGreat

namespace Go.Proofs.YtejpnabbmgpmaaaGreat
open Go.Ab
structure Walk (ns:List EN) (its:List Int):Prop where
 nd:its.Nodup
 inn:∀ x∈its,0≤x∧x<(ns.length:Int)
 pre:∀ n (h:n<its.length),∀ k∈aj (ndE ns its[n].toNat),k∈its.take n
def HM (ns:List EN) (its:List Int) (x:Int):EN:=bk (ndE ns x.toNat) ((aj (ndE ns x.toNat)).map fun k=>(its.idxOf k:Int))
def HU (ns:List EN) (its:List Int) (n:Nat):List EN:=(its.take n).map (HM ns its)
end Go.Proofs.YtejpnabbmgpmaaaGreat

namespace Go.Proofs.YtejpnabbmgpmaaaGreat
open Go.Ab
structure cW (ns:List EN):Prop where
 pos:0<ns.length
 few:ns.length≤600
 right:∀ i,i<ns.length→bN (ndE ns i)=true
 link:∀ i,i<ns.length→dS ns i=true
 once:mK ns=true
 deep:bJ ns≤100
theorem pM {ns:List EN} (h:cH ns=0):cW ns:=by
 unfold cH at h
 split at h
 ·exact absurd h (by decide)
 rename_i h1
 split at h
 ·rename_i h2
  split at h
  ·exact absurd h (by decide)
  ·rename_i h3
   rw [Bool.and_eq_true] at h2
   have h4:∀ i,i<ns.length→bN (ndE ns i)=true∧dS ns i=true:=fun i hi=>by
    have:=List.all_eq_true.1 h2.1 i (List.mem_range.2 hi)
    simpa [Bool.and_eq_true] using this
   exact ⟨by omega,by omega,fun i hi=>(h4 i hi).1,fun i hi=>(h4 i hi).2,h2.2,by omega⟩
 ·exact absurd h (by decide)
theorem cW.kids {ns:List EN} (h:cW ns):∀ i,i<ns.length→(aj (ndE ns i)).all (inB i)=true:=fun i hi=>rL (h.link i hi)
theorem FV {n:EN} (h:bN n=true):n.l.length≤30:=by
 unfold bN bZ at h
 simp only [Bool.and_eq_true] at h
 have h1:=h.2.1.2
 split at h1
 ·simp only [Bool.and_eq_true,decide_eq_true_eq] at h1
  exact h1.2.1.2
 ·have:n.l=[]:=by simpa using h1
  rw [this];decide
theorem cW.l {ns:List EN} (h:cW ns):∀ n∈ns,n.l.length≤30:=fun n hn=>by
 obtain ⟨i,hi,rfl⟩:=List.mem_iff_getElem.1 hn
 have:=h.right i hi
 rw [bG hi] at this
 exact FV this
theorem Tr.sub {ns:List EN} (h:Tr ns):HU ns (bB ns ns.length ((ns.length:Int)-1)) (bB ns ns.length ((ns.length:Int)-1)).length=ns:=by
 have h1:=h.norm
 have h0:=h.kids.1
 unfold Ht at h1
 rw [show ((ns.length:Int)-1).toNat+1=ns.length by omega] at h1
 unfold HU HM
 rw [List.take_length]
 exact h1
end Go.Proofs.YtejpnabbmgpmaaaGreat

namespace Go.Proofs.YtejpnabbmgpmaaaGreat
open Go.Ab
theorem Eu {ns:List EN} {i:Nat} {k:Int} (hk:k∈aj (ndE ns i)) (h:inB i k=false):dS ns i=false:=by
 have:(aj (ndE ns i)).all (inB i)=false:=List.all_eq_false.2 ⟨k,hk,by rw [h];decide⟩
 unfold dS
 rw [show ((aj (ndE ns i)).all fun k=>decide (0≤k) && decide (k<(i:Int)))=false from this,Bool.false_and]
theorem BG {ns:List EN} {i:Nat} (h:(aj (ndE ns i)).all (inB i)=true):dS ns i=(decide ((ndE ns i).k≠8) || decide ((ndE ns (ndE ns i).a.toNat).k=5)):=by
 unfold dS
 rw [show ((aj (ndE ns i)).all fun k=>decide (0≤k) && decide (k<(i:Int)))=true from h,Bool.true_and]
set_option maxHeartbeats 4000000 in
theorem sn {G} (ns:List EN) (hs:∀ n∈ns,dx BIG n) (hN:ns.length≤1000000):HP Tryz.prog G 67 [exD ns] (fun r=>r=.d (i64 (cH ns))):=by
 generalize hb:cH ns=b
 unfold cH at hb
 unfold exD
 refine al Tryz.func67 rfl (by decide +kernel) (by simp [Tryz.ntmps67]) (veil fun E=>?_)
 simp only [go_sem]
 repeat (first
  | (apply b6 E;(· simp only [go_sem]);(· intro h;(try simp only [bq] at h);simp only [↓h,go_sem];rfl);simp only [go_sem])
  | (apply a9 E;(· simp only [go_sem]);(· intro h;(try simp only [bq] at h);simp only [↓h,go_sem];rfl);(· intro h;(try simp only [bq] at h);simp only [↓h,go_sem];rfl);simp only [go_sem])
  | (apply a8 E;(· simp only [go_sem]);(· rfl);(· intro h h';(try simp only [bq] at h h');simp only [↓h,↓h',go_sem];rfl);simp only [go_sem])
  | (apply aK E;(· simp only [go_sem]);(· rfl);(· intro h h';(try simp only [bq] at h h');simp only [↓h,↓h',go_sem];rfl);(· intro h h';(try simp only [bq] at h h');simp only [↓h,↓h',go_sem];rfl);simp only [go_sem])
  | (apply bY E;(· decide);simp only [go_sem]))
 refine aD E (fun g=>?_) (fun g=>?_)
 ·simp only [go_sem]
  simp only [Bool.or_eq_true,decide_eq_true_eq] at g
  rw [if_pos (by omega)] at hb
  rw [← hb]
 have g':0<ns.length∧ns.length≤600:=by
  simp only [Bool.or_eq_false_iff,decide_eq_false_iff_not] at g
  omega
 rw [if_neg (by omega)] at hb
 simp only [go_sem]
 refine ak mixed E fun X=>?_
 simp only [go_sem]
 refine Cs X (d:=22) (t:=95) (e:=3) (n:=ns.length) (z:=i64 0) (by rw [Ak]) (by rw [ti3];rfl) (by rw [ti3];rfl) rfl rfl (by rw [ti3];exact ⟨by simp only;omega,by omega⟩) ⟨by simp only [go_sem],by rw [aa];decide⟩ ?_
 simp only [go_sem]
 refine Cs X (d:=26) (t:=95) (e:=3) (n:=ns.length) (z:=i64 0) (by rw [Ak]) (by rw [ti3];rfl) (by rw [ti3];rfl) rfl rfl (by rw [ti3];exact ⟨by simp only;omega,by omega⟩) ⟨by simp only [go_sem],by rw [aa];decide⟩ ?_
 simp only [go_sem]
 refine ⟨by decide +kernel,?_⟩
 have hs':∀ n∈ns,n.l.length≤1000000:=fun n hn=>(hs n hn).l
 refine bl E (X:={ i:Nat // i≤ns.length∧∀ j,j<i→okI ns j=true }) (fun x=>[(1,.bx [1] 0),(2,.d (i64 0)),(3,.vw [22] 0 ns.length),(4,.vw [26] 0 ns.length),(5,.d (i64 x.1))])
  (fun x=>[([1],.box [.d (.sl (some 9) (ns.map enD))]),([22],.arr none ((cnts ns x.1).map i64)),([26],.arr none ((ja ns x.1).map i64))]) [1,22,26] (fun x=>ns.length-x.1) ⟨0,Nat.zero_le _,fun j h=>absurd h (Nat.not_lt_zero _)⟩ ?_ ?_
 ·rw [show cnts ns 0=List.replicate ns.length 0 by simp [cnts,bumps],p9,List.map_replicate]
  simp only [go_sem]
  all_goals first | rfl | exact ⟨rfl,rfl⟩ | exact ⟨rfl,rfl,rfl⟩
 rintro ⟨i,hi,hok⟩ E0
 refine aC E0 fun Q' hQ E'=>?_
 simp only at hi hok ⊢
 simp only [go_sem]
 refine ah E' (fun g1=>?_) (fun g1=>?_)<;>simp only [go_sem]
 ·have hi':i<ns.length:=by omega
  have hg:=aP hi'
  have hsn:=hs _ (by rw [bG hi'];exact List.getElem_mem hi':ndE ns i∈ns)
  have hc1:=D9 (G:=G) _ hsn
  have hc2:=mA (G:=G) _ hsn.l
  have hok1:okI ns i=(bN (ndE ns i) && dS ns i):=rfl
  have hcs:=lS hi'
  have hdt:=qi hi'
  rw [m7] at hdt
  have hlno:∀ k∈aj (ndE ns i),inB i k=false→dS ns i=false:=fun k h1 h2=>Eu h1 h2
  have hlrec:=BG (ns:=ns) (i:=i)
  have bad:okI ns i=false→okE ns=false:=fun h=>List.all_eq_false.2 ⟨i,List.mem_range.2 hi',by
   show ¬ okI ns i=true
   rw [h];decide⟩
  have good:okI ns i=true→∀ j,j<i+1→okI ns j=true:=fun h j hj=>by
   by_cases e:j=i
   ·rw [e];exact h
   ·exact hok j (by omega)
  obtain ⟨n,hne⟩:∃ n,n=ndE ns i:=⟨_,rfl⟩
  rw [← hne] at hg hsn hc1 hc2 hok1 hcs hdt hlno hlrec
  generalize bN n=x at hc1 hok1
  generalize dS ns i=y at hlno hlrec hok1
  obtain ⟨K,hK⟩:∃ K,K=aj n:=⟨_,rfl⟩
  have hKl:K.length≤1000003:=by rw [hK,bt];unfold bf;have:=bC n.k;have:=hsn.l;split<;>omega
  rw [← hK] at hc2 hcs hdt hlno hlrec
  obtain ⟨hd1,hd2⟩:=cV (ns:=ns) (i:=i) hi
  have hcb:=rG hs' hi
  have hcl:=gX ns i
  rw [show ja ns i=ez ns i 0 by unfold ja;rw [if_pos hi']]
  refine ⟨⟨by omega,by omega⟩,?_⟩
  rw [hg]
  simp only [go_sem]
  refine ag E' hc1 rfl rfl (by simp) ?_
  rintro _ rfl
  simp only [go_sem]
  refine aD E' (fun h1=>?_) (fun h1=>?_)<;>simp only [go_sem]
  ·have hx:x=false:=by simpa using h1
   rw [hQ]
   simp only [go_sem]
   rw [bad (by rw [hok1,hx];rfl),Bool.false_and] at hb
   rw [← hb]
   rfl
  have hx:x=true:=by simpa using h1
  refine ⟨⟨by omega,by omega⟩,?_⟩
  rw [hg]
  simp only [go_sem]
  refine ag E' hc2 rfl rfl (by simp) ?_
  rintro _ rfl
  simp only [go_sem]
  refine bl E' (X:={ q:Nat // q≤K.length∧(K.take q).all (inB i)=true }) (fun x=>[(1,.bx [1] 0),(2,.d (i64 0)),(3,.vw [22] 0 ns.length),(4,.vw [26] 0 ns.length),(5,.d (i64 i)),(6,.d (.sl none (K.map i64))),(7,.d (i64 x.1))])
   (fun x=>[([1],.box [.d (.sl (some 9) (ns.map enD))]),([22],.arr none ((bumps (cnts ns i) (K.take x.1)).map i64)),([26],.arr none ((ez ns i (mx (bL ns i) (K.take x.1))).map i64))]) [1,22,26] (fun x=>K.length-x.1) ⟨0,Nat.zero_le _,by simp⟩ ?_ ?_
  ·simp only [go_sem]
   all_goals first | rfl | exact ⟨rfl,rfl⟩ | exact ⟨rfl,rfl,rfl⟩
  rintro ⟨q,hq,hall⟩ E2
  refine aC E2 fun Q2 hQ2 E3=>?_
  simp only at hq hall ⊢
  have hal:=uQ hi' (mx (bL ns i) (K.take q))
  have hmb:=wP hd2 (K.take q)
  have hbl:=fx (K.take q) (cnts ns i)
  have htl:(K.take q).length≤1000003:=by rw [List.length_take];omega
  simp only [go_sem]
  refine ah E3 (fun g2=>?_) (fun g2=>?_)<;>simp only [go_sem]
  ·have hq':q<K.length:=by omega
   have hkm:K[q]∈K:=List.getElem_mem hq'
   have hbd:=(hcb.bumps (ks:=K.take q)).get K[q].toNat
   refine ⟨⟨by omega,by omega⟩,?_⟩
   rw [aw hq',show K.getD q 0=K[q] by simp [hq']]
   simp only [go_sem]
   refine ao E3 (fun g3=>?_) (fun g3=>?_)
   ·simp only [go_sem]
    have g5:inB i K[q]=false:=by
     rw [Bool.eq_false_iff]
     intro hc
     simp only [inB,Bool.and_eq_true,decide_eq_true_eq] at hc
     omega
    rw [hQ2]
    simp only [go_sem]
    rw [hQ]
    simp only [go_sem]
    rw [bad (by rw [hok1,hlno _ hkm g5,Bool.and_false]),Bool.false_and] at hb
    rw [← hb]
    try rfl
   ·simp only [go_sem]
    refine ⟨⟨by omega,by omega⟩,?_⟩
    rw [aw hq',show K.getD q 0=K[q] by simp [hq']]
    simp only [go_sem]
    refine ah E3 (fun g4=>?_) (fun g4=>?_)<;>simp only [go_sem]
    ·have g5:inB i K[q]=false:=by
      rw [Bool.eq_false_iff]
      intro hc
      simp only [inB,Bool.and_eq_true,decide_eq_true_eq] at hc
      omega
     rw [hQ2]
     simp only [go_sem]
     rw [hQ]
     simp only [go_sem]
     rw [bad (by rw [hok1,hlno _ hkm g5,Bool.and_false]),Bool.false_and] at hb
     rw [← hb]
     try rfl
    have g5:inB i K[q]=true:=by
     unfold inB
     rw [decide_eq_true (show 0≤K[q] by omega),decide_eq_true (show K[q]<(i:Int) by omega)]
     rfl
    refine ⟨⟨by omega,by omega⟩,?_⟩
    rw [aw hq',show K.getD q 0=K[q] by simp [hq']]
    simp only [go_sem]
    refine ⟨⟨by omega,by omega⟩,?_⟩
    rw [aw (by omega)]
    simp only [go_sem]
    refine ⟨⟨by omega,by omega⟩,?_⟩
    rw [ai (n:=(bumps (cnts ns i) (K.take q)).getD K[q].toNat 0+1) ⟨by omega,by omega⟩]
    rw [show (List.map i64 (bumps (cnts ns i) (K.take q))).set K[q].toNat (.int .i64 ((bumps (cnts ns i) (K.take q)).getD K[q].toNat 0+1))=(bumps (cnts ns i) (K.take (q+1))).map i64 by
     rw [List.take_succ_eq_append_getElem hq',nS];unfold bump;rw [List.map_set]]
    refine ak mixed E3 fun X=>?_
    simp only [go_sem]
    refine ⟨⟨by omega,by omega⟩,?_⟩
    rw [aw (by omega),kZ hi']
    simp only [go_sem]
    refine ⟨⟨by omega,by omega⟩,?_⟩
    rw [aw hq',show K.getD q 0=K[q] by simp [hq']]
    simp only [go_sem]
    refine ⟨⟨by omega,by omega⟩,?_⟩
    rw [aw (by omega),tb hi _ (show K[q].toNat<i by omega)]
    simp only [go_sem]
    refine ⟨⟨by omega,by omega⟩,?_⟩
    refine ⟨by decide +kernel,?_⟩
    rw [ai (n:=(q:Int)+1) ⟨by omega,by omega⟩]
    rw [show (List.map i64 (ez ns i (mx (bL ns i) (K.take q)))).set i (.int .i64 (if (bL ns i).getD K[q].toNat 0 > mx (bL ns i) (K.take q) then (bL ns i).getD K[q].toNat 0 else mx (bL ns i) (K.take q)))=(ez ns i (mx (bL ns i) (K.take (q+1)))).map i64 by
     rw [List.take_succ_eq_append_getElem hq',sF,vR,← List.map_set,kH hi']]
    rw [hQ2]
    simp only [go_sem]
    refine ⟨⟨q+1,by omega,by rw [List.take_succ_eq_append_getElem hq',List.all_append,hall];simpa using g5⟩,by show K.length-(q+1)<_;omega,?_⟩
    first | rfl | exact ⟨rfl,rfl⟩ | exact ⟨rfl,rfl,rfl⟩
  ·rw [hQ2]
   have h3:q=K.length:=by omega
   subst h3
   rw [List.take_length] at *
   simp only [go_sem]
   refine ⟨⟨by omega,by omega⟩,?_⟩
   rw [aw (by omega),kZ hi']
   simp only [go_sem]
   refine ⟨⟨by omega,by omega⟩,?_⟩
   rw [ai (n:=mx (bL ns i) K+1) ⟨by omega,by omega⟩]
   rw [show (List.map i64 (ez ns i (mx (bL ns i) K))).set i (.int .i64 (mx (bL ns i) K+1))=(ja ns (i+1)).map i64 by
    rw [← hdt,← List.map_set,kH hi'],← hcs]
   have hy:=hlrec hall
   refine ak mixed E' fun X=>?_
   simp only [go_sem]
   refine ⟨⟨by omega,by omega⟩,?_⟩
   rw [hg]
   simp only [go_sem]
   refine nR X (fun k8=>?_) (fun k8=>?_)<;>simp only [go_sem]
   ·have hka:K=[n.a,n.b]:=by rw [hK];unfold aj;rw [k8];rfl
    have ha:0≤n.a∧n.a<(i:Int):=by
     rw [hka] at hall
     simp only [List.all_cons,inB,Bool.and_eq_true,decide_eq_true_eq] at hall
     exact hall.1
    rw [ij]
    simp only [go_sem]
    refine ⟨⟨by omega,by omega⟩,?_⟩
    rw [hg]
    simp only [go_sem]
    refine ⟨⟨by omega,by omega⟩,?_⟩
    rw [aP (show n.a.toNat<ns.length by omega)]
    simp only [go_sem]
    refine ⟨by decide +kernel,?_⟩
    rw [decide_eq_false (show ¬ n.k≠8 from fun h=>h k8),Bool.false_or] at hy
    refine ah E' (fun g6=>?_) (fun g6=>?_)<;>simp only [go_sem]
    ·rw [hQ]
     simp only [go_sem]
     rw [bad (by rw [hok1,hy,decide_eq_false g6,Bool.and_false]),Bool.false_and] at hb
     rw [← hb]
     try rfl
    ·rw [hQ]
     simp only [go_sem]
     rw [ai (n:=(i:Int)+1) ⟨by omega,by omega⟩]
     refine ⟨⟨i+1,by omega,good (by rw [hok1,hx,hy,decide_eq_true (by simpa using g6)];rfl)⟩,by show ns.length-(i+1)<_;omega,?_⟩
     first | rfl | exact ⟨rfl,rfl⟩ | exact ⟨rfl,rfl,rfl⟩
   ·rw [decide_eq_true (show n.k≠8 from k8),Bool.true_or] at hy
    refine ⟨by decide +kernel,?_⟩
    rw [hQ]
    simp only [go_sem]
    rw [ai (n:=(i:Int)+1) ⟨by omega,by omega⟩]
    refine ⟨⟨i+1,by omega,good (by rw [hok1,hx,hy];rfl)⟩,by show ns.length-(i+1)<_;omega,?_⟩
    first | rfl | exact ⟨rfl,rfl⟩ | exact ⟨rfl,rfl,rfl⟩
 ·rw [hQ]
  have h3:i=ns.length:=by omega
  subst h3
  simp only [go_sem]
  have hokE:okE ns=true:=List.all_eq_true.2 fun j hj=>hok j (List.mem_range.1 hj)
  have hkk:∀ i,i<ns.length→(aj (ndE ns i)).all (inB i)=true:=fun i hi=>by
   have:=hok i hi
   unfold okI at this
   rw [Bool.and_eq_true] at this
   exact rL this.2
  have hoa:=sJ hkk
  have hcl:=gX ns ns.length
  have hdl:=(cV (ns:=ns) (Nat.le_refl _)).1
  unfold bL at hdl
  rw [List.take_length] at hdl
  rw [hokE,Bool.true_and] at hb
  rw [show ja ns ns.length=cM ns [] by unfold ja;rw [if_neg (Nat.lt_irrefl _)]]
  generalize cnts ns ns.length=C at hoa hcl ⊢
  refine bl E (X:={ j:Nat // j≤ns.length-1∧(C.take j).any (fun c=>!decide (c=1))=false }) (fun x=>[(1,.bx [1] 0),(2,.d (i64 0)),(3,.vw [22] 0 ns.length),(4,.vw [26] 0 ns.length),(8,.d (i64 x.1))])
   (fun _=>[([1],.box [.d (.sl (some 9) (ns.map enD))]),([22],.arr none (C.map i64)),([26],.arr none ((cM ns []).map i64))]) [1,22,26] (fun x=>ns.length-x.1) ⟨0,Nat.zero_le _,by simp⟩ ?_ ?_
  ·simp only [go_sem]
   all_goals first | rfl | exact ⟨rfl,rfl⟩
  rintro ⟨j,hj,hone⟩ E2
  refine aC E2 fun Q2 hQ2 E3=>?_
  simp only at hj hone ⊢
  simp only [go_sem]
  rw [ai (n:=(ns.length:Int)-1) ⟨by omega,by omega⟩]
  refine ah E3 (fun g2=>?_) (fun g2=>?_)<;>simp only [go_sem]
  ·have hjc:j<C.length:=by omega
   refine ⟨⟨by omega,by omega⟩,?_⟩
   rw [aw hjc,show C.getD j 0=C[j] by simp [hjc]]
   simp only [go_sem]
   refine ah E3 (fun g3=>?_) (fun g3=>?_)<;>simp only [go_sem]
   ·rw [hQ2]
    simp only [go_sem]
    have hm:C[j]∈C.take (ns.length-1):=List.mem_iff_getElem.2 ⟨j,by rw [List.length_take];omega,by rw [List.getElem_take]⟩
    have:(C.take (ns.length-1)).any (fun c=>!decide (c=1))=true:=List.any_eq_true.2 ⟨_,hm,by simpa using g3⟩
    rw [this] at hoa
    rw [show mK ns=false by simpa using hoa.symm] at hb
    rw [← hb]
    rfl
   ·rw [hQ2]
    simp only [go_sem]
    rw [ai (n:=(j:Int)+1) ⟨by omega,by omega⟩]
    refine ⟨⟨j+1,by omega,jQ hjc hone (by simpa using g3)⟩,by show ns.length-(j+1)<_;omega,?_⟩
    first | rfl | exact ⟨rfl,rfl⟩ | exact ⟨rfl,rfl,rfl⟩
  ·rw [hQ2]
   have h4:j=ns.length-1:=by omega
   subst h4
   rw [hone] at hoa
   rw [show mK ns=true by simpa using hoa.symm,if_pos rfl] at hb
   unfold bJ at hb
   simp only [go_sem]
   rw [ai (n:=(ns.length:Int)-1) ⟨by omega,by omega⟩]
   refine ⟨⟨by omega,by omega⟩,?_⟩
   rw [show ((ns.length:Int)-1).toNat=ns.length-1 by omega,aw (by omega)]
   simp only [go_sem]
   refine ah E (fun k2=>?_) (fun k2=>?_)<;>simp only [go_sem]
   ·rw [if_pos k2] at hb
    rw [← hb]
    try rfl
   ·rw [if_neg k2] at hb
    rw [← hb]
    try rfl
end Go.Proofs.YtejpnabbmgpmaaaGreat

namespace Go.Proofs.YtejpnabbmgpmaaaGreat
open Go.Ab
theorem kz {ns:List EN} {k:Nat}:∀ {i:Nat},i≤ns.length→k<i→(bL ns i).getD k 0=(bL ns (k+1)).getD k 0
 | 0,_,h=>absurd h (Nat.not_lt_zero _)
 | i+1,hi,hk=>by
   by_cases h:k=i
   ·rw [h]
   ·have ih:=kz (ns:=ns) (k:=k) (i:=i) (by omega) (by omega)
    have hl:=(cV (ns:=ns) (i:=i) (by omega)).1
    rw [gF (by omega),List.getD_eq_getElem?_getD,List.getElem?_append_left (by omega),← List.getD_eq_getElem?_getD,ih]
theorem xT {ns:List EN} {i:Nat} (hi:i<ns.length):(cM ns []).getD i 0=mx (bL ns i) (aj (ndE ns i))+1:=by
 have h1:cM ns []=bL ns ns.length:=by unfold bL;rw [List.take_length]
 have hl:=(cV (ns:=ns) (i:=i) (by omega)).1
 rw [h1,kz (Nat.le_refl _) hi,gF hi,List.getD_eq_getElem?_getD,List.getElem?_append_right (by omega),hl,Nat.sub_self,m7]
 rfl
theorem tK {ns:List EN} {i k:Nat} (hi:i≤ns.length) (hk:k<i):(cM ns []).getD k 0=(bL ns i).getD k 0:=by
 have h1:cM ns []=bL ns ns.length:=by unfold bL;rw [List.take_length]
 rw [h1,kz (Nat.le_refl _) (by omega),kz hi hk]
theorem Cc {G} (ns:List EN) (hN:ns.length≤1000000) (hs:∀ n∈ns,n.l.length≤1000000) (hk:∀ i,i<ns.length→(aj (ndE ns i)).all (inB i)=true) :
  ∀ (m i:Nat),i<m→i<ns.length→HP Tryz.prog G 31 [exD ns,i64 i] (fun r=>r=.d (i64 ((cM ns []).getD i 0)))
 | 0,_,h,_=>absurd h (Nat.not_lt_zero _)
 | m+1,i,him,hi=>by
   have hg:=aP hi
   have hki:=hk i hi
   have hsi:=hs _ (by rw [bG hi];exact List.getElem_mem hi:ndE ns i∈ns)
   rw [xT hi]
   obtain ⟨n,hne⟩:∃ n,n=ndE ns i:=⟨_,rfl⟩
   rw [← hne] at hg hki hsi ⊢
   have hc:=mA (G:=G) n hsi
   obtain ⟨K,hK⟩:∃ K,K=aj n:=⟨_,rfl⟩
   have hKl:K.length≤1000003:=by rw [hK,bt];unfold bf;have:=bC n.k;split<;>omega
   rw [← hK] at hki hc ⊢
   obtain ⟨hd1,hd2⟩:=cV (ns:=ns) (i:=i) (by omega)
   have ih:∀ k:Nat,k<i→HP Tryz.prog G 31 [.agg [.sl (some 9) (ns.map enD)],i64 k] (fun r=>r=.d (i64 ((bL ns i).getD k 0))):=fun k hk1=>by
    have:=Cc (G:=G) ns hN hs hk m k (by omega) (by omega)
    rw [tK (by omega) hk1] at this
    exact this
   generalize bL ns i=D at hd1 hd2 ih ⊢
   unfold exD
   refine al Tryz.func31 rfl (by decide +kernel) (by simp [Tryz.ntmps31]) (veil fun E=>?_)
   simp only [go_sem]
   refine ⟨⟨by omega,by omega⟩,?_⟩
   rw [hg]
   simp only [go_sem]
   refine ag E hc rfl rfl (by simp) ?_
   rintro _ rfl
   simp only [go_sem]
   refine bl E (X:={ q:Nat // q≤K.length }) (fun x=>[(2,.bx [2] 0),(5,.d (i64 (mx D (K.take x.1)))),(6,.d (.sl none (K.map i64))),(7,.d (i64 x.1))])
    (fun _=>[([2],.box [.d (.sl (some 9) (ns.map enD))])]) [2] (fun x=>K.length-x.1) ⟨0,Nat.zero_le _⟩ ?_ ?_
   ·simp only [go_sem]
    all_goals first | rfl | exact ⟨rfl,rfl⟩
   rintro ⟨q,hq⟩ E0
   refine aC E0 fun Q' hQ E'=>?_
   simp only at hq ⊢
   simp only [go_sem]
   refine ah E' (fun g1=>?_) (fun g1=>?_)<;>simp only [go_sem]
   ·have hq':q<K.length:=by omega
    have hkq:0≤K[q]∧K[q]<(i:Int):=by
     have:=List.all_eq_true.1 hki K[q] (List.getElem_mem hq')
     simpa [inB] using this
    obtain ⟨k,hkk⟩:∃ k:Nat,K[q]=(k:Int):=⟨K[q].toNat,by omega⟩
    have hst:mx D (K.take (q+1))=max (mx D (K.take q)) (D.getD k 0):=by
     rw [List.take_succ_eq_append_getElem hq',sF,hkk,Int.toNat_natCast]
    refine ak mixed E' fun X=>?_
    simp only [go_sem]
    refine ⟨⟨by omega,by omega⟩,?_⟩
    rw [aw hq',show K.getD q 0=K[q] by simp [hq'],hkk]
    simp only [go_sem]
    refine bK X (ih k (by omega)) rfl rfl (by simp) ?_
    simp only [go_sem]
    refine ⟨by decide +kernel,?_⟩
    rw [vR,← hst,ai ⟨by omega,by omega⟩]
    rw [hQ]
    simp only [go_sem]
    refine ⟨⟨q+1,by omega⟩,by show K.length-(q+1)<_;omega,?_⟩
    first | rfl | exact ⟨rfl,rfl⟩
   ·rw [hQ]
    have h3:q=K.length:=by omega
    subst h3
    rw [List.take_length]
    have hmb:=wP hd2 K
    simp only [go_sem]
    rw [ai ⟨by omega,by omega⟩,Int.add_comm]
theorem Ep {G} (ns:List EN) (hs:∀ n∈ns,dx BIG n) (hN:ns.length≤1000000):HP Tryz.prog G 116 [exD ns] (fun r=>r=.d (i64 (if cH ns=0 then bJ ns else 0))):=by
 have c1:=o0 (G:=G) ns hs hN
 by_cases hm:cH ns=0
 ·have ht:=pM hm
  have c2:=Cz (G:=G) ns hN (fun n hn=>(hs n hn).l) ht.kids
  have hp:=ht.pos
  have hdl:=(cV (ns:=ns) (Nat.le_refl _)).1
  unfold bL at hdl
  rw [List.take_length] at hdl
  rw [if_pos hm]
  rw [hm] at c1
  unfold bJ
  unfold exD at *
  refine al Tryz.func116 rfl (by decide +kernel) (by simp [Tryz.ntmps116]) (veil fun E=>?_)
  simp only [go_sem]
  refine ag E c1 rfl rfl (by simp) ?_
  rintro _ rfl
  simp only [go_sem]
  refine ak mixed E fun X=>?_
  simp only [go_sem]
  refine bK X c2 rfl rfl (by simp) ?_
  simp only [go_sem]
  rw [ai (n:=(ns.length:Int)-1) ⟨by omega,by omega⟩]
  refine ⟨⟨by omega,by rw [hdl];omega⟩,?_⟩
  rw [aw (by omega),show ((ns.length:Int)-1).toNat=ns.length-1 by omega]
  simp only [go_sem]
  first | (exact ⟨by decide +kernel,trivial⟩) | (exact ⟨by decide +kernel,rfl⟩) | decide +kernel | (refine ⟨?_,rfl⟩;decide +kernel)
 ·rw [if_neg hm]
  generalize cH ns=b at c1 hm
  unfold exD at *
  refine al Tryz.func116 rfl (by decide +kernel) (by simp [Tryz.ntmps116]) (veil fun E=>?_)
  simp only [go_sem]
  refine ag E c1 rfl rfl (by simp) ?_
  rintro _ rfl
  simp only [go_sem]
  refine ah E (fun _=>?_) (fun h=>absurd hm (by simpa using h))<;>simp only [go_sem]
end Go.Proofs.YtejpnabbmgpmaaaGreat

namespace Go.Proofs.YtejpnabbmgpmaaaGreat
open Go.Ab
abbrev Bi:=Int × Int
abbrev Reach:=List (List UInt8 × Bi)
def bD (b:Bi):D:=.agg [i64 b.1,i64 b.2]
def kD (q:List UInt8 × Bi):D:=.agg [.str q.1,i64 q.2.1,i64 q.2.2]
def eg (r:Reach):D:=.sl (some 3) (r.map kD)
def noB:Bi:=(-1,-1)
def du (r:Reach) (nm:List UInt8):Bi:=match r.reverse.find? (fun q=>decide (q.1=nm)) with
 | some q=>q.2
 | none=>noB
theorem km (r:Reach) (q:List UInt8 × Bi) (nm:List UInt8):du (r++[q]) nm=if q.1=nm then q.2 else du r nm:=by
 unfold du
 rw [List.reverse_append,List.reverse_singleton,List.singleton_append,List.find?_cons]
 by_cases h:q.1=nm<;>simp [h]
theorem wc {G}:HP Tryz.prog G 203 [] (fun r=>r=.d (.agg [i64 (-1),i64 (-1)])):=by
 refine ax Tryz.func203 rfl (by decide +kernel) (by simp [Tryz.ntmps203]) (veil fun E=>?_)
 simp only [go_sem]
 refine ⟨[],?_⟩
 simp only [go_sem]
theorem ua {r:Reach} {i:Nat} (h:i<r.length):(r.map kD).getD i .nilp=.agg [.str r[i].1,i64 r[i].2.1,i64 r[i].2.2]:=by simp [h,kD]
theorem DT {G} (r:Reach) (nm:List UInt8) (hl:r.length≤1000000):HP Tryz.prog G 204 [eg r,.str nm] (fun q=>q=.d (.agg [i64 (du r nm).1,i64 (du r nm).2])):=by
 generalize hF:du r nm=F
 unfold eg
 refine ax Tryz.func204 rfl (by decide +kernel) (by simp [Tryz.ntmps204]) (veil fun E=>?_)
 simp only [go_sem]
 rw [ai ⟨by omega,by omega⟩]
 refine bl E (X:={ c:Nat // c≤r.length∧du (r.take c) nm=F }) (fun x=>[(0,.d (.sl (some 3) (r.map kD))),(1,.d (.str nm)),(4,.bx [4] 0),(5,.d (i64 ((x.1:Int)-1)))]) (fun _=>[([4],.box [.d (i64 0),.d (i64 0)])]) [4] (fun x=>x.1) ⟨r.length,Nat.le_refl _,by rw [List.take_length];exact hF⟩ ?_ ?_
 ·simp only [go_sem]
  all_goals first | rfl | exact ⟨rfl,rfl⟩
 rintro ⟨c,hc,hcf⟩ E0
 refine aC E0 fun Q' hQ E'=>?_
 simp only at hc hcf ⊢
 simp only [go_sem]
 refine ah E' (fun g1=>?_) (fun g1=>?_)<;>simp only [go_sem]
 ·obtain ⟨c,rfl⟩:∃ d,c=d+1:=⟨c-1,by omega⟩
  have hc':c<r.length:=by omega
  rw [List.take_succ_eq_append_getElem hc',km] at hcf
  refine ⟨⟨by omega,by omega⟩,?_⟩
  rw [show (((c+1:Nat):Int)-1).toNat=c by omega,ua hc']
  simp only [go_sem]
  refine aD E' (fun g2=>?_) (fun g2=>?_)<;>simp only [go_sem]
  ·refine ⟨⟨by omega,by omega⟩,?_⟩
   rw [show (((c+1:Nat):Int)-1).toNat=c by omega,ua hc']
   simp only [go_sem]
   rw [hQ]
   simp only [go_sem]
   rw [if_pos (by simpa using g2)] at hcf
   refine ⟨[],?_⟩
   simp only [go_sem]
   rw [hcf]
  ·rw [if_neg (by simpa using g2)] at hcf
   rw [hQ]
   simp only [go_sem]
   refine ⟨⟨c,by omega,hcf⟩,by show c<c+1;omega,?_⟩
   rw [ai ⟨by omega,by omega⟩,show ((c+1:Nat):Int)-1-1=(c:Int)-1 by omega]
 ·have hc0:c=0:=by omega
  subst hc0
  rw [hQ]
  simp only [go_sem]
  refine ag E wc rfl rfl (by simp) ?_
  rintro _ rfl
  simp only [go_sem]
  refine ⟨[],?_⟩
  simp only [go_sem]
  rw [← hcf]
  rfl
theorem Eg {G} (r:Reach):HP Tryz.prog G 258 [eg r] (fun q=>q=.d (.slx (some 3) (r.map kD))):=by
 unfold eg
 refine al Tryz.func258 rfl (by decide +kernel) (by simp [Tryz.ntmps258]) (veil fun E=>?_)
 simp only [go_sem]
 refine Ie E (t:=239) (e:=278) (wf:=some 3) (xs:=r.map kD) (by rw [CE]) (by rw [nF];rfl) (by simp only [go_sem]) rfl (by simp only [go_sem]) (by simp only [go_sem]) ?_
 simp only [go_sem]
theorem ng {G} (r:Reach) (nm:List UInt8) (a b:Int) (hl:r.length≤1000000):HP Tryz.prog G 205 [eg r,.str nm,i64 a,i64 b] (fun q=>q=.d (eg (r++[(nm,a,b)]))):=by
 have c:=Eg (G:=G) r
 unfold eg at *
 refine ax Tryz.func205 rfl (by decide +kernel) (by simp [Tryz.ntmps205]) (veil fun E=>?_)
 simp only [go_sem]
 refine ag E c rfl rfl (by simp) ?_
 rintro _ rfl
 simp only [go_sem]
 refine Gl E (t:=239) (e:=278) (xs:=r.map kD) (ys:=[.agg [.str nm,i64 a,i64 b]]) (by rw [CE]) (by rw [nF];rfl) (by rw [nF];rfl) ⟨by simp only [go_sem],by rw [aa];decide⟩ (by rw [nF];rfl) (by rw [nF];rfl) (by simp) (by rw [nF,List.length_map];simp [TI.by1];omega) ?_
 simp only [go_sem]
 refine ⟨[([17],some 3,(r++[(nm,a,b)]).map kD)],?_⟩
 rw [show List.map kD r++[.agg [.str nm,i64 a,i64 b]]=(r++[(nm,a,b)]).map kD by rw [List.map_append];rfl]
 simp only [go_sem]
 rw [List.take_of_length_le (by simp)]
end Go.Proofs.YtejpnabbmgpmaaaGreat

namespace Go.Proofs.YtejpnabbmgpmaaaGreat
open Go.Ab
def dy (ns:List EN):Nat→Nat→Reach→List Bi→List Bi
 | 0,_,_,l=>l
 | m+1,i,r,l =>
   let n:=ndE ns i
   let l0:=l.set i noB
   if n.k=4 then l0.set i (du r n.name)
   else if n.k=5 then dy ns m n.a.toNat (r++[(n.name,(i:Int),-1)]) l0
   else if n.k=7 then dy ns m n.b.toNat (r++[(n.name,(i:Int),-1)]) (dy ns m n.a.toNat r l0)
   else if n.k=8 then dy ns m n.b.toNat (r++[(n.name,(i:Int),-1)]) (dy ns m n.a.toNat (r++[(n.name,(i:Int),-1)]) l0)
   else if n.k=14 then (List.range n.l.length).foldl (fun l k=>dy ns m (fdE n.l k).to.toNat (r++[((fdE n.l k).var,(i:Int),(k:Int))]) l) (dy ns m n.a.toNat r l0)
   else (aj n).foldl (fun l k=>dy ns m k.toNat r l) l0
theorem dV (ns:List EN):∀ (m i:Nat) (r:Reach) (l:List Bi),(dy ns m i r l).length=l.length
 | 0,_,_,_=>rfl
 | m+1,i,r,l=>by
   have ih:=dV ns m
   have fold:∀ {α:Type} (f:List Bi→α→List Bi),(∀ l a,(f l a).length=l.length)→∀ (xs:List α) (l:List Bi),(xs.foldl f l).length=l.length:=by
    intro α f hf xs
    induction xs with
    | nil=>intro l;rfl
    | cons a r ih=>intro l;rw [List.foldl_cons,ih,hf]
   unfold dy
   simp only
   repeat' split
   ·simp
   ·rw [ih];simp
   ·rw [ih,ih];simp
   ·rw [ih,ih];simp
   ·rw [fold _ (fun l a=>ih _ _ _),ih];simp
   ·rw [fold _ (fun l a=>ih _ _ _)];simp
def BO (ns:List EN) (l:List Bi):List (Name × Ob):=[([101],.box [.d (.sl (some 9) (ns.map enD))]),([102],.box [.vw [103] 0 ns.length]),([103],.arr (some 2) (l.map bD)),([104],.box [.clo 202 [.bx [101] 0,.bx [102] 0,.bx [104] 0]])]
def BU:List Nat:=[101,102,103,104]
def bA (i:Nat) (r:Reach):List AV:=[.d (i64 i),.d (eg r),.bx [101] 0,.bx [102] 0,.bx [104] 0]
def BW (ns:List EN) (m:Nat) (G:List (Nat × Obj)):Prop:=∀ (i:Nat) (r:Reach) (l:List Bi),i<m→i<ns.length→l.length=ns.length→r.length+i≤1000000→HCall Tryz.prog G 202 (bA i r) (BO ns l) BU (fun q hp'=>q=.tup []∧hp'=BO ns (dy ns m i r l))
theorem BW.get {G} {ns:List EN} {m:Nat} (h:BW ns m G) {j:Int} {i:Nat} {r:Reach} {l:List Bi} (h1:0≤j∧j<(i:Int)) (h2:i≤m) (h3:i<ns.length) (h4:l.length=ns.length) (h5:r.length+j.toNat≤1000000) :
  ∃ l1,dy ns m j.toNat r l=l1∧l1.length=ns.length∧HCall Tryz.prog G 202 [.d (i64 j),.d (.sl (some 3) (r.map kD)),.bx [101] 0,.bx [102] 0,.bx [104] 0] [([101],.box [.d (.sl (some 9) (ns.map enD))]),([102],.box [.vw [103] 0 ns.length]),([103],.arr (some 2) (l.map bD)),([104],.box [.clo 202 [.bx [101] 0,.bx [102] 0,.bx [104] 0]])] [101,102,103,104]
   (fun q hp'=>q=.tup []∧hp'=[([101],.box [.d (.sl (some 9) (ns.map enD))]),([102],.box [.vw [103] 0 ns.length]),([103],.arr (some 2) (l1.map bD)),([104],.box [.clo 202 [.bx [101] 0,.bx [102] 0,.bx [104] 0]])]):=by
 have:=h j.toNat r l (by omega) (by omega) h4 h5
 refine ⟨_,rfl,by rw [dV,h4],?_⟩
 unfold bA at this
 rw [show ((j.toNat:Nat):Int)=j by omega] at this
 exact this
set_option maxHeartbeats 2000000 in
theorem xW {G} (ns:List EN) (hN:ns.length≤1000000) (hs:∀ n∈ns,n.l.length≤1000000) (hk:∀ i,i<ns.length→(aj (ndE ns i)).all (inB i)=true) :
  ∀ (m:Nat),BW ns m G
 | 0,_,_,_,h,_,_,_=>absurd h (Nat.not_lt_zero _)
 | m+1,i,r,l,him,hi,hl,hr=>by
   have hg:=aP hi
   have hki:=hk i hi
   have hsi:=hs _ (by rw [bG hi];exact List.getElem_mem hi:ndE ns i∈ns)
   generalize hR:dy ns (m+1) i r l=R
   unfold dy at hR
   obtain ⟨n,hne⟩:∃ n,n=ndE ns i:=⟨_,rfl⟩
   rw [← hne] at hg hki hsi hR
   simp only at hR
   have ih:=xW (G:=G) ns hN hs hk m
   unfold BO bA BU eg
   refine ar Tryz.func202 rfl (by decide +kernel) (by simp [Tryz.ntmps202]) (veil fun E=>?_)
   simp only [go_sem]
   refine ⟨⟨by omega,by omega⟩,?_⟩
   rw [hg]
   simp only [go_sem]
   refine ak mixed E fun X=>?_
   simp only [go_sem]
   refine bK X wc rfl rfl (by simp) ?_
   simp only [go_sem]
   refine ⟨⟨by omega,by omega⟩,?_⟩
   refine ⟨by decide +kernel,?_⟩
   obtain ⟨l0,h0⟩:∃ l0,l0=l.set i noB:=⟨_,rfl⟩
   have h0l:l0.length=ns.length:=by rw [h0,List.length_set,hl]
   rw [← h0] at hR
   rw [show (l.map bD).set i (.agg [i64 (-1),i64 (-1)])=l0.map bD by rw [h0,List.map_set];rfl]
   clear h0
   refine ah E (fun g1=>?_) (fun g1=>?_)<;>simp only [go_sem]
   ·rw [if_pos g1] at hR
    refine ak mixed E fun X=>?_
    simp only [go_sem]
    refine bK X (DT r n.name (by omega)) rfl rfl (by simp) ?_
    simp only [go_sem]
    refine ⟨⟨by omega,by omega⟩,?_⟩
    refine ⟨by decide +kernel,?_⟩
    rw [show (l0.map bD).set i (.agg [i64 (du r n.name).1,i64 (du r n.name).2])=R.map bD by rw [← hR,List.map_set];rfl]
    refine ⟨_,_,[101,102,103,104],id,⟨rfl,rfl⟩,?_⟩
    simp only [go_sem]
   rw [if_neg g1] at hR
   refine ah E (fun g2=>?_) (fun g2=>?_)<;>simp only [go_sem]
   ·rw [if_pos g2] at hR
    have hka:0≤n.a∧n.a<i:=by
     have:=hki
     unfold aj aG aI inB at this
     simp [g2] at this
     omega
    refine ak mixed E fun X=>?_
    simp only [go_sem]
    refine bK X (ng r n.name (i:Int) (-1) (by omega)) rfl rfl (by simp) ?_
    simp only [go_sem]
    obtain ⟨l1,h1,h1l,hc1⟩:=ih.get (r:=r++[(n.name,(i:Int),-1)]) (l:=l0) hka (by omega) hi h0l (by simp;omega)
    rw [h1] at hR
    subst hR
    unfold eg
    refine aZ X _ _ _ _ _ hc1 rfl rfl ⟨by simp only [go_sem],by first | (rw [aa];decide) | (simp only [go_sem]<;>(try rw [aa])<;>decide)⟩ (by simp only [go_sem]) (by simp only [go_sem]) (by simp only [go_sem]) (by simp only [go_sem];try omega) ?_
    simp only [go_sem]
    refine ⟨by decide +kernel,?_⟩
    refine ⟨_,_,[101,102,103,104],id,⟨rfl,rfl⟩,?_⟩
    simp only [go_sem]
   rw [if_neg g2] at hR
   refine ah E (fun g3=>?_) (fun g3=>?_)<;>simp only [go_sem]
   ·rw [if_pos g3] at hR
    have hka:(0≤n.a∧n.a<i)∧(0≤n.b∧n.b<i):=by
     have:=hki
     unfold aj aG aI inB at this
     simp [g3] at this
     omega
    obtain ⟨l1,h1,h1l,hc1⟩:=ih.get (r:=r) (l:=l0) hka.1 (by omega) hi h0l (by omega)
    obtain ⟨l2,h2,h2l,hc2⟩:=ih.get (r:=r++[(n.name,(i:Int),-1)]) (l:=l1) hka.2 (by omega) hi h1l (by simp;omega)
    rw [h1,h2] at hR
    subst hR
    refine ab E _ _ _ hc1 rfl rfl ⟨by simp only [go_sem],by first | (rw [aa];decide) | (simp only [go_sem]<;>(try rw [aa])<;>decide)⟩ (by simp only [go_sem]) (by simp only [go_sem]) (by simp only [go_sem]) ?_
    rintro _ _ ⟨rfl,rfl⟩
    refine ⟨by simp only [go_sem];try omega,?_⟩
    simp only [go_sem]
    refine ak mixed E fun X=>?_
    simp only [go_sem]
    refine bK X (ng r n.name (i:Int) (-1) (by omega)) rfl rfl (by simp) ?_
    simp only [go_sem]
    unfold eg
    refine aZ X _ _ _ _ _ hc2 rfl rfl ⟨by simp only [go_sem],by first | (rw [aa];decide) | (simp only [go_sem]<;>(try rw [aa])<;>decide)⟩ (by simp only [go_sem]) (by simp only [go_sem]) (by simp only [go_sem]) (by simp only [go_sem];try omega) ?_
    simp only [go_sem]
    refine ⟨by decide +kernel,?_⟩
    refine ⟨_,_,[101,102,103,104],id,⟨rfl,rfl⟩,?_⟩
    simp only [go_sem]
   rw [if_neg g3] at hR
   refine ah E (fun g4=>?_) (fun g4=>?_)<;>simp only [go_sem]
   ·rw [if_pos g4] at hR
    have hka:(0≤n.a∧n.a<i)∧(0≤n.b∧n.b<i):=by
     have:=hki
     unfold aj aG aI inB at this
     simp [g4] at this
     omega
    obtain ⟨l1,h1,h1l,hc1⟩:=ih.get (r:=r++[(n.name,(i:Int),-1)]) (l:=l0) hka.1 (by omega) hi h0l (by simp;omega)
    obtain ⟨l2,h2,h2l,hc2⟩:=ih.get (r:=r++[(n.name,(i:Int),-1)]) (l:=l1) hka.2 (by omega) hi h1l (by simp;omega)
    rw [h1,h2] at hR
    subst hR
    refine ag E (ng r n.name (i:Int) (-1) (by omega)) rfl rfl (by simp) ?_
    rintro _ rfl
    unfold eg
    simp only [go_sem]
    refine ab E _ _ _ hc1 rfl rfl ⟨by simp only [go_sem],by first | (rw [aa];decide) | (simp only [go_sem]<;>(try rw [aa])<;>decide)⟩ (by simp only [go_sem]) (by simp only [go_sem]) (by simp only [go_sem]) ?_
    rintro _ _ ⟨rfl,rfl⟩
    refine ⟨by simp only [go_sem];try omega,?_⟩
    simp only [go_sem]
    refine ab E _ _ _ hc2 rfl rfl ⟨by simp only [go_sem],by first | (rw [aa];decide) | (simp only [go_sem]<;>(try rw [aa])<;>decide)⟩ (by simp only [go_sem]) (by simp only [go_sem]) (by simp only [go_sem]) ?_
    rintro _ _ ⟨rfl,rfl⟩
    refine ⟨by simp only [go_sem];try omega,?_⟩
    simp only [go_sem]
    refine ⟨_,_,[101,102,103,104],id,⟨rfl,rfl⟩,?_⟩
    simp only [go_sem]
   rw [if_neg g4] at hR
   refine ah E (fun g5=>?_) (fun g5=>?_)<;>simp only [go_sem]
   ·rw [if_pos g5] at hR
    have hka:(0≤n.a∧n.a<i)∧∀ k,k<n.l.length→(0≤(fdE n.l k).to∧(fdE n.l k).to<i):=by
     have:=hki
     unfold aj aG aI inB at this
     simp [g5] at this
     refine ⟨by omega,fun k hk=>?_⟩
     have h:=this.2 n.l[k] (List.getElem_mem hk)
     unfold fdE
     simp [hk]
     omega
    obtain ⟨l1,h1,h1l,hc1⟩:=ih.get (r:=r) (l:=l0) hka.1 (by omega) hi h0l (by omega)
    rw [h1] at hR
    refine ab E _ _ _ hc1 rfl rfl ⟨by simp only [go_sem],by first | (rw [aa];decide) | (simp only [go_sem]<;>(try rw [aa])<;>decide)⟩ (by simp only [go_sem]) (by simp only [go_sem]) (by simp only [go_sem]) ?_
    rintro _ _ ⟨rfl,rfl⟩
    refine ⟨by simp only [go_sem];try omega,?_⟩
    simp only [go_sem]
    obtain ⟨step,hst⟩:∃ step,step=fun (l:List Bi) (k:Nat)=>dy ns m (fdE n.l k).to.toNat (r++[((fdE n.l k).var,(i:Int),(k:Int))]) l:=⟨_,rfl⟩
    rw [← hst] at hR
    refine bl E (X:={ q:Nat × List Bi // q.1≤n.l.length∧q.2.length=ns.length∧((List.range n.l.length).drop q.1).foldl step q.2=R }) (fun x=>[(0,.d (i64 i)),(1,.d (.sl (some 3) (r.map kD))),(2,.bx [101] 0),(3,.bx [102] 0),(4,.bx [104] 0),(7,.bx [7] 0),(97,.d (.sl (some 3) (n.l.map fD))),(98,.d (i64 n.l.length)),(99,.d (i64 x.1.1))])
     (fun x=>[([101],.box [.d (.sl (some 9) (ns.map enD))]),([102],.box [.vw [103] 0 ns.length]),([103],.arr (some 2) (x.1.2.map bD)),([104],.box [.clo 202 [.bx [101] 0,.bx [102] 0,.bx [104] 0]]),([7],.box [.d (i64 n.k),.d (i64 n.a),.d (i64 n.b),.d (i64 n.c),.d (i64 n.n),.d (.str n.name),.d (.str n.s),.d (.sl (some 3) (n.l.map fD)),.d (i64 n.pos)])]) [7,101,102,103,104] (fun x=>n.l.length-x.1.1) ⟨(0,l1),Nat.zero_le _,h1l,hR⟩ ?_ ?_
    ·simp only [go_sem]
     all_goals first | rfl | exact ⟨rfl,rfl⟩
    rintro ⟨⟨q,lq⟩,hq,hql,hqR⟩ E0
    refine aC E0 fun Q' hQ E'=>?_
    simp only at hq hql hqR ⊢
    simp only [go_sem]
    refine ah E' (fun f1=>?_) (fun f1=>?_)<;>simp only [go_sem]
    ·have hq':q<n.l.length:=by omega
     refine ⟨⟨by omega,by omega⟩,?_⟩
     rw [jA hq']
     obtain ⟨fd,hfd⟩:∃ fd,fd=fdE n.l q:=⟨_,rfl⟩
     have hkq:=hka.2 q hq'
     have hstq:step lq q=dy ns m fd.to.toNat (r++[(fd.var,(i:Int),(q:Int))]) lq:=by rw [hst,hfd]
     rw [← hfd] at hkq ⊢
     simp only [go_sem]
     obtain ⟨l2,h2,h2l,hc2⟩:=ih.get (r:=r++[(fd.var,(i:Int),(q:Int))]) (l:=lq) hkq (by omega) hi hql (by simp;omega)
     refine ak mixed E' fun X=>?_
     simp only [go_sem]
     refine bK X (ng r fd.var (i:Int) (q:Int) (by omega)) rfl rfl (by simp) ?_
     simp only [go_sem]
     unfold eg
     refine aZ X _ _ _ _ _ hc2 rfl rfl ⟨by simp only [go_sem],by first | (rw [aa];decide) | (simp only [go_sem]<;>(try rw [aa])<;>decide)⟩ (by simp only [go_sem]) (by simp only [go_sem]) (by simp only [go_sem]) (by simp only [go_sem];try omega) ?_
     simp only [go_sem]
     refine ⟨by decide +kernel,?_⟩
     rw [ai ⟨by omega,by omega⟩,hQ]
     simp only [go_sem]
     refine ⟨⟨(q+1,l2),by show q+1≤_;omega,h2l,?_⟩,by show n.l.length-(q+1)<_;omega,?_⟩
     ·show ((List.range n.l.length).drop (q+1)).foldl step l2=R
      rw [← hqR,List.drop_eq_getElem_cons (i:=q) (by simpa using hq'),List.foldl_cons,List.getElem_range,hstq,h2]
     simp only [go_sem]
     first | rfl | exact ⟨rfl,rfl⟩
    ·rw [hQ]
     have h3:q=n.l.length:=by omega
     rw [List.drop_of_length_le (by simp;omega)] at hqR
     have h4:lq=R:=hqR
     subst h4
     simp only [go_sem]
     refine ⟨_,_,[101,102,103,104],id,⟨rfl,rfl⟩,?_⟩
     simp only [go_sem]
   rw [if_neg g5] at hR
   have hkc:=gL (G:=G) n hsi
   obtain ⟨K,hK⟩:∃ K,K=aj n:=⟨_,rfl⟩
   have hKl:K.length≤1000003:=by rw [hK,bt];unfold bf;have:=bC n.k;split<;>omega
   rw [← hK] at hkc hki hR
   refine ab E [.d (enD n)] [] [] hkc rfl rfl ⟨by simp only [go_sem],by rw [aa];decide⟩ rfl (by simp only [go_sem]) (by simp only [go_sem]) ?_
   rintro _ _ ⟨rfl,rfl⟩
   simp only [go_sem]
   refine ju E [25,0] none (K.map i64) rfl ?_
   simp only [go_sem]
   obtain ⟨step,hst⟩:∃ step,step=fun (l:List Bi) (k:Int)=>dy ns m k.toNat r l:=⟨_,rfl⟩
   rw [← hst] at hR
   refine bl E (X:={ q:Nat × List Bi // q.1≤K.length∧q.2.length=ns.length∧(K.drop q.1).foldl step q.2=R }) (fun x=>[(0,.d (i64 i)),(1,.d (.sl (some 3) (r.map kD))),(2,.bx [101] 0),(3,.bx [102] 0),(4,.bx [104] 0),(7,.bx [7] 0),(25,.d (.sl none (K.map i64))),(26,.d (i64 K.length)),(27,.d (i64 x.1.1))])
    (fun x=>[([101],.box [.d (.sl (some 9) (ns.map enD))]),([102],.box [.vw [103] 0 ns.length]),([103],.arr (some 2) (x.1.2.map bD)),([104],.box [.clo 202 [.bx [101] 0,.bx [102] 0,.bx [104] 0]]),([7],.box [.d (i64 n.k),.d (i64 n.a),.d (i64 n.b),.d (i64 n.c),.d (i64 n.n),.d (.str n.name),.d (.str n.s),.d (.sl (some 3) (n.l.map fD)),.d (i64 n.pos)])]) [7,101,102,103,104] (fun x=>K.length-x.1.1) ⟨(0,l0),Nat.zero_le _,h0l,hR⟩ ?_ ?_
   ·simp only [go_sem]
    all_goals first | rfl | exact ⟨rfl,rfl⟩
   rintro ⟨⟨q,lq⟩,hq,hql,hqR⟩ E0
   refine aC E0 fun Q' hQ E'=>?_
   simp only at hq hql hqR ⊢
   simp only [go_sem]
   refine ah E' (fun f1=>?_) (fun f1=>?_)<;>simp only [go_sem]
   ·have hq':q<K.length:=by omega
    have hkq:0≤K[q]∧K[q]<(i:Int):=by
     have:=List.all_eq_true.1 hki K[q] (List.getElem_mem hq')
     simpa [inB] using this
    refine ⟨⟨by omega,by omega⟩,?_⟩
    rw [aw hq',show K.getD q 0=K[q] by simp [hq']]
    obtain ⟨l2,h2,h2l,hc2⟩:=ih.get (r:=r) (l:=lq) hkq (by omega) hi hql (by omega)
    simp only [go_sem]
    refine ab E' _ _ _ hc2 rfl rfl ⟨by simp only [go_sem],by first | (rw [aa];decide) | (simp only [go_sem]<;>(try rw [aa])<;>decide)⟩ (by simp only [go_sem]) (by simp only [go_sem]) (by simp only [go_sem]) ?_
    rintro _ _ ⟨rfl,rfl⟩
    refine ⟨by simp only [go_sem];try omega,?_⟩
    simp only [go_sem]
    rw [ai ⟨by omega,by omega⟩,hQ]
    simp only [go_sem]
    refine ⟨⟨(q+1,l2),by show q+1≤_;omega,h2l,?_⟩,by show K.length-(q+1)<_;omega,?_⟩
    ·show (K.drop (q+1)).foldl step l2=R
     rw [← hqR,List.drop_eq_getElem_cons hq',List.foldl_cons,hst]
     simp only
     rw [h2]
    simp only [go_sem]
    first | rfl | exact ⟨rfl,rfl⟩
   ·rw [hQ]
    have h3:q=K.length:=by omega
    rw [List.drop_of_length_le (by omega)] at hqR
    have h4:lq=R:=hqR
    subst h4
    simp only [go_sem]
    refine ⟨_,_,[101,102,103,104],id,⟨rfl,rfl⟩,?_⟩
    simp only [go_sem]
def fG (ns:List EN):List Bi:=dy ns ns.length (ns.length-1) [] (List.replicate ns.length (0,0))
theorem gJ (ns:List EN):(fG ns).length=ns.length:=by unfold fG;rw [dV,List.length_replicate]
theorem yf {G} (ns:List EN) (h0:0<ns.length) (hN:ns.length≤1000000) (hs:∀ n∈ns,n.l.length≤1000000) (hk:∀ i,i<ns.length→(aj (ndE ns i)).all (inB i)=true) :
  HP Tryz.prog G 133 [exD ns] (fun q=>q=.d (.sl (some 2) ((fG ns).map bD))):=by
 have hc:=xW (G:=G) ns hN hs hk ns.length (ns.length-1) [] (List.replicate ns.length (0,0)) (by omega) (by omega) (by simp) (by simp;omega)
 obtain ⟨B,hB⟩:∃ B,B=fG ns:=⟨_,rfl⟩
 have hbl:=gJ ns
 rw [← hB] at hbl ⊢
 rw [show dy ns ns.length (ns.length-1) [] (List.replicate ns.length (0,0))=B from hB.symm] at hc
 unfold bA BO BU eg at hc
 have hc2:=HCall.sub (args:=[.d (i64 ((ns.length-1:Nat):Int)),.d .nils,.bx [101] 0,.bx [102] 0,.bx [104] 0]) (args':=[.d (i64 ((ns.length-1:Nat):Int)),.d (.sl (some 3) []),.bx [101] 0,.bx [102] 0,.bx [104] 0]) rfl (fun j x y hx hy=>by
  match j with
  | 1=>exact .inr ⟨some 3,(Option.some.inj hx).symm,(Option.some.inj hy).symm⟩
  | 0 | 2 | 3 | 4=>exact .inl (Option.some.inj (hx.symm.trans hy))
  | j+5=>cases hx) hc
 rw [show ((ns.length-1:Nat):Int)=(ns.length:Int)-1 by omega] at hc2
 unfold exD
 refine ax Tryz.func133 rfl (by decide +kernel) (by simp [Tryz.ntmps133]) (veil fun E=>?_)
 simp only [go_sem]
 refine ⟨⟨by omega,by omega,by omega,by omega⟩,?_⟩
 rw [ai ⟨by omega,by omega⟩]
 rw [show (D.agg [D.int IntKind.i64 0,D.int IntKind.i64 0])=bD (0,0) from rfl,← List.map_replicate]
 refine aU E (tau [([101],[1]),([102],[3]),([103],[8]),([104],[4])]) _ _ _ hc2 rfl (by simp only [go_sem];try rfl) ⟨by simp only [go_sem],by first | (rw [aa];decide) | (simp only [go_sem]<;>(try rw [aa])<;>decide)⟩ rfl (by simp only [go_sem];try rfl) (by simp only [go_sem]) ?_
 rintro _ _ ⟨rfl,rfl⟩
 refine ⟨by simp only [go_sem];try simp;try omega,?_⟩
 simp only [go_sem]
 refine ⟨[([8],some 2,B.map bD)],?_⟩
 simp only [go_sem]
 rw [List.take_of_length_le (by simp;omega)]
end Go.Proofs.YtejpnabbmgpmaaaGreat

namespace Go.Proofs.YtejpnabbmgpmaaaGreat
open Go.Ab
def dY (ns:List EN) (B:List Bi) (i:Nat):Bool:=decide ((ndE ns i).k=4) && decide ((B.getD i noB).1<0)
def iH (ns:List EN):List Nat:=(List.range ns.length).filter (dY ns (fG ns))
def j5 (ns:List EN) (B:List Bi) (i:Nat):Nat:=((List.range i).filter (dY ns B)).length
theorem vC {ns:List EN} {B:List Bi} {i:Nat}:j5 ns B (i+1)=j5 ns B i+if dY ns B i then 1 else 0:=by
 unfold j5
 rw [List.range_succ,List.filter_append,List.length_append]
 by_cases h:dY ns B i<;>simp [h]
theorem jV:∀ {i n:Nat},i≤n→∃ r,List.range n=List.range i++r
 | i,n,h=>by
   obtain ⟨d,rfl⟩:∃ d,n=i+d:=⟨n-i,by omega⟩
   exact ⟨_,List.range_add⟩
theorem y8 {ns:List EN} {B:List Bi} {i n:Nat} (hi:i<n) (h:dY ns B i=true):j5 ns B i<((List.range n).filter (dY ns B)).length∧((List.range n).filter (dY ns B)).getD (j5 ns B i) 0=i:=by
 obtain ⟨r,hr⟩:=jV (i:=i+1) (n:=n) (by omega)
 have:(List.range n).filter (dY ns B)=(List.range i).filter (dY ns B)++i::r.filter (dY ns B):=by
  rw [hr,List.range_succ,List.append_assoc,List.filter_append,List.singleton_append,List.filter_cons,if_pos h]
 unfold j5
 rw [this]
 simp
theorem HJ {G} (ns:List EN):HP Tryz.prog G 81 [exD ns] (fun r=>r=.d (.clo 132 [.ptr (exD ns)])):=by
 have h:HCall Tryz.prog G 81 [.d (exD ns)] [] [] (fun r hp'=>r=.clo 132 [.bx [1] 0]∧hp'=[([1],.box [.d (.sl (some 9) (ns.map enD))])]):=by
  unfold exD
  refine ar Tryz.func81 rfl (by decide +kernel) (by simp [Tryz.ntmps81]) (veil fun E=>?_)
  simp only [go_sem]
  refine ⟨_,_,[1],id,⟨rfl,rfl⟩,?_⟩
  simp only [go_sem]
 have h2:=HCall.fB (Q':=fun r hp'=>r=.d (.clo 132 [.ptr (exD ns)])∧hp'=[]) h [1] (exD ns) (by
  rintro r hp' ⟨rfl,rfl⟩
  refine ⟨rfl,rfl,?_,?_⟩
  ·simp only [go_sem]
  ·simp only [go_sem])
 exact h2.mono fun r hp' ⟨h1,h3⟩=>⟨h1,by rw [h1];rfl,h3⟩
theorem qq {B:List Bi} {i:Nat} (h:i<B.length):(B.map bD).getD i .nilp=.agg [i64 (B.getD i noB).1,i64 (B.getD i noB).2]:=by simp [h,bD]
def ue (ns:List EN) (n:Nat):List D:=[i64 ((iH ns).getD n 0:Nat)]
set_option maxHeartbeats 1000000 in
theorem E6 {G} (ns:List EN) (h0:0<ns.length) (hN:ns.length≤1000000) (hs:∀ n∈ns,n.l.length≤1000000) (hk:∀ i,i<ns.length→(aj (ndE ns i)).all (inB i)=true) :
  ItC Tryz.prog G 132 [.ptr (exD ns)] (iH ns).length (ue ns):=by
 have hb:=yf (G:=G) ns h0 hN hs hk
 have hbl:=gJ ns
 have hhit:∀ i,i<ns.length→dY ns (fG ns) i=true→j5 ns (fG ns) i<(iH ns).length∧ue ns (j5 ns (fG ns) i)=[i64 i]:=fun i hi h=>by
  obtain ⟨h1,h2⟩:=y8 hi h
  exact ⟨h1,by unfold ue iH;rw [h2]⟩
 have hlast:j5 ns (fG ns) ns.length=(iH ns).length:=rfl
 obtain ⟨B,hB⟩:∃ B,B=fG ns:=⟨_,rfl⟩
 rw [← hB] at hb hbl hhit hlast
 unfold exD at hb
 refine xf Tryz.func132 rfl (by decide +kernel) (by simp [Tryz.ntmps132]) rfl fun z hz=>?_
 unfold exD
 refine aB (aq fun E=>?_)
 simp only [go_sem]
 refine ag E hb rfl rfl (by simp) ?_
 rintro _ rfl
 simp only [go_sem]
 rw [hbl]
 refine iC (Bu (X:={ i:Nat // i≤ns.length }) (fun x=>mk [(0,.d (.yl z.l)),(1,.d (.ptr (.agg [.sl (some 9) (ns.map enD)]))),(6,.d (.sl (some 2) (B.map bD))),(7,.d (i64 ns.length)),(8,.d (i64 x.1))] [] []) (fun x=>II z (j5 ns B x.1)) (fun x=>ns.length-x.1) ⟨0,Nat.zero_le _⟩ ⟨id,LeL.le ?_⟩ (fun _ _ h=>h) ?_)
 ·simp only [go_sem]
  all_goals rfl
 rintro ⟨i,hi⟩
 simp only at hi ⊢
 generalize hΦ:lpY _ _ _ _ _ _ _ _=Φ'
 refine aB (aq fun E=>?_)
 simp only [go_sem]
 refine aB (aq fun E=>?_)
 simp only [go_sem]
 refine ah E (fun h1=>?_) (fun h1=>?_)<;>simp only [go_sem]
 ·have hi':i<ns.length:=by omega
  have hg:=aP hi'
  have hbg:=qq (B:=B) (i:=i) (by omega)
  have hstep:=vC (ns:=ns) (B:=B) (i:=i)
  have hh:=hhit i hi'
  unfold dY at hstep hh
  obtain ⟨n,hne⟩:∃ n,n=ndE ns i:=⟨_,rfl⟩
  obtain ⟨b,hbe⟩:∃ b,b=B.getD i noB:=⟨_,rfl⟩
  rw [← hne] at hg hstep hh
  rw [← hbe] at hbg hstep hh
  refine aB (iC (aB (aq fun E=>?_)))
  simp only [go_sem]
  refine ⟨⟨by omega,by omega⟩,?_⟩
  rw [hbg]
  simp only [go_sem]
  by_cases hfr:n.k=4∧b.1<0
  ·have hft:(decide (n.k=4) && decide (b.1<0))=true:=by simp [hfr]
   obtain ⟨hlt,hxs⟩:=hh hft
   rw [hft,if_pos rfl] at hstep
   refine aB (nK (tN rfl ?_))
   simp only [go_sem]
   iterate 3
    refine tN rfl ?_
    simp only [go_sem]
   refine ⟨⟨by omega,by omega⟩,?_⟩
   rw [hg]
   iterate 4
    refine tN rfl ?_
    simp only [go_sem]
   rw [decide_eq_true hfr.1]
   iterate 3
    refine F8 rfl rfl rfl ?_
    simp only [go_sem]
   rw [decide_eq_true hfr.2]
   iterate 2
    refine tN rfl ?_
    simp only [go_sem]
   iterate 2
    refine F8 rfl rfl rfl ?_
    simp only [go_sem]
   refine AZ hz rfl rfl hlt (by simp) rfl (by rw [hxs];rfl) ?_ ?_
   ·refine sB fun E=>?_
    simp only [go_sem]
    refine aq fun E=>?_
    simp only [go_sem]
    refine pX (aq fun E=>?_)
    simp only [go_sem]
    rw [ai ⟨by omega,by omega⟩]
    subst hΦ
    refine gw (show { i:Nat // i≤ns.length } from ⟨i+1,by omega⟩) ?_ id (LeL.le ?_) (fun _ _ h=>by rw [hstep];exact h)
    ·show ns.length-(i+1)<ns.length-i
     omega
    ·simp only [go_sem]
     rfl
   ·refine sB fun E=>?_
    simp only [go_sem]
    refine aq fun E=>?_
    simp only [go_sem]
    subst hΦ
    exact kq (Bx hz (.inr rfl))
  ·have hff:(decide (n.k=4) && decide (b.1<0))=false:=by
    rw [Bool.eq_false_iff]
    intro h
    simp only [Bool.and_eq_true,decide_eq_true_eq] at h
    exact hfr h
   rw [hff,if_neg (by decide)] at hstep
   refine aB (aq fun E=>?_)
   simp only [go_sem]
   refine ⟨⟨by omega,by omega⟩,?_⟩
   rw [hg]
   simp only [go_sem]
   by_cases hk4:n.k=4
   ·have hb0:¬ b.1<0:=fun h=>hfr ⟨hk4,h⟩
    rw [decide_eq_true hk4]
    simp only [go_sem]
    rw [decide_eq_false hb0]
    simp only [go_sem]
    refine aq fun E=>?_
    simp only [go_sem]
    refine pX (aq fun E=>?_)
    simp only [go_sem]
    rw [ai ⟨by omega,by omega⟩]
    subst hΦ
    refine gw (show { i:Nat // i≤ns.length } from ⟨i+1,by omega⟩) ?_ id (LeL.le ?_) (fun _ _ h=>by rw [hstep];exact h)
    ·show ns.length-(i+1)<ns.length-i
     omega
    ·simp only [go_sem]
     rfl
   ·rw [decide_eq_false hk4]
    simp only [go_sem]
    refine aq fun E=>?_
    simp only [go_sem]
    refine pX (aq fun E=>?_)
    simp only [go_sem]
    rw [ai ⟨by omega,by omega⟩]
    subst hΦ
    refine gw (show { i:Nat // i≤ns.length } from ⟨i+1,by omega⟩) ?_ id (LeL.le ?_) (fun _ _ h=>by rw [hstep];exact h)
    ·show ns.length-(i+1)<ns.length-i
     omega
    ·simp only [go_sem]
     rfl
 ·subst hΦ
  refine mE ?_
  simp only [go_sem]
  refine Gg ?_
  have:i=ns.length:=by omega
  subst this
  rw [hlast]
  exact vy hz (.inl rfl)
end Go.Proofs.YtejpnabbmgpmaaaGreat

namespace Go.Proofs.YtejpnabbmgpmaaaGreat
open Go.Ab
def fj (ns:List EN):Int × Int:=if cH ns=0 then (match iH ns with
 | []=>(0,0)
 | i::_=>((i:Int),10)) else (0,cH ns)
theorem aO {ns:List EN} (h:cW ns):∀ i,i<ns.length→(aj (ndE ns i)).all (inB i)=true:=fun i hi=>by
 have:=h.link i hi
 unfold dS at this
 exact (Bool.and_eq_true_iff.1 this).1
theorem Ec {G} (ns:List EN) (hs:∀ n∈ns,dx BIG n) (hN:ns.length≤1000000) (hl:∀ n∈ns,n.l.length≤1000000):HP Tryz.prog G 111 [exD ns] (fun r=>r=.tup [.d (if cH ns=0 then .sl (some 2) ((fG ns).map bD) else .nils),.d (i64 (cH ns))]):=by
 have hm:=o0 (G:=G) ns hs hN
 by_cases h0:cH ns=0
 ·have ht:=pM h0
  have hb:=yf (G:=G) ns ht.pos hN hl (aO ht)
  rw [if_pos h0,h0]
  rw [h0] at hm
  unfold exD at hm hb ⊢
  refine ax Tryz.func111 rfl (by decide +kernel) (by simp [Tryz.ntmps111]) (veil fun E=>?_)
  simp only [go_sem]
  refine ag E hm rfl rfl (by simp) ?_
  rintro _ rfl
  simp only [go_sem]
  refine ag E hb rfl rfl (by simp) ?_
  rintro _ rfl
  simp only [go_sem]
  refine ⟨[],?_⟩
  simp only [go_sem]
 ·rw [if_neg h0]
  generalize cH ns=m at hm h0 ⊢
  unfold exD at hm ⊢
  refine ax Tryz.func111 rfl (by decide +kernel) (by simp [Tryz.ntmps111]) (veil fun E=>?_)
  simp only [go_sem]
  refine ag E hm rfl rfl (by simp) ?_
  rintro _ rfl
  simp only [go_sem]
  refine ah E (fun h1=>?_) (fun h1=>absurd h1 (by simpa using h0))<;>simp only [go_sem]
  refine ⟨[],?_⟩
  simp only [go_sem]
theorem IN {P:Program} {cf:Cf} {Q:Exit→St→Prop} {fr:List (Nat × AV)} {k:List It} (E:Eng P cf Q) {o:Oper}:E.stp o (mk fr [([0],.map [])] []) k .no:=by
 rw [aN]
 intro B hB ds β a w hds hs Q'
 obtain ⟨⟨_,_,_,h⟩,_⟩:=hs.objs [0] _ rfl
 cases h
def Gi:St:=mk [(2,.bx [2] 0),(3,.bx [3] 0)] [([2],.box [.d (i64 0)]),([3],.box [.d (i64 0)])] [2,3]
set_option maxHeartbeats 1000000 in
theorem GD {G} (ns:List EN) (hs:∀ n∈ns,dx BIG n) (hN:ns.length≤1000000) (hl:∀ n∈ns,n.l.length≤1000000):HP Tryz.prog G 41 [exD ns] (fun r=>r=.tup [.d (i64 (fj ns).1),.d (i64 (fj ns).2)]):=by
 have hm:=o0 (G:=G) ns hs hN
 unfold fj
 by_cases h0:cH ns=0
 ·have ht:=pM h0
  have hit:=E6 (G:=G) ns ht.pos hN hl (aO ht)
  have hfr:=HJ (G:=G) ns
  rw [if_pos h0]
  rw [h0] at hm
  refine gl Tryz.func41 rfl (by decide +kernel) (by simp [Tryz.ntmps41]) fun B0 hB0=>?_
  unfold exD at hm hfr ⊢
  refine aB (aq fun E=>?_)
  simp only [go_sem]
  refine aB (aq fun E=>?_)
  simp only [go_sem]
  refine ag E hm rfl rfl (by simp) ?_
  rintro _ rfl
  simp only [go_sem]
  refine aB (aB (aq fun E=>?_))
  simp only [go_sem]
  refine ag E hfr rfl rfl (by simp) ?_
  rintro _ rfl
  simp only [go_sem]
  unfold exD at hit
  refine iC (rR rfl hit rfl (X:=Unit) (fun n _=>if n=0 then Gi else Ft) (by simp) (fun n hn=>rfl) ⟨(),id,?_⟩ ?_ ?_)
  ·rw [if_pos rfl]
   refine LeL.le ?_
   simp only [go_sem]
   all_goals rfl
  ·rintro n ⟨⟩ hn lb
   by_cases hn0:n=0
   ·subst hn0
    simp only [if_true]
    obtain ⟨i,r,hir⟩:∃ i r,iH ns=i::r:=by
     cases hc:iH ns with
     | nil=>rw [hc] at hn;cases hn
     | cons i r=>exact ⟨i,r,rfl⟩
    unfold ue Gi
    rw [hir]
    rw [show ((i::r).getD 0 0)=i from rfl]
    refine veil fun E=>?_
    simp only [go_sem]
    refine Dr fun E=>?_
    simp only [go_sem]
    refine BF ?_ (fc (.inl rfl) hB0 ?_)
    ·simp only [go_sem]
    ·simp only [go_sem]
     refine ⟨[],?_⟩
     simp only [go_sem]
   ·simp only [if_neg hn0]
    unfold Ft ue
    refine veil fun E=>?_
    simp only [go_sem]
    refine Dr fun E=>?_
    simp only [go_sem]
    exact IN E
  ·rintro ⟨⟩
   by_cases hn0:(iH ns).length=0
   ·rw [hn0,if_pos rfl]
    rw [List.length_eq_zero_iff.1 hn0]
    refine pX ?_
    unfold Gi
    refine aq fun E=>?_
    simp only [go_sem]
    refine fc (.inl rfl) hB0 ?_
    simp only [go_sem]
    refine ⟨[],?_⟩
    simp only [go_sem]
   ·rw [if_neg hn0]
    exact wm
 ·rw [if_neg h0]
  generalize cH ns=m at hm h0 ⊢
  unfold exD at hm ⊢
  refine gl Tryz.func41 rfl (by decide +kernel) (by simp [Tryz.ntmps41]) fun B0 hB0=>?_
  refine aB (aq fun E=>?_)
  simp only [go_sem]
  refine aB (aq fun E=>?_)
  simp only [go_sem]
  refine ag E hm rfl rfl (by simp) ?_
  rintro _ rfl
  simp only [go_sem]
  refine ah E (fun h1=>?_) (fun h1=>absurd h1 (by simpa using h0))<;>simp only [go_sem]
  refine fc (.inl rfl) hB0 ?_
  simp only [go_sem]
  refine ⟨[],?_⟩
  simp only [go_sem]
end Go.Proofs.YtejpnabbmgpmaaaGreat

namespace Go.Proofs.YtejpnabbmgpmaaaGreat
open Go.Ab
def kV (ks:List Int) (j:Nat) (p:List Int):List Int:=ks.foldl (fun p k=>p.set k.toNat (j:Int)) p
def gO (ns:List EN):Nat→List Int
 | 0=>List.replicate ns.length 0
 | j+1=>kV (aj (ndE ns j)) j (gO ns j)
def fJ (ns:List EN):List Int:=(gO ns ns.length).set (ns.length-1) (-1)
theorem uU (ks:List Int) (j:Nat):∀ p:List Int,(kV ks j p).length=p.length:=by
 unfold kV
 induction ks with
 | nil=>intro p;rfl
 | cons k r ih=>intro p;rw [List.foldl_cons,ih,List.length_set]
theorem yE (ks:List Int) (k:Int) (j:Nat) (p:List Int):kV (ks++[k]) j p=(kV ks j p).set k.toNat j:=by
 unfold kV;rw [List.foldl_append];rfl
theorem iU (ns:List EN):∀ j,(gO ns j).length=ns.length
 | 0=>by simp [gO]
 | j+1=>by rw [gO,uU,iU ns j]
theorem sP (ns:List EN):(fJ ns).length=ns.length:=by unfold fJ;rw [List.length_set,iU]
set_option maxHeartbeats 1000000 in
theorem Ea {G} (ns:List EN) (h0:0<ns.length) (hn:ns.length≤1000000) (hs:∀ n∈ns,n.l.length≤1000000) (hk:∀ i,i<ns.length→(aj (ndE ns i)).all (inB i)=true) :
  HP Tryz.prog G 162 [exD ns] (fun r=>r=.d (.sl none ((fJ ns).map i64))):=by
 unfold exD
 refine ax Tryz.func162 rfl (by decide +kernel) (by simp [Tryz.ntmps162]) (veil fun E=>?_)
 simp only [go_sem]
 refine ⟨⟨by omega,by omega,by omega,by omega⟩,?_⟩
 refine bl E (X:={ i:Nat // i≤ns.length }) (fun x=>[(1,.bx [1] 0),(3,.vw [10] 0 ns.length),(4,.d (i64 x.1))])
  (fun x=>[([1],.box [.d (.sl (some 9) (ns.map enD))]),([10],.arr none ((gO ns x.1).map i64))]) [10,1] (fun x=>ns.length-x.1) ⟨0,Nat.zero_le _⟩ ?_ ?_
 ·unfold gO
  rw [List.map_replicate]
  simp only [go_sem]
  all_goals first | rfl | exact ⟨rfl,rfl⟩
 rintro ⟨i,hi⟩ E0
 refine aC E0 fun Q' hQ E'=>?_
 simp only at hi ⊢
 have hpl:=iU ns i
 simp only [go_sem]
 refine ah E' (fun g1=>?_) (fun g1=>?_)<;>simp only [go_sem]
 ·have hi':i<ns.length:=by omega
  refine ⟨⟨by omega,by omega⟩,?_⟩
  have hg:=aP hi'
  have hki:=hk i hi'
  have hsi:=hs _ (by rw [bG hi'];exact List.getElem_mem hi':ndE ns i∈ns)
  have hst:gO ns (i+1)=kV (aj (ndE ns i)) i (gO ns i):=rfl
  obtain ⟨n,hne⟩:∃ n,n=ndE ns i:=⟨_,rfl⟩
  rw [← hne] at hg hki hsi hst
  rw [hg]
  have hkc:=mA (G:=G) n hsi
  obtain ⟨K,hK⟩:∃ K,K=aj n:=⟨_,rfl⟩
  have hKl:K.length≤1000003:=by rw [hK,bt];unfold bf;have:=bC n.k;split<;>omega
  rw [← hK] at hkc hki hst
  simp only [go_sem]
  refine ag E' hkc rfl rfl (by simp) ?_
  rintro _ rfl
  simp only [go_sem]
  refine bl E' (X:={ q:Nat // q≤K.length }) (fun x=>[(1,.bx [1] 0),(3,.vw [10] 0 ns.length),(4,.d (i64 i)),(5,.d (.sl none (K.map i64))),(6,.d (i64 x.1))])
   (fun x=>[([1],.box [.d (.sl (some 9) (ns.map enD))]),([10],.arr none ((kV (K.take x.1) i (gO ns i)).map i64))]) [10,1] (fun x=>K.length-x.1) ⟨0,Nat.zero_le _⟩ ?_ ?_
  ·rw [List.take_zero,show kV [] i (gO ns i)=gO ns i from rfl]
   simp only [go_sem]
   all_goals first | rfl | exact ⟨rfl,rfl⟩
  rintro ⟨q,hq⟩ E2
  refine aC E2 fun Q2 hQ2 E3=>?_
  simp only at hq ⊢
  have hql:=uU (K.take q) i (gO ns i)
  simp only [go_sem]
  refine ah E3 (fun g2=>?_) (fun g2=>?_)<;>simp only [go_sem]
  ·have hq':q<K.length:=by omega
   have hkq:0≤K[q]∧K[q]<(i:Int):=by
    have:=List.all_eq_true.1 hki K[q] (List.getElem_mem hq')
    simpa [inB] using this
   refine ⟨⟨by omega,by omega⟩,?_⟩
   rw [aw hq',show K.getD q 0=K[q] by simp [hq']]
   simp only [go_sem]
   refine ⟨⟨by omega,by omega⟩,?_⟩
   rw [ai ⟨by omega,by omega⟩]
   rw [show ((kV (K.take q) i (gO ns i)).map i64).set K[q].toNat (i64 i)=(kV (K.take (q+1)) i (gO ns i)).map i64 by
    rw [List.take_succ_eq_append_getElem hq',yE,List.map_set]]
   rw [hQ2]
   simp only [go_sem]
   refine ⟨⟨q+1,by omega⟩,by show K.length-(q+1)<_;omega,?_⟩
   first | rfl | exact ⟨rfl,rfl⟩
  ·rw [hQ2]
   have h3:q=K.length:=by omega
   subst h3
   rw [List.take_length,← hst]
   simp only [go_sem]
   rw [ai ⟨by omega,by omega⟩,hQ]
   simp only [go_sem]
   refine ⟨⟨i+1,by omega⟩,by show ns.length-(i+1)<_;omega,?_⟩
   first | rfl | exact ⟨rfl,rfl⟩
 ·have h3:i=ns.length:=by omega
  subst h3
  rw [hQ]
  simp only [go_sem]
  rw [ai ⟨by omega,by omega⟩]
  refine ⟨⟨by omega,by omega⟩,?_⟩
  rw [show ((ns.length:Int)-1).toNat=ns.length-1 by omega]
  refine ⟨[([10],none,(fJ ns).map i64)],?_⟩
  simp only [go_sem]
  rw [List.take_of_length_le (by rw [List.length_map,sP];exact Nat.le_refl _)]
  unfold fJ
  rw [List.map_set]
  exact ⟨rfl,rfl⟩
def b7 (n:EN) (k:Int) (nm:List UInt8):Int :=
 if (n.k=5∧n.name=nm)∨(n.k=7∧n.name=nm∧k=n.b)∨(n.k=8∧n.name=nm) then -1
 else if n.k=14 then (match (List.range n.l.length).find? (fun j=>decide ((fdE n.l j).to=k) && decide ((fdE n.l j).var=nm)) with
  | some j=>(j:Int)
  | none=>-2) else -2
set_option maxHeartbeats 1000000 in
theorem Fh {G} (n:EN) (k:Int) (nm:List UInt8) (hl:n.l.length≤1000000):HP Tryz.prog G 163 [enD n,i64 k,.str nm] (fun r=>r=.d (i64 (b7 n k nm))):=by
 generalize hR:b7 n k nm=R
 unfold b7 at hR
 unfold enD efD
 refine ax Tryz.func163 rfl (by decide +kernel) (by simp [Tryz.ntmps163]) (veil fun E=>?_)
 simp only [go_sem]
 repeat (first
  | (apply b6 E;(· simp only [go_sem]);(· intro h;(try simp only [bq] at h);simp only [↓h,go_sem];rfl);simp only [go_sem])
  | (apply a9 E;(· simp only [go_sem]);(· intro h;(try simp only [bq] at h);simp only [↓h,go_sem];rfl);(· intro h;(try simp only [bq] at h);simp only [↓h,go_sem];rfl);simp only [go_sem])
  | (apply a8 E;(· simp only [go_sem]);(· rfl);(· intro h h';(try simp only [bq] at h h');simp only [↓h,↓h',go_sem];rfl);simp only [go_sem])
  | (apply aK E;(· simp only [go_sem]);(· rfl);(· intro h h';(try simp only [bq] at h h');simp only [↓h,↓h',go_sem];rfl);(· intro h h';(try simp only [bq] at h h');simp only [↓h,↓h',go_sem];rfl);simp only [go_sem])
  | (apply bY E;(· decide);simp only [go_sem]))
 have hcond:(decide (n.k=5) && n.name == nm || decide (n.k=7) && n.name == nm && decide (k=n.b) || decide (n.k=8) && n.name == nm)=decide ((n.k=5∧n.name=nm)∨(n.k=7∧n.name=nm∧k=n.b)∨(n.k=8∧n.name=nm)):=by
  rw [Bool.eq_iff_iff]
  simp only [Bool.or_eq_true,Bool.and_eq_true,decide_eq_true_eq,beq_iff_eq]
  constructor
  ·rintro ((⟨a,b⟩ | ⟨⟨a,b⟩,c⟩) | ⟨a,b⟩)
   ·exact .inl ⟨a,b⟩
   ·exact .inr (.inl ⟨a,b,c⟩)
   ·exact .inr (.inr ⟨a,b⟩)
  ·rintro (⟨a,b⟩ | ⟨a,b,c⟩ | ⟨a,b⟩)
   ·exact .inl (.inl ⟨a,b⟩)
   ·exact .inl (.inr ⟨⟨a,b⟩,c⟩)
   ·exact .inr ⟨a,b⟩
 rw [hcond]
 refine ah E (fun g1=>?_) (fun g1=>?_)<;>simp only [go_sem]
 ·rw [if_pos g1] at hR
  rw [← hR]
  refine ⟨[],?_⟩
  simp only [go_sem]
 rw [if_neg g1] at hR
 refine ah E (fun g2=>?_) (fun g2=>?_)<;>simp only [go_sem]
 ·rw [if_pos g2] at hR
  obtain ⟨pr,hpr⟩:∃ pr,pr=fun j=>decide ((fdE n.l j).to=k) && decide ((fdE n.l j).var=nm):=⟨_,rfl⟩
  rw [← hpr] at hR
  refine bl E (X:={ q:Nat // q≤n.l.length∧(List.range q).find? pr=none }) (fun x=>[(1,.d (i64 k)),(2,.d (.str nm)),(3,.bx [3] 0),(7,.d (i64 x.1))])
   (fun _=>[([3],.box [.d (i64 n.k),.d (i64 n.a),.d (i64 n.b),.d (i64 n.c),.d (i64 n.n),.d (.str n.name),.d (.str n.s),.d (.sl (some 3) (n.l.map fD)),.d (i64 n.pos)])]) [3] (fun x=>n.l.length-x.1) ⟨0,Nat.zero_le _,rfl⟩ ?_ ?_
  ·simp only [go_sem]
   all_goals first | rfl | exact ⟨rfl,rfl⟩
  rintro ⟨q,hq,hqn⟩ E0
  refine aC E0 fun Q' hQ E'=>?_
  simp only at hq hqn ⊢
  simp only [go_sem]
  refine ah E' (fun f1=>?_) (fun f1=>?_)<;>simp only [go_sem]
  ·have hq':q<n.l.length:=by omega
   refine ⟨⟨by omega,by omega⟩,?_⟩
   rw [jA hq']
   simp only [go_sem]
   by_cases hto:(fdE n.l q).to=k
   ·rw [decide_eq_true hto]
    simp only [go_sem]
    refine ⟨⟨by omega,by omega⟩,?_⟩
    rw [jA hq']
    simp only [go_sem]
    refine aD E' (fun f2=>?_) (fun f2=>?_)<;>simp only [go_sem]
    ·have hpq:pr q=true:=by
      rw [hpr]
      simp only [Bool.and_eq_true,decide_eq_true_eq]
      exact ⟨hto,by simpa using f2⟩
     have hfq:(List.range n.l.length).find? pr=some q:=by
      obtain ⟨r,hr⟩:=jV (i:=q+1) (n:=n.l.length) (by omega)
      rw [hr,List.range_succ,List.append_assoc,List.find?_append,hqn,List.singleton_append,List.find?_cons,hpq]
      rfl
     rw [hfq] at hR
     rw [hQ]
     simp only [go_sem]
     rw [← hR]
     refine ⟨[],?_⟩
     simp only [go_sem]
    ·have hpq:pr q=false:=by
      rw [hpr]
      simp only [Bool.and_eq_false_iff,decide_eq_false_iff_not]
      exact .inr (by simpa using f2)
     rw [ai ⟨by omega,by omega⟩,hQ]
     simp only [go_sem]
     refine ⟨⟨q+1,by omega,?_⟩,by show n.l.length-(q+1)<_;omega,?_⟩
     ·rw [List.range_succ,List.find?_append,hqn,List.find?_cons,hpq]
      rfl
     first | rfl | exact ⟨rfl,rfl⟩
   ·rw [decide_eq_false hto]
    simp only [go_sem]
    have hpq:pr q=false:=by
     rw [hpr]
     simp only [Bool.and_eq_false_iff,decide_eq_false_iff_not]
     exact .inl hto
    rw [ai ⟨by omega,by omega⟩,hQ]
    simp only [go_sem]
    refine ⟨⟨q+1,by omega,?_⟩,by show n.l.length-(q+1)<_;omega,?_⟩
    ·rw [List.range_succ,List.find?_append,hqn,List.find?_cons,hpq]
     rfl
    first | rfl | exact ⟨rfl,rfl⟩
  ·rw [hQ]
   have h3:q=n.l.length:=by omega
   subst h3
   rw [hqn] at hR
   simp only [go_sem]
   rw [← hR]
   refine ⟨[],?_⟩
   simp only [go_sem]
 ·rw [if_neg g2] at hR
  rw [← hR]
  refine ⟨[],?_⟩
  simp only [go_sem]
end Go.Proofs.YtejpnabbmgpmaaaGreat

namespace Go.Proofs.YtejpnabbmgpmaaaGreat
open Go.Ab
theorem uH {j k:Nat}:∀ {ks p:List Int},k<p.length→(∀ x∈ks,0≤x)→(kV ks j p).getD k 0=if (k:Int)∈ks then (j:Int) else p.getD k 0
 | [],p,_,_=>by simp [kV]
 | x::r,p,hk,hx=>by
   show (kV r j (p.set x.toNat j)).getD k 0=_
   rw [uH (by rw [List.length_set];exact hk) (fun y hy=>hx y (List.mem_cons_of_mem _ hy))]
   have hx0:=hx x List.mem_cons_self
   by_cases h1:(k:Int)∈r
   ·rw [if_pos h1,if_pos (List.mem_cons_of_mem _ h1)]
   rw [if_neg h1]
   by_cases h2:(k:Int)=x
   ·rw [if_pos (by rw [h2];exact List.mem_cons_self)]
    have:x.toNat=k:=by omega
    rw [this]
    simp [hk]
   ·rw [if_neg (by simp [h1,h2])]
    have:x.toNat≠k:=by omega
    simp [List.getD_eq_getElem?_getD,List.getElem?_set_ne this]
theorem aM {ns:List EN} (hk:∀ i,i<ns.length→(aj (ndE ns i)).all (inB i)=true) {i:Nat} (hi:i<ns.length):∀ x∈aj (ndE ns i),0≤x∧x<(i:Int):=fun x hx=>by
 have:=List.all_eq_true.1 (hk i hi) x hx
 simpa [inB] using this
theorem tq {ns:List EN} (hk:∀ i,i<ns.length→(aj (ndE ns i)).all (inB i)=true) {k:Nat} (h:k<ns.length):∀ i,i≤ns.length→(∀ j,j<i→(k:Int) ∉ aj (ndE ns j))∨∃ j:Nat,j<i∧(k:Int)∈aj (ndE ns j)∧(gO ns i).getD k 0=(j:Int)
 | 0,_=>.inl fun j hj=>absurd hj (Nat.not_lt_zero _)
 | i+1,hi=>by
   have hg:(gO ns (i+1)).getD k 0=if (k:Int)∈aj (ndE ns i) then (i:Int) else (gO ns i).getD k 0:=uH (by rw [iU];exact h) (fun x hx=>(aM hk (by omega) x hx).1)
   by_cases h1:(k:Int)∈aj (ndE ns i)
   ·rw [if_pos h1] at hg
    exact .inr ⟨i,by omega,h1,hg⟩
   ·rw [if_neg h1] at hg
    rcases tq hk h i (by omega) with h2 | ⟨j,h2,h3,h4⟩
    ·refine .inl fun j hj=>?_
     rcases Nat.lt_or_ge j i with h3 | h3
     ·exact h2 j h3
     ·rw [show j=i by omega];exact h1
    ·exact .inr ⟨j,by omega,h3,hg.trans h4⟩
theorem jI {ns:List EN} (ht:cW ns) {k:Nat} (h:k<ns.length):(k=ns.length-1∧(fJ ns).getD k 0 = -1)∨∃ j:Nat,k<j∧j<ns.length∧(k:Int)∈aj (ndE ns j)∧(fJ ns).getD k 0=(j:Int):=by
 have hk:=aO ht
 unfold fJ
 by_cases hl:k=ns.length-1
 ·refine .inl ⟨hl,?_⟩
  rw [← hl]
  simp [List.getD_eq_getElem?_getD,iU,h]
 refine .inr ?_
 have hne:ns.length-1≠k:=fun e=>hl e.symm
 rw [show ((gO ns ns.length).set (ns.length-1) (-1)).getD k 0=(gO ns ns.length).getD k 0 by
  simp [List.getD_eq_getElem?_getD,List.getElem?_set_ne hne]]
 rcases tq hk h ns.length (Nat.le_refl _) with h2 | ⟨j,h2,h3,h4⟩
 ·exfalso
  have hc:=List.all_eq_true.1 ht.once k (by simp;omega)
  have hc2:uD ns k=1:=by simpa using hc
  unfold uD at hc2
  obtain ⟨x,hx,hxk⟩:=List.countP_pos_iff.1 (by omega:0<List.countP (fun x=>decide (x=(k:Int))) (ns.flatMap aj))
  obtain ⟨n,hn,hxn⟩:=List.mem_flatMap.1 hx
  obtain ⟨j,hj,hjn⟩:=List.getElem_of_mem hn
  have hxk2:x=(k:Int):=by simpa using hxk
  refine h2 j hj ?_
  rw [bG hj,hjn,← hxk2]
  exact hxn
 ·exact ⟨j,by have:=(aM hk h2 _ h3).2;omega,h2,h3,h4⟩
end Go.Proofs.YtejpnabbmgpmaaaGreat

namespace Go.Proofs.YtejpnabbmgpmaaaGreat
open Go.Ab
def climb (ns:List EN) (p:List Int) (nm:List UInt8):Nat→Int→Int→Bi
 | 0,_,_=>noB
 | m+1,c,j=>if j<0 then noB else if b7 (ndE ns j.toNat) c nm > -2 then (j,b7 (ndE ns j.toNat) c nm) else climb ns p nm m j (p.getD j.toNat 0)
def bH (ns:List EN) (i:Nat):Bi:=if (ndE ns i).k=4 then climb ns (fJ ns) (ndE ns i).name ns.length i ((fJ ns).getD i 0) else noB
def bn (ns:List EN):List Bi:=(List.range ns.length).map (bH ns)
theorem eB (ns:List EN):(bn ns).length=ns.length:=by unfold bn;simp
theorem oF {ns:List EN} {i:Nat} (h:i<ns.length):(bn ns).take (i+1)=(bn ns).take i++[bH ns i]:=by
 rw [List.take_succ_eq_append_getElem (by rw [eB];exact h)]
 simp [bn]
theorem lM {ns:List EN} {i:Nat} (h:i<ns.length) {b:Bi} (hb:b=bH ns i):List.take i (List.map bD (List.take i (bn ns)))++[.agg [i64 b.1,i64 b.2]]=((bn ns).take (i+1)).map bD:=by
 rw [List.take_of_length_le (by simp;omega),oF h,List.map_append,hb]
 rfl
set_option maxHeartbeats 1000000 in
theorem wu {G} (ns:List EN) (ht:cW ns) (hn:ns.length≤1000000) (hs:∀ n∈ns,n.l.length≤1000000) :
  HP Tryz.prog G 114 [exD ns] (fun r=>r=.d (.sl (some 2) ((bn ns).map bD))):=by
 have hpc:=Ea (G:=G) ns ht.pos hn hs (aO ht)
 have hpl:=sP ns
 have hup:=fun k h=>jI ht (k:=k) h
 have hrB:∀ i,bH ns i=if (ndE ns i).k=4 then climb ns (fJ ns) (ndE ns i).name ns.length i ((fJ ns).getD i 0) else noB:=fun _=>rfl
 obtain ⟨P,hP⟩:∃ P,P=fJ ns:=⟨_,rfl⟩
 rw [← hP] at hpc hpl
 simp only [← hP] at hup hrB
 unfold exD at hpc ⊢
 refine ax Tryz.func114 rfl (by decide +kernel) (by simp [Tryz.ntmps114]) (veil fun E=>?_)
 simp only [go_sem]
 refine ag E hpc rfl rfl (by simp) ?_
 rintro _ rfl
 simp only [go_sem]
 have hpget:∀ k,k<ns.length→(P.map i64).getD k .nilp=i64 (P.getD k 0):=fun k hk=>aw (by omega)
 refine aA E (X:={ i:Nat // i≤ns.length }) (fun x=>[(1,.bx [1] 0),(3,.d (.sl none (P.map i64))),(4,.vw [12] 0 x.1),(5,.d (i64 x.1))])
  (fun x=>[([1],.box [.d (.sl (some 9) (ns.map enD))]),([12],.arr (some 2) (((bn ns).take x.1).map bD))]) [12,1] (fun x=>ns.length-x.1) ⟨0,Nat.zero_le _⟩ id ?_ ?_
 ·simp only [go_sem]
  all_goals first | rfl | exact ⟨rfl,rfl⟩
 rintro ⟨i,hi⟩ E0
 refine aC E0 fun Q' hQ E'=>?_
 simp only at hi ⊢
 simp only [go_sem]
 refine ah E' (fun g1=>?_) (fun g1=>?_)<;>simp only [go_sem]
 ·have hi':i<ns.length:=by omega
  refine ⟨⟨by omega,by omega⟩,?_⟩
  have hg:=aP hi'
  have hRi:=hrB i
  have hst:=oF hi'
  have hui:=hup i hi'
  obtain ⟨R,hR⟩:∃ R,R=bH ns i:=⟨_,rfl⟩
  rw [← hR] at hRi hst
  obtain ⟨n,hne⟩:∃ n,n=ndE ns i:=⟨_,rfl⟩
  rw [← hne] at hg hRi
  rw [hg]
  simp only [go_sem]
  refine ah E' (fun g2=>?_) (fun g2=>?_)<;>simp only [go_sem]
  ·rw [if_pos g2] at hRi
   refine ⟨⟨by omega,by omega⟩,?_⟩
   rw [hpget i hi']
   simp only [go_sem]
   refine bl E' (X:={ x:Int × Int × Bi // (x.2.2=R∧0≤R.1)∨(x.2.2=noB∧((x.2.1 = -1∧R=noB)∨∃ jn m:Nat,x.2.1=(jn:Int)∧jn<ns.length∧ns.length≤jn+m∧climb ns P n.name m x.1 (jn:Int)=R)) })
    (fun x=>[(1,.bx [1] 0),(3,.d (.sl none (P.map i64))),(4,.vw [12] 0 i),(5,.d (i64 i)),(6,.bx [6] 0),(7,.d (i64 x.1.1)),(8,.d (i64 x.1.2.1))])
    (fun x=>[([1],.box [.d (.sl (some 9) (ns.map enD))]),([12],.arr (some 2) (((bn ns).take i).map bD)),([6],.box [.d (i64 x.1.2.2.1),.d (i64 x.1.2.2.2)])]) [6,12,1] (fun x=>if x.1.2.2.1<0∧0≤x.1.2.1 then ns.length-x.1.2.1.toNat else 0) ⟨((i:Int),P.getD i 0,noB),.inr ⟨rfl,?_⟩⟩ ?_ ?_
   ·rcases hui with ⟨_,h2⟩ | ⟨j,h1,h2,_,h4⟩
    ·refine .inl ⟨h2,?_⟩
     rw [hRi,h2]
     cases hln:ns.length with
     | zero=>omega
     | succ m=>unfold climb;rw [if_pos (by decide)]
    ·exact .inr ⟨j,ns.length,h4,h2,by omega,by rw [hRi,h4]⟩
   ·simp only [go_sem]
    all_goals first | rfl | exact ⟨rfl,rfl⟩
   rintro ⟨⟨c,j,b⟩,hx⟩ E2
   refine aC E2 fun Q2 hQ2 E3=>?_
   simp only at hx ⊢
   simp only [go_sem]
   by_cases hj:0≤j
   ·rw [decide_eq_true hj]
    simp only [go_sem]
    refine ah E3 (fun f1=>?_) (fun f1=>?_)<;>simp only [go_sem]
    ·have hx2:b=noB∧∃ jn m:Nat,j=(jn:Int)∧jn<ns.length∧ns.length≤jn+m∧climb ns P n.name m c (jn:Int)=R:=by
      rcases hx with ⟨h1,h2⟩ | ⟨h1,⟨h2,_⟩ | h2⟩
      ·rw [h1] at f1;omega
      ·omega
      ·exact ⟨h1,h2⟩
     obtain ⟨hb,jn,m,rfl,hjn,hfu,hcl⟩:=hx2
     subst hb
     obtain ⟨m,rfl⟩:∃ m',m=m'+1:=⟨m-1,by omega⟩
     unfold climb at hcl
     rw [if_neg (by omega)] at hcl
     simp only [Int.toNat_natCast] at hcl
     have hgj:=aP hjn
     have hsj:=hs _ (by rw [bG hjn];exact List.getElem_mem hjn:ndE ns jn∈ns)
     have huj:=hup jn hjn
     have hcb:=Fh (G:=G) (ndE ns jn) c n.name hsj
     obtain ⟨nj,hnj⟩:∃ nj,nj=ndE ns jn:=⟨_,rfl⟩
     rw [← hnj] at hgj hsj hcb hcl
     obtain ⟨a,ha⟩:∃ a,a=b7 nj c n.name:=⟨_,rfl⟩
     rw [← ha] at hcb hcl
     refine ak mixed E3 fun X=>?_
     simp only [go_sem]
     refine ⟨⟨by omega,by omega⟩,?_⟩
     rw [hgj]
     simp only [go_sem]
     refine ⟨⟨by omega,by omega⟩,?_⟩
     rw [hg]
     simp only [go_sem]
     refine bK X hcb rfl rfl (by simp) ?_
     simp only [go_sem]
     refine ⟨by decide +kernel,?_⟩
     refine ah E3 (fun f2=>?_) (fun f2=>?_)<;>simp only [go_sem]
     ·rw [if_pos (by omega)] at hcl
      refine ⟨⟨by omega,by omega⟩,?_⟩
      rw [hpget jn hjn]
      simp only [go_sem]
      rw [hQ2]
      simp only [go_sem]
      refine ⟨⟨((jn:Int),P.getD jn 0,R),.inl ⟨rfl,by rw [← hcl];exact Int.natCast_nonneg _⟩⟩,?_,?_⟩
      ·show (if R.1<0∧0≤P.getD jn 0 then ns.length-(P.getD jn 0).toNat else 0)<(if noB.1<0∧(0:Int)≤(jn:Int) then ns.length-jn else 0)
       rw [if_neg (by rw [← hcl];simp;omega),if_pos ⟨by decide,by omega⟩]
       omega
      ·have e1:R.1=(jn:Int):=by rw [← hcl]
       have e2:R.2=a:=by rw [← hcl]
       refine ⟨⟨rfl,rfl⟩,?_⟩
       show some (Ob.boxT none [AV.d (i64 (jn:Int)),AV.d (i64 a)])=some (Ob.boxT none [AV.d (i64 R.1),AV.d (i64 R.2)])
       rw [e1,e2]
     ·rw [if_neg (by omega)] at hcl
      refine ⟨⟨by omega,by omega⟩,?_⟩
      rw [hpget jn hjn]
      simp only [go_sem]
      rw [hQ2]
      simp only [go_sem]
      refine ⟨⟨((jn:Int),P.getD jn 0,noB),.inr ⟨rfl,?_⟩⟩,?_,?_⟩
      ·rcases huj with ⟨_,h2⟩ | ⟨j',h1,h2,_,h4⟩
       ·refine .inl ⟨h2,?_⟩
        rw [← hcl,h2]
        cases m with
        | zero=>rfl
        | succ m=>unfold climb;rw [if_pos (by decide)]
       ·exact .inr ⟨j',m,h4,h2,by omega,by rw [← hcl,h4]⟩
      ·show (if noB.1<0∧0≤P.getD jn 0 then ns.length-(P.getD jn 0).toNat else 0)<(if noB.1<0∧(0:Int)≤(jn:Int) then ns.length-jn else 0)
       rw [if_pos (c:=noB.1<0∧(0:Int)≤(jn:Int)) ⟨by decide,by omega⟩]
       rcases huj with ⟨_,h2⟩ | ⟨j',h1,h2,_,h4⟩
       ·rw [h2,if_neg (by omega)]
        omega
       ·rw [h4,if_pos ⟨by decide,by omega⟩]
        omega
      ·first | rfl | exact ⟨rfl,rfl⟩ | exact ⟨⟨rfl,rfl⟩,rfl⟩
    ·rw [hQ2]
     simp only [go_sem]
     have hb:b=R:=by
      rcases hx with ⟨h1,h2⟩ | ⟨h1,_⟩
      ·exact h1
      ·rw [h1] at f1;exact absurd (by decide:noB.1<0) f1
     subst hb
     refine ⟨by omega,?_⟩
     rw [ai ⟨by omega,by omega⟩]
     have key:List.take i (List.map bD (List.take i (bn ns)))++[.agg [i64 b.1,i64 b.2]]=((bn ns).take (i+1)).map bD:=lM hi' (b:=b) hR
     rw [key,hQ]
     simp only [go_sem]
     refine ⟨⟨i+1,by omega⟩,by show ns.length-(i+1)<_;omega,tau [([12],[66])],?_⟩
     simp only [go_sem]
     all_goals first | rfl | exact ⟨rfl,rfl⟩
   ·rw [decide_eq_false hj]
    simp only [go_sem]
    rw [hQ2]
    simp only [go_sem]
    have hb:b=R:=by
     rcases hx with ⟨h1,h2⟩ | ⟨h1,⟨_,h2⟩ | ⟨jn,_,h2,_⟩⟩
     ·exact h1
     ·rw [h1,h2]
     ·omega
    subst hb
    refine ⟨by omega,?_⟩
    rw [ai ⟨by omega,by omega⟩]
    have key:List.take i (List.map bD (List.take i (bn ns)))++[.agg [i64 b.1,i64 b.2]]=((bn ns).take (i+1)).map bD:=lM hi' (b:=b) hR
    rw [key,hQ]
    simp only [go_sem]
    refine ⟨⟨i+1,by omega⟩,by show ns.length-(i+1)<_;omega,tau [([12],[66])],?_⟩
    simp only [go_sem]
    all_goals first | rfl | exact ⟨rfl,rfl⟩
  ·rw [if_neg g2] at hRi
   refine ⟨by omega,?_⟩
   rw [ai ⟨by omega,by omega⟩]
   have key:List.take i (List.map bD (List.take i (bn ns)))++[.agg [.int .i64 (-1),.int .i64 (-1)]]=((bn ns).take (i+1)).map bD:=lM hi' (b:=noB) (hRi.symm.trans hR)
   rw [key,hQ]
   simp only [go_sem]
   refine ⟨⟨i+1,by omega⟩,by show ns.length-(i+1)<_;omega,tau [([12],[66])],?_⟩
   simp only [go_sem]
   all_goals first | rfl | exact ⟨rfl,rfl⟩
 ·have h3:i=ns.length:=by omega
  subst h3
  rw [hQ]
  simp only [go_sem]
  refine ⟨[([12],some 2,(bn ns).map bD)],?_⟩
  simp only [go_sem]
  rw [List.take_of_length_le (l:=bn ns) (by rw [eB];exact Nat.le_refl _),List.take_of_length_le (by rw [List.length_map,eB];exact Nat.le_refl _)]
  exact ⟨rfl,rfl⟩
end Go.Proofs.YtejpnabbmgpmaaaGreat

namespace Go.Proofs.YtejpnabbmgpmaaaGreat
open Go.Ab
def b9 (ns:List EN):Int:=match (List.range ns.length).find? (fun i=>decide ((ndE ns i).k=4) && decide ((bH ns i).1<0)) with
 | some i=>(i:Int)
 | none=>-1
set_option maxHeartbeats 1000000 in
theorem Ej {G} (ns:List EN) (ht:cW ns) (hn:ns.length≤1000000) (hs:∀ n∈ns,n.l.length≤1000000) :
  HP Tryz.prog G 113 [exD ns] (fun r=>r=.d (i64 (b9 ns))):=by
 have hbc:=wu (G:=G) ns ht hn hs
 have hbl:=eB ns
 have hbg:∀ i,i<ns.length→(bn ns).getD i noB=bH ns i:=fun i h=>by simp [bn,h]
 generalize hR:b9 ns=R
 unfold b9 at hR
 obtain ⟨pr,hpr⟩:∃ pr,pr=fun i=>decide ((ndE ns i).k=4) && decide ((bH ns i).1<0):=⟨_,rfl⟩
 rw [← hpr] at hR
 obtain ⟨B,hB⟩:∃ B,B=bn ns:=⟨_,rfl⟩
 rw [← hB] at hbc hbl hbg
 unfold exD at hbc ⊢
 refine ax Tryz.func113 rfl (by decide +kernel) (by simp [Tryz.ntmps113]) (veil fun E=>?_)
 simp only [go_sem]
 refine ag E hbc rfl rfl (by simp) ?_
 rintro _ rfl
 simp only [go_sem]
 refine bl E (X:={ q:Nat // q≤ns.length∧(List.range q).find? pr=none }) (fun x=>[(1,.bx [1] 0),(3,.d (.sl (some 2) (B.map bD))),(4,.d (i64 x.1))])
  (fun _=>[([1],.box [.d (.sl (some 9) (ns.map enD))])]) [1] (fun x=>ns.length-x.1) ⟨0,Nat.zero_le _,rfl⟩ ?_ ?_
 ·simp only [go_sem]
  all_goals first | rfl | exact ⟨rfl,rfl⟩
 rintro ⟨q,hq,hqn⟩ E0
 refine aC E0 fun Q' hQ E'=>?_
 simp only at hq hqn ⊢
 simp only [go_sem]
 refine ah E' (fun f1=>?_) (fun f1=>?_)<;>simp only [go_sem]
 ·have hq':q<ns.length:=by omega
  have hg:=aP hq'
  have hbq:=qq (B:=B) (i:=q) (by omega)
  rw [hbg q hq'] at hbq
  have hpq:pr q=(decide ((ndE ns q).k=4) && decide ((bH ns q).1<0)):=by rw [hpr]
  obtain ⟨n,hne⟩:∃ n,n=ndE ns q:=⟨_,rfl⟩
  obtain ⟨b,hbe⟩:∃ b,b=bH ns q:=⟨_,rfl⟩
  rw [← hne] at hg hpq
  rw [← hbe] at hbq hpq
  refine ⟨⟨by omega,by omega⟩,?_⟩
  rw [hg]
  simp only [go_sem]
  by_cases hk4:n.k=4
  ·rw [decide_eq_true hk4]
   simp only [go_sem]
   refine ⟨⟨by omega,by omega⟩,?_⟩
   rw [hbq]
   simp only [go_sem]
   refine ah E' (fun f2=>?_) (fun f2=>?_)<;>simp only [go_sem]
   ·rw [decide_eq_true hk4,decide_eq_true f2] at hpq
    have hfq:(List.range ns.length).find? pr=some q:=by
     obtain ⟨r,hr⟩:=jV (i:=q+1) (n:=ns.length) (by omega)
     rw [hr,List.range_succ,List.append_assoc,List.find?_append,hqn,List.singleton_append,List.find?_cons,hpq]
     rfl
    rw [hfq] at hR
    rw [hQ]
    simp only [go_sem]
    rw [← hR]
    refine ⟨[],?_⟩
    simp only [go_sem]
   ·rw [decide_eq_false f2,Bool.and_false] at hpq
    rw [ai ⟨by omega,by omega⟩,hQ]
    simp only [go_sem]
    refine ⟨⟨q+1,by omega,?_⟩,by show ns.length-(q+1)<_;omega,?_⟩
    ·rw [List.range_succ,List.find?_append,hqn,List.find?_cons,hpq]
     rfl
    first | rfl | exact ⟨rfl,rfl⟩
  ·rw [decide_eq_false hk4,Bool.false_and] at hpq
   rw [decide_eq_false hk4]
   simp only [go_sem]
   rw [ai ⟨by omega,by omega⟩,hQ]
   simp only [go_sem]
   refine ⟨⟨q+1,by omega,?_⟩,by show ns.length-(q+1)<_;omega,?_⟩
   ·rw [List.range_succ,List.find?_append,hqn,List.find?_cons,hpq]
    rfl
   first | rfl | exact ⟨rfl,rfl⟩
 ·rw [hQ]
  have h3:q=ns.length:=by omega
  subst h3
  rw [hqn] at hR
  simp only [go_sem]
  rw [← hR]
  refine ⟨[],?_⟩
  simp only [go_sem]
end Go.Proofs.YtejpnabbmgpmaaaGreat

namespace Go.Proofs.YtejpnabbmgpmaaaGreat
open Go.Ab
theorem mG {α:Type} {l:List α} {f:α→List Int} {p:Int→Bool} {j:Nat} (hj:j<l.length):(l.flatMap f).countP p=((l.take j).flatMap f).countP p+((f l[j]).countP p+((l.drop (j+1)).flatMap f).countP p):=by
 have:l.flatMap f=(l.take j).flatMap f++(f l[j]++(l.drop (j+1)).flatMap f):=by
  rw [← List.flatMap_cons,← List.drop_eq_getElem_cons hj,← List.flatMap_append,List.take_append_drop]
 rw [this,List.countP_append,List.countP_append]
theorem wj {ns:List EN} (ht:cW ns) {k:Nat} (h:k<ns.length-1):uD ns k=1:=by
 have hc:=List.all_eq_true.1 ht.once k (by simp;omega)
 simpa using hc
theorem kL {ns:List EN} (ht:cW ns) {i k:Nat} (hi:i<ns.length) (h:k<ns.length-1):(aj (ndE ns i)).countP (fun x=>decide (x=(k:Int)))≤1:=by
 have h1:=wj ht h
 unfold uD at h1
 rw [mG hi,← bG hi] at h1
 omega
theorem wV {ns:List EN} (ht:cW ns) {i j k:Nat} (hi:i<j) (hj:j<ns.length) (h1:(k:Int)∈aj (ndE ns i)) (h2:(k:Int)∈aj (ndE ns j)):False:=by
 have hk:=(aM (aO ht) (show i<ns.length by omega) _ h1).2
 have h3:=wj ht (k:=k) (by omega)
 unfold uD at h3
 rw [mG hj,← bG hj] at h3
 have h4:0<((ns.take j).flatMap aj).countP (fun x=>decide (x=(k:Int))):=by
  refine List.countP_pos_iff.2 ⟨k,List.mem_flatMap.2 ⟨ndE ns i,?_,h1⟩,by simp⟩
  rw [bG (show i<ns.length by omega)]
  exact List.mem_take_iff_getElem.2 ⟨i,by omega,rfl⟩
 have h5:0<(aj (ndE ns j)).countP (fun x=>decide (x=(k:Int))):=List.countP_pos_iff.2 ⟨k,h2,by simp⟩
 omega
theorem m0 {ns:List EN} (ht:cW ns) {i k:Nat} (hi:i<ns.length) (h:(k:Int)∈aj (ndE ns i)):(fJ ns).getD k 0=(i:Int):=by
 have hk:=(aM (aO ht) hi _ h).2
 rcases jI ht (k:=k) (by omega) with ⟨h1,_⟩ | ⟨j,_,h2,h3,h4⟩
 ·omega
 ·rw [h4]
  rcases Nat.lt_trichotomy i j with h5 | h5 | h5
  ·exact (wV ht h5 h2 h h3).elim
  ·rw [h5]
  ·exact (wV ht h5 hi h3 h).elim
def Sees (ns:List EN) (i:Nat) (r:Reach):Prop:=∀ nm m,ns.length≤i+m+1→climb ns (fJ ns) nm m i ((fJ ns).getD i 0)=du r nm
theorem Sees.root {ns:List EN} (ht:cW ns):Sees ns (ns.length-1) []:=fun nm m hm=>by
 have hp:=ht.pos
 rcases jI ht (k:=ns.length-1) (by omega) with ⟨_,h⟩ | ⟨j,h1,h2,_⟩
 ·rw [h]
  cases m with
  | zero=>rfl
  | succ m=>unfold climb;rw [if_pos (by decide)];rfl
 ·omega
theorem Sees.kid {ns:List EN} (ht:cW ns) {i k:Nat} {r r':Reach} (hs:Sees ns i r) (hi:i<ns.length) (h:(k:Int)∈aj (ndE ns i))
  (hb:∀ nm,du r' nm=if b7 (ndE ns i) k nm > -2 then ((i:Int),b7 (ndE ns i) k nm) else du r nm):Sees ns k r':=fun nm m hm=>by
 have hk:=(aM (aO ht) hi _ h).2
 rw [m0 ht hi h,hb nm]
 cases m with
 | zero=>omega
 | succ m =>
   unfold climb
   rw [if_neg (by omega)]
   simp only [Int.toNat_natCast]
   rw [hs nm m (by omega)]
end Go.Proofs.YtejpnabbmgpmaaaGreat

namespace Go.Proofs.YtejpnabbmgpmaaaGreat
open Go.Ab
theorem zp {ns:List EN} {i:Nat} {r:Reach} (hs:Sees ns i r):bH ns i=if (ndE ns i).k=4 then du r (ndE ns i).name else noB:=by
 unfold bH
 split
 ·exact hs _ _ (by omega)
 ·rfl
theorem mg {α:Type} {n q:Nat} {v:Bi} {S:α→Prop} {step:List Bi→α→List Bi} (hlen:∀ l a,(step l a).length=l.length) :
  ∀ (xs:List α),(∀ a∈xs,∀ l,l.length=n→(l.getD q noB=v∨S a)→(step l a).getD q noB=v)→∀ l:List Bi,l.length=n→(l.getD q noB=v∨∃ a∈xs,S a)→(xs.foldl step l).getD q noB=v
 | [],_,l,_,h=>by
   rcases h with h | ⟨a,ha,_⟩
   ·exact h
   ·cases ha
 | x::r,hs,l,hl,h=>by
   rw [List.foldl_cons]
   refine mg hlen r (fun a ha=>hs a (List.mem_cons_of_mem _ ha)) _ (by rw [hlen,hl]) ?_
   rcases h with h | ⟨a,ha,h⟩
   ·exact .inl (hs x List.mem_cons_self l hl (.inl h))
   ·rcases List.mem_cons.1 ha with rfl | ha
    ·exact .inl (hs _ List.mem_cons_self l hl (.inr h))
    ·exact .inr ⟨a,ha,h⟩
theorem dF {ns:List EN} {m:Nat} {i x:Int}:x∈bB ns (m+1) i↔(∃ k∈aj (ndE ns i.toNat),x∈bB ns m k)∨x=i:=by
 show x∈(aj (ndE ns i.toNat)).flatMap (bB ns m)++[i]↔_
 rw [List.mem_append,List.mem_flatMap,List.mem_singleton]
theorem Dh {n:EN} {k:Int} {nm:List UInt8} (h5:n.k≠5) (h7:n.k=7→k≠n.b) (h8:n.k≠8) (h14:n.k=14→∀ j,j<n.l.length→(fdE n.l j).to≠k):b7 n k nm = -2:=by
 unfold b7
 rw [if_neg (by
  rintro (⟨a,_⟩ | ⟨a,_,b⟩ | ⟨a,_⟩)
  ·exact h5 a
  ·exact h7 a b
  ·exact h8 a)]
 split
 ·rename_i h
  rw [show (List.range n.l.length).find? (fun j=>decide ((fdE n.l j).to=k) && decide ((fdE n.l j).var=nm))=none from List.find?_eq_none.2 fun j hj=>by
   simp [h14 h j (List.mem_range.1 hj)]]
 ·rfl
theorem CY {n:EN} {k:Int} {nm:List UInt8} (h:n.k=5∨(n.k=7∧k=n.b)∨n.k=8):b7 n k nm=if n.name=nm then -1 else -2:=by
 unfold b7
 by_cases hn:n.name=nm
 ·have hc:(n.k=5∧n.name=nm)∨(n.k=7∧n.name=nm∧k=n.b)∨(n.k=8∧n.name=nm):=by
   rcases h with a | ⟨a,b⟩ | a
   ·exact .inl ⟨a,hn⟩
   ·exact .inr (.inl ⟨a,hn,b⟩)
   ·exact .inr (.inr ⟨a,hn⟩)
  rw [if_pos hc,if_pos hn]
 ·rw [if_neg (by rintro (⟨_,a⟩ | ⟨_,a,_⟩ | ⟨_,a⟩)<;>exact hn a),if_neg hn,if_neg (by omega)]
theorem oP {ns:List EN} {i:Nat} {k:Int} {r:Reach} {nm:List UInt8} (h:(ndE ns i).k=5∨((ndE ns i).k=7∧k=(ndE ns i).b)∨(ndE ns i).k=8) :
  du (r++[((ndE ns i).name,(i:Int),-1)]) nm=if b7 (ndE ns i) k nm > -2 then ((i:Int),b7 (ndE ns i) k nm) else du r nm:=by
 rw [km,CY h]
 by_cases hn:(ndE ns i).name=nm
 ·rw [if_pos hn,if_pos hn,if_pos (by decide)]
 ·rw [if_neg hn,if_neg hn,if_neg (by decide)]
theorem q6 {ns:List EN} {i:Nat} {k:Int} {r:Reach} {nm:List UInt8} (h5:(ndE ns i).k≠5) (h7:(ndE ns i).k=7→k≠(ndE ns i).b) (h8:(ndE ns i).k≠8) (h14:(ndE ns i).k=14→∀ j,j<(ndE ns i).l.length→(fdE (ndE ns i).l j).to≠k) :
  du r nm=if b7 (ndE ns i) k nm > -2 then ((i:Int),b7 (ndE ns i) k nm) else du r nm:=by
 rw [Dh h5 h7 h8 h14,if_neg (by decide)]
end Go.Proofs.YtejpnabbmgpmaaaGreat

namespace Go.Proofs.YtejpnabbmgpmaaaGreat
open Go.Ab
theorem kC {L:List Int} {x:Int} (h:L.countP (fun y=>decide (y=x))≤1) {j j':Nat} (hjj:j<j') (h1:L[j]?=some x) (h2:L[j']?=some x):False:=by
 have h3:L.countP (fun y=>decide (y=x))=(L.take j').countP (fun y=>decide (y=x))+(L.drop j').countP (fun y=>decide (y=x)):=by
  rw [← List.countP_append,List.take_append_drop]
 obtain ⟨hl2,he2⟩:=List.getElem?_eq_some_iff.1 h2
 obtain ⟨hl1,he1⟩:=List.getElem?_eq_some_iff.1 h1
 have h4:0<(L.take j').countP (fun y=>decide (y=x)):=List.countP_pos_iff.2 ⟨x,List.mem_take_iff_getElem.2 ⟨j,by omega,he1⟩,by simp⟩
 have h5:0<(L.drop j').countP (fun y=>decide (y=x)):=List.countP_pos_iff.2 ⟨x,by rw [List.drop_eq_getElem_cons hl2,he2];exact List.mem_cons_self,by simp⟩
 omega
theorem B6 {n:EN} (h:n.k=14):aj n=n.a::n.l.map (·.to):=by unfold aj aG aI;simp [h]
theorem qV {n:EN} {j:Nat} (h:n.k=14) (hj:j<n.l.length):(aj n)[j+1]?=some (fdE n.l j).to:=by
 rw [B6 h]
 simp [fdE,hj]
theorem Bm {ns:List EN} (ht:cW ns) {i j:Nat} {r:Reach} {nm:List UInt8} (hi:i<ns.length) (h:(ndE ns i).k=14) (hj:j<(ndE ns i).l.length) :
  du (r++[((fdE (ndE ns i).l j).var,(i:Int),(j:Int))]) nm=if b7 (ndE ns i) (fdE (ndE ns i).l j).to nm > -2 then ((i:Int),b7 (ndE ns i) (fdE (ndE ns i).l j).to nm) else du r nm:=by
 have hka:=qV h hj
 have hkm:(fdE (ndE ns i).l j).to∈aj (ndE ns i):=List.mem_of_getElem? hka
 obtain ⟨hn0,hn1⟩:=aM (aO ht) hi _ hkm
 have hon:=kL ht (k:=(fdE (ndE ns i).l j).to.toNat) hi (by omega)
 rw [Int.toNat_of_nonneg hn0] at hon
 have hne:∀ j',j' < (ndE ns i).l.length→(fdE (ndE ns i).l j').to=(fdE (ndE ns i).l j).to→j'=j:=fun j' hj' he=>by
  have hk2:=qV h hj'
  rw [he] at hk2
  rcases Nat.lt_trichotomy j j' with h1 | h1 | h1
  ·exact (kC hon (show j+1<j'+1 by omega) hka hk2).elim
  ·exact h1.symm
  ·exact (kC hon (show j'+1<j+1 by omega) hk2 hka).elim
 rw [km]
 generalize ndE ns i=n at *
 have hb:b7 n (fdE n.l j).to nm=if (fdE n.l j).var=nm then (j:Int) else -2:=by
  unfold b7
  rw [if_neg (by rintro (⟨a,_⟩ | ⟨a,_,_⟩ | ⟨a,_⟩)<;>omega),if_pos h]
  by_cases hv:(fdE n.l j).var=nm
  ·rw [if_pos hv]
   obtain ⟨rr,hrr⟩:=jV (i:=j+1) (n:=n.l.length) (by omega)
   rw [hrr,List.range_succ,List.append_assoc,List.find?_append,List.find?_eq_none.2 (fun j' hj'=>by
    have hlt:=List.mem_range.1 hj'
    have:(fdE n.l j').to≠(fdE n.l j).to:=fun e=>by have:=hne j' (by omega) e;omega
    simp [this]),List.singleton_append,List.find?_cons]
   simp [hv]
  ·rw [if_neg hv,List.find?_eq_none.2 (fun j' hj'=>by
    have hlt:=List.mem_range.1 hj'
    by_cases e:(fdE n.l j').to=(fdE n.l j).to
    ·have:=hne j' hlt e
     subst this
     simp [hv]
    ·simp [e])]
 rw [hb]
 by_cases hv:(fdE n.l j).var=nm
 ·rw [if_pos hv,if_pos hv,if_pos (by omega)]
 ·rw [if_neg hv,if_neg hv,if_neg (by decide)]
end Go.Proofs.YtejpnabbmgpmaaaGreat

namespace Go.Proofs.YtejpnabbmgpmaaaGreat
open Go.Ab
theorem u5 {l:List Bi} {i q:Nat} {v:Bi} (hi:i<l.length):(l.set i v).getD q noB=if q=i then v else l.getD q noB:=by
 by_cases h:q=i
 ·subst h
  rw [if_pos rfl]
  simp [hi]
 ·rw [if_neg h]
  have h2:i≠q:=fun e=>h e.symm
  simp [List.getD_eq_getElem?_getD,List.getElem?_set_ne h2]
theorem qe {ns:List EN} (ht:cW ns):∀ (m i:Nat) (r:Reach) (l:List Bi),i<m→i<ns.length→l.length=ns.length→Sees ns i r→∀ q,q<ns.length→(l.getD q noB=bH ns q∨(q:Int)∈bB ns m i)→(dy ns m i r l).getD q noB=bH ns q
 | 0,_,_,_,h,_,_,_,_,_,_=>absurd h (Nat.not_lt_zero _)
 | m+1,i,r,l,him,hi,hl,hs,q,hq,hg=>by
   have ih:=qe ht m
   have hkn:=aM (aO ht) hi
   have hrs:=zp hs
   have kid:∀ (a:Int) (r':Reach) (l':List Bi),a∈aj (ndE ns i)→l'.length=ns.length→(∀ nm,du r' nm=if b7 (ndE ns i) a nm > -2 then ((i:Int),b7 (ndE ns i) a nm) else du r nm)→(l'.getD q noB=bH ns q∨(q:Int)∈bB ns m a)→(dy ns m a.toNat r' l').getD q noB=bH ns q:=by
    intro a r' l' ha hl' hf hgd
    obtain ⟨h1,h2⟩:=hkn a ha
    obtain ⟨k,rfl⟩:∃ k:Nat,a=(k:Int):=⟨a.toNat,by omega⟩
    rw [Int.toNat_natCast]
    exact ih k r' l' (by omega) (by omega) hl' (hs.kid ht hi ha hf) q hq hgd
   rw [dF] at hg
   simp only [Int.toNat_natCast] at hg
   have hg2:(l.getD q noB=bH ns q∨q=i)∨∃ k∈aj (ndE ns i),(q:Int)∈bB ns m k:=by
    rcases hg with h | h | h
    ·exact .inl (.inl h)
    ·exact .inr h
    ·exact .inl (.inr (by omega))
   have h0l:(l.set i noB).length=ns.length:=by rw [List.length_set,hl]
   have h0:(ndE ns i).k≠4→(l.getD q noB=bH ns q∨q=i)→(l.set i noB).getD q noB=bH ns q:=by
    intro h4 h
    rw [u5 (by omega)]
    by_cases hqi:q=i
    ·rw [if_pos hqi,hqi,hrs,if_neg h4]
    ·rw [if_neg hqi]
     exact h.resolve_right hqi
   have hkd:aj (ndE ns i)=[(ndE ns i).a,(ndE ns i).b,(ndE ns i).c].take (aG (ndE ns i).k)++(if aI (ndE ns i).k then (ndE ns i).l.map (·.to) else []):=rfl
   unfold dy
   simp only
   by_cases h4:(ndE ns i).k=4
   ·rw [if_pos h4,u5 (by omega)]
    by_cases hqi:q=i
    ·rw [if_pos hqi,hqi,hrs,if_pos h4]
    ·rw [if_neg hqi,u5 (by omega),if_neg hqi]
     rcases hg2 with h | ⟨k,hk,_⟩
     ·exact h.resolve_right hqi
     ·rw [hkd,h4] at hk
      simp [aG,aI] at hk
   have hg3:(l.set i noB).getD q noB=bH ns q∨∃ k∈aj (ndE ns i),(q:Int)∈bB ns m k:=hg2.imp (h0 h4) id
   rw [if_neg h4]
   by_cases h5:(ndE ns i).k=5
   ·rw [if_pos h5]
    have hke:aj (ndE ns i)=[(ndE ns i).a]:=by rw [hkd,h5];simp [aG,aI]
    refine kid _ _ _ (by rw [hke];exact List.mem_singleton_self _) h0l (fun nm=>oP (.inl h5)) (hg3.imp id fun ⟨k,hk,hb⟩=>?_)
    rw [hke,List.mem_singleton] at hk
    rw [← hk];exact hb
   rw [if_neg h5]
   by_cases h7:(ndE ns i).k=7
   ·rw [if_pos h7]
    have hke:aj (ndE ns i)=[(ndE ns i).a,(ndE ns i).b]:=by rw [hkd,h7];simp [aG,aI]
    have ham:(ndE ns i).a∈aj (ndE ns i):=by rw [hke];simp
    have hab:(ndE ns i).a≠(ndE ns i).b:=by
     intro e
     obtain ⟨h1,h2⟩:=hkn _ ham
     have hon:=kL ht (k:=(ndE ns i).a.toNat) hi (by omega)
     rw [Int.toNat_of_nonneg h1] at hon
     exact kC hon (j:=0) (j':=1) (by omega) (by rw [hke];rfl) (by rw [hke,e];rfl)
    refine kid _ _ _ (by rw [hke];simp) (by rw [dV,h0l]) (fun nm=>oP (.inr (.inl ⟨h7,rfl⟩))) ?_
    rcases hg3 with h | ⟨k,hk,hb⟩
    ·exact .inl (kid _ _ _ ham h0l (fun nm=>q6 h5 (fun _=>hab) (by omega) (fun h=>by omega)) (.inl h))
    ·rw [hke] at hk
     rcases List.mem_cons.1 hk with rfl | hk
     ·exact .inl (kid _ _ _ ham h0l (fun nm=>q6 h5 (fun _=>hab) (by omega) (fun h=>by omega)) (.inr hb))
     ·rw [List.mem_singleton] at hk
      exact .inr (by rw [← hk];exact hb)
   rw [if_neg h7]
   by_cases h8:(ndE ns i).k=8
   ·rw [if_pos h8]
    have hke:aj (ndE ns i)=[(ndE ns i).a,(ndE ns i).b]:=by rw [hkd,h8];simp [aG,aI]
    have ham:(ndE ns i).a∈aj (ndE ns i):=by rw [hke];simp
    refine kid _ _ _ (by rw [hke];simp) (by rw [dV,h0l]) (fun nm=>oP (.inr (.inr h8))) ?_
    rcases hg3 with h | ⟨k,hk,hb⟩
    ·exact .inl (kid _ _ _ ham h0l (fun nm=>oP (.inr (.inr h8))) (.inl h))
    ·rw [hke] at hk
     rcases List.mem_cons.1 hk with rfl | hk
     ·exact .inl (kid _ _ _ ham h0l (fun nm=>oP (.inr (.inr h8))) (.inr hb))
     ·rw [List.mem_singleton] at hk
      exact .inr (by rw [← hk];exact hb)
   rw [if_neg h8]
   by_cases h14:(ndE ns i).k=14
   ·rw [if_pos h14]
    have hke:=B6 h14
    have ham:(ndE ns i).a∈aj (ndE ns i):=by rw [hke];exact List.mem_cons_self
    have han:∀ j,j<(ndE ns i).l.length→(fdE (ndE ns i).l j).to≠(ndE ns i).a:=by
     intro j hj e
     obtain ⟨h1,h2⟩:=hkn _ ham
     have hon:=kL ht (k:=(ndE ns i).a.toNat) hi (by omega)
     rw [Int.toNat_of_nonneg h1] at hon
     exact kC hon (j:=0) (j':=j+1) (by omega) (by rw [hke];rfl) (by rw [qV h14 hj,e])
    have ha:=fun h=>kid _ _ _ ham h0l (fun nm=>q6 (r:=r) h5 (fun h=>absurd h h7) h8 (fun _=>han)) h
    refine mg (n:=ns.length) (S:=fun j=>(q:Int)∈bB ns m (fdE (ndE ns i).l j).to) (fun l a=>dV _ _ _ _ _) _ (fun j hj l' hl' hgd=>?_) _ (by rw [dV,h0l]) ?_
    ·have hjl:=List.mem_range.1 hj
     exact kid _ _ _ (List.mem_of_getElem? (qV h14 hjl)) hl' (fun nm=>Bm ht hi h14 hjl) hgd
    ·rcases hg3 with h | ⟨k,hk,hb⟩
     ·exact .inl (ha (.inl h))
     ·rw [hke] at hk
      rcases List.mem_cons.1 hk with rfl | hk
      ·exact .inl (ha (.inr hb))
      ·obtain ⟨j,hj,hjk⟩:=List.getElem_of_mem hk
       have hjl:j<(ndE ns i).l.length:=by simpa using hj
       refine .inr ⟨j,List.mem_range.2 hjl,?_⟩
       have:(fdE (ndE ns i).l j).to=k:=by rw [← hjk];simp [fdE,hjl]
       rw [this];exact hb
   rw [if_neg h14]
   exact mg (n:=ns.length) (S:=fun k=>(q:Int)∈bB ns m k) (fun l a=>dV _ _ _ _ _) _ (fun k hk l' hl' hgd=>kid _ _ _ hk hl' (fun nm=>q6 h5 (fun h=>absurd h h7) h8 (fun h=>absurd h h14)) hgd) _ h0l hg3
end Go.Proofs.YtejpnabbmgpmaaaGreat

namespace Go.Proofs.YtejpnabbmgpmaaaGreat
open Go.Ab
theorem n9 {ns:List EN} (hk:∀ i,i<ns.length→(aj (ndE ns i)).all (inB i)=true) {j:Nat} {x:Int} (hx:x∈aj (ndE ns j)):∀ (m i:Nat),i<m→i<ns.length→(j:Int)∈bB ns m i→x∈bB ns m i
 | 0,_,h,_,_=>absurd h (Nat.not_lt_zero _)
 | m+1,i,him,hi,hj=>by
   rw [dF] at hj ⊢
   simp only [Int.toNat_natCast] at hj ⊢
   rcases hj with ⟨c,hc,hjc⟩ | hj
   ·obtain ⟨h1,h2⟩:=aM hk hi c hc
    obtain ⟨c,rfl⟩:∃ k:Nat,c=(k:Int):=⟨c.toNat,by omega⟩
    exact .inl ⟨_,hc,n9 hk hx m c (by omega) (by omega) hjc⟩
   ·have:j=i:=by omega
    subst this
    refine .inl ⟨x,hx,?_⟩
    obtain ⟨h1,h2⟩:=aM hk hi x hx
    cases m with
    | zero=>omega
    | succ m=>exact dF.2 (.inr rfl)
theorem nw {ns:List EN} (ht:cW ns):∀ (d k:Nat),ns.length-1-k≤d→k<ns.length→(k:Int)∈bB ns ns.length ((ns.length-1:Nat):Int)
 | d,k,hd,hkn=>by
   have hp:=ht.pos
   rcases jI ht hkn with ⟨h1,_⟩ | ⟨j,h1,h2,h3,_⟩
   ·obtain ⟨n,hn⟩:∃ n,ns.length=n+1:=⟨ns.length-1,by omega⟩
    rw [hn]
    exact dF.2 (.inr (by omega))
   ·cases d with
    | zero=>omega
    | succ d=>exact n9 (aO ht) h3 _ _ (by omega) (by omega) (nw ht d j (by omega) h2)
theorem pY {ns:List EN} (ht:cW ns):fG ns=bn ns:=by
 have hp:=ht.pos
 refine List.ext_getElem (by rw [gJ,eB]) fun q h1 h2=>?_
 rw [gJ] at h1
 have h:=qe ht ns.length (ns.length-1) [] (List.replicate ns.length (0,0)) (by omega) (by omega) (by simp) (.root ht) q h1 (.inr (nw ht _ q (Nat.le_refl _) h1))
 have h3:(fG ns).getD q noB=(fG ns)[q]:=by simp [gJ,h1]
 have h4:(bn ns)[q]=bH ns q:=by simp [bn]
 rw [← h3,h4]
 exact h
theorem head_filter {α:Type} (p:α→Bool):∀ l:List α,(l.filter p).head?=l.find? p
 | []=>rfl
 | x::r=>by
   rw [List.filter_cons,List.find?_cons]
   cases h:p x
   ·simp
   ·simp
theorem BK {ns:List EN} (ht:cW ns):(iH ns).head?=(List.range ns.length).find? (fun i=>decide ((ndE ns i).k=4) && decide ((bH ns i).1<0)):=by
 unfold iH
 rw [head_filter]
 have:∀ i∈List.range ns.length,dY ns (fG ns) i=(decide ((ndE ns i).k=4) && decide ((bH ns i).1<0)):=fun i hi=>by
  have hin:=List.mem_range.1 hi
  unfold dY
  rw [pY ht]
  rw [show (bn ns).getD i noB=bH ns i by simp [bn,hin]]
 have key:∀ (l:List Nat) (p q:Nat→Bool),(∀ i∈l,p i=q i)→l.find? p=l.find? q:=by
  intro l p q
  induction l with
  | nil=>intro _;rfl
  | cons x r ih =>
    intro h
    rw [List.find?_cons,List.find?_cons,h x List.mem_cons_self,ih (fun i hi=>h i (List.mem_cons_of_mem _ hi))]
 exact key _ _ _ this
theorem ve {ns:List EN} (hm:cH ns=0):((fj ns).2=0↔b9 ns<0)∧((fj ns).2≠0→(fj ns).2=10):=by
 have h:=BK (pM hm)
 unfold fj b9
 rw [if_pos hm,← h]
 cases iH ns with
 | nil=>simp
 | cons i r=>simp
end Go.Proofs.YtejpnabbmgpmaaaGreat

namespace Go.Proofs.YtejpnabbmgpmaaaGreat
open Go.Ab
def bp (ns:List EN):Nat→Int→Int→Bool
 | 0,_,_=>false
 | m+1,a,x=>decide (a=x) || (aj (ndE ns a.toNat)).any (fun k=>bp ns m k x)
set_option maxHeartbeats 1000000 in
theorem qO {G} (ns:List EN) (hs:∀ n∈ns,n.l.length≤1000000) (hk:∀ i,i<ns.length→(aj (ndE ns i)).all (inB i)=true) (x:Int) :
  ∀ (m i:Nat),i<m→i<ns.length→HP Tryz.prog G 164 [exD ns,i64 (i:Int),i64 x] (fun r=>r=.d (.bool (bp ns m i x)))
 | 0,_,h,_=>absurd h (Nat.not_lt_zero _)
 | m+1,i,him,hi=>by
   have ih:=qO (G:=G) ns hs hk x m
   have hg:=aP hi
   have hsi:=hs _ (by rw [bG hi];exact List.getElem_mem hi:ndE ns i∈ns)
   have hkn:=aM hk hi
   have hw:bp ns (m+1) i x=(decide ((i:Int)=x) || (aj (ndE ns i)).any (fun k=>bp ns m k x)):=rfl
   have hkc:=mA (G:=G) (ndE ns i) hsi
   obtain ⟨n,hne⟩:∃ n,n=ndE ns i:=⟨_,rfl⟩
   rw [← hne] at hg hsi hkn hw hkc
   obtain ⟨K,hK⟩:∃ K,K=aj n:=⟨_,rfl⟩
   have hKl:K.length≤1000003:=by rw [hK,bt];unfold bf;have:=bC n.k;split<;>omega
   rw [← hK] at hkc hkn hw
   generalize hR:bp ns (m+1) i x=R at hw ⊢
   unfold exD at ih ⊢
   refine ax Tryz.func164 rfl (by decide +kernel) (by simp [Tryz.ntmps164]) (veil fun E=>?_)
   simp only [go_sem]
   refine ah E (fun g1=>?_) (fun g1=>?_)<;>simp only [go_sem]
   ·rw [hw,decide_eq_true g1,Bool.true_or]
    refine ⟨[],?_⟩
    simp only [go_sem]
   rw [decide_eq_false g1,Bool.false_or] at hw
   refine ⟨⟨by omega,by omega⟩,?_⟩
   rw [hg]
   simp only [go_sem]
   refine ag E hkc rfl rfl (by simp) ?_
   rintro _ rfl
   simp only [go_sem]
   refine bl E (X:={ q:Nat // q≤K.length∧(K.take q).any (fun k=>bp ns m k x)=false }) (fun x1=>[(2,.d (i64 x)),(3,.bx [3] 0),(7,.d (.sl none (K.map i64))),(8,.d (i64 x1.1))])
    (fun _=>[([3],.box [.d (.sl (some 9) (ns.map enD))])]) [3] (fun x1=>K.length-x1.1) ⟨0,Nat.zero_le _,rfl⟩ ?_ ?_
   ·simp only [go_sem]
    all_goals first | rfl | exact ⟨rfl,rfl⟩
   rintro ⟨q,hq,hqn⟩ E0
   refine aC E0 fun Q' hQ E'=>?_
   simp only at hq hqn ⊢
   simp only [go_sem]
   refine ah E' (fun f1=>?_) (fun f1=>?_)<;>simp only [go_sem]
   ·have hq':q<K.length:=by omega
    obtain ⟨h1,h2⟩:=hkn K[q] (List.getElem_mem hq')
    obtain ⟨k,hkk⟩:∃ k:Nat,K[q]=(k:Int):=⟨K[q].toNat,by omega⟩
    have hc:=ih k (by omega) (by omega)
    obtain ⟨b,hb⟩:∃ b,b=bp ns m (k:Int) x:=⟨_,rfl⟩
    rw [← hb] at hc
    have hstep:(K.take (q+1)).any (fun k=>bp ns m k x)=b:=by
     rw [List.take_succ_eq_append_getElem hq',List.any_append,hqn,hkk,hb]
     simp
    refine ak mixed E' fun X=>?_
    simp only [go_sem]
    refine ⟨⟨by omega,by omega⟩,?_⟩
    rw [aw hq',show K.getD q 0=(k:Int) by simp [hq',hkk]]
    simp only [go_sem]
    refine bK X hc rfl rfl (by simp) ?_
    simp only [go_sem]
    refine ⟨by decide +kernel,?_⟩
    cases b with
    | true =>
      simp only [go_sem]
      rw [hQ]
      simp only [go_sem]
      have:R=true:=by
       rw [hw,← List.take_append_drop (q+1) K,List.any_append,hstep,Bool.true_or]
      rw [this]
      refine ⟨[],?_⟩
      simp only [go_sem]
    | false =>
      simp only [go_sem]
      rw [ai ⟨by omega,by omega⟩,hQ]
      simp only [go_sem]
      refine ⟨⟨q+1,by omega,hstep⟩,by show K.length-(q+1)<_;omega,?_⟩
      first | rfl | exact ⟨rfl,rfl⟩
   ·have h3:q=K.length:=by omega
    subst h3
    rw [List.take_length] at hqn
    rw [hqn] at hw
    rw [hQ]
    simp only [go_sem]
    rw [hw]
    refine ⟨[],?_⟩
    simp only [go_sem]
end Go.Proofs.YtejpnabbmgpmaaaGreat

namespace Go.Proofs.YtejpnabbmgpmaaaGreat
open Go.Ab
def rQ (ns:List EN):Int:=if cH ns≠0 then cH ns else if 0≤b9 ns then 10 else 0
theorem Hh {G} (ns:List EN) (hs:∀ n∈ns,dx BIG n) (hN:ns.length≤1000000) (hl:∀ n∈ns,n.l.length≤1000000):HP Tryz.prog G 64 [exD ns] (fun r=>r=.d (i64 (rQ ns))):=by
 have hm:=sn (G:=G) ns hs hN
 generalize hR:rQ ns=R
 unfold rQ at hR
 by_cases h0:cH ns=0
 ·have ht:=pM h0
  have hc:=Ej (G:=G) ns ht hN hl
  rw [if_neg (by simp [h0])] at hR
  rw [h0] at hm
  obtain ⟨c,hce⟩:∃ c,c=b9 ns:=⟨_,rfl⟩
  rw [← hce] at hc hR
  unfold exD at hm hc ⊢
  refine ax Tryz.func64 rfl (by decide +kernel) (by simp [Tryz.ntmps64]) (veil fun E=>?_)
  simp only [go_sem]
  refine ag E hm rfl rfl (by simp) ?_
  rintro _ rfl
  simp only [go_sem]
  refine ag E hc rfl rfl (by simp) ?_
  rintro _ rfl
  simp only [go_sem]
  refine ah E (fun g1=>?_) (fun g1=>?_)<;>simp only [go_sem]
  ·rw [if_pos (by omega)] at hR
   rw [← hR]
   refine ⟨[],?_⟩
   simp only [go_sem]
  ·rw [if_neg (by omega)] at hR
   rw [← hR]
   refine ⟨[],?_⟩
   simp only [go_sem]
 ·rw [if_pos h0] at hR
  rw [hR] at hm h0
  unfold exD at hm ⊢
  refine ax Tryz.func64 rfl (by decide +kernel) (by simp [Tryz.ntmps64]) (veil fun E=>?_)
  simp only [go_sem]
  refine ag E hm rfl rfl (by simp) ?_
  rintro _ rfl
  simp only [go_sem]
  refine ah E (fun h1=>?_) (fun h1=>absurd h1 (by simpa using h0))<;>simp only [go_sem]
  refine ⟨[],?_⟩
  simp only [go_sem]
theorem EA (ns:List EN):(cH ns=0∧(fj ns).2=0)↔rQ ns=0:=by
 unfold rQ
 by_cases h0:cH ns=0
 ·have h:=(ve h0).1
  rw [if_neg (by simp [h0])]
  by_cases hc:0≤b9 ns
  ·rw [if_pos hc]
   simp [h0,h]
   omega
  ·rw [if_neg hc]
   simp [h0,h]
   omega
 ·simp [h0]
end Go.Proofs.YtejpnabbmgpmaaaGreat

namespace Go.Proofs.YtejpnabbmgpmaaaGreat
open Go.Ab
theorem GF {G} (s:List UInt8):HP Tryz.prog G 25 [.str s] (fun r=>r=.d (.str (s.take 500))):=by
 refine al Tryz.func25 rfl (by decide +kernel) (by simp [Tryz.ntmps25]) (veil fun E=>?_)
 simp only [go_sem]
 split
 ·refine ⟨⟨by omega,by omega⟩,?_⟩
  rfl
 ·refine ⟨⟨by omega,by omega⟩,?_⟩
  rw [List.take_of_length_le (by omega),List.take_of_length_le (by omega)]
end Go.Proofs.YtejpnabbmgpmaaaGreat

namespace Go.Proofs.YtejpnabbmgpmaaaGreat
open Go.Ab
theorem jw {ns:List EN} (hk:∀ i,i<ns.length→(aj (ndE ns i)).all (inB i)=true):∀ (m i:Nat),i<ns.length→∀ x∈bB ns m i,0≤x∧x≤(i:Int)
 | 0,_,_,_,h=>by cases h
 | m+1,i,hi,x,h=>by
   rw [dF] at h
   simp only [Int.toNat_natCast] at h
   rcases h with ⟨c,hc,h⟩ | h
   ·obtain ⟨h1,h2⟩:=aM hk hi c hc
    obtain ⟨c,rfl⟩:∃ k:Nat,c=(k:Int):=⟨c.toNat,by omega⟩
    have:=jw hk m c (by omega) x h
    omega
   ·omega
theorem k9 {ns:List EN} (ht:cW ns):∀ (m i:Nat),i<ns.length→∀ x:Nat,(x:Int)∈bB ns m i→x≠i→(fJ ns).getD x 0∈bB ns m i
 | 0,_,_,_,h,_=>by cases h
 | m+1,i,hi,x,h,hne=>by
   rw [dF] at h ⊢
   simp only [Int.toNat_natCast] at h ⊢
   rcases h with ⟨c,hc,h⟩ | h
   ·obtain ⟨h1,h2⟩:=aM (aO ht) hi c hc
    obtain ⟨c,rfl⟩:∃ k:Nat,c=(k:Int):=⟨c.toNat,by omega⟩
    by_cases hxc:x=c
    ·subst hxc
     exact .inr (m0 ht hi hc)
    ·exact .inl ⟨_,hc,k9 ht m c (by omega) x h hxc⟩
   ·omega
theorem qF {ns:List EN} (ht:cW ns) {m i c d:Nat} (hi:i<ns.length) (hc:(c:Int)∈aj (ndE ns i)) (hd:(d:Int)∈aj (ndE ns i)) (hcd:c≠d):∀ (f x:Nat),i≤x+f→(x:Int)∈bB ns m c→(x:Int)∈bB ns m d→False
 | f,x,hf,h1,h2=>by
   have hk:=aO ht
   have hci:=(aM hk hi _ hc).2
   have hdi:=(aM hk hi _ hd).2
   have hxc:=(jw hk m c (by omega) _ h1).2
   have hxd:=(jw hk m d (by omega) _ h2).2
   by_cases e1:x=c
   ·subst e1
    have:=k9 ht m d (by omega) x h2 hcd
    rw [m0 ht hi hc] at this
    have:=(jw hk m d (by omega) _ this).2
    omega
   by_cases e2:x=d
   ·subst e2
    have:=k9 ht m c (by omega) x h1 (fun e=>hcd e.symm)
    rw [m0 ht hi hd] at this
    have:=(jw hk m c (by omega) _ this).2
    omega
   have p1:=k9 ht m c (by omega) x h1 e1
   have p2:=k9 ht m d (by omega) x h2 e2
   rcases jI ht (k:=x) (by omega) with ⟨h3,_⟩ | ⟨j,h3,_,_,h4⟩
   ·omega
   ·rw [h4] at p1 p2
    cases f with
    | zero=>omega
    | succ f=>exact qF ht hi hc hd hcd f j (by omega) p1 p2
theorem vX {ns:List EN} (ht:cW ns) {i:Nat} (hi:i<ns.length):(aj (ndE ns i)).Nodup:=by
 refine List.pairwise_iff_getElem.2 fun a b ha hb hab e=>?_
 have hm:=List.getElem_mem ha
 obtain ⟨h1,h2⟩:=aM (aO ht) hi _ hm
 have hon:=kL ht (k:=((aj (ndE ns i))[a]).toNat) hi (by omega)
 rw [Int.toNat_of_nonneg h1] at hon
 exact kC hon hab (List.getElem?_eq_getElem ha) (by rw [List.getElem?_eq_getElem hb,e])
theorem l8 {ns:List EN} (ht:cW ns):∀ (m i:Nat),i<ns.length→(bB ns m i).Nodup
 | 0,_,_=>List.Pairwise.nil
 | m+1,i,hi=>by
   have hk:=aO ht
   show (((aj (ndE ns (i:Int).toNat)).flatMap (bB ns m))++[(i:Int)]).Nodup
   rw [Int.toNat_natCast]
   refine List.pairwise_append.2 ⟨List.pairwise_flatMap.2 ⟨fun c hc=>?_,?_⟩,List.pairwise_singleton _ _,?_⟩
   ·obtain ⟨h1,h2⟩:=aM hk hi c hc
    obtain ⟨c,rfl⟩:∃ k:Nat,c=(k:Int):=⟨c.toNat,by omega⟩
    exact l8 ht m c (by omega)
   ·refine (vX ht hi).imp_of_mem fun {c d} hc hd hcd x hx y hy e=>?_
    subst e
    obtain ⟨h1,h2⟩:=aM hk hi c hc
    obtain ⟨h3,h4⟩:=aM hk hi d hd
    obtain ⟨c,rfl⟩:∃ k:Nat,c=(k:Int):=⟨c.toNat,by omega⟩
    obtain ⟨d,rfl⟩:∃ k:Nat,d=(k:Int):=⟨d.toNat,by omega⟩
    have hx0:=(jw hk m c (by omega) _ hx).1
    obtain ⟨x,rfl⟩:∃ k:Nat,x=(k:Int):=⟨x.toNat,by omega⟩
    exact qF ht hi hc hd (by omega) i x (by omega) hx hy
   ·intro x hx y hy e
    rw [List.mem_singleton] at hy
    obtain ⟨c,hc,hxc⟩:=List.mem_flatMap.1 hx
    obtain ⟨h1,h2⟩:=aM hk hi c hc
    obtain ⟨c,rfl⟩:∃ k:Nat,c=(k:Int):=⟨c.toNat,by omega⟩
    have:=(jw hk m c (by omega) _ hxc).2
    omega
end Go.Proofs.YtejpnabbmgpmaaaGreat

namespace Go.Proofs.YtejpnabbmgpmaaaGreat
open Go.Ab
theorem ui {α β:Type} {f g:α→List β}:∀ {l:List α},(∀ a∈l,f a=g a)→l.flatMap f=l.flatMap g
 | [],_=>rfl
 | x::r,h=>by rw [List.flatMap_cons,List.flatMap_cons,h x List.mem_cons_self,ui (fun a ha=>h a (List.mem_cons_of_mem _ ha))]
theorem oT {ns:List EN} (hk:∀ i,i<ns.length→(aj (ndE ns i)).all (inB i)=true):∀ (m m' i:Nat),i<m→i<m'→i<ns.length→bB ns m i=bB ns m' i
 | 0,_,_,h,_,_=>absurd h (Nat.not_lt_zero _)
 | _+1,0,_,_,h,_=>absurd h (Nat.not_lt_zero _)
 | m+1,m'+1,i,h1,h2,hi=>by
   show (aj (ndE ns (i:Int).toNat)).flatMap (bB ns m)++[(i:Int)]=(aj (ndE ns (i:Int).toNat)).flatMap (bB ns m')++[(i:Int)]
   rw [Int.toNat_natCast,ui (fun c hc=>?_)]
   obtain ⟨h3,h4⟩:=aM hk hi c hc
   obtain ⟨c,rfl⟩:∃ k:Nat,c=(k:Int):=⟨c.toNat,by omega⟩
   exact oT hk m m' c (by omega) (by omega) (by omega)
theorem og {ns:List EN} (hk:∀ i,i<ns.length→(aj (ndE ns i)).all (inB i)=true):∀ (m i:Nat),i<m→i<ns.length→∀ j:Nat,(j:Int)∈bB ns m i→∃ p s,bB ns m i=p++(bB ns m j++s)
 | 0,_,h,_,_,_=>absurd h (Nat.not_lt_zero _)
 | m+1,i,him,hi,j,hj=>by
   by_cases hij:j=i
   ·subst hij
    exact ⟨[],[],by simp⟩
   rw [dF] at hj
   simp only [Int.toNat_natCast] at hj
   rcases hj with ⟨c,hc,hjc⟩ | hj
   ·obtain ⟨h1,h2⟩:=aM hk hi c hc
    obtain ⟨c,rfl⟩:∃ k:Nat,c=(k:Int):=⟨c.toNat,by omega⟩
    have hjl:=(jw hk m c (by omega) _ hjc).2
    obtain ⟨p,s,hps⟩:=og hk m c (by omega) (by omega) j hjc
    obtain ⟨K1,K2,hK⟩:=List.append_of_mem hc
    refine ⟨K1.flatMap (bB ns m)++p,s++(K2.flatMap (bB ns m)++[(i:Int)]),?_⟩
    show (aj (ndE ns (i:Int).toNat)).flatMap (bB ns m)++[(i:Int)]=_
    rw [Int.toNat_natCast,hK,List.flatMap_append,List.flatMap_cons,hps,oT hk (m+1) m j (by omega) (by omega) (by omega)]
    simp only [List.append_assoc]
   ·omega
theorem ki {ns:List EN} (hk:∀ i,i<ns.length→(aj (ndE ns i)).all (inB i)=true) (x:Int):∀ (m i:Nat),i<m→i<ns.length→(bp ns m i x=true↔x∈bB ns m i)
 | 0,_,h,_=>absurd h (Nat.not_lt_zero _)
 | m+1,i,him,hi=>by
   rw [dF]
   unfold bp
   simp only [Int.toNat_natCast,Bool.or_eq_true,decide_eq_true_eq,List.any_eq_true]
   constructor
   ·rintro (h | ⟨c,hc,h⟩)
    ·exact .inr h.symm
    ·obtain ⟨h1,h2⟩:=aM hk hi c hc
     obtain ⟨c,rfl⟩:∃ k:Nat,c=(k:Int):=⟨c.toNat,by omega⟩
     exact .inl ⟨_,hc,(ki hk x m c (by omega) (by omega)).1 h⟩
   ·rintro (⟨c,hc,h⟩ | h)
    ·obtain ⟨h1,h2⟩:=aM hk hi c hc
     obtain ⟨c,rfl⟩:∃ k:Nat,c=(k:Int):=⟨c.toNat,by omega⟩
     exact .inr ⟨_,hc,(ki hk x m c (by omega) (by omega)).2 h⟩
    ·exact .inl h.symm
def rkE (ns:List EN) (i:Nat):Nat:=(bB ns ns.length ((ns.length-1:Nat):Int)).idxOf (i:Int)
theorem AJ {l P Q:List Int} {u v:Int} (hl:l=P++Q) (hn:l.Nodup) (hu:u∈P) (hv:v∈Q):l.idxOf u<l.idxOf v:=by
 subst hl
 have hvP:v ∉ P:=fun h=>(List.nodup_append.1 hn).2.2 v h v hv rfl
 rw [List.idxOf_append,List.idxOf_append,if_pos hu,if_neg hvP]
 have:=List.idxOf_lt_length_of_mem hu
 omega
theorem sk {ns:List EN} (ht:cW ns) {i k:Nat} (hi:i<ns.length) (hk:(k:Int)∈aj (ndE ns i)):rkE ns k<rkE ns i:=by
 have hkk:=aO ht
 have hp:=ht.pos
 obtain ⟨p,s,h⟩:=og hkk ns.length (ns.length-1) (by omega) (by omega) i (nw ht _ i (Nat.le_refl _) hi)
 have hnd:=l8 ht ns.length (ns.length-1) (by omega)
 obtain ⟨m,hm⟩:∃ m,ns.length=m+1:=⟨ns.length-1,by omega⟩
 have hb:bB ns ns.length i=(aj (ndE ns i)).flatMap (bB ns m)++[(i:Int)]:=by
  rw [hm]
  show (aj (ndE ns (i:Int).toNat)).flatMap (bB ns m)++[(i:Int)]=_
  rw [Int.toNat_natCast]
 unfold rkE
 refine AJ (P:=p++(aj (ndE ns i)).flatMap (bB ns m)) (Q:=[(i:Int)]++s) (by rw [h,hb];simp only [List.append_assoc]) hnd (List.mem_append_right _ (List.mem_flatMap.2 ⟨_,hk,?_⟩)) (List.mem_append_left _ (List.mem_singleton_self _))
 obtain ⟨h1,h2⟩:=aM hkk hi _ hk
 obtain ⟨m',hm'⟩:∃ m',m=m'+1:=⟨m-1,by omega⟩
 rw [hm']
 exact dF.2 (.inr rfl)
theorem Gm {ns:List EN} (ht:cW ns) {i x a:Nat} {b:Int} (hx:x<ns.length) (hab:aj (ndE ns x)=[(a:Int),b]) (hix:(i:Int)∈bB ns ns.length x) (_hne:i≠x) (hia:(i:Int) ∉ bB ns ns.length a):rkE ns a<rkE ns i:=by
 have hkk:=aO ht
 have hp:=ht.pos
 obtain ⟨p,s,h⟩:=og hkk ns.length (ns.length-1) (by omega) (by omega) x (nw ht _ x (Nat.le_refl _) hx)
 have hnd:=l8 ht ns.length (ns.length-1) (by omega)
 obtain ⟨m,hm⟩:∃ m,ns.length=m+1:=⟨ns.length-1,by omega⟩
 obtain ⟨h1,h2⟩:=aM hkk hx (a:Int) (by rw [hab];exact List.mem_cons_self)
 have hb:bB ns ns.length x=bB ns m a++(bB ns m b++[(x:Int)]):=by
  rw [hm]
  show (aj (ndE ns (x:Int).toNat)).flatMap (bB ns m)++[(x:Int)]=_
  rw [Int.toNat_natCast,hab]
  simp
 rw [oT hkk ns.length m a (by omega) (by omega) (by omega)] at hia
 have hin:(i:Int)∈bB ns m b++[(x:Int)]:=by
  rw [hb] at hix
  exact (List.mem_append.1 hix).resolve_left hia
 unfold rkE
 refine AJ (P:=p++bB ns m a) (Q:=(bB ns m b++[(x:Int)])++s) (by rw [h,hb];simp only [List.append_assoc]) hnd (List.mem_append_right _ ?_) (List.mem_append_left _ hin)
 obtain ⟨m',hm'⟩:∃ m',m=m'+1:=⟨m-1,by omega⟩
 rw [hm']
 exact dF.2 (.inr rfl)
theorem mi {ns:List EN} (ht:cW ns) {nm:List UInt8}:∀ (m c:Nat),c<ns.length→0≤(climb ns (fJ ns) nm m c ((fJ ns).getD c 0)).1→∃ x:Nat,(climb ns (fJ ns) nm m c ((fJ ns).getD c 0)).1=(x:Int)∧x<ns.length∧(c:Int)∈bB ns ns.length x
 | 0,_,_,h=>absurd h (by show ¬ (0:Int)≤noB.1;decide)
 | m+1,c,hc,h=>by
   unfold climb at h ⊢
   rcases jI ht hc with ⟨_,h2⟩ | ⟨j,h1,h2,h3,h4⟩
   ·rw [h2,if_pos (by decide)] at h
    exact absurd h (by decide)
   rw [h4] at h ⊢
   rw [if_neg (by omega)] at h ⊢
   simp only [Int.toNat_natCast] at h ⊢
   obtain ⟨n,hn⟩:∃ n,ns.length=n+1:=⟨ns.length-1,by omega⟩
   split
   ·refine ⟨j,rfl,h2,?_⟩
    rw [hn]
    refine dF.2 (.inl ⟨(c:Int),by rw [Int.toNat_natCast];exact h3,?_⟩)
    obtain ⟨n',hn'⟩:∃ n',n=n'+1:=⟨n-1,by omega⟩
    rw [hn']
    exact dF.2 (.inr rfl)
   ·rename_i hb
    rw [if_neg hb] at h
    obtain ⟨x,hx1,hx2,hx3⟩:=mi ht m j h2 h
    exact ⟨x,hx1,hx2,n9 (aO ht) h3 _ _ hx2 hx2 hx3⟩
def gi (ns:List EN) (i:Nat):Option Int :=
 if 0≤(bH ns i).1∧((ndE ns (bH ns i).1.toNat).k=7∨(ndE ns (bH ns i).1.toNat).k=8)∧bp ns ns.length (ndE ns (bH ns i).1.toNat).a i=false then some (ndE ns (bH ns i).1.toNat).a else none
theorem rh {ns:List EN} (ht:cW ns) {i:Nat} {a:Int} (hi:i<ns.length) (h:gi ns i=some a):0≤a∧a<(ns.length:Int)∧rkE ns a.toNat<rkE ns i:=by
 unfold gi at h
 split at h
 ·rename_i hc
  obtain ⟨h1,h2,h3⟩:=hc
  have h4:(ndE ns i).k=4:=by
   refine Classical.byContradiction fun e=>?_
   unfold bH at h1
   rw [if_neg e] at h1
   exact absurd h1 (by decide)
  have hb:bH ns i=climb ns (fJ ns) (ndE ns i).name ns.length i ((fJ ns).getD i 0):=by unfold bH;rw [if_pos h4]
  rw [hb] at h1
  obtain ⟨x,hx1,hx2,hx3⟩:=mi ht ns.length i hi h1
  rw [hb,hx1] at h2 h3 h
  simp only [Int.toNat_natCast] at h2 h3 h
  have hke:aj (ndE ns x)=[(ndE ns x).a,(ndE ns x).b]:=by
   rcases h2 with h2 | h2<;>simp [aj,h2,aG,aI]
  have ha:=Option.some.inj h
  rw [ha] at hke h3
  obtain ⟨g1,g2⟩:=aM (aO ht) hx2 a (by rw [hke];exact List.mem_cons_self)
  obtain ⟨a,rfl⟩:∃ k:Nat,a=(k:Int):=⟨a.toNat,by omega⟩
  refine ⟨g1,by omega,Gm ht hx2 hke hx3 (fun e=>?_) (fun e=>?_)⟩
  ·rw [e] at h4
   omega
  ·have:=(ki (aO ht) (i:Int) ns.length a (by omega) (by omega)).2 e
   rw [h3] at this
   cases this
 ·cases h
end Go.Proofs.YtejpnabbmgpmaaaGreat

