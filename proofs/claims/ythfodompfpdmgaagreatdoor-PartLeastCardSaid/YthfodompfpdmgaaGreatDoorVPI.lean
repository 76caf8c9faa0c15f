/-
  Classes parted by what leads where: alike states stay together, at the end the rest is apart. (with the parts that follow it)
-/
import Derived.Test.YthfodompfpdmgaaGreatDoorVPH
import Derived.Test.YthfodompfpdmgaaGreatDoorVPD
import Derived.Test.YthfodompfpdmgaaGreatDoorVPF
import Derived.Test.YthfodompfpdmgaaGreatDoorVPG
import Derived.Test.YthfodompfpdmgaaGreatDoorVPE
import Derived.Test.YthfodompfpdmgaaGreatDoorVPC
import Derived.Lib.ItoaLen
import Derived.Shelf.SlSortCmp.WholeK
import Derived.Shelf.Sort.Plain
import Derived.Shelf.Slices.In.SortNone
import Derived.Shelf.LaysM
import Derived.Shelf.Sort.AssemblyIn
import Derived.Shelf.SlLaysF0
import Derived.Ground.NamesProg
set_option linter.all false
namespace Go.Proofs.YthfodompfpdmgaaGreatDoor
open Go.Ab
def dA (l:List EA) (i:Nat):List (Ltr × Nat):=(az (l.getD i default)).map fun q=>(q.1,q.2.toNat)
theorem p6 (l:List EA) (i:Nat):(dA l i).map (·.2)=nxA l i:=by
 unfold dA nxA
 rw [List.map_map,← mL,List.map_map]
 rfl
theorem lW {s u:EA} (h:s.self=u.self):(az s).map (·.1)=(az u).map (·.1):=by
 simp only [EA.self,Prod.mk.injEq,List.cons.injEq] at h
 have e:∀ (k:Int) (l:List Fld),(bN k l).map (·.1)=(l.map (·.1)).map fun n=>(k,n):=fun k l=>by simp [bN,Function.comp_def]
 unfold az
 rw [List.map_append,List.map_append,List.map_append,List.map_append,e,e,e,e,h.2.1,h.2.2]
 congr 2
 unfold bB
 rw [h.1.1.2.2.2.2.2.1]
 split<;>rfl
theorem rn {l:List EA} {i j:Nat} (h:sfA l i=sfA l j):(dA l i).map (·.1)=(dA l j).map (·.1):=by
 unfold dA
 rw [List.map_map,List.map_map]
 exact lW h
def yO (l:List EA):Prop:=∀ i,i<l.length→∀ (a:Ltr) k m,(a,k)∈dA l i→(a,m)∈dA l i→k=m
def dz (l:List EA) (a:Ltr) (T:List Nat) (x:Nat):Bool:=(dA l x).any fun q=>decide (q.1=a) && decide (q.2∈T)
theorem jF {l:List EA} {a:Ltr} {T:List Nat} {x:Nat}:dz l a T x=true↔∃ k,(a,k)∈dA l x∧k∈T:=by
 unfold dz
 rw [List.any_eq_true]
 constructor
 ·rintro ⟨⟨b,k⟩,h1,h2⟩
  simp only [Bool.and_eq_true,decide_eq_true_eq] at h2
  exact ⟨k,h2.1 ▸ h1,h2.2⟩
 ·rintro ⟨k,h1,h2⟩
  exact ⟨(a,k),h1,by simp [h2]⟩
theorem gu {l:List EA} (hin:InA l) {x:Nat} (hx:x<l.length) {a:Ltr} {k:Nat} (h:(a,k)∈dA l x):k<l.length:=by
 have:k∈nxA l x:=by rw [← p6];exact List.mem_map.2 ⟨(a,k),h,rfl⟩
 exact gx hin x hx k this
theorem uh {l:List EA} {p q:Nat} (h:alike l p q) {a:Ltr} {k:Nat} (hk:(a,k)∈dA l p):∃ m,(a,m)∈dA l q∧alike l k m:=by
 obtain ⟨e,g⟩:=cm _ _ _ h
 have e1:=rn e
 obtain ⟨i,hi,hget⟩:=List.getElem_of_mem hk
 have hlen:(dA l p).length=(dA l q).length:=by simpa using congrArg List.length e1
 have hi2:i<(dA l q).length:=by omega
 have h1:(dA l q)[i].1=a:=by
  have:=congrArg (fun L:List Ltr=>L[i]?) e1
  simp only [List.getElem?_map,List.getElem?_eq_getElem hi,List.getElem?_eq_getElem hi2,Option.map_some,Option.some.injEq] at this
  rw [← this,hget]
 refine ⟨(dA l q)[i].2,?_,?_⟩
 ·rw [← h1];exact List.getElem_mem hi2
 ·refine g i k _ ?_ ?_
  ·rw [← p6,List.getElem?_map,List.getElem?_eq_getElem hi,hget];rfl
  ·rw [← p6,List.getElem?_map,List.getElem?_eq_getElem hi2];rfl
def Clo (l:List EA) (T:List Nat):Prop:=∀ k m,k<l.length→m<l.length→alike l k m→k∈T→m∈T
theorem xr {l:List EA} (hin:InA l) {a:Ltr} {T:List Nat} (hT:Clo l T) {p q:Nat} (hp:p<l.length) (hq:q<l.length) (h:alike l p q):dz l a T p=dz l a T q:=by
 have key:∀ {p q:Nat},p<l.length→q<l.length→alike l p q→dz l a T p=true→dz l a T q=true:=by
  intro p q hp hq h hh
  obtain ⟨k,h1,h2⟩:=jF.1 hh
  obtain ⟨m,h3,h4⟩:=uh h h1
  exact jF.2 ⟨m,h3,hT k m (gu hin hp h1) (gu hin hq h3) h4 h2⟩
 cases h1:dz l a T p with
 | true=>exact (key hp hq h h1).symm
 | false =>
   cases h2:dz l a T q with
   | false=>rfl
   | true=>exact absurd (key hq hp (gw h) h2) (by rw [h1];decide)
structure Hop (l:List EA) (s:PS) (T:List Nat) (Ls:List Ltr):Prop where
 wf:Wf l.length s
 al:∀ p q,p<l.length→q<l.length→alike l p q→s.cls.getD p 0=s.cls.getD q 0
 sf:∀ p q,p<l.length→q<l.length→s.cls.getD p 0=s.cls.getD q 0→sfA l p=sfA l q
 pd:∀ p q,p<l.length→q<l.length→s.cls.getD p 0=s.cls.getD q 0→∀ (a:Ltr) k m,(a,k)∈dA l p→(a,m)∈dA l q→s.cls.getD k 0≠s.cls.getD m 0 →
  s.cls.getD k 0∈s.wait∨s.cls.getD m 0∈s.wait∨(a∈Ls∧¬ (k∈T↔m∈T))
section
variable {l:List EA} {s:PS} {T:List Nat} {Ls:List Ltr}
theorem Hop.split (h:Hop l s T Ls) (hin:InA l) {hit:Nat→Bool} (hr:∀ p q,p<l.length→q<l.length→alike l p q→hit p=hit q) {i:Nat} (hi:i<s.sets.length):Hop l (aJ hit s i) T Ls:=by
 have w:=h.wf
 refine ⟨sY w hi,fun p q hp hq ha=>tw w hi hp hq (h.al p q hp hq ha) (hr p q hp hq ha),fun p q hp hq he=>h.sf p q hp hq (fJ w hi hp hq he),fun p q hp hq he a k m hk hm hne=>?_⟩
 have hkl:=gu hin hp hk
 have hml:=gu hin hq hm
 by_cases e:s.cls.getD k 0=s.cls.getD m 0
 ·rcases tX w hi hkl hml hne e with g | g
  ·exact .inl g
  ·exact .inr (.inl g)
 ·rcases h.pd p q hp hq (fJ w hi hp hq he) a k m hk hm e with g | g | g
  ·exact .inl (l4 w hi hkl g)
  ·exact .inr (.inl (l4 w hi hml g))
  ·exact .inr (.inr g)
structure ByI (l:List EA) (s0 s:PS) (hit:Nat→Bool) (done:List Nat):Prop where
 sub:∀ x y,x<l.length→y<l.length→s.cls.getD x 0=s.cls.getD y 0→s0.cls.getD x 0=s0.cls.getD y 0
 hom:∀ x y,x<l.length→y<l.length→s.cls.getD x 0=s.cls.getD y 0→s0.cls.getD x 0∈done→hit x=hit y
 rest:∀ x,x<l.length→s0.cls.getD x 0 ∉ done→s.cls.getD x 0=s0.cls.getD x 0
 le:s0.sets.length≤s.sets.length
theorem ByI.init (l:List EA) (s:PS) (hit:Nat→Bool):ByI l s s hit []:=⟨fun _ _ _ _ h=>h,fun _ _ _ _ _ h=>by simp at h,fun _ _ _=>rfl,Nat.le_refl _⟩
theorem ByI.step {s0:PS} {hit:Nat→Bool} {done:List Nat} (h:ByI l s0 s hit done) (w:Wf l.length s) {c:Nat} (hc:c<s0.sets.length) (_w0:Wf l.length s0):ByI l s0 (aJ hit s c) hit (done++[c]):=by
 have hcs:c<s.sets.length:=by have:=h.le;omega
 refine ⟨fun x y hx hy he=>h.sub x y hx hy (fJ w hcs hx hy he),fun x y hx hy he hm=>?_,fun x hx hm=>?_,?_⟩
 ·by_cases hd:s0.cls.getD x 0∈done
  ·exact h.hom x y hx hy (fJ w hcs hx hy he) hd
  ·have e:s0.cls.getD x 0=c:=by
    rcases List.mem_append.1 hm with g | g
    ·exact absurd g hd
    ·exact List.mem_singleton.1 g
   exact xd w hcs hx hy ((h.rest x hx hd).trans e) he
 ·have hd:s0.cls.getD x 0 ∉ done:=fun g=>hm (List.mem_append_left _ g)
  have hcx:s0.cls.getD x 0≠c:=fun g=>hm (List.mem_append_right _ (List.mem_singleton.2 g))
  have h1:=h.rest x hx hd
  by_cases hs:dv hit s c=[]∨dy hit s c=[]
  ·rw [cd hs];exact h1
  ·rw [bT w hcs hx hs,if_neg,h1]
   intro hl
   have:=((w.in' c hcs).2 x ((bV hit s c x).1 (.inl hl))).2
   omega
 ·by_cases hs:dv hit s c=[]∨dy hit s c=[]
  ·rw [cd hs];exact h.le
  ·have:=h.le
   rw [bW hs];simp;omega
theorem Hop.done {s0:PS} {a:Ltr} {done:List Nat} (h:Hop l s T (a::Ls)) (hdet:yO l) (hb:ByI l s0 s (dz l a T) done) (hd:∀ x,x<l.length→dz l a T x=true→s0.cls.getD x 0∈done):Hop l s T Ls:=by
 refine ⟨h.wf,h.al,h.sf,fun p q hp hq he b k m hk hm hne=>?_⟩
 rcases h.pd p q hp hq he b k m hk hm hne with g | g | ⟨g1,g2⟩
 ·exact .inl g
 ·exact .inr (.inl g)
 rcases List.mem_cons.1 g1 with rfl | g1
 ·exfalso
  have hh:dz l b T p=dz l b T q:=by
   by_cases e:s0.cls.getD p 0∈done
   ·exact hb.hom p q hp hq he e
   ·have h1:dz l b T p=false:=by
     cases g:dz l b T p with
     | false=>rfl
     | true=>exact absurd (hd p hp g) e
    have h2:dz l b T q=false:=by
     cases g:dz l b T q with
     | false=>rfl
     | true=>exact absurd (hd q hq g) (by rw [← hb.sub p q hp hq he];exact e)
    rw [h1,h2]
  apply g2
  have key:∀ {x k:Nat},x<l.length→(b,k)∈dA l x→(dz l b T x=true↔k∈T):=by
   intro x k hx hk
   constructor
   ·intro g
    obtain ⟨k',h1,h2⟩:=jF.1 g
    rw [hdet x hx b k k' hk h1];exact h2
   ·exact fun g=>jF.2 ⟨k,hk,g⟩
  rw [← key hp hk,← key hq hm,hh]
 ·exact .inr (.inr ⟨g1,g2⟩)
theorem Hop.end' (h:Hop l s T []) (T':List Nat) (Ls':List Ltr):Hop l s T' Ls':=⟨h.wf,h.al,h.sf,fun p q hp hq he a k m hk hm hne=>by
 rcases h.pd p q hp hq he a k m hk hm hne with g | g | ⟨g,_⟩
 ·exact .inl g
 ·exact .inr (.inl g)
 ·simp at g⟩
theorem Hop.pop (h:Hop l s [] []) (hin:InA l) {c:Nat} {r:List Nat} (hw:s.wait=c::r) (hL:∀ x,x<l.length→∀ (a:Ltr) k,(a,k)∈dA l x→s.cls.getD k 0=c→a∈Ls):Hop l { s with wait:=r } (s.sets.getD c []) Ls∧Clo l (s.sets.getD c []):=by
 have w:=h.wf
 have hc:c<s.sets.length:=w.wt c (by rw [hw];simp)
 have hmem:∀ k,k<l.length→(k∈s.sets.getD c []↔s.cls.getD k 0=c):=by
  intro k hk
  constructor
  ·exact fun g=>((w.in' c hc).2 k g).2
  ·intro g
   have:=(w.at' k hk).2
   rw [g] at this;exact this
 refine ⟨⟨⟨w.len,w.at',w.in',w.dn,fun x hx=>w.wt x (by rw [hw];exact List.mem_cons_of_mem _ hx),by have:=w.wn;rw [hw] at this;exact (List.nodup_cons.1 this).2⟩,h.al,h.sf,fun p q hp hq he a k m hk hm hne=>?_⟩,fun k m hk hm ha hkT=>?_⟩
 ·have hkl:=gu hin hp hk
  have hml:=gu hin hq hm
  have hne':s.cls.getD k 0≠s.cls.getD m 0:=hne
  show s.cls.getD k 0∈r∨s.cls.getD m 0∈r∨_
  rcases h.pd p q hp hq he a k m hk hm hne' with g | g | ⟨g,_⟩
  ·rw [hw] at g
   rcases List.mem_cons.1 g with g | g
   ·refine .inr (.inr ⟨hL p hp a k hk g,fun hi=>?_⟩)
    have:=hi.1 ((hmem k hkl).2 g)
    have:=(hmem m hml).1 this
    exact hne' (g.trans this.symm)
   ·exact .inl g
  ·rw [hw] at g
   rcases List.mem_cons.1 g with g | g
   ·refine .inr (.inr ⟨hL q hq a m hm g,fun hi=>?_⟩)
    have:=hi.2 ((hmem m hml).2 g)
    have:=(hmem k hkl).1 this
    exact hne' (this.trans g.symm)
   ·exact .inr (.inl g)
  ·simp at g
 ·rw [hmem m hm,← h.al k m hk hm ha]
  exact (hmem k hk).1 hkT
theorem Hop.alike (h:Hop l s [] []) (hin:InA l) (hw:s.wait=[]) {i j:Nat} (hi:i<l.length) (hj:j<l.length):alike l i j↔s.cls.getD i 0=s.cls.getD j 0:=by
 constructor
 ·exact h.al i j hi hj
 ·intro he
  refine ⟨fun p q=>p<l.length∧q<l.length∧s.cls.getD p 0=s.cls.getD q 0,?_,hi,hj,he⟩
  rintro p q ⟨hp,hq,he⟩
  have e:=h.sf p q hp hq he
  refine ⟨e,fun n k m hk hm=>?_⟩
  have e1:=rn e
  rw [← p6,List.getElem?_map,Option.map_eq_some_iff] at hk hm
  obtain ⟨⟨a,k'⟩,h1,rfl⟩:=hk
  obtain ⟨⟨b,m'⟩,h2,rfl⟩:=hm
  have hab:a=b:=by
   have:=congrArg (fun L:List Ltr=>L[n]?) e1
   simp only [List.getElem?_map,h1,h2,Option.map_some,Option.some.injEq] at this
   exact this
  subst hab
  have m1:=List.mem_of_getElem? h1
  have m2:=List.mem_of_getElem? h2
  refine ⟨gu hin hp m1,gu hin hq m2,?_⟩
  by_cases g:s.cls.getD k' 0=s.cls.getD m' 0
  ·exact g
  ·rcases h.pd p q hp hq he a k' m' m1 m2 g with g | g | ⟨g,_⟩<;>simp [hw] at g
end
end Go.Proofs.YthfodompfpdmgaaGreatDoor

namespace Go.Proofs.YthfodompfpdmgaaGreatDoor
open Go.Ab
def uP (c:UInt8):Bool:=decide (48≤c.toNat) && decide (c.toNat≤57)
def ui (l:List UInt8):Nat:=l.foldl (fun v c=>10*v+(c.toNat-48)) 0
theorem wS (l:List UInt8) (c:UInt8):ui (l++[c])=10*ui l+(c.toNat-48):=by simp [ui]
theorem zq (u:Nat) (h:¬ u<10):Lib.decDigits u=Lib.decDigits (u / 10)++[UInt8.ofNat (48+u % 10)]:=by
 rw [Lib.decDigits,dif_neg h]
theorem BE (u:Nat) (h:u<10):Lib.decDigits u=[UInt8.ofNat (48+u)]:=by
 rw [Lib.decDigits,dif_pos h]
theorem Ay {d:Nat} (h:d<10):uP (UInt8.ofNat (48+d))=true∧(UInt8.ofNat (48+d)).toNat=48+d:=by
 have e:(UInt8.ofNat (48+d)).toNat=48+d:=by rw [UInt8.toNat_ofNat'];omega
 refine ⟨?_,e⟩
 unfold uP
 rw [e,decide_eq_true (by omega),decide_eq_true (by omega)];rfl
theorem Co (u:Nat):ui (Lib.decDigits u)=u∧(Lib.decDigits u).all uP=true∧Lib.decDigits u≠[]:=by
 induction u using Nat.strongRecOn with
 | ind u ih =>
   by_cases h:u<10
   ·rw [BE u h]
    obtain ⟨h1,h2⟩:=Ay h
    generalize UInt8.ofNat (48+u)=c at *
    refine ⟨by simp [ui,h2],by simp [h1],by simp⟩
   ·rw [zq u h]
    obtain ⟨h1,h2⟩:=Ay (d:=u % 10) (by omega)
    generalize UInt8.ofNat (48+u % 10)=c at *
    obtain ⟨g1,g2,_⟩:=ih (u / 10) (by omega)
    exact ⟨by rw [wS,g1,h2];omega,by simp [g2,h1],by simp⟩
theorem xY {n:Int} (h:0≤n):Lib.itoa n=Lib.decDigits n.toNat:=by simp [Lib.itoa,show ¬ n<0 by omega]
def zE (b:Bool):UInt8:=if b then 49 else 48
def cH (s:EA):List UInt8:=[s.plus,s.al,s.int,s.bool,s.str,s.arr,s.rc,s.tg].map zE
def ba (l:List (List UInt8)):List UInt8:=l.flatMap fun t=>32::t
def zk (s:EA):List (List UInt8):=s.vars.map Lib.itoa++(cL s.fl++cL s.tl)
def cD (s:EA):List UInt8:=cH s++ba (zk s)
theorem km (a b:List (List UInt8)):ba (a++b)=ba a++ba b:=by simp [ba]
theorem wA (a:List UInt8):ba [a]=32::a:=by simp [ba]
theorem yf {x y:List UInt8} {r r':List (List UInt8)} (hx:32 ∉ x) (hy:32 ∉ y) (h:x++ba r=y++ba r'):x=y∧ba r=ba r':=by
 have key:∀ (x:List UInt8) (r:List (List UInt8)),32 ∉ x→(x++ba r).takeWhile (fun c=>c != 32)=x:=by
  intro x r hx
  induction x with
  | nil =>
    cases r with
    | nil=>rfl
    | cons a r=>simp [ba]
  | cons c x ih =>
    have h1:c≠32:=fun e=>hx (by simp [e])
    have h2:32 ∉ x:=fun e=>hx (by simp [e])
    simp [h1,ih h2]
 have e:=congrArg (List.takeWhile fun c=>c != 32) h
 rw [key x r hx,key y r' hy] at e
 subst e
 exact ⟨rfl,List.append_cancel_left h⟩
theorem oS:∀ {a b:List (List UInt8)},(∀ t∈a,32 ∉ t)→(∀ t∈b,32 ∉ t)→ba a=ba b→a=b
 | [],[],_,_,_=>rfl
 | [],y::b,_,_,h=>by simp [ba] at h
 | x::a,[],_,_,h=>by simp [ba] at h
 | x::a,y::b,ha,hb,h=>by
   have e:x++ba a=y++ba b:=by
    have:(32:UInt8)::(x++ba a)=32::(y++ba b):=h
    exact (List.cons.inj this).2
   obtain ⟨rfl,e2⟩:=yf (ha x (by simp)) (hb y (by simp)) e
   rw [oS (fun t ht=>ha t (by simp [ht])) (fun t ht=>hb t (by simp [ht])) e2]
theorem DP {c:UInt8} (h:mo c=true):c≠32:=by
 rintro rfl
 revert h;decide
theorem rO:∀ {l:List UInt8},wlen l=l.length→∀ c∈l,mo c=true
 | [],_,c,hc=>by simp at hc
 | a::r,h,c,hc=>by
   rw [wlen] at h
   split at h
   ·rename_i ha
    rcases List.mem_cons.1 hc with rfl | hc
    ·exact ha
    ·exact rO (by simpa using h) c hc
   ·simp at h
theorem xI {s:List UInt8} (h:aZ s=true):s≠[]∧∀ c∈s,mo c=true:=by
 simp only [aZ,Bool.and_eq_true,decide_eq_true_eq] at h
 obtain ⟨⟨h1,_⟩,h2⟩:=h
 cases s with
 | nil=>simp at h1
 | cons a r =>
   refine ⟨by simp,?_⟩
   rw [eT] at h2
   split at h2
   ·rename_i ha
    intro c hc
    rcases List.mem_cons.1 hc with rfl | hc
    ·simp only [mo,ha,Bool.true_or]
    ·exact rO (by simpa using h2) c hc
   ·simp at h2
theorem q8 {s:List UInt8} (h:aZ s=true):32 ∉ s:=fun hc=>DP ((xI h).2 _ hc) rfl
def ja (t:List UInt8):Nat:=if diZ (t.getD 0 0).toNat then 0 else if sm (t.getD 0 0) then 1 else 2
theorem mO {n:Int} (h:0≤n):32 ∉ Lib.itoa n∧ja (Lib.itoa n)=0∧(ui (Lib.itoa n):Int)=n:=by
 rw [xY h]
 obtain ⟨h1,h2,h3⟩:=Co n.toNat
 refine ⟨fun hc=>?_,?_,by rw [h1];omega⟩
 ·have:=List.all_eq_true.1 h2 _ hc
  revert this;decide
 ·cases hd:Lib.decDigits n.toNat with
  | nil=>exact absurd hd h3
  | cons c r =>
    rw [hd] at h2
    have:=List.all_eq_true.1 h2 c (by simp)
    simp only [uP,Bool.and_eq_true,decide_eq_true_eq] at this
    unfold ja
    rw [List.getD_cons_zero,if_pos]
    simp only [diZ,Bool.and_eq_true,decide_eq_true_eq]
    omega
theorem pj {s:List UInt8} (h:bL s=true):32 ∉ s∧ja s=1:=by
 simp only [bL,Bool.and_eq_true] at h
 refine ⟨q8 h.1.1,?_⟩
 have h2:=h.1.2
 unfold ja
 rw [if_pos h2,if_neg]
 simp only [sm,smZ,diZ,Bool.or_eq_true,Bool.and_eq_true,decide_eq_true_eq] at h2 ⊢
 omega
theorem sb {s:List UInt8} (h:eb s=true):32 ∉ s∧ja s=2:=by
 simp only [eb,Bool.and_eq_true] at h
 refine ⟨q8 h.1,?_⟩
 have h2:=h.2
 unfold ja
 rw [if_neg,if_neg]
 ·simp only [gr,grZ,sm,smZ,diZ,Bool.or_eq_true,Bool.and_eq_true,decide_eq_true_eq] at h2 ⊢
  omega
 ·simp only [gr,grZ,sm,smZ,diZ,Bool.or_eq_true,Bool.and_eq_true,decide_eq_true_eq] at h2 ⊢
  omega
theorem eH {α:Type} {k:α→Nat} {n:Nat}:∀ {l:List α},(∀ x∈l,k x=n)→l.filter (fun x=>decide (k x=n))=l:=fun h=>List.filter_eq_self.2 fun x hx=>by simp [h x hx]
theorem bC {α:Type} {k:α→Nat} {n m:Nat} (hnm:m≠n) {l:List α} (h:∀ x∈l,k x=m):l.filter (fun x=>decide (k x=n))=[]:=List.filter_eq_nil_iff.2 fun x hx=>by simp [h x hx,hnm]
theorem rM {α:Type} (k:α→Nat) {a b c a' b' c':List α} (ha:∀ x∈a,k x=0) (hb:∀ x∈b,k x=1) (hc:∀ x∈c,k x=2) (ha':∀ x∈a',k x=0) (hb':∀ x∈b',k x=1) (hc':∀ x∈c',k x=2)
  (h:a++(b++c)=a'++(b'++c')):a=a'∧b=b'∧c=c':=by
 have h0:=congrArg (List.filter fun x=>decide (k x=0)) h
 have h1:=congrArg (List.filter fun x=>decide (k x=1)) h
 have h2:=congrArg (List.filter fun x=>decide (k x=2)) h
 simp only [List.filter_append,eH ha,eH ha',bC (show 1≠0 by decide) hb,bC (show 1≠0 by decide) hb',bC (show 2≠0 by decide) hc,bC (show 2≠0 by decide) hc',List.append_nil] at h0
 simp only [List.filter_append,eH hb,eH hb',bC (show 0≠1 by decide) ha,bC (show 0≠1 by decide) ha',bC (show 2≠1 by decide) hc,bC (show 2≠1 by decide) hc',List.append_nil,List.nil_append] at h1
 simp only [List.filter_append,eH hc,eH hc',bC (show 0≠2 by decide) ha,bC (show 0≠2 by decide) ha',bC (show 1≠2 by decide) hb,bC (show 1≠2 by decide) hb',List.nil_append] at h2
 exact ⟨h0,h1,h2⟩
structure Nice (s:EA):Prop where
 v:∀ n∈s.vars,0≤n∧n≤999
 f:∀ q∈s.fl,bL q.1=true
 t:∀ q∈s.tl,eb q.1=true
theorem oZ {s u:EA} (hs:Nice s) (hu:Nice u):cD s=cD u↔s.self=u.self:=by
 constructor
 ·intro h
  unfold cD at h
  have hb:(cH s).length=(cH u).length:=by simp [cH]
  obtain ⟨h1,h2⟩:=List.append_inj h hb
  have nsp:∀ {w:EA},Nice w→∀ t∈zk w,32 ∉ t:=by
   intro w hw t ht
   unfold zk at ht
   rcases List.mem_append.1 ht with ht | ht
   ·obtain ⟨n,hn,rfl⟩:=List.mem_map.1 ht
    exact (mO (hw.v n hn).1).1
   ·rcases List.mem_append.1 ht with ht | ht
    ·obtain ⟨q,hq,rfl⟩:=List.mem_map.1 ht
     exact (pj (hw.f q hq)).1
    ·obtain ⟨q,hq,rfl⟩:=List.mem_map.1 ht
     exact (sb (hw.t q hq)).1
  have h3:=oS (nsp hs) (nsp hu) h2
  have k0:∀ {w:EA},Nice w→∀ t∈w.vars.map Lib.itoa,ja t=0:=by
   intro w hw t ht
   obtain ⟨n,hn,rfl⟩:=List.mem_map.1 ht
   exact (mO (hw.v n hn).1).2.1
  have k1:∀ {w:EA},Nice w→∀ t∈cL w.fl,ja t=1:=by
   intro w hw t ht
   obtain ⟨q,hq,rfl⟩:=List.mem_map.1 ht
   exact (pj (hw.f q hq)).2
  have k2:∀ {w:EA},Nice w→∀ t∈cL w.tl,ja t=2:=by
   intro w hw t ht
   obtain ⟨q,hq,rfl⟩:=List.mem_map.1 ht
   exact (sb (hw.t q hq)).2
  obtain ⟨h4,h5,h6⟩:=rM ja (k0 hs) (k1 hs) (k2 hs) (k0 hu) (k1 hu) (k2 hu) h3
  have h7:s.vars=u.vars:=by
   have e:∀ {w:EA},Nice w→(w.vars.map Lib.itoa).map (fun t=>(ui t:Int))=w.vars:=by
    intro w hw
    rw [List.map_map]
    conv=>rhs;rw [← List.map_id w.vars]
    exact List.map_congr_left fun n hn=>(mO (hw.v n hn).1).2.2
   rw [← e hs,h4,e hu]
  have hbit:∀ a b:Bool,zE a=zE b→a=b:=by decide
  simp only [cH,List.map_cons,List.map_nil,List.cons.injEq,and_true] at h1
  obtain ⟨b1,b2,b3,b4,b5,b6,b7,b8⟩:=h1
  simp only [EA.self,Prod.mk.injEq,List.cons.injEq,and_true]
  exact ⟨⟨⟨hbit _ _ b1,hbit _ _ b2,hbit _ _ b3,hbit _ _ b4,hbit _ _ b5,hbit _ _ b6,hbit _ _ b7,hbit _ _ b8⟩,h7⟩,h5,h6⟩
 ·intro h
  simp only [EA.self,Prod.mk.injEq,List.cons.injEq,and_true] at h
  obtain ⟨⟨⟨b1,b2,b3,b4,b5,b6,b7,b8⟩,h7⟩,h5,h6⟩:=h
  unfold cD cH zk cL
  rw [b1,b2,b3,b4,b5,b6,b7,b8,h7,h5,h6]
end Go.Proofs.YthfodompfpdmgaaGreatDoor

namespace Go.Proofs.YthfodompfpdmgaaGreatDoor
open Go.Ab
def kb:List (Name × Ob):=[([0],.boxT (some 177) [.d .nilp,.d .nils])]
def kp (l:List UInt8):List (Name × Ob):=[([0],.boxT (some 177) [.bx [0] 0,.vw [2] 0 l.length]),([2],.arrT (some 5) none (l.map byD))]
def bj (l:List UInt8):List (Name × Ob):=[([0],.boxT (some 177) [.bx [0] 0,.vw [1] 0 l.length]),([1],.arrT (some 5) none (l.map byD))]
theorem noesc (v:Value) (w:World):(callFunc 172 #[v]).run Tryz.prog w=.ok (.value v) w:=by
 rw [run_callFunc_extern Tryz.func172 (by kernel_rfl) (by kernel_rfl) (by kernel_rfl) (e:=Extern.AbiNoEscape.same) (by kernel_rfl)]
 rw [Lib.run_noEscape]
 rfl
theorem Eu:(Tryz.prog.ti 220).k=.oth:=by kernel_rfl
theorem Fe:Tryz.prog.underlying 220=some .unsafePointer:=by kernel_rfl
theorem y1 {G}:HCall Tryz.prog G 147 [.bx [0] 0] [([0],.boxT (some 177) [.d .nilp,.vw [1] 0 0]),([1],.arrT (some 5) none [])] [0,1] (fun r hp'=>r=.tup []∧hp'=[([0],.boxT (some 177) [.bx [0] 0,.vw [1] 0 0]),([1],.arrT (some 5) none [])]):=by
 refine bQ Tryz.func147 rfl (by decide +kernel) (by simp [Tryz.ntmps147]) (veil fun E=>?_)
 simp only [go_sem]
 refine yp E (e:=177) true (by rw [px]) (by simp only [go_sem]) rfl ?_
 simp only [go_sem]
 refine FC E (e:=177) [0] 0 177 [.d .nilp,.vw [1] 0 0] (by rw [px]) Fe (by kernel_rfl) (by simp only [go_sem]) rfl rfl (by decide) ?_
 simp only [go_sem]
 refine CF E 172 (.bx [0] 0) noesc (by simp only [go_sem]) rfl rfl ?_
 simp only [go_sem]
 simp only [Eu]
 simp only [go_sem]
 refine EP E (e:=177) [0] 0 177 [.d .nilp,.vw [1] 0 0] (by rw [px]) Fe (by kernel_rfl) (by simp only [go_sem]) rfl rfl 2 rfl (by kernel_rfl) ?_
 simp only [go_sem]
 refine ⟨_,_,[0,1],id,⟨rfl,rfl⟩,?_⟩
 simp only [go_sem]
theorem qX {G} (l:List UInt8):HCall Tryz.prog G 147 [.bx [0] 0] (bj l) [0,1] (fun r hp'=>r=.tup []∧hp'=bj l):=by
 unfold bj
 refine bQ Tryz.func147 rfl (by decide +kernel) (by simp [Tryz.ntmps147]) (veil fun E=>?_)
 simp only [go_sem]
 refine yp E (e:=177) false (by rw [px]) (by simp only [go_sem]) rfl ?_
 simp only [go_sem]
 refine Cq E (e:=177) [0] 0 (by rw [px]) (by kernel_rfl) (by simp only [go_sem]) rfl rfl rfl ?_
 simp only [go_sem]
 refine ⟨_,_,[0,1],id,⟨rfl,rfl⟩,?_⟩
 simp only [go_sem]
theorem qZ {G} (c:UInt8):HCall Tryz.prog G 138 [.bx [0] 0,.d (byD c)] kb [0] (fun r hp'=>r=.d .nili∧hp'=kp [c]):=by
 have h0:=y1 (G:=G)
 unfold kb kp byD
 refine bQ Tryz.func138 rfl (by decide +kernel) (by simp [Tryz.ntmps138]) (veil fun E=>?_)
 simp only [go_sem]
 refine BV E [0] 1 1 (some 177) (some 5) none [.d .nilp,.d .nils] rfl rfl (by rw [ag];decide) ?_
 refine bn E [.bx [0] 0] [([0],.boxT (some 177) [.d .nilp,.vw [1] 0 0]),([1],.arrT (some 5) none [])] [0,1] h0 rfl rfl ⟨by simp only [go_sem],by show ¬ _∈[1,0];decide⟩ rfl (by simp only [go_sem]) (by simp only [go_sem]) ?_
 rintro _ _ ⟨rfl,rfl⟩
 simp only [go_sem]
 refine oN E (e:=5) (some 5) [1] [13] [] [.int .u8 (c.toNat:Nat)] (by rw [vS]) (by rw [ti5];rfl) (by rw [ti5];rfl) (by rw [ti5];rfl) rfl ⟨by simp only [go_sem],by rw [ag];decide⟩ rfl rfl rfl rfl (by rw [ti5];simp [TI.by1]) ?_
 simp only [go_sem]
 refine ⟨_,_,[0,1,2],tau [([2],[14])],⟨rfl,rfl⟩,?_⟩
 simp only [go_sem]
theorem tc {G} (l:List UInt8) (c:UInt8) (hl:l.length≤1000000):HCall Tryz.prog G 138 [.bx [0] 0,.d (byD c)] (bj l) [0,1] (fun r hp'=>r=.d .nili∧hp'=kp (l++[c])):=by
 have h0:=qX (G:=G) l
 unfold bj at *
 unfold kp
 refine bQ Tryz.func138 rfl (by decide +kernel) (by simp [Tryz.ntmps138]) (veil fun E=>?_)
 simp only [go_sem]
 refine bn E [.bx [0] 0] [([0],.boxT (some 177) [.bx [0] 0,.vw [1] 0 l.length]),([1],.arrT (some 5) none (l.map byD))] [0,1] h0 rfl rfl ⟨by simp only [go_sem],by rw [ag];decide⟩ rfl (by simp only [go_sem]) (by simp only [go_sem]) ?_
 rintro _ _ ⟨rfl,rfl⟩
 simp only [go_sem]
 rw [show byD c=.int .u8 (c.toNat:Nat) from rfl]
 simp only [go_sem]
 refine ⟨Nat.le_refl _,?_⟩
 have hlm:(l.map byD).length=l.length:=by simp
 refine oN E (d:=14) (e:=5) (some 5) [1] [13] (l.map byD) [.int .u8 (c.toNat:Nat)] (by rw [vS]) (by rw [ti5];rfl) (by rw [ti5];rfl) (by rw [ti5];rfl) rfl ⟨by simp only [go_sem],by rw [ag];decide⟩ (by rw [hlm];rfl) rfl rfl rfl (by rw [ti5,hlm];simp [TI.by1];omega) ?_
 rw [hlm,show l.map byD++[.int .u8 (c.toNat:Nat)]=(l++[c]).map byD by simp [byD]]
 simp only [go_sem]
 refine ⟨_,_,[0,1,2],tau [([2],[14])],⟨rfl,rfl⟩,?_⟩
 rw [show (l++[c]).length=l.length+1 by simp]
 simp only [go_sem]
theorem C8:Tryz.prog.cellsOf 5=1:=by kernel_rfl
theorem FX:Tryz.prog.underlying 198=some (.pointer 5):=by kernel_rfl
theorem zl {G} (l:List UInt8) (h0:l≠[]) (hl:l.length≤1000000000):HCall Tryz.prog G 125 [.bx [0] 0] (bj l) [0,1] (fun r hp'=>r=.d (.str l)∧hp'=[]):=by
 unfold bj
 refine bQ Tryz.func125 rfl (by decide +kernel) (by simp [Tryz.ntmps125]) (veil fun E=>?_)
 simp only [go_sem]
 refine uA 10 mixed E (by simp only [List.take_succ_cons,List.take_zero];exact rfl) (by simp only [List.drop_succ_cons,List.drop_zero];exact rfl) rfl rfl (by decide +kernel) fun X=>?_
 simp only [go_sem]
 refine dm X (d:=4) [0] 0 (some 177) [.bx [0] 0,.vw [1] 0 l.length] (by simp only [go_sem]) rfl rfl ?_
 simp only [go_sem]
 refine ED X (d:=7) [1] (some 5) none (l.map byD) l.length (by simp only [go_sem]) rfl rfl (List.length_pos_iff.2 h0) ?_
 simp only [go_sem]
 refine dm X (d:=9) [0] 0 (some 177) [.bx [0] 0,.vw [1] 0 l.length] (by simp only [go_sem]) rfl rfl ?_
 simp only [go_sem]
 refine ⟨by decide +kernel,?_⟩
 refine Dc E (e:=5) [1] l (by simp only [go_sem]) FX C8 h0 (by omega) rfl rfl rfl ?_
 simp only [go_sem]
 refine ⟨_,_,[0,1],id,⟨rfl,rfl⟩,?_⟩
 simp only [go_sem]
end Go.Proofs.YthfodompfpdmgaaGreatDoor

namespace Go.Proofs.YthfodompfpdmgaaGreatDoor
open Go.Ab
theorem nB {G} (l s:List UInt8) (hl:l.length+s.length≤1000000000):HCall Tryz.prog G 124 [.bx [0] 0,.d (.str s)] (bj l) [0,1] (fun r hp'=>r=.tup [.d (i64 (s.length:Nat)),.d .nili]∧hp'=kp (l++s)):=by
 have h0:=qX (G:=G) l
 unfold bj at *
 unfold kp
 refine bQ Tryz.func124 rfl (by decide +kernel) (by simp [Tryz.ntmps124]) (veil fun E=>?_)
 simp only [go_sem]
 refine bn E [.bx [0] 0] [([0],.boxT (some 177) [.bx [0] 0,.vw [1] 0 l.length]),([1],.arrT (some 5) none (l.map byD))] [0,1] h0 rfl rfl ⟨by simp only [go_sem],by rw [ag];decide⟩ rfl (by simp only [go_sem]) (by simp only [go_sem]) ?_
 rintro _ _ ⟨rfl,rfl⟩
 simp only [go_sem]
 refine ⟨Nat.le_refl _,?_⟩
 have hlm:(l.map byD).length=l.length:=by simp
 refine xK E (d:=14) (e:=5) (some 5) [1] (l.map byD) s (by rw [vS]) (by rw [ti9]) (by rw [ti5];rfl) (by rw [ti5];rfl) (by rw [ti5];rfl) rfl ⟨by simp only [go_sem],by rw [ag];decide⟩ (by rw [hlm];rfl) rfl rfl (by rw [ti5,hlm];simp [TI.by1];omega) ?_
 rw [hlm,← List.map_append]
 simp only [go_sem]
 refine ⟨_,_,[0,1,2],tau [([2],[14])],⟨rfl,rfl⟩,?_⟩
 rw [show (l++s).length=l.length+s.length by simp]
 simp only [go_sem]
end Go.Proofs.YthfodompfpdmgaaGreatDoor

namespace Go.Proofs.YthfodompfpdmgaaGreatDoor
open Go.Ab
variable {t:TypeId} {fz:Nat × Nat}
theorem Bc (n:Int) (hn:inR n):HP Tryz.prog (GT t fz) 122 [i64 n] (fun r=>r=.d (.str (Lib.itoa n))):=by
 refine aq Tryz.func122 rfl (by decide +kernel) (by simp [Tryz.ntmps122]) (veil fun E=>?_)
 simp only [go_sem]
 refine ae E (BL n hn) rfl rfl (by simp) ?_
 rintro _ rfl
 simp only [go_sem]
theorem DM (n:Int) (hn:inR n):HP Tryz.prog (GT t fz) 84 [i64 n] (fun r=>r=.d (.str (Lib.itoa n))):=by
 refine aq Tryz.func84 rfl (by decide +kernel) (by simp [Tryz.ntmps84]) (veil fun E=>?_)
 simp only [go_sem]
 refine ae E (Bc n hn) rfl rfl (by simp) ?_
 rintro _ rfl
 simp only [go_sem]
def Bi:List UInt8→List (Name × Ob)
 | []=>kb
 | c::r=>bj (c::r)
theorem jU {l:List UInt8} (h:l≠[]):Bi l=bj l:=by
 cases l with
 | nil=>exact absurd rfl h
 | cons c r=>rfl
def stT (l:List Stp'):List UInt8:=ba ((l.filter fun q=>decide (q.1.1=2) || decide (q.1.1=3)).map (·.1.2))
theorem x9 {l:List Stp'} {i:Nat} (h:i<l.length):stT (l.take (i+1))=stT (l.take i)++(if decide (l[i].1.1=2) || decide (l[i].1.1=3) then 32::l[i].1.2 else []):=by
 unfold stT
 rw [List.take_succ_eq_append_getElem h,List.filter_append,List.map_append,km]
 congr 1
 cases hb:decide (l[i].1.1=2) || decide (l[i].1.1=3) with
 | true=>simp [List.filter_cons,hb,ba]
 | false=>simp [List.filter_cons,hb,ba]
theorem Bp (s:EA):stT (az s)=ba (cL s.fl++cL s.tl):=by
 unfold stT az
 have h0:(bB s).filter (fun q=>decide (q.1.1=2) || decide (q.1.1=3))=[]:=by
  unfold bB
  split<;>simp
 have h2:(bN 2 s.fl).filter (fun q=>decide (q.1.1=2) || decide (q.1.1=3))=bN 2 s.fl:=List.filter_eq_self.2 fun q hq=>by
  obtain ⟨x,hx,rfl⟩:=List.mem_map.1 hq
  rfl
 have h3:(bN 3 s.tl).filter (fun q=>decide (q.1.1=2) || decide (q.1.1=3))=bN 3 s.tl:=List.filter_eq_self.2 fun q hq=>by
  obtain ⟨x,hx,rfl⟩:=List.mem_map.1 hq
  rfl
 rw [List.filter_append,List.filter_append,h0,h2,h3,List.nil_append,List.map_append]
 simp [bN,cL,Function.comp_def]
theorem y7 {l:List (List UInt8)} {i:Nat} (h:i<l.length):ba (l.take (i+1))=ba (l.take i)++32::l[i]:=by
 rw [List.take_succ_eq_append_getElem h,km,wA]
def iZ (s:EA):List Bool:=[s.plus,s.al,s.int,s.bool,s.str,s.arr,s.rc,s.tg]
structure Fit (s:EA):Prop where
 v:s.vars.length≤1000000
 r:∀ n∈s.vars,inR n
 f:s.fl.length≤400
 t:s.tl.length≤400
 fs:∀ q∈s.fl,q.1.length≤20
 ts:∀ q∈s.tl,q.1.length≤20
set_option maxHeartbeats 4000000 in
theorem Cy (s:EA) (hs:InS s) (hf:Fit s):HP Tryz.prog (GT t fz) 104 [stD s] (fun r=>r=.d (.str (cD s))):=by
 have c1:=qf (G:=GT t fz) s hs
 rw [ab] at c1 ⊢
 refine aV Tryz.func104 rfl (by decide +kernel) (by simp [Tryz.ntmps104]) (veil fun E=>?_)
 simp only [go_sem]
 refine eR E [26] none ((iZ s).map D.bool) rfl ?_
 simp only [go_sem]
 refine ck E [1] (stD s) rfl rfl ?_
 simp only [ab]
 simp only [go_sem]
 have hbl:∀ i,i<8→((iZ s).map D.bool).getD i .nilp=.bool ((iZ s).getD i false):=by
  intro i hi
  have:i<(iZ s).length:=hi
  simp [this]
 have hbt:∀ i,i<8→(cH s).take (i+1)=(cH s).take i++[zE ((iZ s).getD i false)]:=by
  intro i hi
  have h1:i<(cH s).length:=by simpa [cH] using hi
  have h2:i<(iZ s).length:=hi
  rw [List.take_succ_eq_append_getElem h1]
  congr 2
  have e:cH s=(iZ s).map zE:=rfl
  simp only [e,List.getElem_map]
  rw [List.getD_eq_getElem?_getD,List.getElem?_eq_getElem h2];rfl
 refine an E (X:={ i:Nat // i≤8 }) (fun x=>[(1,.d (.ptr (stD s))),(3,.bx [0] 0),(26,.d (.sl none ((iZ s).map D.bool))),(27,.d (i64 8)),(28,.d (i64 x.1))]) (fun x=>Bi ((cH s).take x.1)) [0,1] (fun x=>8-x.1) ⟨0,Nat.zero_le _⟩ (tau [([0],[3])]) ?_ ?_
 ·unfold Bi kb
  simp only [ab,List.take_zero]
  simp only [go_sem]
  all_goals first | rfl | ((repeat' apply And.intro)<;>first | rfl | trivial)
 rintro ⟨i,hi⟩ E0
 refine aK E0 fun Q' hQ E'=>?_
 simp only at hi ⊢
 by_cases h0:i=0
 ·subst h0
  simp only [List.take_zero,Bi,ab]
  unfold kb
  simp only [go_sem]
  rw [hbl 0 (by omega)]
  simp only [go_sem]
  refine ⟨by simp [iZ],?_⟩
  refine bG E' (fun h1=>?_) (fun h1=>?_)<;>simp only [go_sem]
  ·refine bn E' [.bx [0] 0,.d (byD 49)] kb [0] (qZ 49) rfl rfl ⟨by simp only [go_sem],by rw [ag];decide⟩ rfl (by (unfold kb);simp only [go_sem]) (by (unfold kb);simp only [go_sem]) ?_
   rintro _ _ ⟨rfl,rfl⟩
   unfold kp
   (unfold kb)
   simp only [go_sem]
   rw [hQ]
   simp only [go_sem]
   refine ⟨⟨0+1,by omega⟩,by show 8-(0+1)<8-0;omega,tau [([1],[33,2])],?_⟩
   rw [show (⟨0+1,by omega⟩:{ i:Nat // i≤8 }).1=0+1 from rfl,hbt 0 (by omega),h1,jU (by simp)]
   unfold bj
   simp only [ab]
   simp only [go_sem]
   (exact ⟨by rw [show w64 1=1 from by decide],rfl⟩)
  ·refine bn E' [.bx [0] 0,.d (byD 48)] kb [0] (qZ 48) rfl rfl ⟨by simp only [go_sem],by rw [ag];decide⟩ rfl (by (unfold kb);simp only [go_sem]) (by (unfold kb);simp only [go_sem]) ?_
   rintro _ _ ⟨rfl,rfl⟩
   unfold kp
   (unfold kb)
   simp only [go_sem]
   rw [hQ]
   simp only [go_sem]
   refine ⟨⟨0+1,by omega⟩,by show 8-(0+1)<8-0;omega,tau [([1],[34,2])],?_⟩
   rw [show (⟨0+1,by omega⟩:{ i:Nat // i≤8 }).1=0+1 from rfl,hbt 0 (by omega),h1,jU (by simp)]
   unfold bj
   simp only [ab]
   simp only [go_sem]
   (exact ⟨by rw [show w64 1=1 from by decide],rfl⟩)
 ·have hne:(cH s).take i≠[]:=by
   intro h
   have:=congrArg List.length h
   simp [cH] at this
   omega
  rw [jU hne]
  obtain ⟨acc,hacc⟩:∃ acc,(cH s).take i=acc:=⟨_,rfl⟩
  have hal:acc.length≤8:=by rw [← hacc,List.length_take];omega
  rw [hacc]
  simp only [ab]
  unfold bj
  simp only [go_sem]
  refine ak E' (fun h2=>?_) (fun h2=>?_)<;>simp only [go_sem]
  ·have hi':i<8:=by omega
   refine ⟨⟨by omega,by simp [iZ];omega⟩,?_⟩
   rw [hbl i hi']
   simp only [go_sem]
   refine bG E' (fun h1=>?_) (fun h1=>?_)<;>simp only [go_sem]
   ·refine bn E' [.bx [0] 0,.d (byD 49)] (bj acc) [0,1] (tc acc 49 (by omega)) rfl rfl ⟨by simp only [go_sem],by rw [ag];decide⟩ rfl (by (unfold bj);simp only [go_sem]) (by (unfold bj);simp only [go_sem]) ?_
    rintro _ _ ⟨rfl,rfl⟩
    unfold kp
    (unfold bj)
    simp only [go_sem]
    rw [hQ]
    simp only [go_sem]
    refine ⟨⟨i+1,by omega⟩,by show 8-(i+1)<8-i;omega,tau [([1],[33,2])],?_⟩
    rw [show (⟨i+1,by omega⟩:{ i:Nat // i≤8 }).1=i+1 from rfl,hbt i (by omega),h1,jU (by simp)]
    unfold bj
    simp only [ab]
    simp only [go_sem]
    (rw [hacc,aa ⟨by omega,by omega⟩];exact ⟨rfl,rfl,rfl⟩)
   ·refine bn E' [.bx [0] 0,.d (byD 48)] (bj acc) [0,1] (tc acc 48 (by omega)) rfl rfl ⟨by simp only [go_sem],by rw [ag];decide⟩ rfl (by (unfold bj);simp only [go_sem]) (by (unfold bj);simp only [go_sem]) ?_
    rintro _ _ ⟨rfl,rfl⟩
    unfold kp
    (unfold bj)
    simp only [go_sem]
    rw [hQ]
    simp only [go_sem]
    refine ⟨⟨i+1,by omega⟩,by show 8-(i+1)<8-i;omega,tau [([1],[34,2])],?_⟩
    rw [show (⟨i+1,by omega⟩:{ i:Nat // i≤8 }).1=i+1 from rfl,hbt i (by omega),h1,jU (by simp)]
    unfold bj
    simp only [ab]
    simp only [go_sem]
    (rw [hacc,aa ⟨by omega,by omega⟩];exact ⟨rfl,rfl,rfl⟩)
  ·have hie:i=8:=by omega
   subst hie
   rw [hQ]
   simp only [go_sem]
   clear hQ E' E0 Q'
   rw [show (cH s).take 8=cH s from rfl] at hacc
   subst hacc
   have hvr:=hf.r
   have hvl:=hf.v
   refine an E (X:={ k:Nat // k≤s.vars.length∧(ba ((s.vars.map Lib.itoa).take k)).length≤22*k }) (fun x=>[(1,.d (.ptr (stD s))),(3,.bx [0] 0),(37,.d (.sl none (s.vars.map i64))),(38,.d (i64 s.vars.length)),(39,.d (i64 x.1))]) (fun x=>bj (cH s++ba ((s.vars.map Lib.itoa).take x.1))) [0,1] (fun x=>s.vars.length-x.1) ⟨0,Nat.zero_le _,by simp [ba]⟩ id ?_ ?_
   ·unfold bj
    simp only [ab,List.take_zero,ba,List.flatMap_nil,List.append_nil]
    simp only [go_sem]
    all_goals first | rfl | ((repeat' apply And.intro)<;>first | rfl | trivial)
   rintro ⟨k,hk,hkl⟩ E0
   refine aK E0 fun Q' hQ E'=>?_
   simp only at hk hkl ⊢
   obtain ⟨acc,hacc⟩:∃ acc,cH s++ba ((s.vars.map Lib.itoa).take k)=acc:=⟨_,rfl⟩
   have hal:acc.length≤8+22*k:=by rw [← hacc,List.length_append];simp [cH];omega
   rw [hacc]
   simp only [ab]
   unfold bj
   simp only [go_sem]
   refine ak E' (fun h2=>?_) (fun h2=>?_)<;>simp only [go_sem]
   ·have hk':k<s.vars.length:=by omega
    have hrv:=hvr _ (List.getElem_mem hk')
    have c2:=DM (t:=t) (fz:=fz) s.vars[k] hrv
    have hil:=Lib.itoa_length_le s.vars[k] hrv.1 hrv.2
    refine ⟨by omega,?_⟩
    rw [dU hk']
    simp only [go_sem]
    refine ae E' (c2) rfl rfl (by simp) ?_
    rintro _ rfl
    simp only [go_sem]
    refine ⟨by omega,?_⟩
    have hstep:cH s++ba ((s.vars.map Lib.itoa).take (k+1))=acc++(32::Lib.itoa s.vars[k]):=by
     rw [y7 (by simpa using hk'),← List.append_assoc,hacc]
     simp
    refine bn E' [.bx [0] 0,.d (.str (32::Lib.itoa s.vars[k]))] (bj acc) [0,1] (nB acc (32::Lib.itoa s.vars[k]) (by simp only [List.length_cons];omega)) rfl rfl ⟨by simp only [go_sem],by rw [ag];decide⟩ rfl (by unfold bj;simp only [go_sem]) (by unfold bj;simp only [go_sem]) ?_
    rintro _ _ ⟨rfl,rfl⟩
    unfold kp bj
    simp only [go_sem]
    rw [hQ]
    simp only [go_sem]
    refine ⟨⟨k+1,hk',?_⟩,by show s.vars.length-(k+1)<s.vars.length-k;omega,tau [([1],[46,2])],?_⟩
    ·have:=congrArg List.length hstep
     have h3:=congrArg List.length hacc
     have hb8:(cH s).length=8:=rfl
     simp only [List.length_append,List.length_cons] at this h3
     show (ba ((s.vars.map Lib.itoa).take (k+1))).length≤22*(k+1)
     omega
    ·rw [show (⟨k+1,_⟩:{ k:Nat // k≤s.vars.length∧(ba ((s.vars.map Lib.itoa).take k)).length≤22*k }).1=k+1 from rfl,hstep]
     unfold bj
     simp only [ab]
     simp only [go_sem]
     rw [aa ⟨by omega,by omega⟩]
     (repeat' apply And.intro)<;>first | rfl | trivial
   ·have hke:k=s.vars.length:=by omega
    subst hke
    rw [hQ]
    simp only [go_sem]
    clear hQ E' E0 Q'
    rw [List.take_of_length_le (by simp)] at hacc
    refine ae E (c1) rfl rfl (by simp) ?_
    rintro _ rfl
    simp only [go_sem]
    have hfl:=hf.f
    have htl:=hf.t
    have hsl:(az s).length≤802:=by
     unfold az bB
     rw [List.length_append,List.length_append,cG,cG]
     split<;>simp<;>omega
    have hsn:∀ q∈az s,q.1.2.length≤20:=by
     intro q hq
     unfold az at hq
     rcases List.mem_append.1 hq with hq | hq
     ·rcases List.mem_append.1 hq with hq | hq
      ·unfold bB at hq
       split at hq
       ·simp only [List.mem_cons,List.not_mem_nil,or_false] at hq
        rcases hq with rfl | rfl<;>simp
       ·simp at hq
      ·obtain ⟨x,hx,rfl⟩:=List.mem_map.1 hq
       exact hf.fs x hx
     ·obtain ⟨x,hx,rfl⟩:=List.mem_map.1 hq
      exact hf.ts x hx
    have hst:=Bp s
    obtain ⟨ST,hST⟩:∃ ST,az s=ST:=⟨_,rfl⟩
    rw [hST] at hsl hsn hst ⊢
    refine an E (X:={ j:Nat // j≤ST.length∧(stT (ST.take j)).length≤21*j }) (fun x=>[(3,.bx [0] 0),(49,.d (.sl (some 3) (ST.map eY))),(50,.d (i64 ST.length)),(51,.d (i64 x.1))]) (fun x=>bj (acc++stT (ST.take x.1))) [0,1] (fun x=>ST.length-x.1) ⟨0,Nat.zero_le _,by simp [stT,ba]⟩ id ?_ ?_
    ·unfold bj
     simp only [List.take_zero,show stT []=[] from rfl,List.append_nil]
     simp only [go_sem]
     all_goals first | rfl | ((repeat' apply And.intro)<;>first | rfl | trivial)
    rintro ⟨j,hj,hjl⟩ E0
    refine aK E0 fun Q' hQ E'=>?_
    simp only at hj hjl ⊢
    obtain ⟨ac2,hac2⟩:∃ ac2,acc++stT (ST.take j)=ac2:=⟨_,rfl⟩
    have hal2:ac2.length≤22000008+21*j:=by rw [← hac2,List.length_append];omega
    rw [hac2]
    unfold bj
    simp only [go_sem]
    refine ak E' (fun h4=>?_) (fun h4=>?_)<;>simp only [go_sem]
    ·have hj':j<ST.length:=by omega
     have hnl:=hsn _ (List.getElem_mem hj')
     have hstep:=x9 hj'
     refine ⟨by omega,?_⟩
     rw [uf hj']
     generalize ST[j]=q at *
     obtain ⟨⟨kd,nm⟩,to⟩:=q
     rw [show eY ((kd,nm),to)=.agg [i64 kd,.str nm,i64 to] from rfl]
     simp only at hnl hstep
     simp only [go_sem]
     refine aI E' (fun h5=>?_) (fun h5=>?_)<;>simp only [go_sem]
     ·have hc:(decide (kd=2) || decide (kd=3))=true:=by simp [h5]
      rw [hc] at hstep
      have hstep2:stT (ST.take (j+1))=stT (ST.take j)++32::nm:=hstep
      have hstep3:acc++stT (ST.take (j+1))=ac2++32::nm:=by rw [hstep2,← List.append_assoc,hac2]
      refine ⟨by omega,?_⟩
      refine bn E' [.bx [0] 0,.d (.str (32::nm))] (bj ac2) [0,1] (nB ac2 (32::nm) (by simp only [List.length_cons];omega)) rfl rfl ⟨by simp only [go_sem],by rw [ag];decide⟩ rfl (by unfold bj;simp only [go_sem]) (by unfold bj;simp only [go_sem]) ?_
      rintro _ _ ⟨rfl,rfl⟩
      unfold kp bj
      simp only [go_sem]
      rw [hQ]
      simp only [go_sem]
      refine ⟨⟨j+1,hj',by rw [hstep2,List.length_append,List.length_cons];omega⟩,by show ST.length-(j+1)<ST.length-j;omega,tau [([1],[69,2])],?_⟩
      rw [show (⟨j+1,_⟩:{ j:Nat // j≤ST.length∧(stT (ST.take j)).length≤21*j }).1=j+1 from rfl,hstep3]
      unfold bj
      simp only [go_sem]
      rw [aa ⟨by omega,by omega⟩]
      (repeat' apply And.intro)<;>first | rfl | trivial
     ·refine ak E' (fun h6=>?_) (fun h6=>?_)<;>simp only [go_sem]
      ·have hc:(decide (kd=2) || decide (kd=3))=true:=by simp [h6]
       rw [hc] at hstep
       have hstep2:stT (ST.take (j+1))=stT (ST.take j)++32::nm:=hstep
       have hstep3:acc++stT (ST.take (j+1))=ac2++32::nm:=by rw [hstep2,← List.append_assoc,hac2]
       refine ⟨by omega,?_⟩
       refine bn E' [.bx [0] 0,.d (.str (32::nm))] (bj ac2) [0,1] (nB ac2 (32::nm) (by simp only [List.length_cons];omega)) rfl rfl ⟨by simp only [go_sem],by rw [ag];decide⟩ rfl (by unfold bj;simp only [go_sem]) (by unfold bj;simp only [go_sem]) ?_
       rintro _ _ ⟨rfl,rfl⟩
       unfold kp bj
       simp only [go_sem]
       rw [hQ]
       simp only [go_sem]
       refine ⟨⟨j+1,hj',by rw [hstep2,List.length_append,List.length_cons];omega⟩,by show ST.length-(j+1)<ST.length-j;omega,tau [([1],[69,2])],?_⟩
       rw [show (⟨j+1,_⟩:{ j:Nat // j≤ST.length∧(stT (ST.take j)).length≤21*j }).1=j+1 from rfl,hstep3]
       unfold bj
       simp only [go_sem]
       rw [aa ⟨by omega,by omega⟩]
       (repeat' apply And.intro)<;>first | rfl | trivial
      ·have hc:(decide (kd=2) || decide (kd=3))=false:=by simp [h5,h6]
       rw [hc] at hstep
       have hstep2:stT (ST.take (j+1))=stT (ST.take j):=by rw [hstep];simp
       rw [hQ]
       simp only [go_sem]
       refine ⟨⟨j+1,hj',by rw [hstep2];omega⟩,by show ST.length-(j+1)<ST.length-j;omega,id,?_⟩
       rw [show (⟨j+1,_⟩:{ j:Nat // j≤ST.length∧(stT (ST.take j)).length≤21*j }).1=j+1 from rfl,hstep2,hac2]
       unfold bj
       simp only [go_sem]
       rw [aa ⟨by omega,by omega⟩]
       (repeat' apply And.intro)<;>first | rfl | trivial
    ·have hje:j=ST.length:=by omega
     subst hje
     rw [hQ]
     simp only [go_sem]
     rw [List.take_length,hst] at hac2
     have hlook:ac2=cD s:=by
      rw [← hac2,← hacc,cD,zk,km (s.vars.map _),List.append_assoc]
     have hn2:ac2≠[]:=by rw [hlook];simp [cD,cH]
     refine bn E [.bx [0] 0] (bj ac2) [0,1] (zl ac2 hn2 (by omega)) rfl rfl ⟨by simp only [go_sem],by rw [ag];decide⟩ rfl (by unfold bj;simp only [go_sem]) (by unfold bj;simp only [go_sem]) ?_
     rintro _ _ ⟨rfl,rfl⟩
     unfold bj
     simp only [go_sem]
     refine ⟨[],?_⟩
     simp only [go_sem]
     rw [hlook]
end Go.Proofs.YthfodompfpdmgaaGreatDoor

namespace Go.Ab
section
variable {P:Program} {κ:Type} [DecidableEq κ]
theorem zj {kt:TypeId} {fs:Array Field} (hu:P.underlying kt=some (.struct fs)) (ke:κ→D) (kv:κ→Value) (hagg:∀ a,∃ cs,kv a=.agg cs) (hval:∀ {H:Array Obj} {own:Nat→Prop} {v:Value} {a:κ},Rep H own v (ke a)→v=kv a) (hrep:∀ (H:Array Obj) (own:Nat→Prop) (a:κ),Rep H own (kv a) (ke a))
  (hchk:∀ (b:Bool) (a:κ) (w:World),(Instr.checkKey b 10000 kt (kv a)).run P w=.ok () w) (hsame:∀ a:κ,Instr.sameBits 10000 (kv a) (kv a)=true) (heq:∀ (a x:κ) (w:World),(Op.equal kt (kv a) (kv x)).run P w=.ok (decide (x=a)) w):fo P kt ke kv where
 val:=hval
 rep:=hrep
 chk:=hchk
 same:=hsame
 find:=fun a es ks w hks=>by
  have ask:∀ (es:List MapEntry) (ks:List κ) (n:Nat),es.map (·.key)=ks.map kv→(Instr.findAsking kt (kv a) es n).run P w=.ok ((midx ks a).bind fun m=>(es[m]?).map fun e=>(n+m,e.val)) w:=by
   intro es
   induction es with
   | nil =>
     intro ks n h
     cases ks with
     | nil=>rfl
     | cons k r=>simp at h
   | cons e es ih =>
     intro ks n h
     cases ks with
     | nil=>simp at h
     | cons k r =>
       simp only [List.map_cons,List.cons.injEq] at h
       simp only [Instr.findAsking,h.1,Sem.run_bind,heq,Result.andThen_ok,midx]
       by_cases hka:k=a
       ·simp [hka]
       ·simp only [hka,decide_false,Bool.false_eq_true,if_false,ih r (n+1) h.2]
        cases midx r a with
        | none=>rfl
        | some m=>simp [Nat.add_assoc,Nat.add_comm 1 m]
  cases es with
  | nil =>
    cases ks with
    | nil=>simp [Instr.findKey,run_underlying hu,Instr.findNow,midx]
    | cons k r=>simp at hks
  | cons e es =>
    have:=ask (e::es) ks 0 hks
    simp only [Nat.zero_add] at this
    obtain ⟨cs,hcs⟩:=hagg a
    have hnow:Instr.findNow (.struct fs) (kv a) (e::es) 0=none:=by rw [hcs];simp [Instr.findNow,Instr.sameNow]
    simp only [Instr.findKey,Sem.run_bind,run_underlying hu,Result.andThen_ok,hnow]
    exact this
end
section
variable {P:Program}
abbrev KIS:=Int × List UInt8
def wZ (q:KIS):D:=.agg [.int .i64 q.1,.str q.2]
def iu (q:KIS):Value:=.agg #[.int .i64 q.1,.string ⟨q.2.toArray⟩]
theorem nE (H:Array Obj) (own:Nat→Prop) (q:KIS):Rep H own (iu q) (wZ q):=by
 refine .agg _ _ rfl (by simp [D.scal]) fun n d hd=>?_
 match n,hd with
 | 0,hd=>obtain rfl:=Option.some.inj hd;exact .int _ _
 | 1,hd=>obtain rfl:=Option.some.inj hd;exact .str _
theorem As {H:Array Obj} {own:Nat→Prop} {v:Value} {q:KIS} (h:Rep H own v (wZ q)):v=iu q:=by
 cases h with
 | agg xs _ hs _ hr =>
   have h0:=hr 0 (.int .i64 q.1) rfl
   have h1:=hr 1 (.str q.2) rfl
   have hs:xs.size=2:=hs
   obtain ⟨l⟩:=xs
   match l,hs with
   | [u,v],_ =>
     simp at h0 h1
     cases h0;cases h1
     rfl
theorem rQ {kt:TypeId} {t0 t1:TypeId} (hst:P.bX kt=true) (hk:(P.ti kt).k=.struct [(0,t0),(1,t1)]) (k0:(P.ti t0).k=.int .i64) (k1:(P.ti t1).k=.str) (a x:KIS) (w:World) (d:Nat):(Op.equalIn (d+2) kt (iu a) (iu x)).run P w=.ok (decide (x=a)) w:=by
 have:=gT (w:=w) (H:=#[]) (own:=fun _=>False) (d:=d) hst hk (nE _ _ a) (nE _ _ x) (r:=decide (a.1=x.1) && (decide (a.2=x.2) && true)) (by simp [eqS,k0,k1,kOk,eqP])
 have e:decide (x=a)=(decide (a.1=x.1) && (decide (a.2=x.2) && true)):=by
  rw [Bool.eq_iff_iff]
  simp only [Bool.and_eq_true,decide_eq_true_eq,and_true]
  exact ⟨fun h=>by rw [h];exact ⟨rfl,rfl⟩,fun h=>Prod.ext h.1.symm h.2.symm⟩
 rw [e]
 exact this
theorem o4 {kt:TypeId} {f0 f1:Field} (hu:P.underlying kt=some (.struct #[f0,f1])) (h0:f0.offset=0) (h1:f1.offset=1) (k0:(P.ti f0.type).k=.int .i64) (k1:(P.ti f1.type).k=.str) (b:Bool) (a:KIS) (w:World) (d:Nat):(Instr.checkKey b (d+2) kt (iu a)).run P w=.ok () w:=by
 have e1:=bm (P:=P) (t:=f0.type) (w:=w) (by rw [k0];rfl) (by rw [k0];rfl) #[.int .i64 a.1,.string ⟨a.2.toArray⟩] 0 (.int .i64 a.1) rfl
 have e2:=bm (P:=P) (t:=f1.type) (w:=w) (by rw [k1];rfl) (by rw [k1];rfl) #[.int .i64 a.1,.string ⟨a.2.toArray⟩] 1 (.string ⟨a.2.toArray⟩) rfl
 have e3:=MapKept.run_checkKey (P:=P) (w:=w) (kt:=f0.type) (k:=.int .i64 a.1) (eS k0) (show IntKind.i64=.i64 from rfl) b d
 have e4:=MapKept.run_checkKey (P:=P) (w:=w) (kt:=f1.type) (k:=.string ⟨a.2.toArray⟩) (eW k1) trivial b d
 have:(Instr.checkKey b (d+1+1) kt (iu a)).run P w=.ok () w:=by
  unfold Instr.checkKey iu
  simp only [Sem.run_bind,run_underlying hu,Result.andThen_ok]
  rw [← Array.forIn_toList]
  simp only [List.forIn_cons,List.forIn_nil,h0,h1]
  by_cases n0:f0.name = "_" <;> by_cases n1:f1.name = "_" <;> simp [n0,n1,e1,e2,e3,e4]
 exact this
theorem EH {kt:TypeId} {f0 f1:Field} (hu:P.underlying kt=some (.struct #[f0,f1])) (h0:f0.offset=0) (h1:f1.offset=1) (k0:(P.ti f0.type).k=.int .i64) (k1:(P.ti f1.type).k=.str) (hst:P.bX kt=true) (hk:(P.ti kt).k=.struct [(0,f0.type),(1,f1.type)]):fo P kt wZ iu :=
 zj hu wZ iu (fun _=>⟨_,rfl⟩) As nE (fun b a w=>o4 hu h0 h1 k0 k1 b a w 9998) (fun a=>by
  have:Instr.sameBits (9998+2) (iu a) (iu a)=true:=by simp [Instr.sameBits,iu,MapKept.bytes_beq]
  exact this) fun a x w=>rQ hst hk k0 k1 a x w 9998
abbrev KISI:=KIS × Int
def aE (q:KISI):D:=.agg [.int .i64 q.1.1,.str q.1.2,.int .i64 q.2]
def ej (q:KISI):Value:=.agg #[.int .i64 q.1.1,.string ⟨q.1.2.toArray⟩,.int .i64 q.2]
theorem wB (H:Array Obj) (own:Nat→Prop) (q:KISI):Rep H own (ej q) (aE q):=by
 refine .agg _ _ rfl (by simp [D.scal]) fun n d hd=>?_
 match n,hd with
 | 0,hd=>obtain rfl:=Option.some.inj hd;exact .int _ _
 | 1,hd=>obtain rfl:=Option.some.inj hd;exact .str _
 | 2,hd=>obtain rfl:=Option.some.inj hd;exact .int _ _
theorem xL {H:Array Obj} {own:Nat→Prop} {v:Value} {q:KISI} (h:Rep H own v (aE q)):v=ej q:=by
 cases h with
 | agg xs _ hs _ hr =>
   have h0:=hr 0 (.int .i64 q.1.1) rfl
   have h1:=hr 1 (.str q.1.2) rfl
   have h2:=hr 2 (.int .i64 q.2) rfl
   have hs:xs.size=3:=hs
   obtain ⟨l⟩:=xs
   match l,hs with
   | [u,v,x],_ =>
     simp at h0 h1 h2
     cases h0;cases h1;cases h2
     rfl
theorem xE {kt tk:TypeId} {f0 f1:Field} {g0 g1:TypeId} (hu:P.underlying kt=some (.struct #[f0,f1])) (o0:f0.offset=0) (o1:f1.offset=2) (ht:f0.type=tk) (hst:P.bX kt=true) (hst2:P.bX tk=true) (hk:(P.ti tk).k=.struct [(0,g0),(1,g1)]) (hsz:(P.ti tk).sz=2) (k0:(P.ti g0).k=.int .i64) (k1:(P.ti g1).k=.str) (k2:(P.ti f1.type).k=.int .i64)
  (a x:KISI) (w:World) (d:Nat):(Op.equalIn (d+3) kt (ej a) (ej x)).run P w=.ok (decide (x=a)) w:=by
 obtain ⟨fl,h1,h2,h3,h4,_⟩:=gp hst
 rw [hu] at h1
 cases h1
 simp only [List.all_cons,List.all_nil,Bool.and_eq_true,bne_iff_ne,ne_eq,and_true] at h3
 have e:(Op.equalIn (d+2+1) kt (ej a) (ej x)).run P w=(Op.eqFields (d+2) #[.int .i64 a.1.1,.string ⟨a.1.2.toArray⟩,.int .i64 a.2] #[.int .i64 x.1.1,.string ⟨x.1.2.toArray⟩,.int .i64 x.2] [f0,f1]).run P w:=by
  have:=run_equalIn_agg w (d+2) kt #[.int .i64 a.1.1,.string ⟨a.1.2.toArray⟩,.int .i64 a.2] #[.int .i64 x.1.1,.string ⟨x.1.2.toArray⟩,.int .i64 x.2] (by rw [h2];exact hu) h4
  rw [h2] at this
  exact this
 have p1:=dk (P:=P) (t:=f0.type) (w:=w) (by rw [ht,hk];rfl) (by rw [ht,hk];rfl) #[.int .i64 a.1.1,.string ⟨a.1.2.toArray⟩,.int .i64 a.2] 0
 have p2:=dk (P:=P) (t:=f0.type) (w:=w) (by rw [ht,hk];rfl) (by rw [ht,hk];rfl) #[.int .i64 x.1.1,.string ⟨x.1.2.toArray⟩,.int .i64 x.2] 0
 rw [ht,hsz] at p1 p2
 have q1:=rQ hst2 hk k0 k1 a.1 x.1 w d
 have r1:=bm (P:=P) (t:=f1.type) (w:=w) (by rw [k2];rfl) (by rw [k2];rfl) #[.int .i64 a.1.1,.string ⟨a.1.2.toArray⟩,.int .i64 a.2] 2 (.int .i64 a.2) rfl
 have r2:=bm (P:=P) (t:=f1.type) (w:=w) (by rw [k2];rfl) (by rw [k2];rfl) #[.int .i64 x.1.1,.string ⟨x.1.2.toArray⟩,.int .i64 x.2] 2 (.int .i64 x.2) rfl
 have q2:=run_equalIn_int w (d+1) f1.type .i64 .i64 a.2 x.2 (eS k2)
 have e2:decide (x=a)=(decide (x.1=a.1) && decide (a.2=x.2)):=by
  rw [Bool.eq_iff_iff]
  simp only [Bool.and_eq_true,decide_eq_true_eq]
  exact ⟨fun h=>by rw [h];exact ⟨rfl,rfl⟩,fun h=>Prod.ext h.1 h.2.symm⟩
 show (Op.equalIn (d+2+1) kt (ej a) (ej x)).run P w=_
 rw [e,e2]
 have p1':(part tk #[.int .i64 a.1.1,.string ⟨a.1.2.toArray⟩,.int .i64 a.2] 0).run P w=.ok (iu a.1) w:=p1
 have p2':(part tk #[.int .i64 x.1.1,.string ⟨x.1.2.toArray⟩,.int .i64 x.2] 0).run P w=.ok (iu x.1) w:=p2
 simp only [Op.eqFields,Sem.run_ite,h3.1,h3.2,ne_eq,not_false_eq_true,if_true,Sem.run_bind,ht,o0,o1,p1',p2',q1,Result.andThen_ok]
 by_cases hx:x.1=a.1
 ·rw [hx] at r2
  have q2':(Op.equalIn (d+2) f1.type (.int .i64 a.2) (.int .i64 x.2)).run P w=.ok (a.2 == x.2) w:=q2
  simp only [hx,r1,r2,q2',decide_true,Bool.not_true,Bool.false_eq_true,if_false,Result.andThen_ok,Bool.true_and,p4]
  by_cases hy:a.2=x.2
  ·simp only [hy,decide_true,Bool.not_true,Bool.false_eq_true,if_false]
   rfl
  ·simp only [hy,decide_false,Bool.not_false,if_true]
   rfl
 ·simp [hx]
theorem Dn {kt tk:TypeId} {f0 f1 g0 g1:Field} (hu:P.underlying kt=some (.struct #[f0,f1])) (o0:f0.offset=0) (o1:f1.offset=2) (ht:f0.type=tk) (hst:P.bX kt=true) (hu2:P.underlying tk=some (.struct #[g0,g1])) (b0:g0.offset=0) (b1:g1.offset=1) (hst2:P.bX tk=true) (hk:(P.ti tk).k=.struct [(0,g0.type),(1,g1.type)]) (hsz:(P.ti tk).sz=2)
  (k0:(P.ti g0.type).k=.int .i64) (k1:(P.ti g1.type).k=.str) (k2:(P.ti f1.type).k=.int .i64):fo P kt aE ej :=
 zj hu aE ej (fun _=>⟨_,rfl⟩) xL wB (fun b a w=>by
  have p1:=dk (P:=P) (t:=f0.type) (w:=w) (by rw [ht,hk];rfl) (by rw [ht,hk];rfl) #[.int .i64 a.1.1,.string ⟨a.1.2.toArray⟩,.int .i64 a.2] 0
  rw [ht,hsz] at p1
  have p1':(part tk #[.int .i64 a.1.1,.string ⟨a.1.2.toArray⟩,.int .i64 a.2] 0).run P w=.ok (iu a.1) w:=p1
  have q1:=o4 hu2 b0 b1 k0 k1 b a.1 w 9997
  have r1:=bm (P:=P) (t:=f1.type) (w:=w) (by rw [k2];rfl) (by rw [k2];rfl) #[.int .i64 a.1.1,.string ⟨a.1.2.toArray⟩,.int .i64 a.2] 2 (.int .i64 a.2) rfl
  have q2:=MapKept.run_checkKey (P:=P) (w:=w) (kt:=f1.type) (k:=.int .i64 a.2) (eS k2) (show IntKind.i64=.i64 from rfl) b 9998
  have q1':(Instr.checkKey b 9999 tk (iu a.1)).run P w=.ok () w:=q1
  have q2':(Instr.checkKey b 9999 f1.type (.int .i64 a.2)).run P w=.ok () w:=q2
  have:(Instr.checkKey b (9999+1) kt (ej a)).run P w=.ok () w:=by
   unfold Instr.checkKey ej
   simp only [Sem.run_bind,run_underlying hu,Result.andThen_ok]
   rw [← Array.forIn_toList]
   simp only [List.forIn_cons,List.forIn_nil,o0,o1,ht]
   by_cases n0:f0.name = "_" <;> by_cases n1:f1.name = "_" <;> simp [n0,n1,p1',q1',r1,q2']
  exact this) (fun a=>by
  have:Instr.sameBits (9998+2) (ej a) (ej a)=true:=by simp [Instr.sameBits,ej,MapKept.bytes_beq]
  exact this) fun a x w=>xE hu o0 o1 ht hst hst2 hk hsz k0 k1 k2 a x w 9997
end
section
variable {P:Program} {cf:Cf} {s:St} {κ:Type} [DecidableEq κ] {ke:κ→D} {kv:κ→Value}
theorem wo {xt kt et:Nat} {x y:Operand} {co:Bool} {d:Option Nat} {ty:TypeId} {ps:String} {af:Array Edge} (clk:Nat) (bs:List Nat) (ms:List (κ × D)) (key:κ) (z:D) (hm:(P.ti xt).k=.map kt et) (K:fo P kt ke kv) (hz:iq P et=some z)
  (hx:ev s x=.d (mpD clk bs (menc ke ms))) (hy:ev s y=.d (ke key)) (hd:∀ t∈d,t<cf.n) :
  QE P cf { dst:=d,op:=.lookup xt x y co,type:=ty,pos:=ps,after:=af,guard:=none } s (jc z co (mlook ms key)) ([],ef0):=by
 refine mn (by simp) hd fun B s' β a w hh he h=>?_
 have hv:=h.ev x
 rw [he x (by simp [Op.operands]),hx] at hv
 have hv:=hv.toD
 have hkey:=h.ev y
 rw [he y (by simp [Op.operands]),hy] at hkey
 have hkey:=K.val hkey.toD
 generalize hval:a.eval x=v at hv
 unfold mpD at hv
 cases hv with
 | mpd b _ ents _ _ _ hh hno hsz hbs hkk hvv =>
 have hent:∀ (i:Nat) (q:D × D),(menc ke ms)[i]?=some q→∃ en:MapEntry,ents[i]?=some en∧Rep w.heap (s'.own B.A β) en.key q.1∧Rep w.heap (s'.own B.A β) en.val q.2:=by
  intro i q hi
  have hlt:i<(menc ke ms).length:=(List.getElem?_eq_some_iff.1 hi).1
  have hlt':i<ents.size:=by have:=hsz.1;simp at this;omega
  refine ⟨ents[i],by simp [hlt'],?_,?_⟩
  ·have:=hkk i q.1 (by rw [List.getElem?_map,hi];rfl)
   simpa [Array.getD_eq_getD_getElem?,hlt'] using this
  ·have:=hvv i q.2 (by rw [List.getElem?_map,hi];rfl)
   simpa [Array.getD_eq_getD_getElem?,hlt'] using this
 obtain ⟨zv,hzr,hzrep⟩:=iD hz
 have hzrep:=hzrep w.heap (s'.own B.A β)
 have hks:=ix K (by have:=hsz.1;simpa using this) hent
 have hf:=K.find key ents.toList _ w hks
 cases hi:midx (ms.map (·.1)) key with
 | none =>
   obtain ⟨h1,_⟩:=fw (d:=z) hi
   rw [hi] at hf
   refine ⟨if co then .tuple #[zv,.bool false] else zv,?_,?_⟩
   ·simp only [execOp,hval,hkey,Instr.lookup,Sem.run_bind,run_underlying (cQ hm),Result.andThen_ok,MapKept.run_getObj_map hh,K.chk,Sem.run_pure]
    rw [hf]
    simp [hzr]
   ·rw [h1]
    cases co
    ·exact .d _ _ hzrep
    ·refine .tup _ _ rfl fun i y hi=>?_
     match i,hi with
     | 0,hi=>obtain rfl:=Option.some.inj hi;exact .d _ _ hzrep
     | 1,hi=>obtain rfl:=Option.some.inj hi;exact .d _ _ (.bool _)
 | some i =>
   obtain ⟨e,h0,h1,_⟩:=eI (d:=z) hi
   rw [hi] at hf
   obtain ⟨en,he',_,hrep⟩:=hent i (ke key,e) (by simp [menc,h0])
   have he2:ents.toList[i]?=some en:=by simpa using he'
   refine ⟨if co then .tuple #[en.val,.bool true] else en.val,?_,?_⟩
   ·simp only [execOp,hval,hkey,Instr.lookup,Sem.run_bind,run_underlying (cQ hm),Result.andThen_ok,MapKept.run_getObj_map hh,K.chk,Sem.run_pure]
    rw [hf]
    simp [he']
   ·rw [h1]
    cases co
    ·exact .d _ _ hrep
    ·refine .tup _ _ rfl fun i y hi=>?_
     match i,hi with
     | 0,hi=>obtain rfl:=Option.some.inj hi;exact .d _ _ hrep
     | 1,hi=>obtain rfl:=Option.some.inj hi;exact .d _ _ (.bool _)
end
end Go.Ab

namespace Go.Proofs.YthfodompfpdmgaaGreatDoor
open Go.Ab
theorem n4:fo Tryz.prog 3 (fun n:Int=>i64 n) (fun n=>.int .i64 n):=Ep (by rw [ti3])
theorem uO:iq Tryz.prog 4=some (.bool false):=by kernel_rfl
theorem Fg:iq Tryz.prog 3=some (i64 0):=by kernel_rfl
theorem tO:iq Tryz.prog 46=some .nils:=by kernel_rfl
theorem da {κ:Type} [DecidableEq κ] (a b:κ) (d:D):∀ ms:List (κ × D),mlook (mset ms a d) b=if b=a then some d else mlook ms b
 | []=>by
   simp only [mset,mlook]
   by_cases e:a=b
   ·rw [if_pos e,if_pos e.symm]
   ·rw [if_neg e,if_neg (fun h=>e h.symm)]
 | q::r=>by
   simp only [mset]
   split
   ·rename_i e
    simp only [mlook]
    by_cases e2:a=b
    ·rw [if_pos e2,if_pos e2.symm]
    ·rw [if_neg e2,if_neg (fun h=>e2 h.symm),if_neg (fun h=>e2 (e.symm.trans h))]
   ·rename_i e
    simp only [mlook,da a b d r]
    by_cases e2:q.1=b
    ·rw [if_pos e2,if_neg (fun h=>e (e2.trans h)),if_pos e2]
    ·rw [if_neg e2,if_neg e2]
theorem iF {κ:Type} [DecidableEq κ]:∀ (m:List (κ × D)) (a:κ) (d:D),(∀ b,b∈(mset m a d).map (·.1)↔b=a∨b∈m.map (·.1))∧((m.map (·.1)).Nodup→((mset m a d).map (·.1)).Nodup)
 | [],a,d=>by simp [mset]
 | q::r,a,d=>by
   obtain ⟨h1,h2⟩:=iF r a d
   by_cases e:q.1=a
   ·refine ⟨fun b=>?_,fun hn=>?_⟩
    ·simp only [mset,if_pos e,List.map_cons,List.mem_cons]
     rw [e]
     constructor
     ·rintro (h | h)
      ·exact .inl h
      ·exact .inr (.inr h)
     ·rintro (h | h | h)
      ·exact .inl h
      ·exact .inl h
      ·exact .inr h
    ·simp only [mset,if_pos e,List.map_cons]
     rw [List.map_cons,e] at hn
     exact hn
   ·refine ⟨fun b=>?_,fun hn=>?_⟩
    ·simp only [mset,if_neg e,List.map_cons,List.mem_cons,h1]
     constructor
     ·rintro (h | h | h)
      ·exact .inr (.inl h)
      ·exact .inl h
      ·exact .inr (.inr h)
     ·rintro (h | h | h)
      ·exact .inr (.inl h)
      ·exact .inl h
      ·exact .inr (.inr h)
    ·simp only [mset,if_neg e,List.map_cons]
     rw [List.map_cons,List.nodup_cons] at hn
     rw [List.nodup_cons]
     refine ⟨fun hm=>?_,h2 hn.2⟩
     rcases (h1 q.1).1 hm with h | h
     ·exact e h
     ·exact hn.1 h
def gz (es:List (Int × D)) (wait:List Nat):Prop:=(∀ k:Nat,mlook es (k:Int)=if k∈wait then some (.bool true) else none)∧(es.map (·.1)).Nodup
def bZ (x:List Nat):D:=.sl none (x.map nD)
def dK (l:List EA) (st:Int) (F:D) (s:PS) (a b o:Nat):List AV:=[.d (.sl (some 13) (l.map stD)),.d (i64 st),.d F,.vw [1] 0 s.cls.length,.vw [a] 0 s.sets.length,.vw [b] o s.wait.length,.mp [100]]
def bp (l:List EA) (st:Int) (F:D) (s:PS) (a b o:Nat) (c:List D) (es:List (Int × D)):List (Name × Ob) :=
 [([0],.box (dK l st F s a b o)),([1],.arr none (s.cls.map nD)),([a],.arr none (s.sets.map bZ)),([b],.arr none c),([100],.map (menc (fun n:Int=>i64 n) es))]
theorem u5 {G} (l:List EA) (st:Int) (F:D) (s:PS) (o:Nat) (c:List D) (es:List (Int × D)) (k:Nat) (hq:Queue c o 0 s.wait) (hin:gz es s.wait) (hk:k ∉ s.wait) (hl:s.wait.length≤1000000) :
  HCall Tryz.prog G 105 [.bx [0] 0,.d (i64 k)] (bp l st F s 2 3 o c es) [0,1,2,3,100] (fun r hp'=>r=.tup []∧∃ c' es',hp'=bp l st F { s with wait:=s.wait++[k] } 2 5 0 c' es'∧Queue c' 0 0 (s.wait++[k])∧gz es' (s.wait++[k])):=by
 unfold bp dK
 refine bQ Tryz.func105 rfl (by decide +kernel) (by simp [Tryz.ntmps105]) (veil fun E=>?_)
 simp only [go_sem]
 refine mA E [100] es (k:Int) (.bool false) (by rw [gE]) n4 uO rfl rfl rfl (by simp) ?_
 rw [hin.1 k,if_neg hk]
 simp only [go_sem]
 refine b9 E [100] es (k:Int) (.bool true) (by rw [gE]) n4 rfl rfl rfl rfl rfl ?_
 simp only [go_sem]
 have hpush:=hq.push k
 rw [Nat.sub_zero] at hpush
 refine ⟨by omega,.tup [],_,[0,1,2,3,100,5],tau [([5],[23])],⟨rfl,_,mset es (k:Int) (.bool true),rfl,hpush,fun x=>?_,(iF _ _ _).2 hin.2⟩,?_⟩
 ·rw [da]
  by_cases e:x=k
  ·subst e
   simp
  ·have e':¬ ((x:Int)=(k:Int)):=by omega
   rw [if_neg e',hin.1 x]
   simp [e]
 ·rw [show (s.wait++[k]).length=s.wait.length+1 by simp]
  simp only [go_sem]
  rfl
end Go.Proofs.YthfodompfpdmgaaGreatDoor

namespace Go.Proofs.YthfodompfpdmgaaGreatDoor
open Go.Ab
theorem mF {xs ys:List (Option (List D))} {q:Name × Ob} (h:q∈aS 202 xs (aS 203 ys [])):∃ i,q.1=[202,i]∨q.1=[203,i]:=by
 rcases List.mem_append.1 h with h | h
 ·obtain ⟨j,_,_,rfl⟩:=(bD 202 xs 0 q).1 h
  exact ⟨_,.inl rfl⟩
 ·rcases List.mem_append.1 h with h | h
  ·obtain ⟨j,_,_,rfl⟩:=(bD 203 ys 0 q).1 h
   exact ⟨_,.inr rfl⟩
  ·cases h
theorem jf (a b:Nat):tau [([5],[23])] [a,b]=[a,b]:=by simp [tau,lkA]
theorem yw {G} (s1 s2:D) (cl:List D) (n1 n2:Nat) (b2 b3:Ob) (xs ys:List (Option (List D))) (w:List Nat) (o:Nat) (c:List D) (es:List (Int × D)) (k:Nat) (hq:Queue c o 0 w) (hin:gz es w) (hk:k ∉ w) (hl:w.length≤1000000) (h2:b2.ren (tau [([5],[23])])=b2) (h2u:b2.inU [0,1,3,55,200,201,202,203,5]=true) (h3:b3.ren (tau [([5],[23])])=b3) (h3u:b3.inU [0,1,3,55,200,201,202,203,5]=true) :
  HCall Tryz.prog G 105 [.bx [0] 0,.d (i64 k)] (([0],.box [.d s1,.d s2,.ma [201],.vw [1] 0 n1,.va [55] 0 n2,.vw [3] o w.length,.mp [200]])::([3],.arr none c)::([200],.map (menc (fun n:Int=>i64 n) es))::([1],.arr none cl)::([55],b2)::([201],b3)::aS 202 xs (aS 203 ys [])) [0,1,3,55,200,201,202,203]
   (fun r hp'=>r=.tup []∧∃ c' es',hp'=(([0],.box [.d s1,.d s2,.ma [201],.vw [1] 0 n1,.va [55] 0 n2,.vw [5] 0 (w.length+1),.mp [200]])::([5],.arr none c')::([200],.map (menc (fun n:Int=>i64 n) es'))::([1],.arr none cl)::([55],b2)::([201],b3)::aS 202 xs (aS 203 ys []))∧Queue c' 0 0 (w++[k])∧gz es' (w++[k])):=by
 refine bQ Tryz.func105 rfl (by decide +kernel) (by simp [Tryz.ntmps105]) (veil fun E=>?_)
 simp only [go_sem]
 refine mA E [200] es (k:Int) (.bool false) (by rw [gE]) n4 uO rfl rfl rfl (by simp) ?_
 rw [hin.1 k,if_neg hk]
 simp only [go_sem]
 refine b9 E [200] es (k:Int) (.bool true) (by rw [gE]) n4 rfl rfl rfl rfl rfl ?_
 simp only [go_sem]
 have hpush:=hq.push k
 rw [Nat.sub_zero] at hpush
 refine ⟨by omega,.tup [],_,[0,1,3,55,200,201,202,203,5],tau [([5],[23])],⟨rfl,_,mset es (k:Int) (.bool true),rfl,hpush,fun x=>?_,(iF _ _ _).2 hin.2⟩,?_⟩
 ·rw [da]
  by_cases e:x=k
  ·subst e
   simp
  ·have e':¬ ((x:Int)=(k:Int)):=by omega
   rw [if_neg e',hin.1 x]
   simp [e]
 ·simp only [go_sem]
  refine ⟨⟨rfl,⟨congrArg some h2.symm,h2u⟩,⟨congrArg some h3.symm,h3u⟩,lB rfl (fun i zs h=>?_) (lB rfl (fun i zs h=>?_) trivial)⟩,?_⟩
  ·show (mk _ _ _).hp (tau [([5],[23])] [202,i])=_
   simp only [go_sem]
   exact aL (fr:=[]) (u:=[]) h
  ·show (mk _ _ _).hp (tau [([5],[23])] [203,i])=_
   simp only [go_sem]
   exact aL (fr:=[]) (u:=[]) h
  ·refine ⟨⟨?_,?_,?_,?_,?_,?_,sK (fun i j _ _ _ _ e=>?_) (fun i _ _ q hq=>?_) (sK (fun i j _ _ _ _ e=>?_) (fun i _ _ q hq=>by cases hq) trivial)⟩,iv fun q hq _=>?_⟩
   iterate 6
    ·intro q hq
     obtain ⟨i,e | e⟩:=mF hq<;>rw [e]<;>simp
   ·rw [jf,jf] at e;simpa using e
   ·rcases List.mem_append.1 hq with hq | hq
    ·obtain ⟨j,_,_,rfl⟩:=(bD 203 ys 0 q).1 hq
     rw [jf,jf];simp
    ·cases hq
   ·rw [jf,jf] at e;simpa using e
   ·obtain ⟨i,e | e⟩:=mF hq<;>rw [e,jf]
end Go.Proofs.YthfodompfpdmgaaGreatDoor

namespace Go.Proofs.YthfodompfpdmgaaGreatDoor
open Go.Ab
def CU (N:Nat) (hs:List (Int × D)) (hit:Nat→Bool):Prop:=∀ x:Nat,x<N→(mlook hs (x:Int)).getD (.bool false)=.bool (hit x)
theorem oE {p:Nat→Bool} {L:List Nat} {j:Nat} (h:j<L.length):(L.take (j+1)).filter p=(L.take j).filter p++(if p L[j] then [L[j]] else []):=by
 rw [List.take_succ_eq_append_getElem h,List.filter_append]
 congr 1
 cases hp:p L[j]<;>simp [hp]
theorem kM {cls L:List Nat} {j n:Nat} (h:j<L.length):cn cls (L.take (j+1)) n=(cn cls (L.take j) n).set L[j] n:=by
 rw [List.take_succ_eq_append_getElem h,cn,List.foldl_append];rfl
set_option maxHeartbeats 4000000 in
theorem AX {G} (l:List EA) (st:Int) (F:D) (s:PS) (o:Nat) (c:List D) (es:List (Int × D)) (i clk:Nat) (bs:List Nat) (hs:List (Int × D)) (hit:Nat→Bool) (hN:l.length≤4000) (w:Wf l.length s) (hi:i<s.sets.length) (hh:CU l.length hs hit) (hq:Queue c o 0 s.wait) (hin:gz es s.wait) :
  HCall Tryz.prog G 142 [.bx [0] 0,.d (i64 i),.d (mpD clk bs (menc (fun n:Int=>i64 n) hs))] (bp l st F s 2 3 o c es) [0,1,2,3,100] (fun r hp'=>r=.tup []∧((aJ hit s i=s∧hp'=bp l st F s 2 3 o c es) ∨
   ∃ c' es',hp'=bp l st F (aJ hit s i) 6 7 0 c' es'∧Queue c' 0 0 (aJ hit s i).wait∧gz es' (aJ hit s i).wait)):=by
 have hwl:=aH (n:=s.sets.length) w.wn w.wt
 have hsl:=w.le
 obtain ⟨hsn,hsx⟩:=w.in' i hi
 obtain ⟨L,hL⟩:∃ L,s.sets.getD i []=L:=⟨_,rfl⟩
 have hgi:(s.sets.map bZ).getD i .nilp=.sl none (L.map nD):=by rw [← hL];simp [hi,bZ]
 rw [hL] at hsx hsn
 have hLN:L.length≤l.length:=by
  have hd:=w.dn i hi
  rw [hL] at hd
  exact aH hd fun x hx=>(hsx x hx).1
 unfold bp dK
 refine bQ Tryz.func142 rfl (by decide +kernel) (by simp [Tryz.ntmps142]) (veil fun E=>?_)
 simp only [go_sem]
 refine ⟨by omega,?_⟩
 rw [hgi]
 simp only [go_sem]
 refine jh E 6 98 none rfl (by rw [ag];decide) ?_
 simp only [go_sem]
 refine jh E 7 97 none rfl (by rw [ag];decide) ?_
 simp only [go_sem]
 have hLl:L.length≤L.length:=Nat.le_refl _
 refine an E (X:={ j:Nat // j≤L.length }) (fun x=>[(0,.bx [0] 0),(1,.d (i64 i)),(2,.d (mpD clk bs (menc (fun n:Int=>i64 n) hs))),(6,.vw [98] 0 ((L.take x.1).filter hit).length),(7,.vw [97] 0 ((L.take x.1).filter fun y=>!hit y).length),(21,.d (.sl none (L.map nD))),(22,.d (i64 L.length)),(23,.d (i64 x.1))])
  (fun x=>[([0],.box [.d (.sl (some 13) (l.map stD)),.d (i64 st),.d F,.vw [1] 0 s.cls.length,.vw [2] 0 s.sets.length,.vw [3] o s.wait.length,.mp [100]]),([1],.arr none (s.cls.map nD)),([2],.arr none (s.sets.map bZ)),([3],.arr none c),([100],.map (menc (fun n:Int=>i64 n) es)),([98],.arr none (((L.take x.1).filter hit).map nD)),([97],.arr none (((L.take x.1).filter fun y=>!hit y).map nD))])
  [0,1,2,3,100,98,97] (fun x=>L.length-x.1) ⟨0,Nat.zero_le _⟩ id ?_ ?_
 ·simp only [go_sem]
  all_goals first | rfl | ((repeat' apply And.intro)<;>first | rfl | trivial)
 rintro ⟨j,hj⟩ E0
 refine aK E0 fun Q' hQ E'=>?_
 simp only at hj ⊢
 simp only [go_sem]
 refine ak E' (fun h1=>?_) (fun h1=>?_)<;>simp only [go_sem]
 ·have hj':j<L.length:=by omega
  have hgx:(L.map nD).getD j .nilp=i64 (L[j]:Nat):=by simp [hj',nD]
  have hxl:=(hsx _ (List.getElem_mem hj')).1
  have hhx:=hh _ hxl
  refine ⟨by omega,?_⟩
  rw [hgx]
  simp only [go_sem]
  refine wa E' clk bs hs (L[j]:Int) (.bool false) (by rw [gE]) n4 uO rfl rfl (by simp) ?_
  simp only [jc,hhx]
  simp only [go_sem]
  have hf1:=oE (p:=hit) hj'
  have hf2:=oE (p:=fun y=>!hit y) hj'
  have hb1:=List.length_filter_le hit (L.take j)
  have hb2:=List.length_filter_le (fun y=>!hit y) (L.take j)
  rw [List.length_take] at hb1 hb2
  refine bG E' (fun h2=>?_) (fun h2=>?_)<;>simp only [go_sem]
  ·rw [if_pos h2] at hf1
   rw [h2,if_neg (by decide),List.append_nil] at hf2
   refine ⟨by omega,?_⟩
   rw [hQ]
   simp only [go_sem]
   refine ⟨⟨j+1,hj'⟩,by show L.length-(j+1)<L.length-j;omega,tau [([98],[33])],?_⟩
   simp only [go_sem]
   rw [hf1,hf2,aa ⟨by omega,by omega⟩,List.length_append,List.map_append]
   (repeat' apply And.intro)<;>first | rfl | trivial
  ·rw [if_neg (by rw [h2];decide),List.append_nil] at hf1
   rw [h2,if_pos (by decide)] at hf2
   refine ⟨by omega,?_⟩
   rw [hQ]
   simp only [go_sem]
   refine ⟨⟨j+1,hj'⟩,by show L.length-(j+1)<L.length-j;omega,tau [([97],[37])],?_⟩
   simp only [go_sem]
   rw [hf1,hf2,aa ⟨by omega,by omega⟩,List.length_append,List.map_append]
   (repeat' apply And.intro)<;>first | rfl | trivial
 ·have hje:j=L.length:=by omega
  subst hje
  rw [List.take_length,hQ]
  simp only [go_sem]
  clear hQ E' E0 Q'
  have hlA:=List.length_filter_le hit L
  have hlB:=List.length_filter_le (fun y=>!hit y) L
  obtain ⟨A,hA'⟩:∃ A,L.filter hit=A:=⟨_,rfl⟩
  obtain ⟨B,hB'⟩:∃ B,(L.filter fun y=>!hit y)=B:=⟨_,rfl⟩
  rw [hA'] at hlA ⊢
  rw [hB'] at hlB ⊢
  have hAA:dv hit s i=A:=by rw [dv,hL];exact hA'
  have hBB:dy hit s i=B:=by rw [dy,hL];exact hB'
  have hsame:A=[]∨B=[]→aJ hit s i=s:=fun h=>cd (by rw [hAA,hBB];exact h)
  refine aI E (fun h3=>?_) (fun h3=>?_)<;>simp only [go_sem]
  ·refine ⟨.tup [],_,[0,1,2,3,100],id,⟨rfl,.inl ⟨hsame (.inl (List.eq_nil_of_length_eq_zero (by omega))),rfl⟩⟩,?_⟩
   simp only [go_sem]
  ·refine ak E (fun h4=>?_) (fun h4=>?_)<;>simp only [go_sem]
   ·refine ⟨.tup [],_,[0,1,2,3,100],id,⟨rfl,.inl ⟨hsame (.inr (List.eq_nil_of_length_eq_zero (by omega))),rfl⟩⟩,?_⟩
    simp only [go_sem]
   ·have hne:¬ (dv hit s i=[]∨dy hit s i=[]):=by
     rw [hAA,hBB]
     rintro (h | h)
     ·rw [h] at h3;simp at h3
     ·rw [h] at h4;simp at h4
    have hnew:=bW hne
    refine ak E (fun h5=>?_) (fun h5=>?_)<;>simp only [go_sem]
    ·have hls:bl hit s i=B:=by rw [bl,hAA,hBB,if_pos (by omega)]
     have hmo:dC hit s i=A:=by rw [dC,hAA,hBB,if_pos (by omega)]
     rw [hls,hmo] at hnew
     refine ⟨by omega,?_⟩
     refine dr E [98] none ((A).map nD) rfl rfl ?_
     simp only [go_sem]
     refine dr E [97] none ((B).map nD) rfl rfl ?_
     simp only [go_sem]
     refine ⟨by omega,?_⟩
     obtain ⟨n,hn⟩:∃ n,s.sets.length=n:=⟨_,rfl⟩
     obtain ⟨S2,hS2⟩:∃ S2,s.sets.set i (A)++[B]=S2:=⟨_,rfl⟩
     have hS2l:S2.length=n+1:=by rw [← hS2];simp [hn]
     have hS2m:(s.sets.map bZ).set i (.sl none ((A).map nD))++[.sl none ((B).map nD)]=S2.map bZ:=by
      rw [← hS2,List.map_append,List.map_set];rfl
     have hLx:∀ x∈(B),x<l.length:=fun x hx=>(hsx x (by (rw [← hB'] at hx;exact (List.mem_filter.1 hx).1))).1
     refine an E (X:={ j:Nat // j≤(B).length }) (fun x=>[(0,.bx [0] 0),(12,.d (i64 n)),(78,.d (.sl none ((B).map nD))),(79,.d (i64 (B).length)),(80,.d (i64 x.1))])
      (fun x=>[([0],.box [.d (.sl (some 13) (l.map stD)),.d (i64 st),.d F,.vw [1] 0 s.cls.length,.vw [96] 0 (n+1),.vw [3] o s.wait.length,.mp [100]]),([1],.arr none ((cn s.cls ((B).take x.1) n).map nD)),([96],.arr none (S2.map bZ)),([3],.arr none c),([100],.map (menc (fun n:Int=>i64 n) es))])
      [0,1,2,3,100,96] (fun x=>(B).length-x.1) ⟨0,Nat.zero_le _⟩ (tau [([96],[75])]) ?_ ?_
     ·rw [← hS2m,hn]
      simp only [go_sem]
      rw [List.take_of_length_le (by simp [hn])]
      exact ⟨rfl,rfl⟩
     rintro ⟨j,hj⟩ E0
     refine aK E0 fun Q' hQ E'=>?_
     simp only at hj ⊢
     simp only [go_sem]
     refine ak E' (fun h6=>?_) (fun h6=>?_)<;>simp only [go_sem]
     ·have hj':j<(B).length:=by omega
      have hgx:((B).map nD).getD j .nilp=i64 ((B)[j]:Nat):=by simp [hj',nD]
      have hxl:=hLx _ (List.getElem_mem hj')
      have hcl:=w.len
      refine ⟨by omega,?_⟩
      rw [hgx]
      simp only [go_sem]
      refine ⟨by omega,?_⟩
      rw [hQ]
      simp only [go_sem]
      refine ⟨⟨j+1,hj'⟩,by show (B).length-(j+1)<(B).length-j;omega,id,?_⟩
      simp only [go_sem]
      rw [kM hj',List.map_set,aa ⟨by omega,by omega⟩]
      (try simp only [List.length_set,List.length_map,bF])
      (repeat' apply And.intro)<;>first | rfl | trivial
     ·have hje:j=(B).length:=by omega
      subst hje
      rw [List.take_length,hQ]
      simp only [go_sem]
      clear hQ E' E0 Q'
      have hnw:n ∉ s.wait:=fun h=>by have:=w.wt n h;omega
      have hcq:=u5 (G:=G) l st F ⟨cn s.cls (B) n,S2,s.wait⟩ o c es n hq hin hnw (by show s.wait.length≤_;omega)
      have hsp:aJ hit s i=⟨cn s.cls (B) n,S2,s.wait++[n]⟩:=by rw [hnew,hS2,hn]
      refine iU E (tau [([2],[96])]) [.bx [0] 0,.d (i64 n)] (bp l st F ⟨cn s.cls (B) n,S2,s.wait⟩ 2 3 o c es) [0,1,2,3,100] hcq rfl (by simp only [go_sem]) ⟨by simp only [go_sem],by rw [ag];decide⟩ rfl (by unfold bp dK;simp only [bF,hS2l];simp only [go_sem]) (by unfold bp dK;simp only [go_sem]) ?_
      rintro _ _ ⟨rfl,c',es',rfl,hq',hin'⟩
      unfold bp dK
      simp only [bF,hS2l]
      simp only [go_sem]
      refine ⟨⟨Nat.le_refl _,Nat.le_refl _⟩,.tup [],_,[0,1,2,3,100,6,7],tau [([6],[96]),([7],[94,5])],⟨rfl,.inr ⟨c',es',rfl,by rw [hsp];exact hq',by rw [hsp];exact hin'⟩⟩,?_⟩
      rw [hsp]
      simp only [bF,hS2l]
      simp only [go_sem]
    ·have hls:bl hit s i=A:=by rw [bl,hAA,hBB,if_neg (by omega)]
     have hmo:dC hit s i=B:=by rw [dC,hAA,hBB,if_neg (by omega)]
     rw [hls,hmo] at hnew
     refine ⟨by omega,?_⟩
     refine dr E [97] none ((B).map nD) rfl rfl ?_
     simp only [go_sem]
     refine dr E [98] none ((A).map nD) rfl rfl ?_
     simp only [go_sem]
     refine ⟨by omega,?_⟩
     obtain ⟨n,hn⟩:∃ n,s.sets.length=n:=⟨_,rfl⟩
     obtain ⟨S2,hS2⟩:∃ S2,s.sets.set i (B)++[A]=S2:=⟨_,rfl⟩
     have hS2l:S2.length=n+1:=by rw [← hS2];simp [hn]
     have hS2m:(s.sets.map bZ).set i (.sl none ((B).map nD))++[.sl none ((A).map nD)]=S2.map bZ:=by
      rw [← hS2,List.map_append,List.map_set];rfl
     have hLx:∀ x∈(A),x<l.length:=fun x hx=>(hsx x (by (rw [← hA'] at hx;exact (List.mem_filter.1 hx).1))).1
     refine an E (X:={ j:Nat // j≤(A).length }) (fun x=>[(0,.bx [0] 0),(12,.d (i64 n)),(78,.d (.sl none ((A).map nD))),(79,.d (i64 (A).length)),(80,.d (i64 x.1))])
      (fun x=>[([0],.box [.d (.sl (some 13) (l.map stD)),.d (i64 st),.d F,.vw [1] 0 s.cls.length,.vw [96] 0 (n+1),.vw [3] o s.wait.length,.mp [100]]),([1],.arr none ((cn s.cls ((A).take x.1) n).map nD)),([96],.arr none (S2.map bZ)),([3],.arr none c),([100],.map (menc (fun n:Int=>i64 n) es))])
      [0,1,2,3,100,96] (fun x=>(A).length-x.1) ⟨0,Nat.zero_le _⟩ (tau [([96],[75])]) ?_ ?_
     ·rw [← hS2m,hn]
      simp only [go_sem]
      rw [List.take_of_length_le (by simp [hn])]
      exact ⟨rfl,rfl⟩
     rintro ⟨j,hj⟩ E0
     refine aK E0 fun Q' hQ E'=>?_
     simp only at hj ⊢
     simp only [go_sem]
     refine ak E' (fun h6=>?_) (fun h6=>?_)<;>simp only [go_sem]
     ·have hj':j<(A).length:=by omega
      have hgx:((A).map nD).getD j .nilp=i64 ((A)[j]:Nat):=by simp [hj',nD]
      have hxl:=hLx _ (List.getElem_mem hj')
      have hcl:=w.len
      refine ⟨by omega,?_⟩
      rw [hgx]
      simp only [go_sem]
      refine ⟨by omega,?_⟩
      rw [hQ]
      simp only [go_sem]
      refine ⟨⟨j+1,hj'⟩,by show (A).length-(j+1)<(A).length-j;omega,id,?_⟩
      simp only [go_sem]
      rw [kM hj',List.map_set,aa ⟨by omega,by omega⟩]
      (try simp only [List.length_set,List.length_map,bF])
      (repeat' apply And.intro)<;>first | rfl | trivial
     ·have hje:j=(A).length:=by omega
      subst hje
      rw [List.take_length,hQ]
      simp only [go_sem]
      clear hQ E' E0 Q'
      have hnw:n ∉ s.wait:=fun h=>by have:=w.wt n h;omega
      have hcq:=u5 (G:=G) l st F ⟨cn s.cls (A) n,S2,s.wait⟩ o c es n hq hin hnw (by show s.wait.length≤_;omega)
      have hsp:aJ hit s i=⟨cn s.cls (A) n,S2,s.wait++[n]⟩:=by rw [hnew,hS2,hn]
      refine iU E (tau [([2],[96])]) [.bx [0] 0,.d (i64 n)] (bp l st F ⟨cn s.cls (A) n,S2,s.wait⟩ 2 3 o c es) [0,1,2,3,100] hcq rfl (by simp only [go_sem]) ⟨by simp only [go_sem],by rw [ag];decide⟩ rfl (by unfold bp dK;simp only [bF,hS2l];simp only [go_sem]) (by unfold bp dK;simp only [go_sem]) ?_
      rintro _ _ ⟨rfl,c',es',rfl,hq',hin'⟩
      unfold bp dK
      simp only [bF,hS2l]
      simp only [go_sem]
      refine ⟨⟨Nat.le_refl _,Nat.le_refl _⟩,.tup [],_,[0,1,2,3,100,6,7],tau [([6],[96]),([7],[94,5])],⟨rfl,.inr ⟨c',es',rfl,by rw [hsp];exact hq',by rw [hsp];exact hin'⟩⟩,?_⟩
      rw [hsp]
      simp only [bF,hS2l]
      simp only [go_sem]
end Go.Proofs.YthfodompfpdmgaaGreatDoor

namespace Go.Ab
open Go.Sort Go.Lib Go.Proofs Go.Shelf Go.RowKit
theorem Sim.grown {B:Base} {β:Name→Option Blk} {s:St} {tm:Array Value} {w w':World} (h:Sim B β s tm w) (hs:w.heap.size≤w'.heap.size) (ho:∀ b,b<w.heap.size→w'.heap[b]?=w.heap[b]?) (hio:wio w'=wio w):Sim B β s tm w':=by
 have hr:∀ v d,Rep w.heap (s.own B.A β) v d→Rep w'.heap (s.own B.A β) v d:=fun v d hd=>hd.mono (fun b _ hb=>ho b hb) (fun _ _ h=>h)
 have hst:∀ p,nm s.used p→Stays s.hp s.hp β β p:=fun p _ o' ho'=>⟨o',ho',Ob.aQ _,rfl⟩
 refine { tms:=h.tms,io:=hio.trans h.io,size:=Nat.le_trans h.size hs,frame:=fun b hb hn=>(ho b (Nat.lt_of_lt_of_le hb h.size)).trans (h.frame b hb hn),slots:=fun t=>(h.slots t).mono hr (fun _ h=>h) hst,objs:=fun p o ho'=>?_,blocks:=fun p k hp hk=>?_,inj:=h.inj,us:=h.us,stay:=h.stay }
 ·obtain ⟨h1,h2⟩:=h.objs p o ho'
  exact ⟨h1,h2.mono hr (fun _ h=>h) hst rfl fun k hk=>ho k.b (h.blocks p k (by rw [ho'];simp) hk).1⟩
 ·obtain ⟨h1,h2⟩:=h.blocks p k hp hk
  exact ⟨Nat.lt_of_lt_of_le h1 hs,h2⟩
theorem td:∀ {l:List D} {vs:List Value},vals l=some vs→∀ d∈l,d.scal=true
 | [],_,_,d,hd=>by cases hd
 | x::r,vs,h,d,hd=>by
   simp only [vals] at h
   split at h
   ·rename_i v vs' h1 h2
    rcases List.mem_cons.1 hd with rfl | hd
    ·cases d<;>simp [D.val] at h1<;>rfl
    ·exact td h2 d hd
   ·cases h
section
variable {P:Program} {α:Type} [Inhabited α]
theorem rV {G:List (Nat × Obj)} {f g k:Nat} (hk0:0<k) (enc:α→List Value) (encD:α→List D) (lt:α→α→Bool) (hlen:∀ x,(encD x).length=k) (hval:∀ x,vals (encD x)=some (enc x))
  (he:∀ vs w,(callFunc f vs).run P w=.ok (.enter f vs) w)
  (hcon:∀ (blk off cap:Nat) (d:Array α) (w:World),HoldsK enc k w blk off d→blk<w.heap.size→d.size<4611686018427387904→Calls P f #[.slice (some ⟨blk,off,none⟩) d.size cap,.func (.func g) #[] #[]] w fun e w' =>
   e=.returned (.tuple #[])∧∃ d' n os,PermIn 0 d.size d d'∧SortedIn lt 0 d.size d'∧w'=sortWorldK enc k w blk off n d' os)
  (hnone:∀ (p:Option Addr) (cap:Nat) (w:World),Calls P f #[.slice p 0 cap,.func (.func g) #[] #[]] w fun e w'=>e=.returned (.tuple #[])∧w'=w)
  (a:Nat) (l:List α) (hl:l.length<4611686018427387904) :
  HCall P G f [.vw [a] 0 l.length,.clo g []] [([a],.arr (some k) (l.map fun x=>.agg (encD x)))] [a] (fun r hp'=>r=.tup []∧∃ l':List α,l'.Perm l∧l'.Pairwise (fun x y=>lt y x=false)∧hp'=[([a],.arr (some k) (l'.map fun x=>.agg (encD x)))]):=by
 refine ⟨he,fun B β vs w h1 h2 h3 h4 hs=>?_⟩
 have hsz:vs.size=2:=by rw [hs.tms,h1];rfl
 obtain ⟨v0,v1,rfl⟩:∃ v0 v1,vs=#[v0,v1]:=by
  rcases vs with ⟨_ | ⟨x,_ | ⟨y,_ | ⟨z,r⟩⟩⟩⟩<;>simp at hsz
  exact ⟨x,y,rfl⟩
 have hs0:=hs.slots 0
 have hs1:=hs.slots 1
 have hhp:(mk (aB 0 [.vw [a] 0 l.length,.clo g []]) [([a],.arr (some k) (l.map fun x=>.agg (encD x)))] [a]).hp [a]=some (.arr (some k) (l.map fun x=>.agg (encD x))):=by simp [mk,lkA]
 have e0:(#[v0,v1]:Array Value).getD 0 undef=v0:=rfl
 have e1:(#[v0,v1]:Array Value).getD 1 undef=v1:=rfl
 rw [e0] at hs0
 rw [e1] at hs1
 have hv1:v1=.func (.func g) #[] #[]:=by
  have hs1':VR w.heap _ _ _ β v1 (.clo g []):=hs1
  cases hs1' with
  | clo _ vs _ hz _ =>
    have:vs=#[]:=Array.eq_empty_of_size_eq_zero (by simpa using hz)
    rw [this]
 obtain ⟨av,cap,hv0,hv0'⟩:∃ av cap,v0=.slice av l.length cap∧(l.length=0∧cap=0∨∃ kk,β [a]=some kk∧av=some ⟨kk.b,kk.o+0*wd (some k),none⟩∧l.length≤cap∧kk.o+(0+cap)*wd (some k)≤kk.z):=by
  have hs0':VR w.heap _ _ _ β v0 (.vw [a] 0 l.length):=hs0
  cases hs0' with
  | vw _ _ _ _ _ _ h=>exact (h _ _ _ hhp).2
 subst hv1 hv0
 by_cases hl0:l=[]
 ·subst hl0
  refine ((callsIn_wide (n:=0)).2 (hnone av cap w)).mono ?_
  rintro e w' ⟨rfl,rfl⟩
  refine ⟨_,.tup [],_,[a],β,rfl,⟨rfl,[],.refl _,.nil,rfl⟩,?_⟩
  refine { tms:=rfl,io:=hs.io,size:=hs.size,frame:=hs.frame,slots:=fun t=>?_,objs:=hs.objs,blocks:=hs.blocks,inj:=hs.inj,us:=hs.us,stay:=hs.stay }
  rw [df,bd,fZ]
  by_cases ht:t=0
  ·subst ht
   rw [if_pos rfl]
   exact .tup _ _ rfl fun i x hi=>by simp at hi
  ·rw [if_neg ht];exact .un _
 have hpos:0<l.length:=List.length_pos_iff.2 hl0
 obtain ⟨kk,hkk,rfl,hcap,hz⟩:=hv0'.resolve_left (by omega)
 obtain ⟨k',c,e,hk',hc,hcz,hlz,hw,hrep⟩:=((hs.objs [a] _ hhp).2).resolve_left (fun h=>by rw [hkk] at h;cases h.1)
 obtain rfl:=Option.some.inj (hkk.symm.trans hk')
 have hblk:=ah hc
 have hwd:wd (some k)=k:=rfl
 rw [hwd] at hlz hrep hz
 rw [List.length_map] at hlz
 have hcell:∀ i j,i<l.length→j<k→c.getD (kk.o+i*k+j) undef=(enc l.toArray[i]!)[j]!:=by
  intro i j hi hj
  have h1:(l.map fun x=>D.agg (encD x))[i]?=some (.agg (encD l[i])):=by simp [hi]
  have hj':j<(encD l[i]).length:=by rw [hlen];exact hj
  have h2:=hrep i _ j (encD l[i])[j] h1 (List.getElem?_eq_getElem hj')
  obtain ⟨g1,g2⟩:=jI (hval l[i])
  have g3:=g2 j _ (List.getElem?_eq_getElem hj')
  have hj2:j<(enc l[i]).length:=by rw [g1];exact hj'
  rw [List.getElem?_eq_getElem hj2] at g3
  have:=h2.val g3
  rw [this]
  simp [hi,hj2]
 have hH:HoldsK enc k w kk.b kk.o l.toArray:=by
  intro t ht
  rw [size_flatK] at ht
  have ht:t<l.length*k:=by simpa using ht
  rw [get_flatK enc k l.toArray t (by simpa using ht)]
  have hi:t / k<l.length:=Nat.div_lt_of_lt_mul (by rw [Nat.mul_comm];exact ht)
  have hj:t % k<k:=Nat.mod_lt _ hk0
  have hdm:t / k*k+t % k=t:=by rw [Nat.mul_comm];exact Nat.div_add_mod t k
  have:=hcell (t / k) (t % k) hi hj
  rw [Nat.add_assoc,hdm] at this
  have hlt:kk.o+t<c.size:=by omega
  refine ⟨?_,?_⟩
  ·simp only [World.cell?,hc]
   rw [← this]
   simp [Array.getD_eq_getD_getElem?,hlt]
  ·simp [World.frozen?,hc]
 have hsa:(l.toArray).size=l.length:=by simp
 have hcl:=(callsIn_wide (n:=0)).2 (hcon kk.b kk.o cap l.toArray w hH hblk (by rw [hsa];exact hl))
 rw [hsa] at hcl
 have e3:(⟨kk.b,kk.o+0*wd (some k),none⟩:Addr)=⟨kk.b,kk.o,none⟩:=by rw [Nat.zero_mul,Nat.add_zero]
 rw [e3]
 refine hcl.mono ?_
 rintro _ w' ⟨rfl,d',n,os,hp,hsd,rfl⟩
 obtain ⟨hd1,hd2,hd3⟩:=hp
 rw [hsa] at hd1
 have hperm:d'.toList.Perm l:=by
  have e4:(d'.extract 0 l.length).toList=d'.toList:=by rw [← hd1];simp
  have e5:(l.toArray.extract 0 l.length).toList=l:=by simp
  rw [e4,e5] at hd3
  exact hd3
 have hsrt:d'.toList.Pairwise (fun x y=>lt y x=false):=by
  rw [List.pairwise_iff_getElem]
  intro i j hi hj hij
  have:=hsd i j (Nat.zero_le _) hij (by simpa [hd1] using hj)
  have hi':i<d'.size:=by simpa using hi
  have hj':j<d'.size:=by simpa using hj
  rw [getElem!_pos d' i hi',getElem!_pos d' j hj'] at this
  simpa using this
 refine ⟨_,.tup [],_,[a],β,rfl,⟨rfl,d'.toList,hperm,hsrt,rfl⟩,?_⟩
 have hdl:d'.toList.length=l.length:=by simp [hd1]
 have hlike:(Ob.arr (some k) (l.map fun x=>D.agg (encD x))).like (.arr (some k) (d'.toList.map fun x=>D.agg (encD x))):=by
  refine ⟨⟨rfl,rfl⟩,?_⟩
  simp only [List.length_map,hdl]
  exact Nat.le_refl _
 have hw1:(putRow id (Go.Sort.ahead w n) kk.b kk.o (flatK enc k d')).heap=w.heap.modify kk.b (onCells (putCells id kk.o (flatK enc k d'))):=rfl
 obtain ⟨hsim,_⟩:=hs.modify (p:=[a]) (ob':=.arr (some k) (d'.toList.map fun x=>.agg (encD x))) hhp hlike (w':=putRow id (Go.Sort.ahead w n) kk.b kk.o (flatK enc k d')) rfl (by rw [hw1];simp)
  (fun b hb=>by
   have:=hb kk hkk
   rw [hw1,Array.getElem?_modify,if_neg (Ne.symm this)])
  (fun _ _=>by
   refine .inr ⟨kk,putCells id kk.o (flatK enc k d') c,e,hkk,?_,?_,?_,?_,?_⟩
   ·rw [hw1,Array.getElem?_modify,if_pos rfl,hc];rfl
   ·simp [putCells,hcz]
   ·simp only [List.length_map,hdl,hwd];omega
   ·intro x hx
    obtain ⟨y,_,rfl⟩:=List.mem_map.1 hx
    exact ⟨hlen y,td (hval y)⟩
   ·intro i x j dd hi hj
    rw [List.getElem?_map,Option.map_eq_some_iff] at hi
    obtain ⟨y,hy,rfl⟩:=hi
    have hil:i<l.length:=by
     have:=(List.getElem?_eq_some_iff.1 hy).1
     omega
    have hj:(encD y)[j]?=some dd:=hj
    have hjl:j<k:=by rw [← hlen y];exact (List.getElem?_eq_some_iff.1 hj).1
    obtain ⟨g1,g2⟩:=jI (hval y)
    have g3:=g2 j dd hj
    have hik:i*k+j<l.length*k:=by
     have:(i+1)*k≤l.length*k:=Nat.mul_le_mul_right k hil
     rw [Nat.add_mul,Nat.one_mul] at this
     omega
    have hlt:kk.o+i*k+j<c.size:=by omega
    have hget:(putCells id kk.o (flatK enc k d') c).getD (kk.o+i*wd (some k)+j) undef=(enc y)[j]!:=by
     rw [hwd]
     have h5:(flatK enc k d')[i*k+j]! = (enc d'[i]!)[j]!:=by
      rw [get_flatK enc k d' _ (by rw [hd1];exact hik)]
      have h6:(i*k+j) / k=i:=by rw [Nat.add_comm,Nat.add_mul_div_right _ _ hk0,Nat.div_eq_of_lt hjl,Nat.zero_add]
      have h7:(i*k+j) % k=j:=by rw [Nat.add_comm,Nat.add_mul_mod_self_right,Nat.mod_eq_of_lt hjl]
      rw [h6,h7]
     have h8:d'[i]! = y:=by
      have h9:i<d'.size:=by rw [hd1];exact hil
      rw [getElem!_pos d' i h9]
      have:d'.toList[i]?=some d'[i]:=by simp [h9]
      rw [this] at hy
      exact Option.some.inj hy
     simp only [putCells,Array.getD_eq_getD_getElem?,Array.getElem?_mapIdx,Array.getElem?_eq_getElem hlt,Option.map_some,Option.getD_some]
     rw [if_pos ⟨by omega,by rw [size_flatK,hd1];omega⟩,show kk.o+i*k+j-kk.o=i*k+j by omega,h5,h8]
     rfl
    rw [hget]
    have hj2:j<(enc y).length:=by rw [g1,hlen];exact hjl
    rw [List.getElem?_eq_getElem hj2] at g3
    rw [getElem!_pos (enc y) j hj2]
    exact D.vE g3)
 have hgr:=hsim.grown (w':=grow (putRow id (Go.Sort.ahead w n) kk.b kk.o (flatK enc k d')) os) (by simp) (fun b hb=>heap_grow_old _ _ hb) rfl
 have hst:(mk (aB 0 [.vw [a] 0 l.length,.clo g []]) [([a],.arr (some k) (l.map fun x=>.agg (encD x)))] [a]).set [a] (some (.arr (some k) (d'.toList.map fun x=>.agg (encD x))))=mk (aB 0 [.vw [a] 0 l.length,.clo g []]) [([a],.arr (some k) (d'.toList.map fun x=>.agg (encD x)))] [a]:=by
  rw [uD]
  simp [eX]
 rw [hst] at hgr
 refine { tms:=rfl,io:=hgr.io,size:=hgr.size,frame:=hgr.frame,slots:=fun t=>?_,objs:=hgr.objs,blocks:=hgr.blocks,inj:=hgr.inj,us:=hgr.us,stay:=hgr.stay }
 rw [df,bd,fZ]
 by_cases ht:t=0
 ·subst ht
  rw [if_pos rfl]
  exact .tup _ _ rfl fun i x hi=>by simp at hi
 ·rw [if_neg ht];exact .un _
end
end Go.Ab

namespace Go.Ab
open Go.Sort Go.Lib Go.Proofs Go.Shelf Go.RowKit
section
variable {P:Program}
theorem xc {G:List (Nat × Obj)} {f:Nat} (he:∀ vs w,(callFunc f vs).run P w=.ok (.enter f vs) w)
  (hcon:∀ (blk off cap:Nat) (zs:List Int) (w:World),Holds (Value.int .i64) w blk off zs.toArray→blk<w.heap.size→zs.length<4611686018427387904→Calls P f #[.slice (some ⟨blk,off,none⟩) zs.length cap] w fun e w' =>
   e=.returned (.tuple #[])∧∃ n os,w'=grow (putRow (Value.int .i64) (Go.Sort.ahead w n) blk off (zs.mergeSort fun x y=>decide (x≤y)).toArray) os)
  (hnone:∀ (p:Option Addr) (cap:Nat) (w:World),Calls P f #[.slice p 0 cap] w fun e w'=>e=.returned (.tuple #[])∧w'=w)
  (a:Nat) (l:List Int) (hl:l.length<4611686018427387904) :
  HCall P G f [.vw [a] 0 l.length] [([a],.arr none (l.map fun z=>D.int .i64 z))] [a] (fun r hp'=>r=.tup []∧hp'=[([a],.arr none ((l.mergeSort fun x y=>decide (x≤y)).map fun z=>D.int .i64 z))]):=by
 refine ⟨he,fun B β vs w h1 h2 h3 h4 hs=>?_⟩
 have hsz:vs.size=1:=by rw [hs.tms,h1];rfl
 obtain ⟨v0,rfl⟩:∃ v0,vs=#[v0]:=by
  rcases vs with ⟨_ | ⟨x,_ | ⟨y,r⟩⟩⟩<;>simp at hsz
  exact ⟨x,rfl⟩
 have hs0:=hs.slots 0
 have hhp:(mk (aB 0 [.vw [a] 0 l.length]) [([a],.arr none (l.map fun z=>D.int .i64 z))] [a]).hp [a]=some (.arr none (l.map fun z=>D.int .i64 z)):=by simp [mk,lkA]
 have e0:(#[v0]:Array Value).getD 0 undef=v0:=rfl
 rw [e0] at hs0
 have hlm:(l.mergeSort fun x y=>decide (x≤y)).length=l.length:=List.length_mergeSort _
 obtain ⟨av,cap,hv0,hv0'⟩:∃ av cap,v0=.slice av l.length cap∧(l.length=0∧cap=0∨∃ kk,β [a]=some kk∧av=some ⟨kk.b,kk.o+0*wd none,none⟩∧l.length≤cap∧kk.o+(0+cap)*wd none≤kk.z):=by
  have hs0':VR w.heap _ _ _ β v0 (.vw [a] 0 l.length):=hs0
  cases hs0' with
  | vw _ _ _ _ _ _ h=>exact (h _ _ _ hhp).2
 subst hv0
 by_cases hl0:l=[]
 ·subst hl0
  have hn:(([]:List Int).mergeSort fun x y=>decide (x≤y))=[]:=List.mergeSort_nil
  rw [hn]
  refine ((callsIn_wide (n:=0)).2 (hnone av cap w)).mono ?_
  rintro e w' ⟨rfl,rfl⟩
  refine ⟨_,.tup [],_,[a],β,rfl,⟨rfl,rfl⟩,?_⟩
  refine { tms:=rfl,io:=hs.io,size:=hs.size,frame:=hs.frame,slots:=fun t=>?_,objs:=hs.objs,blocks:=hs.blocks,inj:=hs.inj,us:=hs.us,stay:=hs.stay }
  rw [df,bd,fZ]
  by_cases ht:t=0
  ·subst ht
   rw [if_pos rfl]
   exact .tup _ _ rfl fun i x hi=>by simp at hi
  ·rw [if_neg ht];exact .un _
 have hpos:0<l.length:=List.length_pos_iff.2 hl0
 obtain ⟨kk,hkk,rfl,hcap,hz⟩:=hv0'.resolve_left (by omega)
 obtain ⟨k',c,e,hk',hc,hcz,hlz,hw,hrep⟩:=((hs.objs [a] _ hhp).2).resolve_left (fun h=>by rw [hkk] at h;cases h.1)
 obtain rfl:=Option.some.inj (hkk.symm.trans hk')
 have hblk:=ah hc
 have hwd:wd none=1:=rfl
 rw [hwd] at hlz hz
 rw [List.length_map] at hlz
 have hcell:∀ i,(hi:i<l.length)→c.getD (kk.o+i) undef=.int .i64 l[i]:=by
  intro i hi
  have h1:(l.map fun z=>D.int .i64 z)[i]?=some (.int .i64 l[i]):=by simp [hi]
  have h2:=hrep i _ 0 (.int .i64 l[i]) h1 rfl
  rw [hwd,Nat.mul_one,Nat.add_zero] at h2
  cases hv:c.getD (kk.o+i) undef<;>rw [hv] at h2<;>cases h2
  rfl
 have hH:Holds (Value.int .i64) w kk.b kk.o l.toArray:=by
  intro t ht
  have ht':t<l.length:=by simpa using ht
  have:=hcell t ht'
  have hlt:kk.o+t<c.size:=by omega
  refine ⟨?_,?_⟩
  ·simp only [World.cell?,hc]
   rw [Array.getD_eq_getD_getElem?,Array.getElem?_eq_getElem hlt,Option.getD_some] at this
   rw [Array.getElem?_eq_getElem hlt,this]
   simp [ht']
  ·simp [World.frozen?,hc]
 have hcl:=(callsIn_wide (n:=0)).2 (hcon kk.b kk.o cap l w hH hblk hl)
 have e3:(⟨kk.b,kk.o+0*wd none,none⟩:Addr)=⟨kk.b,kk.o,none⟩:=by rw [Nat.zero_mul,Nat.add_zero]
 rw [e3]
 refine hcl.mono ?_
 rintro _ w' ⟨rfl,n,os,rfl⟩
 obtain ⟨m,hm⟩:∃ m,(l.mergeSort fun x y=>decide (x≤y))=m:=⟨_,rfl⟩
 rw [hm] at hlm ⊢
 refine ⟨_,.tup [],_,[a],β,rfl,⟨rfl,rfl⟩,?_⟩
 have hlike:(Ob.arr none (l.map fun z=>D.int .i64 z)).like (.arr none (m.map fun z=>D.int .i64 z)):=by
  refine ⟨⟨rfl,rfl⟩,?_⟩
  simp only [List.length_map,hlm]
  exact Nat.le_refl _
 have hw1:(putRow (Value.int .i64) (Go.Sort.ahead w n) kk.b kk.o m.toArray).heap=w.heap.modify kk.b (onCells (putCells (Value.int .i64) kk.o m.toArray)):=rfl
 obtain ⟨hsim,_⟩:=hs.modify (p:=[a]) (ob':=.arr none (m.map fun z=>D.int .i64 z)) hhp hlike (w':=putRow (Value.int .i64) (Go.Sort.ahead w n) kk.b kk.o m.toArray) rfl (by rw [hw1];simp)
  (fun b hb=>by
   have:=hb kk hkk
   rw [hw1,Array.getElem?_modify,if_neg (Ne.symm this)])
  (fun _ _=>by
   refine .inr ⟨kk,putCells (Value.int .i64) kk.o m.toArray c,e,hkk,?_,?_,?_,?_,?_⟩
   ·rw [hw1,Array.getElem?_modify,if_pos rfl,hc];rfl
   ·simp [putCells,hcz]
   ·simp only [List.length_map,hlm,hwd];omega
   ·intro x hx
    obtain ⟨y,_,rfl⟩:=List.mem_map.1 hx
    rfl
   ·intro i x j dd hi hj
    rw [List.getElem?_map,Option.map_eq_some_iff] at hi
    obtain ⟨y,hy,rfl⟩:=hi
    have hil:i<m.length:=(List.getElem?_eq_some_iff.1 hy).1
    have hj:[D.int .i64 y][j]?=some dd:=hj
    have hj0:j=0:=by
     have:=(List.getElem?_eq_some_iff.1 hj).1
     simpa using this
    subst hj0
    obtain rfl:=Option.some.inj hj
    have hlt:kk.o+i<c.size:=by omega
    have hget:(putCells (Value.int .i64) kk.o m.toArray c).getD (kk.o+i*wd none+0) undef=.int .i64 y:=by
     rw [hwd,Nat.mul_one,Nat.add_zero]
     simp only [putCells,Array.getD_eq_getD_getElem?,Array.getElem?_mapIdx,Array.getElem?_eq_getElem hlt,Option.map_some,Option.getD_some]
     rw [if_pos ⟨by omega,by simp;omega⟩,show kk.o+i-kk.o=i by omega]
     have:=(List.getElem?_eq_some_iff.1 hy).2
     simp [hil,this]
    rw [hget]
    exact .int _ _)
 have hgr:=hsim.grown (w':=grow (putRow (Value.int .i64) (Go.Sort.ahead w n) kk.b kk.o m.toArray) os) (by simp) (fun b hb=>heap_grow_old _ _ hb) rfl
 have hst:(mk (aB 0 [.vw [a] 0 l.length]) [([a],.arr none (l.map fun z=>D.int .i64 z))] [a]).set [a] (some (.arr none (m.map fun z=>D.int .i64 z)))=mk (aB 0 [.vw [a] 0 l.length]) [([a],.arr none (m.map fun z=>D.int .i64 z))] [a]:=by
  rw [uD]
  simp [eX]
 rw [hst] at hgr
 refine { tms:=rfl,io:=hgr.io,size:=hgr.size,frame:=hgr.frame,slots:=fun t=>?_,objs:=hgr.objs,blocks:=hgr.blocks,inj:=hgr.inj,us:=hgr.us,stay:=hgr.stay }
 rw [df,bd,fZ]
 by_cases ht:t=0
 ·subst ht
  rw [if_pos rfl]
  exact .tup _ _ rfl fun i x hi=>by simp at hi
 ·rw [if_neg ht];exact .un _
end
end Go.Ab

namespace Go.Proofs
open Go.Shelf
def Tryz.tn:Go.Shelf.Ren:=⟨fun | 189=>87 | 125=>127 | 257=>126 | 128=>158 | 129=>159 | 294=>149 | 295=>150 | 296=>151 | 297=>152 | 298=>153 | 299=>154 | 216=>155 | 300=>156 | 301=>157 | 328=>174 | 329=>175 | 330=>176 | 331=>177 | 332=>178 | 215=>179 | 343=>202 | n=>n,fun | 28=>46 | 3=>3 | 46=>184 | 0=>0 | 51=>208 | 53=>210 | 4=>4 | 183=>201 | 182=>200 | 131=>100 | 5=>5 | 9=>9 | 218=>223 | 222=>227 | 228=>243 | 229=>102 | n=>n,fun | n=>n⟩
theorem Tryz.vT:Go.Proofs.Lays.n189 Tryz.prog Tryz.tn:={
 mixed:=by kernel_rfl
 f125:=Tryz.func127.trans (congrArg some (by kernel_rfl))
 f128:=Tryz.func158.trans (congrArg some (by kernel_rfl))
 f129:=Tryz.func159.trans (congrArg some (by kernel_rfl))
 f189:=Tryz.func87.trans (congrArg some (by kernel_rfl))
 f215:=Tryz.func179.trans (congrArg some (by kernel_rfl))
 f216:=Tryz.func155.trans (congrArg some (by kernel_rfl))
 f257:=Tryz.func126.trans (congrArg some (by kernel_rfl))
 f294:=Tryz.func149.trans (congrArg some (by kernel_rfl))
 f295:=Tryz.func150.trans (congrArg some (by kernel_rfl))
 f296:=Tryz.func151.trans (congrArg some (by kernel_rfl))
 f297:=Tryz.func152.trans (congrArg some (by kernel_rfl))
 f298:=Tryz.func153.trans (congrArg some (by kernel_rfl))
 f299:=Tryz.func154.trans (congrArg some (by kernel_rfl))
 f300:=Tryz.func156.trans (congrArg some (by kernel_rfl))
 f301:=Tryz.func157.trans (congrArg some (by kernel_rfl))
 f328:=Tryz.func174.trans (congrArg some (by kernel_rfl))
 f329:=Tryz.func175.trans (congrArg some (by kernel_rfl))
 f330:=Tryz.func176.trans (congrArg some (by kernel_rfl))
 f331:=Tryz.func177.trans (congrArg some (by kernel_rfl))
 f332:=Tryz.func178.trans (congrArg some (by kernel_rfl))
 f343:=Tryz.func202.trans (congrArg some (by kernel_rfl))
 t0:=Tryz.underlying0
 a0:=Tryz.isAgg0
 z0:=Tryz.sizeOf0
 v0:=Tryz.zeroValue0
 t3:=Tryz.underlying3
 a3:=Tryz.isAgg3
 z3:=Tryz.sizeOf3
 v3:=Tryz.zeroValue3
 t4:=Tryz.underlying4
 a4:=Tryz.isAgg4
 z4:=Tryz.sizeOf4
 v4:=Tryz.zeroValue4
 t5:=Tryz.underlying5
 a5:=Tryz.isAgg5
 z5:=Tryz.sizeOf5
 v5:=Tryz.zeroValue5
 t9:=Tryz.underlying9
 a9:=Tryz.isAgg9
 z9:=Tryz.sizeOf9
 v9:=Tryz.zeroValue9
 t28:=Tryz.underlying46
 a28:=Tryz.isAgg46
 z28:=Tryz.sizeOf46
 v28:=Tryz.zeroValue46
 t46:=Tryz.underlying184
 a46:=Tryz.isAgg184
 z46:=Tryz.sizeOf184
 v46:=Tryz.zeroValue184
 t51:=Tryz.underlying208
 a51:=Tryz.isAgg208
 z51:=Tryz.sizeOf208
 v51:=Tryz.zeroValue208
 t53:=Tryz.underlying210
 a53:=Tryz.isAgg210
 z53:=Tryz.sizeOf210
 v53:=Tryz.zeroValue210
 t131:=Tryz.underlying100
 a131:=Tryz.isAgg100
 z131:=Tryz.sizeOf100
 v131:=Tryz.zeroValue100
 t182:=Tryz.underlying200
 a182:=Tryz.isAgg200
 z182:=Tryz.sizeOf200
 v182:=Tryz.zeroValue200
 t183:=Tryz.underlying201
 a183:=Tryz.isAgg201
 z183:=Tryz.sizeOf201
 v183:=Tryz.zeroValue201
 t218:=Tryz.underlying223
 a218:=Tryz.isAgg223
 z218:=Tryz.sizeOf223
 v218:=Tryz.zeroValue223
 t222:=Tryz.underlying227
 a222:=Tryz.isAgg227
 z222:=Tryz.sizeOf227
 v222:=Tryz.zeroValue227
 t228:=Tryz.underlying243
 a228:=Tryz.isAgg243
 z228:=Tryz.sizeOf243
 v228:=Tryz.zeroValue243
 t229:=Tryz.underlying102
 a229:=Tryz.isAgg102
 z229:=Tryz.sizeOf102
 v229:=Tryz.zeroValue102 }
def Tryz.rH:Go.Shelf.Ren:=⟨fun | 6=>139 | 15=>127 | 14=>166 | 28=>158 | 29=>159 | 20=>189 | 21=>190 | 22=>191 | 23=>192 | 24=>193 | 25=>194 | 26=>195 | 27=>196 | 46=>207 | 47=>175 | 48=>176 | 49=>208 | 50=>209 | 57=>213 | n=>n,fun | 22=>165 | 24=>161 | 25=>193 | 3=>3 | 39=>184 | 0=>0 | 53=>208 | 55=>210 | 4=>4 | 46=>201 | 45=>200 | 50=>100 | 5=>5 | 9=>9 | 66=>223 | 70=>227 | 76=>243 | 77=>102 | n=>n,fun | n=>n⟩
theorem Tryz.uS:Go.Proofs.SlLaysF0.n6 Tryz.prog Tryz.rH:={
 mixed:=by kernel_rfl
 f6:=⟨Tryz.f139.name,by decide,Tryz.func139.trans (congrArg some (by kernel_rfl))⟩
 f14:=⟨Tryz.f166.name,by decide,Tryz.func166.trans (congrArg some (by kernel_rfl))⟩
 f15:=Tryz.func127.trans (congrArg some (by kernel_rfl))
 f20:=⟨Tryz.f189.name,by decide,Tryz.func189.trans (congrArg some (by kernel_rfl))⟩
 f21:=⟨Tryz.f190.name,by decide,Tryz.func190.trans (congrArg some (by kernel_rfl))⟩
 f22:=⟨Tryz.f191.name,by decide,Tryz.func191.trans (congrArg some (by kernel_rfl))⟩
 f23:=⟨Tryz.f192.name,by decide,Tryz.func192.trans (congrArg some (by kernel_rfl))⟩
 f24:=⟨Tryz.f193.name,by decide,Tryz.func193.trans (congrArg some (by kernel_rfl))⟩
 f25:=⟨Tryz.f194.name,by decide,Tryz.func194.trans (congrArg some (by kernel_rfl))⟩
 f26:=⟨Tryz.f195.name,by decide,Tryz.func195.trans (congrArg some (by kernel_rfl))⟩
 f27:=⟨Tryz.f196.name,by decide,Tryz.func196.trans (congrArg some (by kernel_rfl))⟩
 f28:=Tryz.func158.trans (congrArg some (by kernel_rfl))
 f29:=Tryz.func159.trans (congrArg some (by kernel_rfl))
 f46:=⟨Tryz.f207.name,by decide,Tryz.func207.trans (congrArg some (by kernel_rfl))⟩
 f47:=Tryz.func175.trans (congrArg some (by kernel_rfl))
 f48:=Tryz.func176.trans (congrArg some (by kernel_rfl))
 f49:=⟨Tryz.f208.name,by decide,Tryz.func208.trans (congrArg some (by kernel_rfl))⟩
 f50:=⟨Tryz.f209.name,by decide,Tryz.func209.trans (congrArg some (by kernel_rfl))⟩
 f57:=⟨Tryz.f213.name,by decide,Tryz.func213.trans (congrArg some (by kernel_rfl))⟩
 t0:=Tryz.underlying0
 a0:=Tryz.isAgg0
 z0:=Tryz.sizeOf0
 v0:=Tryz.zeroValue0
 t3:=Tryz.underlying3
 a3:=Tryz.isAgg3
 z3:=Tryz.sizeOf3
 v3:=Tryz.zeroValue3
 t4:=Tryz.underlying4
 a4:=Tryz.isAgg4
 z4:=Tryz.sizeOf4
 v4:=Tryz.zeroValue4
 t5:=Tryz.underlying5
 a5:=Tryz.isAgg5
 z5:=Tryz.sizeOf5
 v5:=Tryz.zeroValue5
 t9:=Tryz.underlying9
 a9:=Tryz.isAgg9
 z9:=Tryz.sizeOf9
 v9:=Tryz.zeroValue9
 t22:=Tryz.underlying165
 a22:=Tryz.isAgg165
 z22:=Tryz.sizeOf165
 v22:=Tryz.zeroValue165
 t25:=Tryz.underlying193
 a25:=Tryz.isAgg193
 z25:=Tryz.sizeOf193
 v25:=Tryz.zeroValue193
 t39:=Tryz.underlying184
 a39:=Tryz.isAgg184
 z39:=Tryz.sizeOf184
 v39:=Tryz.zeroValue184
 t45:=Tryz.underlying200
 a45:=Tryz.isAgg200
 z45:=Tryz.sizeOf200
 v45:=Tryz.zeroValue200
 t46:=Tryz.underlying201
 a46:=Tryz.isAgg201
 z46:=Tryz.sizeOf201
 v46:=Tryz.zeroValue201
 t50:=Tryz.underlying100
 a50:=Tryz.isAgg100
 z50:=Tryz.sizeOf100
 v50:=Tryz.zeroValue100
 t53:=Tryz.underlying208
 a53:=Tryz.isAgg208
 z53:=Tryz.sizeOf208
 v53:=Tryz.zeroValue208
 t55:=Tryz.underlying210
 a55:=Tryz.isAgg210
 z55:=Tryz.sizeOf210
 v55:=Tryz.zeroValue210
 t66:=Tryz.underlying223
 a66:=Tryz.isAgg223
 z66:=Tryz.sizeOf223
 v66:=Tryz.zeroValue223
 t70:=Tryz.underlying227
 a70:=Tryz.isAgg227
 z70:=Tryz.sizeOf227
 v70:=Tryz.zeroValue227
 t76:=Tryz.underlying243
 a76:=Tryz.isAgg243
 z76:=Tryz.sizeOf243
 v76:=Tryz.zeroValue243
 t77:=Tryz.underlying102
 a77:=Tryz.isAgg102
 z77:=Tryz.sizeOf102
 v77:=Tryz.zeroValue102 }
end Go.Proofs

namespace Go.Proofs.YthfodompfpdmgaaGreatDoor
open Go.Ab
theorem Fo {P:Program} {cf:Cf} {Q:Exit→St→Prop} {s:St} {k:List It} (E:Eng P cf Q) {c:Code} (p:Name) (es:List (D × D)) (hp:s.hp p=some (.map es)) (h:∀ clk bs,Stamps clk bs es→bM E c (s.frM p (mpD clk bs es)) k):bM E c s k:=by
 intro B hB ds β a w' hds hs
 obtain ⟨clk,bs,hst,hs'⟩:=hs.frM hp
 exact h clk bs hst B hB ds β a w' hds hs'
theorem Br:∀ args w,(callFunc 87 args).run Tryz.prog w=.ok (.enter 87 args) w:=fun args w=>db Tryz.func87 rfl (by decide +kernel) args w
theorem C5 {G} (a:Nat) (l:List Int) (hl:l.length≤1000000):HCall Tryz.prog G 87 [.vw [a] 0 l.length] [([a],.arr none (l.map i64))] [a] (fun r hp'=>r=.tup []∧hp'=[([a],.arr none ((l.mergeSort fun x y=>decide (x≤y)).map i64))]) :=
 xc (P:=Tryz.prog) Br (fun blk off cap zs w h1 h2 h3=>Any.slices_Sort_int Tryz.vT blk off cap zs w h1 h2 h3) (fun p cap w=>Any.slices_Sort_int_none Tryz.vT p cap w) a l (by omega)
def cO (HL:List Nat):List (Int × D):=HL.foldl (fun (m:List (Int × D)) (x:Nat)=>mset m (x:Int) (.bool true)) []
theorem iM (HL:List Nat) (x:Nat):cO (HL++[x])=mset (cO HL) (x:Int) (.bool true):=by simp [cO,List.foldl_append]
theorem wy (HL:List Nat) (x:Nat):mlook (cO HL) (x:Int)=if x∈HL then some (.bool true) else none:=by
 have key:∀ (R:List Nat) (m:List (Int × D)),mlook (R.foldl (fun (m:List (Int × D)) (x:Nat)=>mset m (x:Int) (.bool true)) m) (x:Int)=if x∈R then some (.bool true) else mlook m (x:Int):=by
  intro R
  induction R with
  | nil=>intro m;simp
  | cons y R ih =>
    intro m
    rw [List.foldl_cons,ih,da]
    by_cases h:x∈R
    ·simp [h]
    ·rw [if_neg h]
     by_cases e:x=y
     ·subst e;simp
     ·have:¬ ((x:Int)=(y:Int)):=by omega
      simp [h,e,this]
 rw [cO,key]
 simp [mlook]
theorem o6 (HL:List Nat):(∀ b:Int,b∈(cO HL).map (·.1)↔∃ x∈HL,(x:Int)=b)∧((cO HL).map (·.1)).Nodup:=by
 have key:∀ (R:List Nat) (m:List (Int × D)),(m.map (·.1)).Nodup→(∀ b:Int,b∈(R.foldl (fun (m:List (Int × D)) (x:Nat)=>mset m (x:Int) (.bool true)) m).map (·.1)↔b∈m.map (·.1)∨∃ x∈R,(x:Int)=b)∧((R.foldl (fun (m:List (Int × D)) (x:Nat)=>mset m (x:Int) (.bool true)) m).map (·.1)).Nodup:=by
  intro R
  induction R with
  | nil=>intro m hm;exact ⟨fun b=>by simp,hm⟩
  | cons y R ih =>
    intro m hm
    obtain ⟨k1,k2⟩:=iF m (y:Int) (.bool true)
    obtain ⟨i1,i2⟩:=ih (mset m (y:Int) (.bool true)) (k2 hm)
    rw [List.foldl_cons]
    refine ⟨fun b=>?_,i2⟩
    rw [i1,k1]
    constructor
    ·rintro ((h | h) | ⟨x,hx,h⟩)
     ·exact .inr ⟨y,by simp,h.symm⟩
     ·exact .inl h
     ·exact .inr ⟨x,by simp [hx],h⟩
    ·rintro (h | ⟨x,hx,h⟩)
     ·exact .inl (.inr h)
     ·rcases List.mem_cons.1 hx with rfl | hx
      ·exact .inl (.inl h.symm)
      ·exact .inr ⟨x,hx,h⟩
 obtain ⟨h1,h2⟩:=key HL [] (by simp)
 exact ⟨fun b=>by rw [cO,h1];simp,h2⟩
structure kl (l:List EA) (FM:List (KISI × D)):Prop where
 val:∀ key v,(key,v)∈FM→∃ L:List Nat,v=bZ L∧L.length≤l.length∧0≤key.2∧key.2<l.length∧∀ x,x∈L↔x<l.length∧(key.1,key.2.toNat)∈dA l x
 all:∀ x,x<l.length→∀ (a:Ltr) k,(a,k)∈dA l x→∃ v,((a,(k:Int)),v)∈FM
 nd:(FM.map (·.1)).Nodup
theorem oF {κ:Type} [DecidableEq κ]:∀ {m:List (κ × D)} {a:κ} {d:D},mlook m a=some d→(a,d)∈m
 | [],_,_,h=>by simp [mlook] at h
 | q::r,a,d,h=>by
   rw [mlook] at h
   split at h
   ·rename_i e
    obtain rfl:=Option.some.inj h
    subst e
    exact List.mem_cons_self
   ·exact List.mem_cons_of_mem _ (oF h)
theorem oX {κ:Type} [DecidableEq κ]:∀ {m:List (κ × D)} {a:κ} {d:D},(a,d)∈m→∃ d',mlook m a=some d'
 | q::r,a,d,h=>by
   rw [mlook]
   by_cases e:q.1=a
   ·exact ⟨_,by rw [if_pos e]⟩
   ·rw [if_neg e]
    rcases List.mem_cons.1 h with rfl | h
    ·exact absurd rfl e
    ·exact oX h
theorem wL {l:List EA} {FM:List (KISI × D)} (h:kl l FM) (a:Ltr) (k:Nat) (_hk:k<l.length) :
  (mlook FM (a,(k:Int))=none∧∀ x,x<l.length→(a,k) ∉ dA l x)∨∃ L:List Nat,mlook FM (a,(k:Int))=some (bZ L)∧L.length≤l.length∧∀ x,x∈L↔x<l.length∧(a,k)∈dA l x:=by
 cases hm:mlook FM (a,(k:Int)) with
 | none =>
   refine .inl ⟨rfl,fun x hx hs=>?_⟩
   obtain ⟨v,hv⟩:=h.all x hx a k hs
   obtain ⟨d,hd⟩:=oX hv
   rw [hm] at hd
   cases hd
 | some v =>
   obtain ⟨L,rfl,h1,h2,h2',h3⟩:=h.val _ _ (oF hm)
   exact .inr ⟨L,rfl,h1,fun x=>by rw [h3];rfl⟩
end Go.Proofs.YthfodompfpdmgaaGreatDoor

namespace Go.Proofs.YthfodompfpdmgaaGreatDoor
open Go.Ab
structure BS where
 cls:List Nat
 sets:List (List Nat)
 atm:List (List UInt8 × D)
structure ot (l:List EA) (i:Nat) (b:BS):Prop where
 len:b.cls.length=i
 at':∀ x,x<i→b.cls.getD x 0<b.sets.length∧x∈b.sets.getD (b.cls.getD x 0) []
 in':∀ c,c<b.sets.length→b.sets.getD c []≠[]∧∀ x∈b.sets.getD c [],x<i∧b.cls.getD x 0=c
 dn:∀ c,c<b.sets.length→(b.sets.getD c []).Nodup
 k1:∀ x,x<i→mlook b.atm (cD (l.getD x default))=some (i64 (b.cls.getD x 0:Nat))
 k2:∀ key d,mlook b.atm key=some d→∃ x,x<i∧cD (l.getD x default)=key∧d=i64 (b.cls.getD x 0:Nat)
 sf:∀ x y,x<i→y<i→b.cls.getD x 0=b.cls.getD y 0→cD (l.getD x default)=cD (l.getD y default)
 le:b.sets.length≤i
theorem CJ {a b:Nat} (h:i64 (a:Int)=i64 (b:Int)):a=b:=by
 have:(a:Int)=b:=by simpa [i64] using h
 omega
theorem eG {α:Type} {a:List α} {x d:α} {n:Nat}:(a++[x]).getD n d=if n<a.length then a.getD n d else if n=a.length then x else d:=by
 simp only [List.getD_eq_getElem?_getD]
 by_cases h:n<a.length
 ·rw [if_pos h,List.getElem?_append_left h]
 ·rw [if_neg h,List.getElem?_append_right (by omega)]
  by_cases e:n=a.length
  ·subst e;simp
  ·rw [if_neg e,List.getElem?_eq_none (by simp;omega)];rfl
theorem pb {α:Type} {a:List α} {x d:α} {m n:Nat} (hm:m<a.length):(a.set m x).getD n d=if n=m then x else a.getD n d:=by
 simp only [List.getD_eq_getElem?_getD]
 by_cases e:n=m
 ·subst e;simp [hm]
 ·rw [if_neg e,List.getElem?_set_ne (fun h=>e h.symm)]
theorem ot.init (l:List EA):ot l 0 ⟨[],[],[]⟩:=⟨rfl,fun x h=>by omega,fun c h=>by simp at h,fun c h=>by simp at h,fun x h=>by omega,fun k d h=>by simp [mlook] at h,fun x y h=>by omega,Nat.le_refl _⟩
section
variable {l:List EA} {i:Nat} {b:BS}
structure BC (l:List EA) (i:Nat) (b:BS) (S:List (List Nat)) (c:Nat) (atm:List (List UInt8 × D)):Prop where
 lt:c<S.length
 le:S.length≤i+1
 lb:b.sets.length≤S.length
 nx:ot l (i+1) ⟨b.cls++[c],S.set c (S.getD c []++[i]),atm⟩
theorem BC.tl {S:List (List Nat)} {c:Nat} {atm:List (List UInt8 × D)} (h:BC l i b S c atm):(S.getD c []).length≤i:=by
 have hc:c<(S.set c (S.getD c []++[i])).length:=by simpa using h.lt
 have h1:=h.nx.dn c hc
 have h2:=(h.nx.in' c hc).2
 have h1':((S.set c (S.getD c []++[i])).getD c []).Nodup:=h1
 have h2':∀ x∈(S.set c (S.getD c []++[i])).getD c [],x<i+1:=fun x hx=>(h2 x hx).1
 rw [pb h.lt,if_pos rfl] at h1' h2'
 have:=aH h1' h2'
 rw [List.length_append,List.length_singleton] at this
 omega
theorem ot.old (h:ot l i b) {d:D} (hk:mlook b.atm (cD (l.getD i default))=some d):∃ c,d=i64 (c:Nat)∧BC l i b b.sets c b.atm:=by
 obtain ⟨y,hy,hyk,rfl⟩:=h.k2 _ _ hk
 obtain ⟨c,hc⟩:∃ c,b.cls.getD y 0=c:=⟨_,rfl⟩
 have hlt:c<b.sets.length:=by rw [← hc];exact (h.at' y hy).1
 refine ⟨c,by rw [hc],hlt,by have:=h.le;omega,Nat.le_refl _,?_⟩
 have hlen:=h.len
 have hcl:∀ x,x<i→(b.cls++[c]).getD x 0=b.cls.getD x 0:=fun x hx=>by rw [eG,if_pos (by omega)]
 have hci:(b.cls++[c]).getD i 0=c:=by rw [eG,if_neg (by omega),if_pos hlen.symm]
 have hse:∀ k,(b.sets.set c (b.sets.getD c []++[i])).getD k []=if k=c then b.sets.getD c []++[i] else b.sets.getD k []:=fun k=>pb hlt
 refine ⟨by simp [hlen],fun x hx=>?_,fun k hkl=>?_,fun k hkl=>?_,fun x hx=>?_,fun key d hkd=>?_,fun x y' hx hy' he=>?_,by simpa using Nat.le_succ_of_le h.le⟩
 ·show (b.cls++[c]).getD x 0<(b.sets.set c _).length∧x∈(b.sets.set c _).getD ((b.cls++[c]).getD x 0) []
  rw [List.length_set,hse]
  by_cases e:x=i
  ·subst e
   rw [hci,if_pos rfl]
   exact ⟨hlt,by simp⟩
  ·have hx':x<i:=by omega
   rw [hcl x hx']
   obtain ⟨a1,a2⟩:=h.at' x hx'
   refine ⟨a1,?_⟩
   by_cases e2:b.cls.getD x 0=c
   ·rw [if_pos e2,← e2];exact List.mem_append_left _ a2
   ·rw [if_neg e2];exact a2
 ·have hkl':k<b.sets.length:=by simpa using hkl
  show (b.sets.set c _).getD k []≠[]∧∀ x∈(b.sets.set c _).getD k [],x<i+1∧(b.cls++[c]).getD x 0=k
  rw [hse]
  obtain ⟨a1,a2⟩:=h.in' k hkl'
  by_cases e:k=c
  ·subst e
   rw [if_pos rfl]
   refine ⟨by simp,fun x hx=>?_⟩
   rcases List.mem_append.1 hx with hx | hx
   ·obtain ⟨b1,b2⟩:=a2 x hx
    exact ⟨by omega,by rw [hcl x b1,b2]⟩
   ·rw [List.mem_singleton.1 hx]
    exact ⟨by omega,hci⟩
  ·rw [if_neg e]
   refine ⟨a1,fun x hx=>?_⟩
   obtain ⟨b1,b2⟩:=a2 x hx
   exact ⟨by omega,by rw [hcl x b1,b2]⟩
 ·have hkl':k<b.sets.length:=by simpa using hkl
  show ((b.sets.set c _).getD k []).Nodup
  rw [hse]
  split
  ·rw [List.nodup_append]
   refine ⟨h.dn c hlt,by simp,fun x hx y hy=>?_⟩
   rw [List.mem_singleton.1 hy]
   have:=((h.in' c hlt).2 x hx).1
   omega
  ·exact h.dn k hkl'
 ·show mlook b.atm _=some (i64 ((b.cls++[c]).getD x 0:Nat))
  by_cases e:x=i
  ·subst e;rw [hci,hk,hc]
  ·rw [hcl x (by omega)];exact h.k1 x (by omega)
 ·obtain ⟨x,hx,h1,h2⟩:=h.k2 key d hkd
  exact ⟨x,by omega,h1,by show d=i64 ((b.cls++[c]).getD x 0:Nat);rw [hcl x hx];exact h2⟩
 ·have he':(b.cls++[c]).getD x 0=(b.cls++[c]).getD y' 0:=he
  by_cases e1:x=i
  ·by_cases e2:y'=i
   ·rw [e1,e2]
   ·rw [e1,hci,hcl y' (by omega)] at he'
    rw [e1,← hyk]
    exact h.sf y y' hy (by omega) (by rw [hc];exact he')
  ·by_cases e2:y'=i
   ·rw [e2,hci,hcl x (by omega)] at he'
    rw [e2,← hyk]
    exact h.sf x y (by omega) hy (by rw [hc];exact he')
   ·rw [hcl x (by omega),hcl y' (by omega)] at he'
    exact h.sf x y' (by omega) (by omega) he'
theorem ot.new (h:ot l i b) (hk:mlook b.atm (cD (l.getD i default))=none):BC l i b (b.sets++[[]]) b.sets.length (mset b.atm (cD (l.getD i default)) (i64 (b.sets.length:Nat))):=by
 refine ⟨by simp,by have:=h.le;simp;omega,by simp,?_⟩
 obtain ⟨c,hc⟩:∃ c,b.sets.length=c:=⟨_,rfl⟩
 rw [hc]
 have hlen:=h.len
 have hcl:∀ x,x<i→(b.cls++[c]).getD x 0=b.cls.getD x 0:=fun x hx=>by rw [eG,if_pos (by omega)]
 have hci:(b.cls++[c]).getD i 0=c:=by rw [eG,if_neg (by omega),if_pos hlen.symm]
 have hset:(b.sets++[[]]).set c ((b.sets++[[]]).getD c []++[i])=b.sets++[[i]]:=by
  rw [eG,if_neg (by omega),if_pos hc.symm,← hc,List.set_append_right _ _ (Nat.le_refl _)]
  simp
 have hse:∀ k,(b.sets++[[i]]).getD k []=if k<c then b.sets.getD k [] else if k=c then [i] else []:=fun k=>by rw [eG,hc]
 rw [hset]
 have hcx:∀ x,x<i→b.cls.getD x 0<c:=fun x hx=>by rw [← hc];exact (h.at' x hx).1
 refine ⟨by simp [hlen],fun x hx=>?_,fun k hkl=>?_,fun k hkl=>?_,fun x hx=>?_,fun key d hkd=>?_,fun x y' hx hy' he=>?_,by have:=h.le;simp;omega⟩
 ·show (b.cls++[c]).getD x 0<(b.sets++[[i]]).length∧x∈(b.sets++[[i]]).getD ((b.cls++[c]).getD x 0) []
  rw [List.length_append,hse]
  by_cases e:x=i
  ·subst e
   rw [hci,if_neg (by omega),if_pos rfl]
   exact ⟨by simp;omega,by simp⟩
  ·have hx':x<i:=by omega
   rw [hcl x hx',if_pos (hcx x hx')]
   obtain ⟨a1,a2⟩:=h.at' x hx'
   exact ⟨by omega,a2⟩
 ·show (b.sets++[[i]]).getD k []≠[]∧∀ x∈(b.sets++[[i]]).getD k [],x<i+1∧(b.cls++[c]).getD x 0=k
  rw [hse]
  have hkl':k<c+1:=by simpa [hc] using hkl
  by_cases e:k=c
  ·subst e
   rw [if_neg (by omega),if_pos rfl]
   refine ⟨by simp,fun x hx=>?_⟩
   rw [List.mem_singleton.1 hx]
   exact ⟨by omega,hci⟩
  ·rw [if_pos (by omega)]
   obtain ⟨a1,a2⟩:=h.in' k (by omega)
   refine ⟨a1,fun x hx=>?_⟩
   obtain ⟨b1,b2⟩:=a2 x hx
   exact ⟨by omega,by rw [hcl x b1,b2]⟩
 ·show ((b.sets++[[i]]).getD k []).Nodup
  rw [hse]
  have hkl':k<c+1:=by simpa [hc] using hkl
  split
  ·exact h.dn k (by omega)
  ·split<;>simp
 ·show mlook (mset b.atm _ _) _=some (i64 ((b.cls++[c]).getD x 0:Nat))
  rw [da]
  by_cases e:x=i
  ·subst e;rw [if_pos rfl,hci]
  ·rw [hcl x (by omega),if_neg]
   ·exact h.k1 x (by omega)
   ·intro e2
    have:=h.k1 x (by omega)
    rw [e2,hk] at this
    cases this
 ·have hkd':mlook (mset b.atm (cD (l.getD i default)) (i64 (c:Nat))) key=some d:=hkd
  rw [da] at hkd'
  split at hkd'
  ·rename_i e
   exact ⟨i,by omega,e.symm,by show d=i64 ((b.cls++[c]).getD i 0:Nat);rw [hci];exact (Option.some.inj hkd').symm⟩
  ·obtain ⟨x,hx,h1,h2⟩:=h.k2 key d hkd'
   exact ⟨x,by omega,h1,by show d=i64 ((b.cls++[c]).getD x 0:Nat);rw [hcl x hx];exact h2⟩
 ·have he':(b.cls++[c]).getD x 0=(b.cls++[c]).getD y' 0:=he
  by_cases e1:x=i
  ·by_cases e2:y'=i
   ·rw [e1,e2]
   ·rw [e1,hci,hcl y' (by omega)] at he'
    have:=hcx y' (by omega)
    omega
  ·by_cases e2:y'=i
   ·rw [e2,hci,hcl x (by omega)] at he'
    have:=hcx x (by omega)
    omega
   ·rw [hcl x (by omega),hcl y' (by omega)] at he'
    exact h.sf x y' (by omega) (by omega) he'
end
structure FrI (dn:List (Nat × KISI)) (F:List (KISI × List Nat)):Prop where
 val:∀ key L,(key,L)∈F→L≠[]∧L.Nodup∧∀ x,x∈L↔(x,key)∈dn
 all:∀ x key,(x,key)∈dn→∃ L,(key,L)∈F
 nd:(F.map (·.1)).Nodup
 ln:F.length≤dn.length
theorem FrI.init:FrI [] []:=⟨fun _ _ h=>by simp at h,fun _ _ h=>by simp at h,by simp,by simp⟩
theorem FrI.old {dn:List (Nat × KISI)} {F:List (KISI × List Nat)} (h:FrI dn F) {m x:Nat} {key:KISI} {L:List Nat} (hm:F[m]?=some (key,L)) (hx:(x,key) ∉ dn):FrI (dn++[(x,key)]) (F.set m (key,L++[x])):=by
 have hlt:m<F.length:=(List.getElem?_eq_some_iff.1 hm).1
 have hget:F[m]=(key,L):=(List.getElem?_eq_some_iff.1 hm).2
 have hmem:(key,L)∈F:=List.mem_of_getElem? hm
 have hkeys:(F.set m (key,L++[x])).map (·.1)=F.map (·.1):=by
  rw [List.map_set]
  apply List.ext_getElem (by simp)
  intro n h1 h2
  rw [List.getElem_set]
  split
  ·rename_i e;subst e;simp [hget]
  ·rfl
 have huni:∀ k M,(k,M)∈F.set m (key,L++[x])→(k=key∧M=L++[x])∨(k≠key∧(k,M)∈F):=by
  intro k M hkM
  obtain ⟨n,hn,e⟩:=List.getElem_of_mem hkM
  rw [List.getElem_set] at e
  split at e
  ·cases e;exact .inl ⟨rfl,rfl⟩
  ·rename_i hne
   have hn':n<F.length:=by simpa using hn
   refine .inr ⟨?_,e ▸ List.getElem_mem hn'⟩
   rintro rfl
   have:=h.nd
   rw [List.Nodup,List.pairwise_iff_getElem] at this
   rcases Nat.lt_or_gt_of_ne hne with g | g
   ·exact this m n (by simpa using hlt) (by simpa using hn') g (by simp [hget,e])
   ·exact this n m (by simpa using hn') (by simpa using hlt) g (by simp [hget,e])
 obtain ⟨v1,v2,v3⟩:=h.val key L hmem
 refine ⟨fun k M hkM=>?_,fun y k hyk=>?_,by rw [hkeys];exact h.nd,by simpa using Nat.le_succ_of_le h.ln⟩
 ·rcases huni k M hkM with ⟨rfl,rfl⟩ | ⟨hne,hkF⟩
  ·refine ⟨by simp,?_,fun y=>?_⟩
   ·rw [List.nodup_append]
    refine ⟨v2,by simp,fun a ha b hb e=>?_⟩
    rw [List.mem_singleton.1 hb] at e
    subst e
    exact hx ((v3 _).1 ha)
   ·rw [List.mem_append,v3,List.mem_append,List.mem_singleton,List.mem_singleton]
    simp
  ·obtain ⟨w1,w2,w3⟩:=h.val k M hkF
   refine ⟨w1,w2,fun y=>?_⟩
   rw [w3,List.mem_append,List.mem_singleton]
   constructor
   ·exact .inl
   ·rintro (g | g)
    ·exact g
    ·cases g;exact absurd rfl hne
 ·by_cases e:k=key
  ·subst e
   exact ⟨_,List.mem_iff_getElem?.2 ⟨m,by rw [List.getElem?_set_self hlt]⟩⟩
  ·rcases List.mem_append.1 hyk with g | g
   ·obtain ⟨M,hM⟩:=h.all y k g
    obtain ⟨n,hn⟩:=List.mem_iff_getElem?.1 hM
    have hne:m≠n:=by
     rintro rfl
     rw [hm] at hn
     cases hn
     exact e rfl
    exact ⟨M,List.mem_iff_getElem?.2 ⟨n,by rw [List.getElem?_set_ne hne];exact hn⟩⟩
   ·cases List.mem_singleton.1 g
    exact absurd rfl e
theorem FrI.new {dn:List (Nat × KISI)} {F:List (KISI × List Nat)} (h:FrI dn F) {x:Nat} {key:KISI} (hk:key ∉ F.map (·.1)):FrI (dn++[(x,key)]) (F++[(key,[x])]):=by
 have hno:∀ y,(y,key) ∉ dn:=fun y hy=>by
  obtain ⟨M,hM⟩:=h.all y key hy
  exact hk (List.mem_map.2 ⟨_,hM,rfl⟩)
 refine ⟨fun k M hkM=>?_,fun y k hyk=>?_,?_,by have:=h.ln;simp;omega⟩
 ·rcases List.mem_append.1 hkM with g | g
  ·obtain ⟨w1,w2,w3⟩:=h.val k M g
   refine ⟨w1,w2,fun y=>?_⟩
   rw [w3,List.mem_append,List.mem_singleton]
   constructor
   ·exact .inl
   ·rintro (g2 | g2)
    ·exact g2
    ·cases g2
     exact absurd (List.mem_map.2 ⟨_,g,rfl⟩) hk
  ·cases List.mem_singleton.1 g
   refine ⟨by simp,by simp,fun y=>?_⟩
   rw [List.mem_append,List.mem_singleton,List.mem_singleton]
   constructor
   ·rintro rfl;exact .inr rfl
   ·rintro (g2 | g2)
    ·exact absurd g2 (hno y)
    ·cases g2;rfl
 ·rcases List.mem_append.1 hyk with g | g
  ·obtain ⟨M,hM⟩:=h.all y k g
   exact ⟨M,List.mem_append_left _ hM⟩
  ·cases List.mem_singleton.1 g
   exact ⟨[x],by simp⟩
 ·rw [List.map_append,List.nodup_append]
  refine ⟨h.nd,by simp,fun a ha b hb e=>?_⟩
  simp only [List.map_cons,List.map_nil,List.mem_singleton] at hb
  subst hb;subst e
  exact hk ha
def dnA (l:List EA) (i:Nat):List (Nat × KISI):=(List.range i).flatMap fun x=>(az (l.getD x default)).map fun q=>(x,q)
theorem mZ (l:List EA) (i:Nat):dnA l (i+1)=dnA l i++(az (l.getD i default)).map fun q=>(i,q):=by
 unfold dnA
 rw [List.range_succ,List.flatMap_append]
 simp
theorem gB {l:List EA} {i x:Nat} {key:KISI}:(x,key)∈dnA l i↔x<i∧key∈az (l.getD x default):=by
 unfold dnA
 rw [List.mem_flatMap]
 constructor
 ·rintro ⟨y,hy,h⟩
  obtain ⟨q,hq,e⟩:=List.mem_map.1 h
  cases e
  exact ⟨List.mem_range.1 hy,hq⟩
 ·rintro ⟨h1,h2⟩
  exact ⟨x,List.mem_range.2 h1,List.mem_map.2 ⟨key,h2,rfl⟩⟩
theorem vQ {l:List EA} {i j:Nat} (hd:((az (l.getD i default)).map (·.1)).Nodup) (hj:j<(az (l.getD i default)).length):(i,(az (l.getD i default))[j]) ∉ dnA l i++((az (l.getD i default)).take j).map fun q=>(i,q):=by
 intro h
 rcases List.mem_append.1 h with h | h
 ·have:=(gB.1 h).1;omega
 ·obtain ⟨q,hq,e⟩:=List.mem_map.1 h
  obtain ⟨n,hn,e2⟩:=List.getElem_of_mem hq
  rw [List.getElem_take] at e2
  have hnj:n<j:=Nat.lt_of_lt_of_le hn (List.length_take_le _ _)
  rw [List.Nodup,List.pairwise_iff_getElem] at hd
  refine hd n j (by rw [List.length_map];exact Nat.lt_trans hnj hj) (by rw [List.length_map];exact hj) hnj ?_
  simp only [List.getElem_map]
  rw [e2]
  cases e
  rfl
theorem vk {l:List EA} (hl:∀ s∈l,(az s).length≤802):∀ i,i≤l.length→(dnA l i).length≤i*802
 | 0,_=>by simp [dnA]
 | i+1,hi=>by
   rw [mZ,List.length_append,List.length_map]
   have h1:=vk hl i (by omega)
   have h2:=hl _ (cC (l:=l) (i:=i) (by omega))
   omega
theorem Ek {l:List EA} (hd:∀ s∈l,((az s).map (·.1)).Nodup):yO l:=by
 intro i hi a k m hk hm
 obtain ⟨q,hq,e⟩:=List.mem_map.1 hk
 obtain ⟨r,hr,e2⟩:=List.mem_map.1 hm
 simp only [Prod.mk.injEq] at e e2
 obtain ⟨n1,h1,e1⟩:=List.getElem_of_mem hq
 obtain ⟨n2,h2,e3⟩:=List.getElem_of_mem hr
 have:=hd _ (cC (l:=l) (i:=i) hi)
 rw [List.Nodup,List.pairwise_iff_getElem] at this
 have hn:n1=n2:=by
  rcases Nat.lt_trichotomy n1 n2 with g | g | g
  ·exact absurd (by rw [List.getElem_map,List.getElem_map,e1,e3,e.1,e2.1]) (this n1 n2 (by simpa using h1) (by simpa using h2) g)
  ·exact g
  ·exact absurd (by rw [List.getElem_map,List.getElem_map,e1,e3,e.1,e2.1]) (this n2 n1 (by simpa using h2) (by simpa using h1) g)
 subst hn
 rw [← e.2,← e2.2,← e1,← e3]
theorem tJ {s:EA} {q:Stp'} (h:q∈az s):0≤q.1.1∧q.1.1<1000:=by
 unfold az at h
 rcases List.mem_append.1 h with h | h
 ·rcases List.mem_append.1 h with h | h
  ·unfold bB at h
   split at h
   ·rcases List.mem_cons.1 h with rfl | h
    ·constructor<;>simp
    ·rw [List.mem_singleton.1 h];constructor<;>simp
   ·simp at h
  ·obtain ⟨x,_,rfl⟩:=List.mem_map.1 h
   constructor<;>simp
 ·obtain ⟨x,_,rfl⟩:=List.mem_map.1 h
  constructor<;>simp
def frD (F:List (KISI × List Nat)):List (KISI × D):=F.map fun q=>(q.1,bZ q.2)
theorem mm {l:List EA} (hin:InA l) {x:Nat} (hx:x<l.length) {q:Stp'} (h:q∈az (l.getD x default)):0≤q.2∧q.2<l.length:=by
 refine hin _ (cC hx) q.2 ?_
 rw [← mL]
 exact List.mem_map.2 ⟨q,h,rfl⟩
theorem AT {l:List EA} {F:List (KISI × List Nat)} (hin:InA l) (h:FrI (dnA l l.length) F):kl l (frD F)∧∀ q∈frD F,0≤q.1.1.1∧q.1.1.1<1000:=by
 have hk:∀ key L,(key,L)∈F→∃ x,x<l.length∧key∈az (l.getD x default):=by
  intro key L hL
  obtain ⟨v1,_,v3⟩:=h.val key L hL
  cases L with
  | nil=>exact absurd rfl v1
  | cons x r=>exact ⟨x,gB.1 ((v3 x).1 (by simp))⟩
 refine ⟨⟨fun key v hv=>?_,fun x hx a k hs=>?_,?_⟩,fun q hq=>?_⟩
 ·obtain ⟨⟨k2,L⟩,hq,e⟩:=List.mem_map.1 hv
  simp only [Prod.mk.injEq] at e
  obtain ⟨rfl,rfl⟩:=e
  obtain ⟨v1,v2,v3⟩:=h.val k2 L hq
  obtain ⟨y,hy,hyk⟩:=hk k2 L hq
  obtain ⟨r1,r2⟩:=mm hin hy hyk
  refine ⟨L,rfl,aH v2 fun x hx=>(gB.1 ((v3 x).1 hx)).1,r1,r2,fun x=>?_⟩
  rw [v3,gB]
  refine and_congr_right fun hx=>?_
  constructor
  ·exact fun g=>List.mem_map.2 ⟨k2,g,rfl⟩
  ·intro g
   obtain ⟨q,hq,e⟩:=List.mem_map.1 g
   have:=(mm hin hx hq).1
   simp only [Prod.mk.injEq] at e
   have e2:q=k2:=Prod.ext e.1 (by omega)
   exact e2 ▸ hq
 ·obtain ⟨q,hq,e⟩:=List.mem_map.1 hs
  have h0:=(mm hin hx hq).1
  simp only [Prod.mk.injEq] at e
  have e2:q=(a,(k:Int)):=Prod.ext e.1 (by rw [← e.2];show q.2=(q.2.toNat:Int);omega)
  rw [e2] at hq
  obtain ⟨L,hL⟩:=h.all x _ (gB.2 ⟨hx,hq⟩)
  exact ⟨bZ L,List.mem_map.2 ⟨_,hL,rfl⟩⟩
 ·have:(frD F).map (·.1)=F.map (·.1):=by simp [frD,Function.comp_def]
  rw [this];exact h.nd
 ·obtain ⟨⟨k2,L⟩,hq',e⟩:=List.mem_map.1 hq
  obtain ⟨x,_,hx⟩:=hk k2 L hq'
  rw [← e]
  exact tJ hx
theorem xX {l:List EA} (hin:InA l) (hn:∀ s∈l,Nice s) {b:BS} (h:ot l l.length b):Hop l ⟨b.cls,b.sets,List.range b.sets.length⟩ [] []:=by
 have hnx:∀ x,x<l.length→Nice (l.getD x default):=fun x hx=>hn _ (cC hx)
 refine ⟨⟨h.len,h.at',h.in',h.dn,fun c hc=>List.mem_range.1 hc,List.nodup_range⟩,fun p q hp hq ha=>?_,fun p q hp hq he=>?_,fun p q hp hq he a k m hk hm hne=>?_⟩
 ·have e:=(cm _ _ _ ha).1
  have e2:=(oZ (hnx p hp) (hnx q hq)).2 e
  have h1:=h.k1 p hp
  have h2:=h.k1 q hq
  rw [e2,h2] at h1
  exact CJ (Option.some.inj h1).symm
 ·exact (oZ (hnx p hp) (hnx q hq)).1 (h.sf p q hp hq he)
 ·exact .inl (List.mem_range.2 (h.at' k (gu hin hp hk)).1)
end Go.Proofs.YthfodompfpdmgaaGreatDoor

