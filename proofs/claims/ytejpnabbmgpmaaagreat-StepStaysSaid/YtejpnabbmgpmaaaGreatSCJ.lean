/-
  One step of a tree: what it makes is as it must be, and not too great. (with the parts that follow it)
-/
import Derived.Test.YtejpnabbmgpmaaaGreatSCI
import Derived.Test.YtejpnabbmgpmaaaGreatSCF
import Derived.Test.YtejpnabbmgpmaaaGreatSCE
import Derived.Test.YtejpnabbmgpmaaaGreatSCH
set_option linter.unusedSimpArgs false
namespace Go.Proofs.YtejpnabbmgpmaaaGreat
open Go.Ab
mutual
def RT.lk:RT→Prop
 | .mk n ts=>(n.k=8→(ts.getD 0 aC).lab.k=5)∧RT.lks ts
def RT.lks:List RT→Prop
 | []=>True
 | t::r=>t.lk∧RT.lks r
end
theorem x5:∀ ts:List RT,RT.lks ts↔∀ t∈ts,t.lk
 | []=>by simp [RT.lks]
 | t::r=>by rw [RT.lks,x5 r];simp
theorem fx (n:EN):(can n).k=n.k:=rfl
theorem tZ (n:EN):(can n).name=n.name:=rfl
theorem BM (ns:List EN) (m:Nat) (i:Nat) (h:0<m):(rtE ns m i).lab=can (ndE ns i):=by
 obtain ⟨m,rfl⟩:∃ q,m=q+1:=⟨m-1,by omega⟩
 rw [rtE,Int.toNat_natCast]
 rfl
theorem xD {ns:List EN} (ht:a8 ns):∀ (m i:Nat),i<m→i<ns.length→(rtE ns m i).lk
 | 0,_,h,_=>absurd h (Nat.not_lt_zero _)
 | m+1,i,him,hi=>by
   rw [rtE,RT.lk,Int.toNat_natCast,x5]
   refine ⟨fun h8=>?_,fun t htm=>?_⟩
   ·rw [fx] at h8
    have hlk:=ht.link i hi
    unfold dZ at hlk
    rw [Bool.and_eq_true] at hlk
    have h9:=hlk.2
    simp only [h8,Bool.or_eq_true,decide_eq_true_eq] at h9
    have h9:=h9.resolve_left (by simp)
    have hke:ah (ndE ns i)=[(ndE ns i).a,(ndE ns i).b]:=by simp [ah,h8,aH,aw]
    obtain ⟨g1,g2⟩:=ax (av ht) hi (ndE ns i).a (by rw [hke];exact List.mem_cons_self)
    rw [hke]
    obtain ⟨a,ha⟩:∃ a:Nat,(ndE ns i).a=(a:Int):=⟨(ndE ns i).a.toNat,by omega⟩
    rw [ha] at h9 ⊢
    rw [Int.toNat_natCast] at h9
    show (rtE ns m a).lab.k=5
    rw [BM ns m a (by omega),fx,h9]
   ·obtain ⟨k,hkk,rfl⟩:=List.mem_map.1 htm
    obtain ⟨h3,h4⟩:=ax (av ht) hi k hkk
    obtain ⟨k,rfl⟩:∃ q:Nat,k=(q:Int):=⟨k.toNat,by omega⟩
    exact xD ht m k (by omega) (by omega)
theorem cU {t:RT} (h:t.good):t.kids.length=aG t.lab:=by
 cases t with
 | mk n ts=>exact (bj.1 h).1.1.symm
theorem Hl {t:RT} (h:t.good):GL t.lab:=by
 cases t with
 | mk n ts=>exact (bj.1 h).1.2.2
theorem ck {n:EN} (h:aw n.k=false):aG n=aH n.k:=by unfold aG;rw [h];rfl
theorem jw {n:EN} (h:aX n=true):0≤n.pos∧n.pos≤1048576:=by
 unfold aX at h
 simp only [Bool.and_eq_true,decide_eq_true_eq] at h
 exact ⟨h.1.1.2,h.1.2⟩
theorem jT {n:EN} (h:aX n=true) (hk:n.k=4∨n.k=5∨n.k=7∨n.k=8∨n.k=12):fu n.name=true:=by
 unfold aX dz at h
 simp only [Bool.and_eq_true,if_pos hk] at h
 exact h.2.1.1.1
theorem uo:inR 0:=⟨by decide,by decide⟩
theorem lz {n:EN} (hw:aG n=0) (h:GL n):(kH n).good∧(kH n).sz=1 :=
 ⟨bj.2 ⟨⟨by rw [nt,hw];rfl,ku n,h.with _⟩,fun _ h=>by cases h⟩,by unfold kH;rw [im];rfl⟩
theorem EM {k a b:Int}:inR (fT k a b):=by
 unfold fT Cx
 (repeat' split)<;>first | exact H7 _ | exact ⟨by omega,by omega⟩
theorem yU {n a b:EN} (hn:aX n=true) (h5:(jE n a b).1=5):(jE n a b).2.good∧(jE n a b).2.sz=1:=by
 obtain ⟨p0,p1⟩:=jw hn
 unfold jE at h5 ⊢
 split at h5
 ·rename_i h7
  rw [if_pos h7]
  split at h5
  ·rename_i hk
   rw [if_pos hk]
   refine lz rfl ⟨?_,uo⟩
   simp [aX,dz,bU,cy,dj,aw,aH,p0,p1]
   omega
  ·exact absurd h5 (by show ¬ (4:Int)=5;decide)
 ·rename_i h7
  rw [if_neg h7]
  split at h5
  ·rename_i hk
   rw [if_pos hk]
   split at h5
   ·exact absurd h5 (by show ¬ (2:Int)=5;decide)
   ·rename_i he
    rw [if_neg he]
    have hr:inR (fT n.n a.n b.n):=EM
    by_cases h:5≤n.n
    ·simp only [if_pos h]
     have hz:fT n.n a.n b.n=0∨fT n.n a.n b.n=1:=by
      have:n.n=5∨n.n=6:=by
       unfold mC at he
       (repeat' split at he)<;>first | omega | (exact absurd he (by decide))
      rcases this with e | e
      ·rw [e]
       show (if a.n<b.n then (1:Int) else 0)=0∨(if a.n<b.n then (1:Int) else 0)=1
       split<;>simp
      ·rw [e]
       show (if a.n=b.n then (1:Int) else 0)=0∨(if a.n=b.n then (1:Int) else 0)=1
       split<;>simp
     refine lz rfl ⟨?_,hr⟩
     rcases hz with e | e<;>simp [aX,dz,bU,cy,dj,aw,aH,p0,p1,e]
    ·simp only [if_neg h]
     refine lz rfl ⟨?_,hr⟩
     simp [aX,dz,bU,cy,dj,aw,aH,p0,p1]
  ·exact absurd h5 (by show ¬ (4:Int)=5;decide)
theorem kL {ts:List RT} {j:Nat} (h:j<ts.length):ts.getD j aC∈ts:=by
 rw [List.getD_eq_getElem?_getD,List.getElem?_eq_getElem h]
 exact List.getElem_mem h
theorem lF {nm:List UInt8} {p k:Int} (hn:fu nm=true) (hp:0≤p∧p≤1048576) (hk:k=5∨k=8):GL ⟨k,0,0,0,0,nm,[],[],p⟩:=by
 refine ⟨?_,uo⟩
 rcases hk with rfl | rfl<;>simp [aX,dz,bU,cy,dj,aw,aH,hp.1,hp.2,hn]
theorem my {n:EN} {f:RT} (hn:aX n=true) (hk:n.k=8) (hf:f.good) (h5:f.lab.k=5):(dN n f).good∧(dN n f).sz≤2*f.sz+1:=by
 have hfl:=Hl hf
 have hkl:f.kids.length=1:=by rw [cU hf,ck (by rw [h5];rfl),h5];rfl
 have hkg:=kp hf (j:=0) (by omega)
 have hks:=lY (kq (t:=f) (j:=0) (by omega))
 unfold dN
 split
 ·exact ⟨hf,by omega⟩
 ·have g1:(RT.mk (can ⟨8,0,0,0,0,n.name,[],[],n.pos⟩) [f,f.kid 0]).good:=bj.2 ⟨⟨rfl,ku _,(lF (jT hn (.inr (.inr (.inr (.inl hk))))) (jw hn) (.inr rfl)).with _⟩,fun t ht=>by
   rcases List.mem_cons.1 ht with rfl | ht
   ·exact hf
   ·rw [List.mem_singleton.1 ht];exact hkg⟩
  refine ⟨bj.2 ⟨⟨rfl,ku _,(lF (jT hfl.1 (.inr (.inl h5))) (jw hfl.1) (.inl rfl)).with _⟩,fun t ht=>by rw [List.mem_singleton.1 ht];exact g1⟩,?_⟩
  rw [im,bw,im,bw,bw]
  show f.sz+((f.kid 0).sz+0)+1+0+1≤_
  omega
theorem H3 {a b S:Nat} (ha:a≤S) (hb:b≤2*S):a*b≤2*(S*S):=by
 have:=Nat.mul_le_mul ha hb
 rw [Nat.mul_left_comm] at this
 exact this
theorem rk {x:List UInt8} {v t:RT} {S:Nat} (hv:v.sz≤2*S) (ht:t.sz≤S):(dE x v t).sz≤2*(S*S):=Nat.le_trans (vS t) (H3 ht hv)
theorem yr {a S:Nat} (h:a≤S):a≤2*(S*S):=by
 have:S*1≤S*S∨S=0:=by
  cases S with
  | zero=>exact .inr rfl
  | succ S=>exact .inl (Nat.mul_le_mul_left _ (by omega))
 omega
theorem wm {n:EN} {ts:List RT} (h:(RT.mk n ts).good) (hl:n.k=8→(ts.getD 0 aC).lab.k=5) (h5:(az n ts).1=5) :
  (az n ts).2.good∧(az n ts).2.sz≤2*((RT.mk n ts).sz*(RT.mk n ts).sz):=by
 obtain ⟨⟨hw,_,hr⟩,hg⟩:=bj.1 h
 have hS:∀ j,j<ts.length→(ts.getD j aC).good∧(ts.getD j aC).sz<(RT.mk n ts).sz:=fun j hj=>⟨hg _ (kL hj),lY (t:=.mk n ts) (kL hj)⟩
 generalize (RT.mk n ts).sz=S at hS ⊢
 unfold az at h5 ⊢
 simp only at h5 ⊢
 by_cases k6:n.k=6
 ·rw [ck (by rw [k6];rfl),k6] at hw
  have hw:ts.length=2:=hw.symm
  obtain ⟨a1,a2⟩:=hS 0 (by omega)
  obtain ⟨b1,b2⟩:=hS 1 (by omega)
  rw [if_pos k6] at h5 ⊢
  split at h5
  ·rename_i hk
   rw [if_pos hk]
   have hkl:(ts.getD 0 aC).kids.length=1:=by rw [cU a1,ck (by rw [hk];rfl),hk];rfl
   have hks:=lY (kq (t:=ts.getD 0 aC) (j:=0) (by omega))
   exact ⟨fN b1 _ (kp a1 (by omega)),rk (by omega) (by omega)⟩
  ·exact absurd h5 (by show ¬ (4:Int)=5;decide)
 rw [if_neg k6] at h5 ⊢
 by_cases k7:n.k=7
 ·rw [ck (by rw [k7];rfl),k7] at hw
  have hw:ts.length=2:=hw.symm
  obtain ⟨a1,a2⟩:=hS 0 (by omega)
  obtain ⟨b1,b2⟩:=hS 1 (by omega)
  rw [if_pos k7]
  exact ⟨fN a1 _ b1,rk (by omega) (by omega)⟩
 rw [if_neg k7] at h5 ⊢
 by_cases k8:n.k=8
 ·rw [ck (by rw [k8];rfl),k8] at hw
  have hw:ts.length=2:=hw.symm
  obtain ⟨a1,a2⟩:=hS 0 (by omega)
  obtain ⟨b1,b2⟩:=hS 1 (by omega)
  rw [if_pos k8]
  obtain ⟨u1,u2⟩:=my hr.1 k8 a1 (hl k8)
  exact ⟨fN u1 _ b1,rk (by omega) (by omega)⟩
 rw [if_neg k8] at h5 ⊢
 by_cases k9:n.k=9
 ·rw [ck (by rw [k9];rfl),k9] at hw
  have hw:ts.length=3:=hw.symm
  obtain ⟨b1,b2⟩:=hS 1 (by omega)
  obtain ⟨c1,c2⟩:=hS 2 (by omega)
  rw [if_pos k9] at h5 ⊢
  split at h5
  ·rename_i hk
   rw [if_pos hk]
   simp only
   split
   ·exact ⟨b1,yr (by omega)⟩
   ·exact ⟨c1,yr (by omega)⟩
  ·exact absurd h5 (by show ¬ (4:Int)=5;decide)
 rw [if_neg k9] at h5 ⊢
 by_cases k10:n.k=10
 ·rw [ck (by rw [k10];rfl),k10] at hw
  have hw:ts.length=2:=hw.symm
  obtain ⟨a1,a2⟩:=hS 0 (by omega)
  rw [if_pos k10] at h5 ⊢
  obtain ⟨u1,u2⟩:=yU hr.1 h5
  exact ⟨u1,yr (by omega)⟩
 rw [if_neg k10] at h5 ⊢
 by_cases k12:n.k=12
 ·rw [ck (by rw [k12];rfl),k12] at hw
  have hw:ts.length=1:=hw.symm
  obtain ⟨a1,a2⟩:=hS 0 (by omega)
  rw [if_pos k12] at h5 ⊢
  split at h5
  ·rename_i hk
   rw [if_pos hk]
   have hkl:(ts.getD 0 aC).kids.length=(ts.getD 0 aC).lab.l.length:=by
    rw [cU a1]
    unfold aG
    rw [hk.1]
    show 0+_=_
    rw [Nat.zero_add]
    rfl
   have hks:=lY (kq (t:=ts.getD 0 aC) (j:=eH (ts.getD 0 aC).lab.l n.name) (by omega))
   simp only
   exact ⟨kp a1 (by omega),yr (by omega)⟩
  ·exact absurd h5 (by show ¬ (4:Int)=5;decide)
 rw [if_neg k12] at h5 ⊢
 by_cases k14:n.k=14
 ·have hw:ts.length=1+n.l.length:=by
   rw [← hw]
   unfold aG
   rw [k14]
   rfl
  obtain ⟨a1,a2⟩:=hS 0 (by omega)
  rw [if_pos k14] at h5 ⊢
  split at h5
  ·rename_i hk
   rw [if_pos hk]
   have hkl:(ts.getD 0 aC).kids.length=1:=by rw [cU a1,ck (by rw [hk.1];rfl),hk.1];rfl
   have hks:=lY (kq (t:=ts.getD 0 aC) (j:=0) (by omega))
   obtain ⟨b1,b2⟩:=hS (eH n.l (ts.getD 0 aC).lab.name+1) (by omega)
   exact ⟨fN (kp a1 (by omega)) _ b1,rk (by omega) (by omega)⟩
  ·exact absurd h5 (by show ¬ (4:Int)=5;decide)
 rw [if_neg k14] at h5
 exact absurd h5 (by show ¬ (4:Int)=5;decide)
theorem G2 {a:Nat}:2*(a*a)+1≤2*((a+1)*(a+1)):=by
 have e:(a+1)*(a+1)=a*a+a+(a+1):=by
  rw [Nat.add_mul,Nat.mul_add,Nat.mul_one,Nat.one_mul]
 omega
theorem BJ {a b:Nat} (ha:1≤a):2*(a*a)+b≤2*((a+b)*(a+b))∧a+2*(b*b)≤2*((a+b)*(a+b)):=by
 have e:(a+b)*(a+b)=a*a+a*b+(a*b+b*b):=by
  rw [Nat.add_mul,Nat.mul_add,Nat.mul_add,Nat.mul_comm b a]
 have h1:1*b≤a*b:=Nat.mul_le_mul_right _ ha
 have h2:a*1≤a*a:=Nat.mul_le_mul_left _ ha
 omega
mutual
theorem rI:∀ t:RT,t.good→t.lk→(stT t).1=5→(stT t).2.good∧(stT t).2.sz≤2*(t.sz*t.sz)
 | .mk n ts,h,hl,h5=>by
   rw [RT.lk] at hl
   obtain ⟨⟨hw,hc,hr⟩,hg⟩:=bj.1 h
   rw [stT] at h5 ⊢
   cases hs:gi n 0 ts with
   | none =>
     rw [hs] at h5
     exact wm h hl.1 h5
   | some q =>
     rw [hs] at h5
     simp only at h5 ⊢
     obtain ⟨e1,e2⟩:=nX n 0 ts hg hl.2 q.1 q.2 hs
     by_cases hq:q.1=5
     ·rw [if_pos hq]
      obtain ⟨e3,e4⟩:=e2 hq
      refine ⟨bj.2 ⟨⟨by rw [hw,e1],hc,hr⟩,e3⟩,?_⟩
      simp only [im]
      exact Nat.le_trans (Nat.succ_le_succ e4) G2
     ·rw [if_neg hq] at h5
      exact absurd h5 hq
theorem nX (n:EN):∀ (k:Nat) (ts:List RT),(∀ t∈ts,t.good)→RT.lks ts→∀ h us,gi n k ts=some (h,us)→us.length=ts.length∧(h=5→(∀ u∈us,u.good)∧szs us≤2*(szs ts*szs ts))
 | _,[],_,_,h,us,e=>by rw [gi] at e;cases e
 | k,t::r,hg,hl,h,us,e=>by
   rw [RT.lks] at hl
   rw [gi] at e
   split at e
   ·have e:=Option.some.inj e
    obtain ⟨rfl,rfl⟩:=Prod.mk.inj e
    refine ⟨rfl,fun h5=>?_⟩
    obtain ⟨g1,g2⟩:=rI t (hg t List.mem_cons_self) hl.1 h5
    refine ⟨fun u hu=>?_,?_⟩
    ·rcases List.mem_cons.1 hu with rfl | hu
     ·exact g1
     ·exact hg u (List.mem_cons_of_mem _ hu)
    ·rw [bw,bw]
     exact Nat.le_trans (Nat.add_le_add_right g2 _) (BJ (iT t)).1
   ·obtain ⟨q,hq,e⟩:=Option.map_eq_some_iff.1 e
    obtain ⟨rfl,rfl⟩:=Prod.mk.inj e
    obtain ⟨e1,e2⟩:=nX n (k+1) r (fun u hu=>hg u (List.mem_cons_of_mem _ hu)) hl.2 q.1 q.2 hq
    refine ⟨by rw [List.length_cons,List.length_cons,e1],fun h5=>?_⟩
    obtain ⟨e3,e4⟩:=e2 h5
    refine ⟨fun u hu=>?_,?_⟩
    ·rcases List.mem_cons.1 hu with rfl | hu
     ·exact hg _ List.mem_cons_self
     ·exact e3 u hu
    ·rw [bw,bw]
     exact Nat.le_trans (Nat.add_le_add_left e4 _) (BJ (iT t)).2
end
end Go.Proofs.YtejpnabbmgpmaaaGreat

namespace Go.Proofs.YtejpnabbmgpmaaaGreat
open Go.Ab
def HE:List TS:=[.sl (some 9) [.int .i64,.int .i64,.int .i64,.int .i64,.int .i64,.str,.str,.sl (some 3) [.str,.str,.int .i64],.int .i64]]
def RwN (x:D) (n:EN):Prop:=∃ F,x=.agg [i64 n.k,i64 n.a,i64 n.b,i64 n.c,i64 n.n,.str n.name,.str n.s,F,i64 n.pos]∧(F=.nils∧n.l=[]∨F=efD n.l)
def RwL:List D→List EN→Prop
 | [],[]=>True
 | x::xs,n::ns=>RwN x n∧RwL xs ns
 | _,_=>False
theorem RwL.len:∀ {xs:List D} {ns:List EN},RwL xs ns→xs.length=ns.length
 | [],[],_=>rfl
 | _::_,_::_,h=>by simp [RwL.len h.2]
 | [],_::_,h=>h.elim
 | _::_,[],h=>h.elim
theorem RwL.get:∀ {xs:List D} {ns:List EN},RwL xs ns→∀ (i:Nat) x n,xs[i]?=some x→ns[i]?=some n→RwN x n
 | [],_,_,i,x,n,h,_=>by simp at h
 | _::_,[],h,_,_,_,_,_=>h.elim
 | x::xs,n::ns,h,0,_,_,h1,h2=>by simp at h1 h2;subst h1;subst h2;exact h.1
 | x::xs,n::ns,h,i+1,y,m,h1,h2=>h.2.get i y m (by simpa using h1) (by simpa using h2)
theorem HX (n:EN):okW (some 9) (enD n):=⟨rfl,by simp [efD,D.scal]⟩
theorem Jm {xs:List D} {ns:List EN} (h:RwL xs ns):Wk (.agg [.sl (some 9) xs]) (exD ns):=by
 refine Wk.agg rfl (by simp [D.scal]) fun i a b ha hb=>?_
 match i,ha,hb with
 | 0,ha,hb =>
   cases ha;cases hb
   refine Wk.sl (by simp [h.len]) (fun b hb=>by obtain ⟨n,_,rfl⟩:=List.mem_map.1 hb;exact HX n) fun i a b ha hb=>?_
   rw [List.getElem?_map,Option.map_eq_some_iff] at hb
   obtain ⟨n,hn,rfl⟩:=hb
   obtain ⟨F,rfl,hF⟩:=h.get i a n ha hn
   refine ⟨rfl,fun j c d hc hd=>?_⟩
   match j,hc,hd with
   | 0,hc,hd | 1,hc,hd | 2,hc,hd | 3,hc,hd | 4,hc,hd | 5,hc,hd | 6,hc,hd | 8,hc,hd=>cases hc;cases hd;exact .refl _
   | 7,hc,hd =>
     cases hc;cases hd
     rcases hF with ⟨rfl,hF⟩ | rfl
     ·rw [hF];exact .nils _
     ·exact .refl _
theorem qy:maxLen≤9223372036854775807:=by unfold maxLen;omega
theorem Dr:∀ {xs:List D},(∀ x∈xs,okW (some 3) x∧oks [.str,.str,.int .i64] x.cells)→∃ l:List EF,xs=l.map fD∧∀ f∈l,f.nm.length≤maxLen∧f.var.length≤maxLen
 | [],_=>⟨[],rfl,by simp⟩
 | x::xs,h=>by
   obtain ⟨l,hl,hf⟩:=Dr fun y hy=>h y (List.mem_cons_of_mem _ hy)
   obtain ⟨h1,h2⟩:=h x List.mem_cons_self
   cases x with
   | agg cs =>
     have h2:oks [.str,.str,.int .i64] cs:=h2
     match cs,h2 with
     | [.str s,.str v,.int k n],h2 =>
       obtain ⟨g1,g2,g3,_⟩:=h2
       obtain rfl:k=.i64:=g3.1
       exact ⟨⟨s,v,n⟩::l,by rw [hl];rfl,fun f hf'=>by
        rcases List.mem_cons.1 hf' with rfl | hf'
        ·exact ⟨g1,g2⟩
        ·exact hf f hf'⟩
   | _=>simp [okW] at h1
def InN (n:EN):Prop:=n.name.length≤maxLen∧n.s.length≤maxLen∧n.l.length≤maxLen∧∀ f∈n.l,f.nm.length≤maxLen∧f.var.length≤maxLen
theorem Ih {x:D} (h1:okW (some 9) x) (h2:oks [.int .i64,.int .i64,.int .i64,.int .i64,.int .i64,.str,.str,.sl (some 3) [.str,.str,.int .i64],.int .i64] x.cells):∃ n,RwN x n∧InN n:=by
 cases x with
 | agg cs =>
   have h2:oks [.int .i64,.int .i64,.int .i64,.int .i64,.int .i64,.str,.str,.sl (some 3) [.str,.str,.int .i64],.int .i64] cs:=h2
   match cs,h2 with
   | [.int k1 a,.int k2 b,.int k3 c,.int k4 d,.int k5 e,.str s,.str t,F,.int k6 p],h2 =>
     obtain ⟨g1,g2,g3,g4,g5,g6,g7,g8,g9,_⟩:=h2
     obtain rfl:k1=.i64:=g1.1
     obtain rfl:k2=.i64:=g2.1
     obtain rfl:k3=.i64:=g3.1
     obtain rfl:k4=.i64:=g4.1
     obtain rfl:k5=.i64:=g5.1
     obtain rfl:k6=.i64:=g9.1
     cases F with
     | nils=>exact ⟨⟨a,b,c,d,e,s,t,[],p⟩,⟨.nils,rfl,.inl ⟨rfl,rfl⟩⟩,g6,g7,by simp,by simp⟩
     | sl w xs =>
       obtain ⟨rfl,g10,g11⟩:=g8
       obtain ⟨l,rfl,hl⟩:=Dr g11
       exact ⟨⟨a,b,c,d,e,s,t,l,p⟩,⟨_,rfl,.inr rfl⟩,g6,g7,by simpa using g10,hl⟩
     | _=>exact g8.elim
 | _=>simp [okW] at h1
theorem AS:∀ {xs:List D},(∀ x∈xs,okW (some 9) x∧oks [.int .i64,.int .i64,.int .i64,.int .i64,.int .i64,.str,.str,.sl (some 3) [.str,.str,.int .i64],.int .i64] x.cells)→∃ ns,RwL xs ns∧∀ n∈ns,InN n
 | [],_=>⟨[],trivial,by simp⟩
 | x::xs,h=>by
   obtain ⟨ns,h1,h2⟩:=AS fun y hy=>h y (List.mem_cons_of_mem _ hy)
   obtain ⟨g1,g2⟩:=h x List.mem_cons_self
   obtain ⟨n,k1,k2⟩:=Ih g1 g2
   exact ⟨n::ns,⟨k1,h1⟩,fun m hm=>by
    rcases List.mem_cons.1 hm with rfl | hm
    ·exact k2
    ·exact h2 m hm⟩
theorem D3 (ns:List EN):(uc ns).length≤700:=by
 unfold uc
 rw [List.length_map,List.length_take]
 omega
def InF (ns:List EN):Prop:=ns.length≤700∧∀ n∈ns,fO BIG n∧n.l.length≤60
theorem A7 {ns:List EN} (h:∀ n∈ns,InN n):InF (uc ns):=by
 refine ⟨D3 ns,fun n hn=>?_⟩
 unfold uc at hn
 obtain ⟨m,hm,rfl⟩:=List.mem_map.1 hn
 obtain ⟨h1,h2,h3,h4⟩:=h m (List.mem_of_mem_take hm)
 have hx:=qy
 have hl:(wx m).l.length≤60:=by unfold wx;simp only [List.length_take];omega
 exact ⟨⟨by show m.name.length≤9223372036854775807;omega,by show m.s.length≤9223372036854775807;omega,by omega,fun f hf=>by
  have:=h4 f (List.mem_of_mem_take hf)
  exact ⟨by show f.nm.length≤9223372036854775807;omega,by show f.var.length≤9223372036854775807;omega⟩⟩,hl⟩
end Go.Proofs.YtejpnabbmgpmaaaGreat

namespace Go.Ab
section
variable {P:Program} {cf:Cf} {Q:Exit→St→Prop} {s:St} {k:List It}
end
end Go.Ab

namespace Go.Ab
inductive Fz where
 | A (p:Name) (w:W) (xs:List D)
 | B (p:Name) (d:D)
def Fz.nm:Fz→Name
 | .A p _ _=>p
 | .B p _=>p
def St.fz (s:St):Fz→St
 | .A p w xs=>s.ew p w xs
 | .B p d=>s.frB p d
def Fz.ok (s:St):Fz→Prop
 | .A p w xs=>s.hp p=some (.arr w xs)
 | .B p d=>s.hp p=some (.box (d.cells.map .d))∧(d.cells.all D.scal)=true
def St.fzL (s:St):List Fz→St
 | []=>s
 | q::L=>(s.fz q).fzL L
def tc (s:St):List Fz→Prop
 | []=>True
 | q::L=>q.ok s∧tc (s.fz q) L
theorem Gs (s:St):s.fzL []=s:=rfl
theorem I4 (s:St) (p:Name) (w:W) (xs:List D) (L:List Fz):s.fzL (.A p w xs::L)=(s.ew p w xs).fzL L:=rfl
theorem Ii (s:St) (p:Name) (d:D) (L:List Fz):s.fzL (.B p d::L)=(s.frB p d).fzL L:=rfl
theorem Az (s:St):tc s []=True:=rfl
theorem Cc (s:St) (p:Name) (w:W) (xs:List D) (L:List Fz):tc s (.A p w xs::L)=(s.hp p=some (.arr w xs)∧tc (s.ew p w xs) L):=rfl
theorem B7 (s:St) (p:Name) (d:D) (L:List Fz):tc s (.B p d::L)=((s.hp p=some (.box (d.cells.map .d))∧(d.cells.all D.scal)=true)∧tc (s.frB p d) L):=rfl
def St.noO (s:St):St:={ s with hp:=fun _=>none }
theorem Sim.noO {B:Base} {β:Name→Option Blk} {s:St} {tm:Array Value} {w:World} (h:Sim B β s tm w):Sim B β s.noO tm w:=by
 have hr:∀ v d,Rep w.heap (s.own B.A β) v d→Rep w.heap (s.noO.own B.A β) v d:=fun v d hd=>hd.mono (fun _ _ _=>rfl) (by
  rintro b _ (hA | ⟨q,k,hq,_⟩)
  ·exact .inl hA
  ·exact absurd rfl hq)
 exact { tms:=h.tms,io:=h.io,size:=h.size,frame:=h.frame,slots:=fun i=>VR.mono hr (fun _ h=>h) (fun q _ o' ho'=>(by cases ho')) (h.slots i),objs:=fun q o' ho'=>(by cases ho'),blocks:=fun q k hq _=>absurd rfl hq,inj:=fun q q' k k' hq _=>absurd rfl hq,us:=h.us,stay:=h.stay }
section
variable {P:Program} {cf:Cf} {Q:Exit→St→Prop} {s:St} {k:List It}
section
variable {ops:Array Oper} {K:St→Ns→Prop} {r:List Oper} {ns:Ns}
structure Alike (ns:List Name) (ts:List Nat) (s s':St):Prop where
 hp:∀ p∈ns,s'.hp p=s.hp p
 fr:∀ t∈ts,s'.fr t=s.fr t
theorem Alike.fz {ns:List Name} {ts:List Nat} {s s':St} (h:Alike ns ts s s') (q:Fz):Alike ns ts (s.fz q) (s'.fz q):=by
 cases q with
 | A p w xs =>
   refine ⟨fun x hx=>?_,fun t ht=>?_⟩
   ·show (aA s'.hp p none x).map _=(aA s.hp p none x).map _
    unfold aA
    split
    ·rfl
    ·rw [h.hp x hx]
   ·show (s'.fr t).frz p w xs=(s.fr t).frz p w xs
    rw [h.fr t ht]
 | B p d =>
   refine ⟨fun x hx=>?_,fun t ht=>?_⟩
   ·show (aA s'.hp p none x).map _=(aA s.hp p none x).map _
    unfold aA
    split
    ·rfl
    ·rw [h.hp x hx]
   ·show (s'.fr t).frB p d=(s.fr t).frB p d
    rw [h.fr t ht]
theorem Alike.ok {ns:List Name} {ts:List Nat}:∀ {L:List Fz} {s s':St},Alike ns ts s s'→(∀ q∈L,q.nm∈ns)→tc s L→tc s' L
 | [],_,_,_,_,_=>trivial
 | .A p w xs::L,s,s',h,hn,hl=>by
   rw [Cc] at hl ⊢
   exact ⟨(h.hp p (hn (.A p w xs) List.mem_cons_self)).trans hl.1,Alike.ok (h.fz (.A p w xs)) (fun q hq=>hn q (List.mem_cons_of_mem _ hq)) hl.2⟩
 | .B p d::L,s,s',h,hn,hl=>by
   rw [B7] at hl ⊢
   exact ⟨⟨(h.hp p (hn (.B p d) List.mem_cons_self)).trans hl.1.1,hl.1.2⟩,Alike.ok (h.fz (.B p d)) (fun q hq=>hn q (List.mem_cons_of_mem _ hq)) hl.2⟩
theorem Alike.fzL {ns:List Name} {ts:List Nat}:∀ (L:List Fz) {s s':St},Alike ns ts s s'→Alike ns ts (s.fzL L) (s'.fzL L)
 | [],_,_,h=>h
 | q::L,_,_,h=>Alike.fzL L (h.fz q)
end
end
attribute [go_sem] Gs I4 Ii Az Cc B7 Fz.nm
end Go.Ab
namespace Go.Ab
variable {P:Program} {cf:Cf} {Φ:Exit→Act→World→Prop} {I:Base→List Deferred→Prop} {k:List It} {s:St}
def cutq (P:Program) (cf:Cf) (Φ:Exit→Act→World→Prop) (I:Base→List Deferred→Prop) (k:List It) {X:Type} (S:X→St) (e:Exit) (s:St):Prop :=
 match e with
 | .normal=>∃ x τ,Le cf.U τ s (S x)
 | e=>yq P cf Φ I k e s
theorem C5 {X:Type} (S:X→St):cutq P cf Φ I k S .ret s=ARX cf Φ I .ret s:=rfl
theorem Jb {X:Type} (S:X→St) {c:Code} (h1:∀ E:Eng P cf (cutq P cf Φ I k S),E.run [.code c] s) (h2:∀ x,ARY P cf Φ I k (S x)):ARY P cf Φ I (.code c::k) s :=
 fun B hB ds β a w hds hI hs=>wpIn_mono (aU (veil h1) B hB ds β a w hds hs) fun e a' w' hq=>by
  obtain ⟨hd,s',β',hq,hs'⟩:=hq
  cases e with
  | normal =>
    obtain ⟨x,τ,hle⟩:=hq
    obtain ⟨β2,hs2,_⟩:=hs'.le (τ:=τ) (by rw [hB.2.1];exact hle)
    exact fc (s:=S x) (e:=.normal) hB hI hd (h2 x) hs2
  | ret=>exact fc (e:=.ret) hB hI hd hq hs'
  | exit i=>exact fc (e:=.exit i) hB hI hd hq hs'
  | goto l=>exact hq.elim
  | panic c=>exact hq.elim
  | outgrown=>exact hq.elim
theorem AJ (fr:List (Nat × AV)) (hp:List (Name × Ob)) (u:List Nat) {c:Code} (h1:∀ E:Eng P cf (cutq P cf Φ I k fun _:Unit=>mk fr hp u),E.run [.code c] s) (h2:ARY P cf Φ I k (mk fr hp u)):ARY P cf Φ I (.code c::k) s:=Jb _ h1 fun _=>h2
theorem og {fr:List (Nat × AV)} {hp:List (Name × Ob)} {u:List Nat} (τ:Name→Name) (h:LeL cf.U τ s fr hp u):cutq P cf Φ I k (fun _:Unit=>mk fr hp u) .normal s:=⟨(),τ,h.le⟩
attribute [go_sem] C5
end Go.Ab

namespace Go.Ab
section
variable {P:Program} {cf:Cf} {ops:Array Oper} {K:St→Ns→Prop} {r:List Oper} {s:St} {ns:Ns}
end
end Go.Ab

namespace Go.Proofs.YtejpnabbmgpmaaaGreat
open Go.Ab
theorem oH {ns:List EN} (ht:a8 ns):∀ n∈ns,n.l.length≤900000:=fun n hn=>by have:=ht.l n hn;omega
theorem iJ {ns:List EN} (ht:a8 ns):∀ n∈ns,fO BIG n:=fun n hn=>by
 obtain ⟨i,hi,rfl⟩:=List.mem_iff_getElem.1 hn
 have:=ht.right i hi
 rw [bd hi] at this
 exact m5 this
theorem Bz {G} {ns:List EN} (ht:a8 ns) {i:Nat} (hi:i<ns.length):HP Tryz.prog G 57 [exD ns,i64 (i:Int)] (fun q=>q=.d (exD (sbE ns i))):=by
 have hf:=ht.few
 have hl:=mO ht hi
 have:=HS (G:=G) ns i hi (by omega) (oH ht) ht.kids (Cn ht hi) (by show (aT ns i).length≤_;omega)
 have e:jJ ns (aJ ns ns.length i) (aJ ns ns.length i).length=sbE ns i:=by unfold jJ sbE aT;rw [List.take_length]
 rwa [e] at this
def e6 (ns:List EN):List EN:=sbE ns (ns.length-1)
theorem xA {G} {ns:List EN} (ht:a8 ns) (hm:bB ns=0):HP Tryz.prog G 16 [exD ns] (fun r=>r=.tup [.d (exD (e6 ns)),.d (i64 0)]):=by
 have hf:=ht.few
 have hp:=ht.pos
 have c1:=jO (G:=G) ns (iJ ht) (by omega)
 rw [hm] at c1
 have c2:=Bz (G:=G) ht (i:=ns.length-1) (by omega)
 rw [show ((ns.length-1:Nat):Int)=(ns.length:Int)-1 by omega] at c2
 unfold e6
 generalize sbE ns (ns.length-1)=X at c2 ⊢
 unfold exD at *
 refine aR Tryz.func16 rfl (by decide +kernel) (by simp [Tryz.ntmps16]) (veil fun E=>?_)
 simp only [go_sem]
 refine ae E (c1) rfl rfl (by simp) ?_
 rintro _ rfl
 simp only [go_sem]
 rw [ak (n:=(ns.length:Int)-1) ⟨by omega,by omega⟩]
 refine ae E (c2) rfl rfl (by simp) ?_
 rintro _ rfl
 simp only [go_sem]
 refine ⟨[],?_⟩
 simp only [go_sem]
theorem xy {G} {ns:List EN} (hm:bB ns≠0) (hs:∀ n∈ns,fO BIG n) (hN:ns.length≤1000000):HP Tryz.prog G 16 [exD ns] (fun r=>r=.tup [.d (.agg [.nils]),.d (i64 (bB ns))]):=by
 have c1:=jO (G:=G) ns hs hN
 generalize bB ns=m at c1 hm ⊢
 unfold exD at *
 refine aR Tryz.func16 rfl (by decide +kernel) (by simp [Tryz.ntmps16]) (veil fun E=>?_)
 simp only [go_sem]
 refine ae E (c1) rfl rfl (by simp) ?_
 rintro _ rfl
 simp only [go_sem]
 refine ai E (fun _=>?_) (fun h=>absurd (by simpa using h) hm)<;>simp only [go_sem]
 refine ⟨[],?_⟩
 simp only [go_sem]
theorem Fg {G} {ns:List EN} (ht:a8 ns) (hm:bB ns=0) {i:Nat} (hi:i<ns.length):HP Tryz.prog G 181 [exD ns,i64 (i:Int)] (fun r=>r=.tup [.d (exD (sbE ns i)),.d (i64 0)]):=by
 have hf:=ht.few
 have c1:=jO (G:=G) ns (iJ ht) (by omega)
 rw [hm] at c1
 have c2:=Bz (G:=G) ht hi
 generalize sbE ns i=X at c2 ⊢
 unfold exD at *
 refine aR Tryz.func181 rfl (by decide +kernel) (by simp [Tryz.ntmps181]) (veil fun E=>?_)
 simp only [go_sem]
 refine ae E (c1) rfl rfl (by simp) ?_
 rintro _ rfl
 simp only [go_sem]
 rw [decide_eq_false (show ¬ ((i:Int)<0) by omega)]
 simp only [go_sem]
 rw [decide_eq_false (show ¬ ((ns.length:Int)≤(i:Int)) by omega)]
 simp only [go_sem]
 refine ae E (c2) rfl rfl (by simp) ?_
 rintro _ rfl
 simp only [go_sem]
 refine ⟨[],?_⟩
 simp only [go_sem]
def spO (ns:List EN) (h:Int):List (Name × Ob):=[([100],.box [.d (.sl (some 9) (ns.map enD)),.d (i64 h)])]
theorem b7 {G} {ns:List EN} (ht:a8 ns) (hm:bB ns=0) (h:Int) {i:Nat} (hi:i<ns.length):HCall Tryz.prog G 124 [.at [100] 0,.d (i64 (i:Int))] (spO ns h) [100] (fun r hp'=>r=.d (exD (sbE ns i))∧hp'=spO ns h):=by
 have c1:=Fg (G:=G) ht hm hi
 generalize sbE ns i=X at c1 ⊢
 unfold exD spO at *
 refine aq Tryz.func124 rfl (by decide +kernel) (by simp [Tryz.ntmps124]) (veil fun E=>?_)
 simp only [go_sem]
 refine ae E (c1) rfl rfl (by simp) ?_
 rintro _ rfl
 simp only [go_sem]
 refine ⟨_,_,[100],id,⟨rfl,rfl⟩,?_⟩
 simp only [go_sem]
theorem jY {ns:List EN} {i:Nat} (hi:i<ns.length):(trE ns i).lab=can (ndE ns i):=BM ns ns.length i (by omega)
theorem Hq {ns:List EN} (hk:∀ i,i<ns.length→(ah (ndE ns i)).all (inB i)=true) {i:Nat} (hi:i<ns.length):dm (trE ns i)=if (ndE ns i).k=11∨(ndE ns i).k=13 then (ah (ndE ns i)).all (fun k=>dm (trE ns k.toNat)) else decide ((ndE ns i).k=1) || decide ((ndE ns i).k=2) || decide ((ndE ns i).k=3) || decide ((ndE ns i).k=5):=by
 rw [ui hk hi,dm,fx,pM,List.all_map]
 rfl
theorem DW {G} {ns:List EN} {f:EF} {b:Bool} (h:HP Tryz.prog G 121 [exD ns,i64 f.to] (fun r=>r=.d (.bool b))):HP Tryz.prog G 180 [fD f,.ptr (exD ns)] (fun r=>r=.d (.bool (!b))):=by
 unfold exD fD at *
 refine ao Tryz.func180 rfl (by decide +kernel) (by simp [Tryz.ntmps180]) (veil fun E=>?_)
 simp only [go_sem]
 refine ae E h rfl rfl (by simp) ?_
 rintro _ rfl
 simp only [go_sem]
theorem xu {α:Type} {p:α→Bool}:∀ l:List α,l.any (fun x=>!p x)=!l.all p
 | []=>rfl
 | x::r=>by rw [List.any_cons,List.all_cons,xu r];simp
theorem yp {G} (ns:List EN) (hN:ns.length≤1000000) (hs:∀ n∈ns,n.l.length≤900000) (hk:∀ i,i<ns.length→(ah (ndE ns i)).all (inB i)=true):∀ (m i:Nat),i<m→i<ns.length→HP Tryz.prog G 121 [exD ns,i64 (i:Int)] (fun r=>r=.d (.bool (dm (trE ns i))))
 | 0,_,h,_=>absurd h (Nat.not_lt_zero _)
 | m+1,i,him,hi=>by
   have ih:=yp (G:=G) ns hN hs hk m
   have hg:=aN hi
   have hsi:=hs _ (by rw [bd hi];exact List.getElem_mem hi:ndE ns i∈ns)
   have hkn:=ax hk hi
   rw [Hq hk hi]
   obtain ⟨n,hne⟩:∃ n,n=ndE ns i:=⟨_,rfl⟩
   rw [← hne] at hg hsi hkn ⊢
   generalize hR:(if n.k=11∨n.k=13 then (ah n).all (fun k=>dm (trE ns k.toNat)) else decide (n.k=1) || decide (n.k=2) || decide (n.k=3) || decide (n.k=5))=R
   unfold exD
   refine aR Tryz.func121 rfl (by decide +kernel) (by simp [Tryz.ntmps121]) (veil fun E=>?_)
   simp only [go_sem]
   refine ⟨⟨by omega,by omega⟩,?_⟩
   rw [hg]
   simp only [go_sem]
   refine ai E (fun k1=>?_) (fun k1=>?_)<;>simp only [go_sem]
   ·rw [decide_eq_true k1]
    simp only [go_sem]
    rw [← hR]
    simp only [k1]
    exact ⟨[],trivial,rfl,rfl⟩
   refine ai E (fun k2=>?_) (fun k2=>?_)<;>simp only [go_sem]
   ·rw [decide_eq_true k2]
    simp only [go_sem]
    rw [← hR]
    simp only [k2]
    exact ⟨[],trivial,rfl,rfl⟩
   refine ai E (fun k3=>?_) (fun k3=>?_)<;>simp only [go_sem]
   ·rw [decide_eq_true k3]
    simp only [go_sem]
    rw [← hR]
    simp only [k3]
    exact ⟨[],trivial,rfl,rfl⟩
   by_cases k5:n.k=5
   ·rw [decide_eq_true k5]
    simp only [go_sem]
    rw [← hR]
    simp only [k5]
    exact ⟨[],trivial,rfl,rfl⟩
   rw [decide_eq_false k5]
   simp only [go_sem]
   refine ai E (fun k11=>?_) (fun k11=>?_)<;>simp only [go_sem]
   ·have hke:ah n=n.l.map (·.to):=by simp [ah,k11,aH,aw]
    have hc:=wB (G:=G) n.l (fun f=>!dm (trE ns f.to.toNat)) 180 [.ptr (exD ns)] (by omega) (fun f hf=>by
     have hm:f.to∈ah n:=by rw [hke];exact List.mem_map_of_mem hf
     obtain ⟨h1,h2⟩:=hkn _ hm
     have:=ih f.to.toNat (by omega) (by omega)
     rw [Int.toNat_of_nonneg h1] at this
     exact DW this)
    rw [if_pos (.inl k11)] at hR
    rw [xu,show n.l.all (fun f=>dm (trE ns f.to.toNat))=(ah n).all (fun k=>dm (trE ns k.toNat)) by rw [hke,List.all_map];rfl,hR] at hc
    unfold exD at hc
    refine qG E [2] (.agg [.sl (some 9) (ns.map enD)]) rfl rfl ?_
    simp only [go_sem]
    refine ae E (hc) rfl rfl (by simp) ?_
    rintro _ rfl
    simp only [go_sem]
    refine ⟨[],?_⟩
    simp only [go_sem]
   refine ai E (fun k13=>?_) (fun k13=>?_)<;>simp only [go_sem]
   ·have hke:ah n=[n.a]:=by simp [ah,k13,aH,aw]
    obtain ⟨h1,h2⟩:=hkn n.a (by rw [hke];exact List.mem_cons_self)
    have hc:=ih n.a.toNat (by omega) (by omega)
    rw [Int.toNat_of_nonneg h1] at hc
    rw [if_pos (.inr k13),hke] at hR
    simp only [List.all_cons,List.all_nil,Bool.and_true] at hR
    rw [hR] at hc
    unfold exD at hc
    refine ae E (hc) rfl rfl (by simp) ?_
    rintro _ rfl
    simp only [go_sem]
    refine ⟨[],?_⟩
    simp only [go_sem]
   ·rw [if_neg (by omega),decide_eq_false k1,decide_eq_false k2,decide_eq_false k3,decide_eq_false k5] at hR
    rw [← hR]
    refine ⟨[],?_⟩
    simp only [go_sem]
end Go.Proofs.YtejpnabbmgpmaaaGreat

namespace Go.Proofs.YtejpnabbmgpmaaaGreat
open Go.Ab
theorem Dy {G} {ns:List EN} (ht:a8 ns) (hm:bB ns=0):HP Tryz.prog G 74 [exD ns] (fun r=>r=.d (.bool (dm (trE ns (ns.length-1))))):=by
 have hf:=ht.few
 have hp:=ht.pos
 have c1:=jO (G:=G) ns (iJ ht) (by omega)
 rw [hm] at c1
 have c2:=yp (G:=G) ns (by omega) (oH ht) (av ht) ns.length (ns.length-1) (by omega) (by omega)
 rw [show ((ns.length-1:Nat):Int)=(ns.length:Int)-1 by omega] at c2
 generalize dm (trE ns (ns.length-1))=b at c2 ⊢
 unfold exD at *
 refine ao Tryz.func74 rfl (by decide +kernel) (by simp [Tryz.ntmps74]) (veil fun E=>?_)
 simp only [go_sem]
 refine ae E (c1) rfl rfl (by simp) ?_
 rintro _ rfl
 simp only [go_sem]
 rw [ak (n:=(ns.length:Int)-1) ⟨by omega,by omega⟩]
 refine ae E (c2) rfl rfl (by simp) ?_
 rintro _ rfl
 simp only [go_sem]
theorem qX {ns:List EN} (ht:a8 ns) {i:Nat} (hi:i<ns.length):trE (sbE ns i) ((sbE ns i).length-1)=trE ns i:=by
 have:=lR (GJ (av ht) hi)
 rwa [cH ht hi] at this
theorem FX {G} {ns:List EN} (ht:a8 ns) (hm:bB ns=0) (h:Int) {i:Nat} (hi:i<ns.length):HCall Tryz.prog G 123 [.at [100] 0,.d (i64 (i:Int))] (spO ns h) [100] (fun r hp'=>r=.d (.bool (dm (trE ns i)))∧hp'=spO ns h):=by
 have c1:=b7 (G:=G) ht hm h hi
 have hsm:=As ht hi
 have c2:=Dy (G:=G) (Cw hsm) hsm
 rw [qX ht hi] at c2
 generalize sbE ns i=X at c1 c2
 generalize dm (trE ns i)=b at c2 ⊢
 unfold exD spO at *
 refine aq Tryz.func123 rfl (by decide +kernel) (by simp [Tryz.ntmps123]) (veil fun E=>?_)
 simp only [go_sem]
 refine ab E _ _ _ c1 rfl rfl ⟨by simp only [go_sem],by first | (rw [aa];decide) | (simp only [go_sem]<;>(try rw [aa])<;>decide)⟩ (by simp only [go_sem]) (by simp only [go_sem]) (by simp only [go_sem]) ?_
 rintro _ _ ⟨rfl,rfl⟩
 refine ⟨by simp only [go_sem];try omega,?_⟩
 simp only [go_sem]
 refine ae E (c2) rfl rfl (by simp) ?_
 rintro _ rfl
 simp only [go_sem]
 refine ⟨_,_,[100],id,⟨rfl,rfl⟩,?_⟩
 simp only [go_sem]
theorem xE {G} (n:EN) (hn:n.l=[]):HP Tryz.prog G 240 [ndN n] (fun r=>r=.d (exD (bz n))):=by
 have c1:=GD (G:=G) n hn
 generalize bz n=X at c1 ⊢
 unfold ndN exD at *
 refine aR Tryz.func240 rfl (by decide +kernel) (by simp [Tryz.ntmps240]) (veil fun E=>?_)
 simp only [go_sem]
 refine ae E (c1) rfl rfl (by simp) ?_
 rintro _ rfl
 simp only [go_sem]
 refine ⟨[],?_⟩
 simp only [go_sem]
theorem gW {G} (ns:List EN) (h0 h:Int):HCall Tryz.prog G 189 [.at [100] 0,.d (i64 h)] (spO ns h0) [100] (fun r hp'=>r=.d (.agg [.nils])∧hp'=spO ns h):=by
 unfold spO
 refine aq Tryz.func189 rfl (by decide +kernel) (by simp [Tryz.ntmps189]) (veil fun E=>?_)
 simp only [go_sem]
 refine ⟨_,_,[100],id,⟨rfl,rfl⟩,?_⟩
 simp only [go_sem]
theorem Gq {G} (n:EN) (k:Nat) (x:List UInt8) (_hl:n.l.length≤900000) (hk:n.k=14→k<n.l.length+1) (hk2:k≤1000000):HP Tryz.prog G 239 [enD n,i64 (k:Int),.str x] (fun r=>r=.d (.bool (aS n k x))):=by
 generalize hR:aS n k x=R
 unfold aS at hR
 unfold enD efD
 refine ao Tryz.func239 rfl (by decide +kernel) (by simp [Tryz.ntmps239]) (veil fun E=>?_)
 simp only [go_sem]
 refine ai E (fun k5=>?_) (fun k5=>?_)<;>simp only [go_sem]
 ·rw [decide_eq_true k5]
  simp only [go_sem]
  rw [← hR,if_pos (.inl k5)]
 by_cases k8:n.k=8
 ·rw [decide_eq_true k8]
  simp only [go_sem]
  rw [← hR,if_pos (.inr k8)]
 rw [decide_eq_false k8]
 simp only [go_sem]
 rw [if_neg (by omega)] at hR
 refine ai E (fun k7=>?_) (fun k7=>?_)<;>simp only [go_sem]
 ·rw [if_pos k7] at hR
  refine cQ E (fun h1=>?_) (fun h1=>?_)<;>simp only [go_sem]
  ·rw [← hR,h1,Bool.true_and]
   have:=xd k 1
   rw [← this]
   rfl
  ·rw [← hR,h1,Bool.false_and]
 rw [if_neg k7] at hR
 refine ai E (fun k14=>?_) (fun k14=>?_)<;>simp only [go_sem]
 ·rw [if_pos k14] at hR
  have:=hk k14
  refine aO E (fun h1=>?_) (fun h1=>?_)<;>simp only [go_sem]
  ·rw [ak ⟨by omega,by omega⟩]
   refine ⟨⟨by omega,by omega⟩,?_⟩
   rw [show ((k:Int)-1).toNat=k-1 by omega,gu (by omega)]
   simp only [go_sem]
   rw [← hR,decide_eq_true (show 0<k by omega),Bool.true_and]
  ·rw [← hR,decide_eq_false (show ¬ 0<k by omega),Bool.false_and]
 ·rw [if_neg k14] at hR
  rw [← hR]
def dM (n:EN):List Int:=if n.k=6∨n.k=10∨n.k=11 then ah n else if n.k=7∨n.k=9∨n.k=12∨n.k=13∨n.k=14 then [n.a] else []
theorem FA {G} (n:EN) (hl:n.l.length≤900000):HP Tryz.prog G 122 [enD n] (fun r=>r=.d (.sl none ((dM n).map i64))):=by
 refine HP.wkr (Q:=fun r=>r=.d (.sl none ((dM n).map i64))∨(r=.d .nils∧dM n=[])) ?_ (fun r hr=>?_)
 ·have hkc:=dr (G:=G) n (by omega)
  generalize hR:dM n=R
  unfold dM at hR
  unfold enD efD at hkc ⊢
  refine aR Tryz.func122 rfl (by decide +kernel) (by simp [Tryz.ntmps122]) (veil fun E=>?_)
  simp only [go_sem]
  refine ai E (fun k6=>?_) (fun k6=>?_)<;>simp only [go_sem]
  ·rw [if_pos (.inl k6)] at hR
   rw [decide_eq_true k6]
   simp only [go_sem]
   refine ab E _ [] [] hkc rfl rfl ⟨by simp only [go_sem],by rw [aa];decide⟩ rfl (by simp only [go_sem]) (by simp only [go_sem]) ?_
   rintro _ _ ⟨rfl,rfl⟩
   simp only [go_sem]
   rw [← hR]
   refine ⟨[([10,0],none,(ah n).map i64)],?_⟩
   simp only [go_sem]
   exact .inl trivial
  refine ai E (fun k10=>?_) (fun k10=>?_)<;>simp only [go_sem]
  ·rw [if_pos (.inr (.inl k10))] at hR
   rw [decide_eq_true k10]
   simp only [go_sem]
   refine ab E _ [] [] hkc rfl rfl ⟨by simp only [go_sem],by rw [aa];decide⟩ rfl (by simp only [go_sem]) (by simp only [go_sem]) ?_
   rintro _ _ ⟨rfl,rfl⟩
   simp only [go_sem]
   rw [← hR]
   refine ⟨[([10,0],none,(ah n).map i64)],?_⟩
   simp only [go_sem]
   exact .inl trivial
  by_cases k11:n.k=11
  ·rw [if_pos (.inr (.inr k11))] at hR
   rw [decide_eq_true k11]
   simp only [go_sem]
   refine ab E _ [] [] hkc rfl rfl ⟨by simp only [go_sem],by rw [aa];decide⟩ rfl (by simp only [go_sem]) (by simp only [go_sem]) ?_
   rintro _ _ ⟨rfl,rfl⟩
   simp only [go_sem]
   rw [← hR]
   refine ⟨[([10,0],none,(ah n).map i64)],?_⟩
   simp only [go_sem]
   exact .inl trivial
  rw [decide_eq_false k11]
  rw [if_neg (by omega)] at hR
  simp only [go_sem]
  refine ai E (fun k7=>?_) (fun k7=>?_)<;>simp only [go_sem]
  ·rw [if_pos (.inl k7)] at hR
   rw [decide_eq_true k7]
   simp only [go_sem]
   rw [← hR]
   refine ⟨[([19],none,[i64 n.a])],?_⟩
   simp only [go_sem]
  refine ai E (fun k9=>?_) (fun k9=>?_)<;>simp only [go_sem]
  ·rw [if_pos (.inr (.inl k9))] at hR
   rw [decide_eq_true k9]
   simp only [go_sem]
   rw [← hR]
   refine ⟨[([19],none,[i64 n.a])],?_⟩
   simp only [go_sem]
  refine ai E (fun k12=>?_) (fun k12=>?_)<;>simp only [go_sem]
  ·rw [if_pos (.inr (.inr (.inl k12)))] at hR
   rw [decide_eq_true k12]
   simp only [go_sem]
   rw [← hR]
   refine ⟨[([19],none,[i64 n.a])],?_⟩
   simp only [go_sem]
  refine ai E (fun k13=>?_) (fun k13=>?_)<;>simp only [go_sem]
  ·rw [if_pos (.inr (.inr (.inr (.inl k13))))] at hR
   rw [decide_eq_true k13]
   simp only [go_sem]
   rw [← hR]
   refine ⟨[([19],none,[i64 n.a])],?_⟩
   simp only [go_sem]
  by_cases k14:n.k=14
  ·rw [if_pos (.inr (.inr (.inr (.inr k14))))] at hR
   rw [decide_eq_true k14]
   simp only [go_sem]
   rw [← hR]
   refine ⟨[([19],none,[i64 n.a])],?_⟩
   simp only [go_sem]
  rw [decide_eq_false k14]
  rw [if_neg (by omega)] at hR
  simp only [go_sem]
  rw [← hR]
  refine ⟨[],?_⟩
  simp only [go_sem]
  exact .inr trivial
 ·rcases hr with hr | ⟨hr,he⟩
  ·exact ⟨_,_,hr,.refl _,rfl⟩
  ·exact ⟨_,_,hr,.nils none,by rw [he];rfl⟩
end Go.Proofs.YtejpnabbmgpmaaaGreat

namespace Go.Proofs.YtejpnabbmgpmaaaGreat
open Go.Ab
def pO (es:List EN) (x:List UInt8) (vs:List EN):List (Name × Ob):=[([101],.box [.d (.sl (some 9) (es.map enD))]),([102],.box [.d (.str x)]),([103],.box [.d (.sl (some 9) (vs.map enD))]),([104],.box [.clo 238 [.at [101] 0,.at [102] 0,.at [103] 0,.at [104] 0]])]
def wkT (x:List UInt8) (v:RT) (hid:Bool) (t:RT):RT:=if hid then t else dE x v t
theorem vb (x:List UInt8) (v:RT) (n:EN):∀ (ts:List RT) (k q:Nat),q<ts.length→(dx x v n k ts).getD q aC=wkT x v (aS n (k+q) x) (ts.getD q aC)
 | [],_,_,h=>absurd h (Nat.not_lt_zero _)
 | t::r,k,0,_=>by rw [dx];unfold wkT;simp
 | t::r,k,q+1,h=>by
   have:=vb x v n r (k+1) q (by simpa using h)
   rw [dx]
   rw [show k+(q+1)=k+1+q by omega]
   simpa using this
theorem w1 {n:EN} {j:Nat} (hp:aw n.k=true):(fdE (can n).l j).var=(fdE n.l j).var:=by
 have hl:(can n).l=aW (List.replicate (aG n) 0) (aH n.k) n.l 0:=by
  show (if aw n.k then aW (List.replicate (aG n) 0) (aH n.k) n.l 0 else [])=_
  rw [if_pos hp]
 have:=fW (·.var) (fun _ _=>rfl) (List.replicate (aG n) 0) (aH n.k) n.l 0
 rw [← hl] at this
 unfold fdE
 have h2:=congrArg (fun l=>l.getD j []) this
 simp only [List.getD_eq_getElem?_getD,List.getElem?_map] at h2 ⊢
 cases h3:(can n).l[j]?<;>cases h4:n.l[j]?<;>simp [h3,h4] at h2 ⊢<;>exact h2
theorem pQ (n:EN) (k:Nat) (x:List UInt8):aS (can n) k x=aS n k x:=by
 unfold aS
 rw [fx,tZ]
 by_cases h:n.k=14
 ·rw [w1 (by rw [h];rfl)]
 ·simp [h]
def vG (x:List UInt8) (v:RT) (hid:Bool) (n:EN) (ts:List RT):List RT:=if hid then ts else dx x v n 0 ts
theorem AK {x:List UInt8} {v:RT} {hid:Bool} {n:EN} {ts:List RT} {q:Nat} (h:q<ts.length):(vG x v hid n ts).getD q aC=wkT x v (hid || aS n q x) (ts.getD q aC):=by
 unfold vG
 cases hid
 ·rw [if_neg (by decide),vb x v n ts 0 q h,Nat.zero_add]
  rfl
 ·rw [if_pos rfl]
  rfl
theorem BG (x:List UInt8) (v:RT) (hid:Bool) (n:EN) (ts:List RT):(vG x v hid n ts).length=ts.length:=by
 unfold vG
 split
 ·rfl
 ·exact lx x v n 0 ts
theorem An {x:List UInt8} {v:RT} {hid:Bool} {n:EN} {ts:List RT} (h:¬ (n.k=4∧n.name=x∧hid=false)):wkT x v hid (.mk n ts)=.mk n (vG x v hid n ts):=by
 unfold wkT vG
 cases hid
 ·rw [if_neg (by decide),if_neg (by decide),dE,if_neg]
  rintro ⟨a,b⟩
  exact h ⟨a,b,rfl⟩
 ·rfl
theorem Iq {x:List UInt8} {v t:RT} {hid:Bool}:(wkT x v hid t).sz≤t.sz*v.sz:=by
 unfold wkT
 split
 ·have:=Nat.mul_le_mul_left t.sz (iT v);omega
 ·exact vS t
theorem ES {x:List UInt8} {v t:RT} {hid:Bool} (hv:v.good) (ht:t.good):(wkT x v hid t).good:=by
 unfold wkT
 split
 ·exact ht
 ·exact fN hv t ht
theorem Aw {G} {n:EN} {ts:List RT} (hn:n.l.length≤900000) (hw:aG n=ts.length) (hg:∀ t∈ts,t.good) (hS:szs ts≤1000000) (hL:ts.length≤1000000) :
  HP Tryz.prog G 86 [enD n,.sl (some 1) (ts.map fun t=>exD t.enc)] (fun r=>r=.d (exD (RT.mk (can n) ts).enc)):=by
 have:=oF (G:=G) n (RT.encs ts) (by omega) (by rw [iE];exact hL) (by rw [ll];exact hS) (fun l hl m hm=>by
  rw [bV] at hl
  obtain ⟨t,ht,rfl⟩:=List.mem_map.1 hl
  exact (rK t (hg t ht).ok).kids.2 m hm) (fun l hl m hm=>by
  rw [bV] at hl
  obtain ⟨t,ht,rfl⟩:=List.mem_map.1 hl
  have:=ju (cT t (hg t ht).rt m hm).1
  omega)
 rw [bV,List.map_map] at this
 rw [RT.enc,bV,kr (by rw [List.length_map,hw];exact Nat.le_refl _)]
 exact this
theorem AL {ts:List RT} {q:Nat} (h:q<ts.length):ts.take (q+1)=ts.take q++[ts.getD q aC]:=by
 rw [List.take_succ_eq_append_getElem h]
 simp [h]
set_option maxHeartbeats 1000000 in
theorem wY {G} {es:List EN} (ht:a8 es) (x:List UInt8) {v:RT} (hv:v.good) (hr:∀ n∈es,inR n.n) (hS:es.length*v.sz≤900000) :
  ∀ (m i:Nat) (hid:Bool),i<m→i<es.length→HCall Tryz.prog G 238 [.d (i64 (i:Int)),.d (.bool hid),.at [101] 0,.at [102] 0,.at [103] 0,.at [104] 0] (pO es x v.enc) [101,102,103,104] (fun r hp'=>r=.d (exD (wkT x v hid (trE es i)).enc)∧hp'=pO es x v.enc)
 | 0,_,_,h,_=>absurd h (Nat.not_lt_zero _)
 | m+1,i,hid,him,hi=>by
   have ih:=wY (G:=G) ht x hv hr hS m
   have hk:=av ht
   have hg:=aN hi
   have hsi:=oH ht _ (by rw [bd hi];exact List.getElem_mem hi:ndE es i∈es)
   have hkn:=ax hk hi
   have htr:=ui hk hi
   have hgd:=dL ht hr hi
   have hsz:(trE es i).sz≤es.length:=by
    show (trE es i).enc.length≤_
    rw [cH ht hi,gD]
    exact mO ht hi
   generalize hR:(wkT x v hid (trE es i)).enc=R
   obtain ⟨n,hne⟩:∃ n,n=ndE es i:=⟨_,rfl⟩
   rw [← hne] at hg hsi hkn htr
   obtain ⟨K,hK⟩:∃ K,K=ah n:=⟨_,rfl⟩
   have hKw:K.length=aG n:=by rw [hK,aV]
   have hKl:K.length≤900003:=by rw [hKw];unfold aG;have:=bJ n.k;split<;>omega
   have hkc:=dr (G:=G) n (by omega)
   rw [← hK] at hkc hkn htr
   obtain ⟨ts,hts⟩:∃ ts,ts=K.map fun k=>trE es k.toNat:=⟨_,rfl⟩
   rw [← hts] at htr
   have htl:ts.length=K.length:=by rw [hts,List.length_map]
   rw [htr] at hR hgd hsz
   have htg:=(bj.1 hgd).2
   unfold pO at ih ⊢
   by_cases hy:n.k=4∧n.name=x∧hid=false
   ·obtain ⟨k4,hnm,rfl⟩:=hy
    have hRv:R=v.enc:=by
     rw [← hR]
     unfold wkT
     rw [if_neg (by decide),dE,if_pos (show (can n).k=4∧(can n).name=x from ⟨k4,hnm⟩)]
    refine aq Tryz.func238 rfl (by decide +kernel) (by simp [Tryz.ntmps238]) (veil fun E=>?_)
    simp only [go_sem]
    refine ⟨⟨by omega,by omega⟩,?_⟩
    rw [hg]
    simp only [go_sem]
    rw [decide_eq_true k4]
    simp only [go_sem]
    rw [show (n.name == x)=true by simp [hnm]]
    simp only [go_sem]
    rw [hRv]
    refine ⟨_,_,[101,102,103,104],id,⟨rfl,rfl⟩,?_⟩
    unfold exD
    simp only [go_sem]
   rw [An (n:=can n) hy] at hR
   refine gB Tryz.func238 rfl (by decide +kernel) (by simp [Tryz.ntmps238]) fun B0 hB0=>?_
   refine aB (al fun E=>?_)
   simp only [go_sem]
   refine aB (al fun E=>?_)
   simp only [go_sem]
   refine ⟨⟨by omega,by omega⟩,?_⟩
   rw [hg]
   simp only [go_sem]
   refine aB (AJ [(0,.d (i64 i)),(1,.d (.bool hid)),(2,.at [101] 0),(3,.at [102] 0),(4,.at [103] 0),(5,.at [104] 0),(8,.at [8] 0),(9,.at [9] 0)]
    [([101],.box [.d (.sl (some 9) (es.map enD))]),([102],.box [.d (.str x)]),([103],.box [.d (.sl (some 9) (v.enc.map enD))]),([104],.box [.clo 238 [.at [101] 0,.at [102] 0,.at [103] 0,.at [104] 0]]),([8],.box [.d .nils]),([9],.box [.d (i64 n.k),.d (i64 n.a),.d (i64 n.b),.d (i64 n.c),.d (i64 n.n),.d (.str n.name),.d (.str n.s),.d (.sl (some 3) (n.l.map fD)),.d (i64 n.pos)])] [8,9,101,102,103,104] (fun E=>?_) ?_)
   ·simp only [go_sem]
    refine aO E (fun k4=>?_) (fun k4=>?_)<;>simp only [go_sem]
    ·refine cQ E (fun h1=>?_) (fun h1=>?_)<;>simp only [go_sem]
     ·cases hid with
      | false=>exact absurd ⟨k4,by simpa using h1,rfl⟩ hy
      | true =>
        simp only [go_sem]
        refine og id ?_
        simp only [go_sem]
        all_goals first | rfl | exact ⟨rfl,rfl⟩
     ·refine og id ?_
      simp only [go_sem]
      all_goals first | rfl | exact ⟨rfl,rfl⟩
    ·refine og id ?_
     simp only [go_sem]
     all_goals first | rfl | exact ⟨rfl,rfl⟩
   refine aB (al fun E=>?_)
   simp only [go_sem]
   refine aB (al fun E=>?_)
   simp only [go_sem]
   refine ab E [.d (enD n)] [] [] hkc rfl rfl ⟨by simp only [go_sem],by rw [aa];decide⟩ rfl (by simp only [go_sem]) (by simp only [go_sem]) ?_
   rintro _ _ ⟨rfl,rfl⟩
   simp only [go_sem]
   refine fF E [33,0] none (K.map i64) rfl ?_
   simp only [go_sem]
   refine lQ E 10 98 (some 1) rfl (by rw [aa];decide) ?_
   simp only [go_sem]
   obtain ⟨us,hus⟩:∃ us,us=vG x v hid (can n) ts:=⟨_,rfl⟩
   have hul:us.length=K.length:=by rw [hus,BG,htl]
   refine a9 E (X:={ q:Nat // q≤K.length }) (fun y=>[(0,.d (i64 i)),(1,.d (.bool hid)),(2,.at [101] 0),(3,.at [102] 0),(4,.at [103] 0),(5,.at [104] 0),(8,.at [8] 0),(9,.at [9] 0),(10,.vw [98] 0 y.1),(33,.d (.sl none (K.map i64))),(34,.d (i64 K.length)),(35,.d (i64 y.1))])
    (fun y=>[([101],.box [.d (.sl (some 9) (es.map enD))]),([102],.box [.d (.str x)]),([103],.box [.d (.sl (some 9) (v.enc.map enD))]),([104],.box [.clo 238 [.at [101] 0,.at [102] 0,.at [103] 0,.at [104] 0]]),([8],.box [.d .nils]),([9],.box [.d (i64 n.k),.d (i64 n.a),.d (i64 n.b),.d (i64 n.c),.d (i64 n.n),.d (.str n.name),.d (.str n.s),.d (.sl (some 3) (n.l.map fD)),.d (i64 n.pos)]),([98],.arr (some 1) ((us.take y.1).map fun t=>exD t.enc))]) [8,9,98,101,102,103,104] (fun y=>K.length-y.1) ⟨0,Nat.zero_le _⟩ id ?_ ?_
   ·simp only [go_sem]
    all_goals first | rfl | exact ⟨rfl,rfl⟩
   rintro ⟨q,hq⟩ E0
   refine bb E0 fun Q' hQ E'=>?_
   simp only at hq ⊢
   simp only [go_sem]
   refine ai E' (fun f1=>?_) (fun f1=>?_)<;>simp only [go_sem]
   ·have hq':q<K.length:=by omega
    refine ⟨⟨by omega,by omega⟩,?_⟩
    have hkm:=List.getElem_mem hq'
    have hkq:=hkn K[q] hkm
    obtain ⟨k,hkk⟩:∃ k:Nat,K[q]=(k:Int):=⟨K[q].toNat,by omega⟩
    rw [bk hq',show K.getD q 0=(k:Int) by simp [hq',hkk]]
    simp only [go_sem]
    have htq:ts.getD q aC=trE es k:=by
     rw [hts]
     simp [hq',hkk]
    have hug:us.getD q aC=wkT x v (hid || aS n q x) (trE es k):=by rw [hus,AK (by omega),pQ,htq]
    have hst:us.take (q+1)=us.take q++[us.getD q aC]:=AL (by omega)
    rw [hug] at hst
    have c1:=Gq (G:=G) n q x hsi (fun h=>by rw [hKw] at hq';unfold aG at hq';rw [h] at hq';simpa [aH,aw,Nat.add_comm] using hq') (by omega)
    have c2:=ih k (hid || aS n q x) (by omega) (by omega)
    unfold enD efD at c1
    unfold exD at c2
    refine aj mixed E' fun X=>?_
    simp only [go_sem]
    cases hid with
    | true =>
      simp only [Bool.true_or] at c2 hst
      simp only [go_sem]
      refine aM X _ _ _ _ _ c2 rfl rfl ⟨by simp only [go_sem],by first | (rw [aa];decide) | (simp only [go_sem]<;>(try rw [aa])<;>decide)⟩ (by simp only [go_sem]) (by simp only [go_sem]) (by simp only [go_sem]) (by simp only [go_sem];try omega) ?_
      simp only [go_sem]
      refine ⟨by omega,by decide +kernel,?_⟩
      rw [show List.take q (List.map (fun t:RT=>exD t.enc) (us.take q))++[.agg [.sl (some 9) ((wkT x v true (trE es k)).enc.map enD)]]=(us.take (q+1)).map (fun t:RT=>exD t.enc) by
       rw [List.take_of_length_le (by rw [List.length_map,List.length_take];omega),hst,List.map_append];rfl]
      rw [ak ⟨by omega,by omega⟩,hQ]
      simp only [go_sem]
      refine ⟨⟨q+1,by omega⟩,by show K.length-(q+1)<_;omega,tau [([98],[52])],?_⟩
      simp only [go_sem]
      all_goals first | rfl | exact ⟨rfl,rfl⟩
    | false =>
      simp only [Bool.false_or] at c2 hst
      simp only [go_sem]
      refine cP X c1 rfl rfl (by simp) ?_
      simp only [go_sem]
      refine aM X _ _ _ _ _ c2 rfl rfl ⟨by simp only [go_sem],by first | (rw [aa];decide) | (simp only [go_sem]<;>(try rw [aa])<;>decide)⟩ (by simp only [go_sem]) (by simp only [go_sem]) (by simp only [go_sem]) (by simp only [go_sem];try omega) ?_
      simp only [go_sem]
      refine ⟨by omega,by decide +kernel,?_⟩
      rw [show List.take q (List.map (fun t:RT=>exD t.enc) (us.take q))++[.agg [.sl (some 9) ((wkT x v (aS n q x) (trE es k)).enc.map enD)]]=(us.take (q+1)).map (fun t:RT=>exD t.enc) by
       rw [List.take_of_length_le (by rw [List.length_map,List.length_take];omega),hst,List.map_append];rfl]
      rw [ak ⟨by omega,by omega⟩,hQ]
      simp only [go_sem]
      refine ⟨⟨q+1,by omega⟩,by show K.length-(q+1)<_;omega,tau [([98],[52])],?_⟩
      simp only [go_sem]
      all_goals first | rfl | exact ⟨rfl,rfl⟩
   ·have h3:q=K.length:=by omega
    subst h3
    have hutk:us.take K.length=us:=List.take_of_length_le (by omega)
    have hug:(RT.mk (can n) us).good:=by
     have:=ES (x:=x) (hid:=hid) hv hgd
     rw [An (n:=can n) hy,← hus] at this
     exact this
    have husz:szs us≤900000:=by
     have:=Iq (x:=x) (v:=v) (t:=.mk (can n) ts) (hid:=hid)
     rw [An (n:=can n) hy,← hus,im] at this
     have h5:=Nat.mul_le_mul_right v.sz hsz
     omega
    have c3:=Aw (G:=G) (n:=n) (ts:=us) hsi (by rw [hul,hKw]) (bj.1 hug).2 (by omega) (by omega)
    rw [← hus] at hR
    rw [hR] at c3
    unfold enD efD at c3
    rw [hutk,hQ]
    simp only [go_sem]
    refine al fun E=>?_
    simp only [go_sem]
    refine iZ E [98] (some 1) (us.map fun t=>exD t.enc) rfl (by simp only [go_sem];rfl) ?_
    simp only [go_sem]
    rw [List.take_of_length_le (by rw [List.length_map];omega)]
    refine ae E c3 rfl rfl (by simp) ?_
    rintro _ rfl
    unfold exD
    simp only [go_sem]
    refine A8 (.inl rfl) hB0 ?_
    simp only [go_sem]
    refine ⟨_,_,[101,102,103,104],id,⟨rfl,rfl⟩,?_⟩
    simp only [go_sem]
    rfl
theorem FH {G} {es:List EN} (ht:a8 es) (x:List UInt8) {v:RT} (hv:v.good) (hr:∀ n∈es,inR n.n) (hS:es.length*v.sz≤900000) (ns:List EN) (h:Int) :
  HCall Tryz.prog G 183 [.at [100] 0,.d (exD es),.d (.str x),.d (exD v.enc)] (spO ns h) [100] (fun r hp'=>r=.d (exD (dE x v (trE es (es.length-1))).enc)∧hp'=spO ns h):=by
 have hp:=ht.pos
 have hf:=ht.few
 have c:=wY (G:=G) ht x hv hr hS es.length (es.length-1) false (by omega) (by omega)
 rw [show (wkT x v false (trE es (es.length-1)))=dE x v (trE es (es.length-1)) from rfl] at c
 rw [show ((es.length-1:Nat):Int)=(es.length:Int)-1 by omega] at c
 generalize (dE x v (trE es (es.length-1))).enc=R at c ⊢
 unfold pO at c
 unfold exD spO at *
 refine aq Tryz.func183 rfl (by decide +kernel) (by simp [Tryz.ntmps183]) (veil fun E=>?_)
 simp only [go_sem]
 rw [ak ⟨by omega,by omega⟩]
 refine cL E (tau [([101],[5]),([102],[6]),([103],[7]),([104],[9])]) _ _ _ c rfl (by simp only [go_sem];try rfl) ⟨by simp only [go_sem],by first | (rw [aa];decide) | (simp only [go_sem]<;>(try rw [aa])<;>decide)⟩ rfl (by simp only [go_sem];try rfl) (by simp only [go_sem]) ?_
 rintro _ _ ⟨rfl,rfl⟩
 refine ⟨by simp only [go_sem];try simp;try omega,?_⟩
 simp only [go_sem]
 refine ⟨_,_,[100],id,⟨rfl,rfl⟩,?_⟩
 simp only [go_sem]
end Go.Proofs.YtejpnabbmgpmaaaGreat

namespace Go.Proofs.YtejpnabbmgpmaaaGreat
open Go.Ab
def jz (q:Int × RT):D:=if q.1=5 then exD q.2.enc else .agg [.nils]
theorem cN (t:RT):jz (5,t)=exD t.enc:=if_pos rfl
theorem b5 {h:Int} {t:RT} (hh:h≠5):jz (h,t)=.agg [.nils]:=if_neg hh
structure Run (xs:List EN):Prop where
 may:bB xs=0
 rng:∀ n∈xs,inR n.n
theorem Run.t {xs:List EN} (h:Run xs):a8 xs:=Cw h.may
theorem I7 {xs:List EN} (h:Run xs) {i:Nat} (hi:i<xs.length):∀ n∈sbE xs i,GL n:=fun n hn=>by
 rw [← cH h.t hi] at hn
 exact cT _ (dL h.t h.rng hi).rt n hn
theorem nU {xs:List EN} (h:Run xs) {i:Nat} (hi:i<xs.length):Run (sbE xs i):=⟨As h.t hi,fun n hn=>(I7 h hi n hn).2⟩
theorem mg {xs:List EN} (h:Run xs) {i:Nat} (hi:i<xs.length):(trE xs i).sz≤600:=by
 show (trE xs i).enc.length≤_
 rw [cH h.t hi,gD]
 exact Nat.le_trans (mO h.t hi) h.t.few
theorem rh {G} {xs:List EN} (h:Run xs) {j:Nat} (hj:j<xs.length) (x:List UInt8) {v:RT} (hv:v.good) (hs:v.sz≤1500) (s:Int) :
  HCall Tryz.prog G 183 [.at [100] 0,.d (exD (sbE xs j)),.d (.str x),.d (exD v.enc)] (spO xs s) [100] (fun r hp'=>r=.d (exD (dE x v (trE xs j)).enc)∧hp'=spO xs s):=by
 have hS:=mg h hj
 have e:(sbE xs j).length=(trE xs j).sz:=by rw [← cH h.t hj];rfl
 have:=FH (G:=G) (nU h hj).t x hv (nU h hj).rng (by rw [e];exact Nat.le_trans (Nat.mul_le_mul hS hs) (by decide)) xs s
 rwa [qX h.t hj] at this
theorem dk (n:EN):enD n=.agg [i64 n.k,i64 n.a,i64 n.b,i64 n.c,i64 n.n,.str n.name,.str n.s,.sl (some 3) (n.l.map fD),i64 n.pos]:=rfl
theorem bh {xs:List EN} (ht:a8 xs) {i:Nat} (hi:i<xs.length) {k:Int} (hk:k∈ah (ndE xs i)):∃ a:Nat,k=(a:Int)∧a<i:=by
 obtain ⟨h1,h2⟩:=ax (av ht) hi k hk
 exact ⟨k.toNat,by omega,by omega⟩
def ktE (xs:List EN) (i:Nat):List RT:=(ah (ndE xs i)).map fun k=>trE xs k.toNat
theorem Gz {xs:List EN} (ht:a8 xs) {i:Nat} (hi:i<xs.length):trE xs i=.mk (can (ndE xs i)) (ktE xs i):=ui (av ht) hi
theorem rT {xs:List EN} (ht:a8 xs) {i:Nat} (hi:i<xs.length) (j:Nat):(trE xs i).kid j=(ktE xs i).getD j aC:=by unfold RT.kid;rw [Gz ht hi];rfl
theorem kf {n:EN} (h:n.k=5∨n.k=12∨n.k=13):ah n=[n.a]:=by rcases h with h | h | h<;>simp [ah,h,aH,aw]
theorem ql {n:EN} (h:n.k=6∨n.k=7∨n.k=8∨n.k=10):ah n=[n.a,n.b]:=by rcases h with h | h | h | h<;>simp [ah,h,aH,aw]
theorem GF {n:EN} (h:n.k=9):ah n=[n.a,n.b,n.c]:=by simp [ah,h,aH,aw]
set_option maxHeartbeats 1000000 in
theorem Gn {G} {xs:List EN} (h:Run xs) {i:Nat} (hi:i<xs.length) (k6:(ndE xs i).k=6) :
  HCall Tryz.prog G 182 [.at [100] 0,.d (enD (ndE xs i))] (spO xs 5) [100] (fun r hp'=>r=.d (jz (az (can (ndE xs i)) (ktE xs i)))∧hp'=spO xs (az (can (ndE xs i)) (ktE xs i)).1):=by
 have ht:=h.t
 have hke:=ql (.inl k6)
 obtain ⟨a,ha,hai⟩:=bh ht hi (k:=(ndE xs i).a) (by rw [hke];simp)
 obtain ⟨b,hb,hbi⟩:=bh ht hi (k:=(ndE xs i).b) (by rw [hke];simp)
 have hga:=aN (show a<xs.length by omega)
 have e0:(ktE xs i).getD 0 aC=trE xs a:=by unfold ktE;rw [hke,ha];rfl
 have e1:(ktE xs i).getD 1 aC=trE xs b:=by unfold ktE;rw [hke,hb];rfl
 have hR:az (can (ndE xs i)) (ktE xs i)=if (ndE xs a).k=5 then (5,dE (ndE xs a).name (trE xs b) ((trE xs a).kid 0)) else (4,aC):=by
  unfold az
  rw [fx,if_pos k6]
  simp only [e0,e1]
  rw [jY (by omega)]
  rfl
 rw [hR]
 clear hR e0 e1
 generalize ndE xs i=n at *
 obtain ⟨f,hf⟩:∃ f,f=ndE xs a:=⟨_,rfl⟩
 by_cases k5:f.k=5
 ·obtain ⟨c,hc,hca⟩:=bh ht (show a<xs.length by omega) (k:=f.a) (by rw [hf,kf (.inl (by rw [← hf];exact k5))];simp)
  have ek:(trE xs a).kid 0=trE xs c:=by
   rw [rT ht (by omega)]
   unfold ktE
   rw [← hf,kf (.inl k5),hc]
   rfl
  rw [← hf] at hga ⊢
  rw [if_pos k5,ek,cN]
  have c1:=b7 (G:=G) ht h.may 5 (show c<xs.length by omega)
  have c2:=b7 (G:=G) ht h.may 5 (show b<xs.length by omega)
  have hb2:=mg h (show b<xs.length by omega)
  have c3:=rh (G:=G) h (show c<xs.length by omega) f.name (dL ht h.rng (show b<xs.length by omega)) (by omega) 5
  rw [cH ht (by omega)] at c3
  rw [← hc] at c1
  rw [← hb] at c2
  generalize (dE f.name (trE xs b) (trE xs c)).enc=R at c3 ⊢
  generalize sbE xs c=Y at c1 c3
  generalize sbE xs b=Z at c2 c3
  unfold exD spO at *
  rw [dk n]
  refine aq Tryz.func182 rfl (by decide +kernel) (by simp [Tryz.ntmps182]) (veil fun E=>?_)
  simp only [go_sem]
  refine aj mixed E fun X=>?_
  simp only [go_sem]
  refine bS X (d:=7) [100] 0 none [.d (.sl (some 9) (xs.map enD)),.d (i64 5)] (by simp only [go_sem]) rfl rfl ?_
  simp only [go_sem]
  refine ⟨⟨by omega,by omega⟩,?_⟩
  rw [ha]
  first | rw [hga] | rw [Int.toNat_natCast,hga]
  simp only [go_sem]
  refine ⟨by decide +kernel,?_⟩
  rw [decide_eq_false (show ¬ ¬ f.k=5 by simp [k5])]
  simp only [go_sem]
  refine aj mixed E fun X=>?_
  simp only [go_sem]
  refine aM X _ _ _ _ _ c1 rfl rfl ⟨by simp only [go_sem],by first | (rw [aa];decide) | (simp only [go_sem]<;>(try rw [aa])<;>decide)⟩ (by simp only [go_sem]) (by simp only [go_sem]) (by simp only [go_sem]) (by simp only [go_sem];try omega) ?_
  simp only [go_sem]
  refine aM X _ _ _ _ _ c2 rfl rfl ⟨by simp only [go_sem],by first | (rw [aa];decide) | (simp only [go_sem]<;>(try rw [aa])<;>decide)⟩ (by simp only [go_sem]) (by simp only [go_sem]) (by simp only [go_sem]) (by simp only [go_sem];try omega) ?_
  simp only [go_sem]
  refine aM X _ _ _ _ _ c3 rfl rfl ⟨by simp only [go_sem],by first | (rw [aa];decide) | (simp only [go_sem]<;>(try rw [aa])<;>decide)⟩ (by simp only [go_sem]) (by simp only [go_sem]) (by simp only [go_sem]) (by simp only [go_sem];try omega) ?_
  simp only [go_sem]
  refine ⟨by decide +kernel,?_⟩
  refine ⟨_,_,[100],id,⟨rfl,rfl⟩,?_⟩
  simp only [go_sem]
 ·rw [← hf] at hga ⊢
  rw [if_neg k5,b5 (by decide)]
  have c1:=gW (G:=G) xs 5 4
  unfold spO at *
  rw [dk n]
  refine aq Tryz.func182 rfl (by decide +kernel) (by simp [Tryz.ntmps182]) (veil fun E=>?_)
  simp only [go_sem]
  refine aj mixed E fun X=>?_
  simp only [go_sem]
  refine bS X (d:=7) [100] 0 none [.d (.sl (some 9) (xs.map enD)),.d (i64 5)] (by simp only [go_sem]) rfl rfl ?_
  simp only [go_sem]
  refine ⟨⟨by omega,by omega⟩,?_⟩
  rw [ha]
  first | rw [hga] | rw [Int.toNat_natCast,hga]
  simp only [go_sem]
  refine ⟨by decide +kernel,?_⟩
  rw [decide_eq_true k5]
  simp only [go_sem]
  refine ab E _ _ _ c1 rfl rfl ⟨by simp only [go_sem],by first | (rw [aa];decide) | (simp only [go_sem]<;>(try rw [aa])<;>decide)⟩ (by simp only [go_sem]) (by simp only [go_sem]) (by simp only [go_sem]) ?_
  rintro _ _ ⟨rfl,rfl⟩
  refine ⟨by simp only [go_sem];try omega,?_⟩
  simp only [go_sem]
  refine ⟨_,_,[100],id,⟨rfl,rfl⟩,?_⟩
  simp only [go_sem]
theorem ED {G} {xs:List EN} (h:Run xs) {i:Nat} (hi:i<xs.length) (k9:(ndE xs i).k=9) :
  HCall Tryz.prog G 185 [.at [100] 0,.d (enD (ndE xs i))] (spO xs 5) [100] (fun r hp'=>r=.d (jz (az (can (ndE xs i)) (ktE xs i)))∧hp'=spO xs (az (can (ndE xs i)) (ktE xs i)).1):=by
 have ht:=h.t
 have hke:=GF k9
 obtain ⟨a,ha,hai⟩:=bh ht hi (k:=(ndE xs i).a) (by rw [hke];simp)
 obtain ⟨b,hb,hbi⟩:=bh ht hi (k:=(ndE xs i).b) (by rw [hke];simp)
 obtain ⟨c,hc,hci⟩:=bh ht hi (k:=(ndE xs i).c) (by rw [hke];simp)
 have hga:=aN (show a<xs.length by omega)
 have e0:(ktE xs i).getD 0 aC=trE xs a:=by unfold ktE;rw [hke,ha];rfl
 have e1:(ktE xs i).getD 1 aC=trE xs b:=by unfold ktE;rw [hke,hb];rfl
 have e2:(ktE xs i).getD 2 aC=trE xs c:=by unfold ktE;rw [hke,hc];rfl
 have hR:az (can (ndE xs i)) (ktE xs i)=if (ndE xs a).k=2 then (5,if (ndE xs a).n=1 then trE xs b else trE xs c) else (4,aC):=by
  unfold az
  rw [fx,if_neg (by omega),if_neg (by omega),if_neg (by omega),if_pos k9]
  simp only [e0,e1,e2]
  rw [jY (by omega)]
  rfl
 obtain ⟨R,hRd⟩:∃ R,R=jz (az (can (ndE xs i)) (ktE xs i)):=⟨_,rfl⟩
 obtain ⟨w,hw⟩:∃ w,w=(az (can (ndE xs i)) (ktE xs i)).1:=⟨_,rfl⟩
 rw [← hRd,← hw]
 rw [hR] at hRd hw
 clear hR e0 e1 e2
 have c1:=b7 (G:=G) ht h.may 5 (show b<xs.length by omega)
 have c2:=b7 (G:=G) ht h.may 5 (show c<xs.length by omega)
 have c3:=gW (G:=G) xs 5 4
 rw [← hb,← cH ht (by omega)] at c1
 rw [← hc,← cH ht (by omega)] at c2
 generalize ndE xs i=n at *
 obtain ⟨f,hf⟩:∃ f,f=ndE xs a:=⟨_,rfl⟩
 rw [← hf] at hga hRd hw
 generalize trE xs b=Y at *
 generalize trE xs c=Z at *
 unfold spO at *
 rw [dk n]
 refine aq Tryz.func185 rfl (by decide +kernel) (by simp [Tryz.ntmps185]) (veil fun E=>?_)
 simp only [go_sem]
 refine aj mixed E fun X=>?_
 simp only [go_sem]
 refine bS X (d:=7) [100] 0 none [.d (.sl (some 9) (xs.map enD)),.d (i64 5)] (by simp only [go_sem]) rfl rfl ?_
 simp only [go_sem]
 refine ⟨⟨by omega,by omega⟩,?_⟩
 rw [ha]
 first | rw [hga] | rw [Int.toNat_natCast,hga]
 simp only [go_sem]
 refine ⟨by decide +kernel,?_⟩
 refine ai E (fun k2=>?_) (fun k2=>?_)<;>simp only [go_sem]
 ·rw [if_neg k2] at hRd hw
  rw [b5 (by decide)] at hRd
  obtain rfl:w=4:=hw
  subst hRd
  refine ab E _ _ _ c3 rfl rfl ⟨by simp only [go_sem],by first | (rw [aa];decide) | (simp only [go_sem]<;>(try rw [aa])<;>decide)⟩ (by simp only [go_sem]) (by simp only [go_sem]) (by simp only [go_sem]) ?_
  rintro _ _ ⟨rfl,rfl⟩
  refine ⟨by simp only [go_sem];try omega,?_⟩
  simp only [go_sem]
  refine ⟨_,_,[100],id,⟨rfl,rfl⟩,?_⟩
  simp only [go_sem]
 have k2:f.k=2:=by simpa using k2
 rw [if_pos k2] at hRd hw
 rw [cN] at hRd
 obtain rfl:w=5:=hw
 refine ai E (fun k1=>?_) (fun k1=>?_)<;>simp only [go_sem]
 ·rw [if_pos k1] at hRd
  subst hRd
  unfold exD at *
  refine ab E _ _ _ c1 rfl rfl ⟨by simp only [go_sem],by first | (rw [aa];decide) | (simp only [go_sem]<;>(try rw [aa])<;>decide)⟩ (by simp only [go_sem]) (by simp only [go_sem]) (by simp only [go_sem]) ?_
  rintro _ _ ⟨rfl,rfl⟩
  refine ⟨by simp only [go_sem];try omega,?_⟩
  simp only [go_sem]
  refine ⟨_,_,[100],id,⟨rfl,rfl⟩,?_⟩
  simp only [go_sem]
 ·rw [if_neg k1] at hRd
  subst hRd
  unfold exD at *
  refine ab E _ _ _ c2 rfl rfl ⟨by simp only [go_sem],by first | (rw [aa];decide) | (simp only [go_sem]<;>(try rw [aa])<;>decide)⟩ (by simp only [go_sem]) (by simp only [go_sem]) (by simp only [go_sem]) ?_
  rintro _ _ ⟨rfl,rfl⟩
  refine ⟨by simp only [go_sem];try omega,?_⟩
  simp only [go_sem]
  refine ⟨_,_,[100],id,⟨rfl,rfl⟩,?_⟩
  simp only [go_sem]
end Go.Proofs.YtejpnabbmgpmaaaGreat

namespace Go.Proofs.YtejpnabbmgpmaaaGreat
open Go.Ab
def BF (l:List EF) (p:EF→Bool):Int:=if l.findIdx p<l.length then (l.findIdx p:Int) else -1
theorem C8 {l:List EF} {p:EF→Bool} {i:Nat} (hi:i<l.length) (ha:(l.take i).any p=false) (hp:p l[i]=true):l.findIdx p=i:=by
 refine (List.findIdx_eq hi).2 ⟨hp,fun j hji=>?_⟩
 have:=List.any_eq_false.1 ha l[j] (List.mem_take_iff_getElem.2 ⟨j,by omega,rfl⟩)
 simpa using this
theorem D5 {l:List EF} {p:EF→Bool} (ha:l.any p=false):¬ l.findIdx p<l.length:=fun h=>by
 have:=List.findIdx_getElem (w:=h)
 have:=List.any_eq_false.1 ha _ (List.getElem_mem h)
 simp_all
theorem yC {G} (l:List EF) (p:EF→Bool) (f:Nat) (caps:List D) (hl:l.length≤1000000) (hc:∀ x∈l,HP Tryz.prog G f (fD x::caps) (fun r=>r=.d (.bool (p x)))) :
  HP Tryz.prog G 237 [.sl (some 3) (l.map fD),.clo f caps] (fun r=>r=.d (i64 (BF l p))):=by
 have hget:∀ {i:Nat} (h:i<l.length),(l.map fD).getD i .nilp=.agg [.str l[i].nm,.str l[i].var,i64 l[i].to]:=fun h=>CL h
 refine ao Tryz.func237 rfl (by decide +kernel) (by simp [Tryz.ntmps237]) (veil fun E=>?_)
 simp only [go_sem]
 refine eG E (X:={ i:Nat // i≤l.length∧(l.take i).any p=false }) (fun x=>[(0,.d (.sl (some 3) (l.map fD))),(1,.d (.clo f caps)),(6,.d (.sl (some 3) (l.map fD))),(7,.d (i64 l.length)),(8,.d (i64 x.1))]) (fun x=>l.length-x.1) rfl ⟨0,Nat.zero_le _,by simp⟩ ?_ ?_
 ·simp only [go_sem]
  all_goals rfl
 rintro ⟨i,hi,hab⟩ E'
 simp only [go_sem]
 refine ai E' (fun h1=>?_) (fun h1=>?_)<;>simp only [go_sem]
 ·have h1':i<l.length:=by omega
  refine ⟨⟨by omega,by omega⟩,?_⟩
  rw [hget h1']
  simp only [go_sem]
  refine jk E' (hc l[i] (List.getElem_mem h1')) rfl rfl (by simp) ?_
  rintro _ rfl
  simp only [go_sem]
  refine aZ E' (fun h2=>?_) (fun h2=>?_)<;>simp only [go_sem]
  ·unfold BF
   rw [C8 h1' hab h2,if_pos h1']
  ·refine ⟨⟨i+1,by omega,jx h1' hab h2⟩,by show l.length-(i+1)<_;omega,?_⟩
   rw [ak ⟨by omega,by omega⟩];rfl
 ·have h3:i=l.length:=by omega
  subst h3
  rw [List.take_length] at hab
  unfold BF
  rw [if_neg (D5 hab)]
theorem F3 {G} (f:EF) (n:EN):HP Tryz.prog G 242 [fD f,.ptr (enD n)] (fun r=>r=.d (.bool (f.nm == n.name))):=by
 rw [dk n]
 unfold fD
 refine ao Tryz.func242 rfl (by decide +kernel) (by simp [Tryz.ntmps242]) (veil fun E=>?_)
 simp only [go_sem]
theorem F9 {G} (f:EF) (n:EN):HP Tryz.prog G 243 [fD f,.ptr (enD n)] (fun r=>r=.d (.bool (f.nm == n.name))):=by
 rw [dk n]
 unfold fD
 refine ao Tryz.func243 rfl (by decide +kernel) (by simp [Tryz.ntmps243]) (veil fun E=>?_)
 simp only [go_sem]
theorem I9 {n:EN} (hp:aw n.k=true):(can n).l.map (·.nm)=n.l.map (·.nm):=by
 have hl:(can n).l=aW (List.replicate (aG n) 0) (aH n.k) n.l 0:=by
  show (if aw n.k then aW (List.replicate (aG n) 0) (aH n.k) n.l 0 else [])=_
  rw [if_pos hp]
 rw [hl,fW (·.nm) (fun _ _=>rfl)]
theorem sg {n:EN} (hp:aw n.k=true) (x:List UInt8):eH (can n).l x=eH n.l x∧(can n).l.length=n.l.length:=by
 have h:=I9 hp
 have hl:=congrArg List.length h
 rw [List.length_map,List.length_map] at hl
 have key:∀ l:List EF,eH l x=(l.map (·.nm)).findIdx (· == x):=fun l=>by
  unfold eH
  rw [List.findIdx_map]
  rfl
 exact ⟨by rw [key,key,h],hl⟩
theorem GN {n:EN} (h:n.k=11):ah n=n.l.map (·.to):=by simp [ah,h,aH,aw]
end Go.Proofs.YtejpnabbmgpmaaaGreat

namespace Go.Proofs.YtejpnabbmgpmaaaGreat
open Go.Ab
set_option maxHeartbeats 1000000 in
theorem Ec {G} {xs:List EN} (h:Run xs) {i:Nat} (hi:i<xs.length) (k12:(ndE xs i).k=12) :
  HCall Tryz.prog G 187 [.at [100] 0,.d (enD (ndE xs i))] (spO xs 5) [100] (fun r hp'=>r=.d (jz (az (can (ndE xs i)) (ktE xs i)))∧hp'=spO xs (az (can (ndE xs i)) (ktE xs i)).1):=by
 have ht:=h.t
 have hke:=kf (.inr (.inl k12))
 obtain ⟨a,ha,hai⟩:=bh ht hi (k:=(ndE xs i).a) (by rw [hke];simp)
 have hga:=aN (show a<xs.length by omega)
 have hla:=oH ht _ (by rw [bd (show a<xs.length by omega)];exact List.getElem_mem _:ndE xs a∈xs)
 have e0:(ktE xs i).getD 0 aC=trE xs a:=by unfold ktE;rw [hke,ha];rfl
 have hR:az (can (ndE xs i)) (ktE xs i)=if (ndE xs a).k=11∧eH (can (ndE xs a)).l (ndE xs i).name<(can (ndE xs a)).l.length then (5,(trE xs a).kid (eH (can (ndE xs a)).l (ndE xs i).name)) else (4,aC):=by
  unfold az
  rw [fx,if_neg (by omega),if_neg (by omega),if_neg (by omega),if_neg (by omega),if_neg (by omega),if_pos k12]
  simp only [e0]
  rw [jY (by omega)]
  rfl
 obtain ⟨R,hRd⟩:∃ R,R=jz (az (can (ndE xs i)) (ktE xs i)):=⟨_,rfl⟩
 obtain ⟨w,hw⟩:∃ w,w=(az (can (ndE xs i)) (ktE xs i)).1:=⟨_,rfl⟩
 rw [← hRd,← hw]
 rw [hR] at hRd hw
 clear hR e0
 generalize ndE xs i=n at *
 have c3:=gW (G:=G) xs 5 4
 obtain ⟨f,hf⟩:∃ f,f=ndE xs a:=⟨_,rfl⟩
 rw [← hf] at hga hRd hw hla
 have c0:=yC (G:=G) f.l (fun b=>b.nm == n.name) 242 [.ptr (enD n)] (by omega) (fun b _=>F3 b n)
 obtain ⟨z,hz⟩:∃ z,z=BF f.l (fun b=>b.nm == n.name):=⟨_,rfl⟩
 rw [← hz] at c0
 by_cases hk:f.k=11∧eH f.l n.name<f.l.length
 ·obtain ⟨k11,hj⟩:=hk
  obtain ⟨j1,j2⟩:=sg (n:=f) (by rw [k11];rfl) n.name
  rw [j1,j2,if_pos ⟨k11,hj⟩] at hRd hw
  rw [cN] at hRd
  obtain rfl:w=5:=hw
  have hzj:z=(eH f.l n.name:Int):=by rw [hz];exact if_pos hj
  generalize eH f.l n.name=j at hRd hzj hj
  obtain ⟨q,hq,hqa⟩:=bh ht (show a<xs.length by omega) (k:=(fdE f.l j).to) (by rw [← hf,GN k11];refine List.mem_map.2 ⟨fdE f.l j,?_,rfl⟩;simp [fdE,hj])
  have ek:(trE xs a).kid j=trE xs q:=by
   rw [rT ht (by omega)]
   unfold ktE
   rw [← hf,GN k11]
   simp [hj]
   rw [show f.l[j].to=(fdE f.l j).to by simp [fdE,hj],hq]
   rfl
  have c1:=b7 (G:=G) ht h.may 5 (show q<xs.length by omega)
  rw [← hq,← cH ht (by omega)] at c1
  rw [ek] at hRd
  generalize trE xs q=Y at *
  subst hRd
  unfold exD spO at *
  rw [dk n] at c0 ⊢
  refine aq Tryz.func187 rfl (by decide +kernel) (by simp [Tryz.ntmps187]) (veil fun E=>?_)
  simp only [go_sem]
  refine aj mixed E fun X=>?_
  simp only [go_sem]
  refine bS X (d:=8) [100] 0 none [.d (.sl (some 9) (xs.map enD)),.d (i64 5)] (by simp only [go_sem]) rfl rfl ?_
  simp only [go_sem]
  refine ⟨⟨by omega,by omega⟩,?_⟩
  rw [ha] at c0 ⊢
  first | rw [hga] | rw [Int.toNat_natCast,hga]
  simp only [go_sem]
  refine ⟨by decide +kernel,?_⟩
  refine qG E [3] (.agg [i64 n.k,i64 (a:Int),i64 n.b,i64 n.c,i64 n.n,.str n.name,.str n.s,.sl (some 3) (n.l.map fD),i64 n.pos]) rfl rfl ?_
  simp only [go_sem]
  refine ae E (c0) rfl rfl (by simp) ?_
  rintro _ rfl
  simp only [go_sem]
  rw [decide_eq_false (show ¬ ¬ f.k=11 by simp [k11])]
  simp only [go_sem]
  rw [decide_eq_false (show ¬ z<0 by omega)]
  simp only [go_sem]
  refine ⟨⟨by omega,by omega⟩,?_⟩
  rw [show z.toNat=j by omega,gu hj]
  simp only [go_sem]
  refine ab E _ _ _ c1 rfl rfl ⟨by simp only [go_sem],by first | (rw [aa];decide) | (simp only [go_sem]<;>(try rw [aa])<;>decide)⟩ (by simp only [go_sem]) (by simp only [go_sem]) (by simp only [go_sem]) ?_
  rintro _ _ ⟨rfl,rfl⟩
  refine ⟨by simp only [go_sem];try omega,?_⟩
  simp only [go_sem]
  refine ⟨_,_,[100],id,⟨rfl,rfl⟩,?_⟩
  simp only [go_sem]
 ·rw [if_neg (by
   rintro ⟨k11,hj⟩
   obtain ⟨j1,j2⟩:=sg (n:=f) (by rw [k11];rfl) n.name
   rw [j1,j2] at hj
   exact hk ⟨k11,hj⟩)] at hRd hw
  unfold spO at *
  rw [dk n] at c0 ⊢
  refine aq Tryz.func187 rfl (by decide +kernel) (by simp [Tryz.ntmps187]) (veil fun E=>?_)
  simp only [go_sem]
  refine aj mixed E fun X=>?_
  simp only [go_sem]
  refine bS X (d:=8) [100] 0 none [.d (.sl (some 9) (xs.map enD)),.d (i64 5)] (by simp only [go_sem]) rfl rfl ?_
  simp only [go_sem]
  refine ⟨⟨by omega,by omega⟩,?_⟩
  rw [ha] at c0 ⊢
  first | rw [hga] | rw [Int.toNat_natCast,hga]
  simp only [go_sem]
  refine ⟨by decide +kernel,?_⟩
  refine qG E [3] (.agg [i64 n.k,i64 (a:Int),i64 n.b,i64 n.c,i64 n.n,.str n.name,.str n.s,.sl (some 3) (n.l.map fD),i64 n.pos]) rfl rfl ?_
  simp only [go_sem]
  refine ae E (c0) rfl rfl (by simp) ?_
  rintro _ rfl
  simp only [go_sem]
  refine aO E (fun h1=>?_) (fun h1=>?_)<;>simp only [go_sem]
  ·rw [b5 (by decide)] at hRd
   obtain rfl:w=4:=hw
   subst hRd
   refine ab E _ _ _ c3 rfl rfl ⟨by simp only [go_sem],by first | (rw [aa];decide) | (simp only [go_sem]<;>(try rw [aa])<;>decide)⟩ (by simp only [go_sem]) (by simp only [go_sem]) (by simp only [go_sem]) ?_
   rintro _ _ ⟨rfl,rfl⟩
   refine ⟨by simp only [go_sem];try omega,?_⟩
   simp only [go_sem]
   refine ⟨_,_,[100],id,⟨rfl,rfl⟩,?_⟩
   simp only [go_sem]
  ·have k11:f.k=11:=by simpa using h1
   have hz1:z = -1:=by rw [hz];exact if_neg fun hj=>hk ⟨k11,hj⟩
   rw [decide_eq_true (show z<0 by omega)]
   simp only [go_sem]
   rw [b5 (by decide)] at hRd
   obtain rfl:w=4:=hw
   subst hRd
   refine ab E _ _ _ c3 rfl rfl ⟨by simp only [go_sem],by first | (rw [aa];decide) | (simp only [go_sem]<;>(try rw [aa])<;>decide)⟩ (by simp only [go_sem]) (by simp only [go_sem]) (by simp only [go_sem]) ?_
   rintro _ _ ⟨rfl,rfl⟩
   refine ⟨by simp only [go_sem];try omega,?_⟩
   simp only [go_sem]
   refine ⟨_,_,[100],id,⟨rfl,rfl⟩,?_⟩
   simp only [go_sem]
set_option maxHeartbeats 1000000 in
theorem DQ {G} {xs:List EN} (h:Run xs) {i:Nat} (hi:i<xs.length) (k14:(ndE xs i).k=14) :
  HCall Tryz.prog G 188 [.at [100] 0,.d (enD (ndE xs i))] (spO xs 5) [100] (fun r hp'=>r=.d (jz (az (can (ndE xs i)) (ktE xs i)))∧hp'=spO xs (az (can (ndE xs i)) (ktE xs i)).1):=by
 have ht:=h.t
 have hke:=oN k14
 obtain ⟨a,ha,hai⟩:=bh ht hi (k:=(ndE xs i).a) (by rw [hke];simp)
 have hga:=aN (show a<xs.length by omega)
 have hln:=oH ht _ (by rw [bd hi];exact List.getElem_mem _:ndE xs i∈xs)
 have e0:(ktE xs i).getD 0 aC=trE xs a:=by unfold ktE;rw [hke,ha];rfl
 have hR:az (can (ndE xs i)) (ktE xs i)=if (ndE xs a).k=13∧eH (can (ndE xs i)).l (ndE xs a).name<(can (ndE xs i)).l.length then (5,dE (fdE (can (ndE xs i)).l (eH (can (ndE xs i)).l (ndE xs a).name)).var ((trE xs a).kid 0) ((ktE xs i).getD (eH (can (ndE xs i)).l (ndE xs a).name+1) aC)) else (4,aC):=by
  unfold az
  rw [fx,if_neg (by omega),if_neg (by omega),if_neg (by omega),if_neg (by omega),if_neg (by omega),if_neg (by omega),if_pos k14]
  simp only [e0]
  rw [jY (by omega)]
  rfl
 have e1:∀ j,j<(ndE xs i).l.length→(ktE xs i).getD (j+1) aC=trE xs (fdE (ndE xs i).l j).to.toNat:=fun j hj=>by
  unfold ktE
  rw [hke]
  simp [hj,fdE]
 have e2:∀ j,j<(ndE xs i).l.length→∃ q:Nat,(fdE (ndE xs i).l j).to=(q:Int)∧q<i:=fun j hj=>bh ht hi (by rw [hke];refine List.mem_cons_of_mem _ (List.mem_map.2 ⟨fdE (ndE xs i).l j,?_,rfl⟩);simp [fdE,hj])
 obtain ⟨j1,j2⟩:=sg (n:=ndE xs i) (by rw [k14];rfl) (ndE xs a).name
 rw [j1,j2,w1 (by rw [k14];rfl)] at hR
 obtain ⟨R,hRd⟩:∃ R,R=jz (az (can (ndE xs i)) (ktE xs i)):=⟨_,rfl⟩
 obtain ⟨w,hw⟩:∃ w,w=(az (can (ndE xs i)) (ktE xs i)).1:=⟨_,rfl⟩
 rw [← hRd,← hw]
 rw [hR] at hRd hw
 clear hR e0 j1 j2
 obtain ⟨us,hus⟩:∃ us,us=ktE xs i:=⟨_,rfl⟩
 rw [← hus] at hRd hw e1
 clear hus
 generalize ndE xs i=n at *
 have c3:=gW (G:=G) xs 5 4
 obtain ⟨f,hf⟩:∃ f,f=ndE xs a:=⟨_,rfl⟩
 rw [← hf] at hga hRd hw
 have c0:=yC (G:=G) n.l (fun b=>b.nm == f.name) 243 [.ptr (enD f)] (by omega) (fun b _=>F9 b f)
 obtain ⟨z,hz⟩:∃ z,z=BF n.l (fun b=>b.nm == f.name):=⟨_,rfl⟩
 rw [← hz] at c0
 by_cases hk:f.k=13∧eH n.l f.name<n.l.length
 ·obtain ⟨k13,hj⟩:=hk
  rw [if_pos ⟨k13,hj⟩] at hRd hw
  rw [cN] at hRd
  obtain rfl:w=5:=hw
  have hzj:z=(eH n.l f.name:Int):=by rw [hz];exact if_pos hj
  generalize eH n.l f.name=j at hRd hzj hj
  obtain ⟨q,hq,hqa⟩:=e2 j hj
  rw [e1 j hj,hq,Int.toNat_natCast] at hRd
  obtain ⟨c,hc,hca⟩:=bh ht (show a<xs.length by omega) (k:=f.a) (by rw [← hf,kf (.inr (.inr k13))];simp)
  have ek:(trE xs a).kid 0=trE xs c:=by
   rw [rT ht (by omega)]
   unfold ktE
   rw [← hf,kf (.inr (.inr k13)),hc]
   rfl
  rw [ek] at hRd
  have c1:=b7 (G:=G) ht h.may 5 (show q<xs.length by omega)
  have c2:=b7 (G:=G) ht h.may 5 (show c<xs.length by omega)
  have hb2:=mg h (show c<xs.length by omega)
  have c4:=rh (G:=G) h (show q<xs.length by omega) (fdE n.l j).var (dL ht h.rng (show c<xs.length by omega)) (by omega) 5
  rw [cH ht (by omega)] at c4
  rw [← hq] at c1
  rw [← hc] at c2
  generalize (dE (fdE n.l j).var (trE xs c) (trE xs q)).enc=V at c4 hRd
  generalize sbE xs q=Y at c1 c4
  generalize sbE xs c=Z at c2 c4
  subst hRd
  unfold exD spO at *
  rw [dk f] at c0
  rw [dk n]
  refine aq Tryz.func188 rfl (by decide +kernel) (by simp [Tryz.ntmps188]) (veil fun E=>?_)
  simp only [go_sem]
  refine aj mixed E fun X=>?_
  simp only [go_sem]
  refine bS X (d:=8) [100] 0 none [.d (.sl (some 9) (xs.map enD)),.d (i64 5)] (by simp only [go_sem]) rfl rfl ?_
  simp only [go_sem]
  refine ⟨⟨by omega,by omega⟩,?_⟩
  rw [ha]
  first | rw [hga] | rw [Int.toNat_natCast,hga]
  simp only [go_sem]
  refine ⟨by decide +kernel,?_⟩
  refine qG E [5] (.agg [i64 f.k,i64 f.a,i64 f.b,i64 f.c,i64 f.n,.str f.name,.str f.s,.sl (some 3) (f.l.map fD),i64 f.pos]) rfl rfl ?_
  simp only [go_sem]
  refine ae E (c0) rfl rfl (by simp) ?_
  rintro _ rfl
  simp only [go_sem]
  rw [decide_eq_false (show ¬ ¬ f.k=13 by simp [k13])]
  simp only [go_sem]
  rw [decide_eq_false (show ¬ z<0 by omega)]
  simp only [go_sem]
  refine aj mixed E fun X=>?_
  simp only [go_sem]
  refine ⟨⟨by omega,by omega⟩,?_⟩
  rw [show z.toNat=j by omega,gu hj]
  simp only [go_sem]
  refine aM X _ _ _ _ _ c1 rfl rfl ⟨by simp only [go_sem],by first | (rw [aa];decide) | (simp only [go_sem]<;>(try rw [aa])<;>decide)⟩ (by simp only [go_sem]) (by simp only [go_sem]) (by simp only [go_sem]) (by simp only [go_sem];try omega) ?_
  simp only [go_sem]
  refine ⟨⟨by omega,by omega⟩,?_⟩
  rw [show z.toNat=j by omega,gu hj]
  simp only [go_sem]
  refine aM X _ _ _ _ _ c2 rfl rfl ⟨by simp only [go_sem],by first | (rw [aa];decide) | (simp only [go_sem]<;>(try rw [aa])<;>decide)⟩ (by simp only [go_sem]) (by simp only [go_sem]) (by simp only [go_sem]) (by simp only [go_sem];try omega) ?_
  simp only [go_sem]
  refine aM X _ _ _ _ _ c4 rfl rfl ⟨by simp only [go_sem],by first | (rw [aa];decide) | (simp only [go_sem]<;>(try rw [aa])<;>decide)⟩ (by simp only [go_sem]) (by simp only [go_sem]) (by simp only [go_sem]) (by simp only [go_sem];try omega) ?_
  simp only [go_sem]
  refine ⟨by decide +kernel,?_⟩
  refine ⟨_,_,[100],id,⟨rfl,rfl⟩,?_⟩
  simp only [go_sem]
 ·rw [if_neg hk] at hRd hw
  unfold spO at *
  rw [dk f] at c0
  rw [dk n]
  refine aq Tryz.func188 rfl (by decide +kernel) (by simp [Tryz.ntmps188]) (veil fun E=>?_)
  simp only [go_sem]
  refine aj mixed E fun X=>?_
  simp only [go_sem]
  refine bS X (d:=8) [100] 0 none [.d (.sl (some 9) (xs.map enD)),.d (i64 5)] (by simp only [go_sem]) rfl rfl ?_
  simp only [go_sem]
  refine ⟨⟨by omega,by omega⟩,?_⟩
  rw [ha]
  first | rw [hga] | rw [Int.toNat_natCast,hga]
  simp only [go_sem]
  refine ⟨by decide +kernel,?_⟩
  refine qG E [5] (.agg [i64 f.k,i64 f.a,i64 f.b,i64 f.c,i64 f.n,.str f.name,.str f.s,.sl (some 3) (f.l.map fD),i64 f.pos]) rfl rfl ?_
  simp only [go_sem]
  refine ae E (c0) rfl rfl (by simp) ?_
  rintro _ rfl
  simp only [go_sem]
  refine aO E (fun h1=>?_) (fun h1=>?_)<;>simp only [go_sem]
  ·rw [b5 (by decide)] at hRd
   obtain rfl:w=4:=hw
   subst hRd
   refine ab E _ _ _ c3 rfl rfl ⟨by simp only [go_sem],by first | (rw [aa];decide) | (simp only [go_sem]<;>(try rw [aa])<;>decide)⟩ (by simp only [go_sem]) (by simp only [go_sem]) (by simp only [go_sem]) ?_
   rintro _ _ ⟨rfl,rfl⟩
   refine ⟨by simp only [go_sem];try omega,?_⟩
   simp only [go_sem]
   refine ⟨_,_,[100],id,⟨rfl,rfl⟩,?_⟩
   simp only [go_sem]
  ·have k13:f.k=13:=by simpa using h1
   have hz1:z = -1:=by rw [hz];exact if_neg fun hj=>hk ⟨k13,hj⟩
   rw [decide_eq_true (show z<0 by omega)]
   simp only [go_sem]
   rw [b5 (by decide)] at hRd
   obtain rfl:w=4:=hw
   subst hRd
   refine ab E _ _ _ c3 rfl rfl ⟨by simp only [go_sem],by first | (rw [aa];decide) | (simp only [go_sem]<;>(try rw [aa])<;>decide)⟩ (by simp only [go_sem]) (by simp only [go_sem]) (by simp only [go_sem]) ?_
   rintro _ _ ⟨rfl,rfl⟩
   refine ⟨by simp only [go_sem];try omega,?_⟩
   simp only [go_sem]
   refine ⟨_,_,[100],id,⟨rfl,rfl⟩,?_⟩
   simp only [go_sem]
end Go.Proofs.YtejpnabbmgpmaaaGreat

namespace Go.Proofs.YtejpnabbmgpmaaaGreat
open Go.Ab
theorem ny {n:EN} (hw:aG n=0):(kH n).enc=bz n:=by
 unfold kH bz
 rw [RT.enc,RT.encs,kr (by rw [hw];exact Nat.zero_le _)]
theorem xZ {G} {n:EN} {ts:List RT} (hn:n.l=[]) (hw:aG n=ts.length) (hg:∀ t∈ts,t.good) (hS:szs ts≤1000000) (hL:ts.length≤1000000) :
  HP Tryz.prog G 86 [ndN n,.sl (some 1) (ts.map fun t=>exD t.enc)] (fun r=>r=.d (exD (RT.mk (can n) ts).enc)):=by
 have:=iK (G:=G) n (RT.encs ts) hn (by rw [iE];exact hL) (by rw [ll];exact hS) (fun l hl m hm=>by
  rw [bV] at hl
  obtain ⟨t,ht,rfl⟩:=List.mem_map.1 hl
  exact (rK t (hg t ht).ok).kids.2 m hm) (fun l hl m hm=>by
  rw [bV] at hl
  obtain ⟨t,ht,rfl⟩:=List.mem_map.1 hl
  have:=ju (cT t (hg t ht).rt m hm).1
  omega)
 rw [bV,List.map_map] at this
 rw [RT.enc,bV,kr (by rw [List.length_map,hw];exact Nat.le_refl _)]
 exact this
set_option maxHeartbeats 1000000 in
theorem Fe {G} {xs:List EN} (h:Run xs) {i:Nat} (hi:i<xs.length) (k10:(ndE xs i).k=10) :
  HCall Tryz.prog G 186 [.at [100] 0,.d (enD (ndE xs i))] (spO xs 5) [100] (fun r hp'=>r=.d (jz (az (can (ndE xs i)) (ktE xs i)))∧hp'=spO xs (az (can (ndE xs i)) (ktE xs i)).1):=by
 have ht:=h.t
 have hke:=ql (.inr (.inr (.inr k10)))
 obtain ⟨a,ha,hai⟩:=bh ht hi (k:=(ndE xs i).a) (by rw [hke];simp)
 obtain ⟨b,hb,hbi⟩:=bh ht hi (k:=(ndE xs i).b) (by rw [hke];simp)
 have hga:=aN (show a<xs.length by omega)
 have hgb:=aN (show b<xs.length by omega)
 have hsa:=rU (ht.right a (by omega))
 have hsb:=rU (ht.right b (by omega))
 have e0:(ktE xs i).getD 0 aC=trE xs a:=by unfold ktE;rw [hke,ha];rfl
 have e1:(ktE xs i).getD 1 aC=trE xs b:=by unfold ktE;rw [hke,hb];rfl
 have hR:az (can (ndE xs i)) (ktE xs i)=jE (ndE xs i) (ndE xs a) (ndE xs b):=by
  unfold az
  rw [fx,if_neg (by omega),if_neg (by omega),if_neg (by omega),if_neg (by omega),if_pos k10]
  simp only [e0,e1]
  rw [jY (by omega),jY (by omega)]
  rfl
 rw [hR]
 clear hR e0 e1
 generalize ndE xs i=n at *
 generalize ndE xs a=f at *
 generalize ndE xs b=g at *
 obtain ⟨q,hq⟩:∃ q,q=jE n f g:=⟨_,rfl⟩
 obtain ⟨R,hRd⟩:∃ R,R=jz q:=⟨_,rfl⟩
 obtain ⟨w,hw⟩:∃ w,w=q.1:=⟨_,rfl⟩
 rw [← hq,← hRd,← hw]
 unfold jE at hq
 have c3:=gW (G:=G) xs 5 4
 have c2:=gW (G:=G) xs 5 2
 have c1:=Gj (G:=G) n.n f.n g.n
 unfold tj at c1
 unfold spO at *
 rw [dk n]
 refine aq Tryz.func186 rfl (by decide +kernel) (by simp [Tryz.ntmps186]) (veil fun E=>?_)
 simp only [go_sem]
 refine aj mixed E fun X=>?_
 simp only [go_sem]
 refine bS X (d:=11) [100] 0 none [.d (.sl (some 9) (xs.map enD)),.d (i64 5)] (by simp only [go_sem]) rfl rfl ?_
 simp only [go_sem]
 refine ⟨⟨by omega,by omega⟩,?_⟩
 rw [ha]
 first | rw [hga] | rw [Int.toNat_natCast,hga]
 simp only [go_sem]
 refine bS X (d:=20) [100] 0 none [.d (.sl (some 9) (xs.map enD)),.d (i64 5)] (by simp only [go_sem]) rfl rfl ?_
 simp only [go_sem]
 refine ⟨⟨by omega,by omega⟩,?_⟩
 rw [hb]
 first | rw [hgb] | rw [Int.toNat_natCast,hgb]
 simp only [go_sem]
 refine ⟨by decide +kernel,?_⟩
 refine ai E (fun h7=>?_) (fun h7=>?_)<;>simp only [go_sem]
 ·rw [if_pos h7] at hq
  by_cases hk:f.k=3∧g.k=3
  ·rw [if_pos hk] at hq
   have cl:=xE (G:=G) ⟨3,0,0,0,0,[],(f.s++g.s).take 200,[],n.pos⟩ rfl
   subst hq
   rw [cN,ny rfl] at hRd
   obtain rfl:w=5:=hw
   subst hRd
   generalize bz ⟨3,0,0,0,0,[],(f.s++g.s).take 200,[],n.pos⟩=V at *
   unfold ndN at cl
   unfold exD at *
   rw [decide_eq_false (show ¬ ¬ f.k=3 by simp [hk.1])]
   simp only [go_sem]
   rw [decide_eq_false (show ¬ ¬ g.k=3 by simp [hk.2])]
   simp only [go_sem]
   refine ⟨by omega,?_⟩
   refine aj mixed E fun X=>?_
   simp only [go_sem]
   obtain ⟨z,hz⟩:∃ z:Int,z=if 200<((f.s++g.s).length:Int) then 200 else ((f.s++g.s).length:Int):=⟨_,rfl⟩
   rw [← hz]
   have hz0:0≤z∧z≤((f.s++g.s).length:Int):=by rw [hz];split<;>omega
   have hzt:(f.s++g.s).take z.toNat=(f.s++g.s).take 200:=by
    rw [hz]
    split
    ·rfl
    ·rw [List.take_of_length_le (by omega),List.take_of_length_le (by omega)]
   refine ⟨hz0,?_⟩
   rw [Nat.sub_zero,hzt]
   refine cP X cl rfl rfl (by simp) ?_
   simp only [go_sem]
   refine ⟨by decide +kernel,?_⟩
   refine ⟨_,_,[100],id,⟨rfl,rfl⟩,?_⟩
   simp only [go_sem]
  ·rw [if_neg hk] at hq
   refine aO E (fun h1=>?_) (fun h1=>?_)<;>simp only [go_sem]
   ·subst hq
    rw [b5 (by decide)] at hRd
    obtain rfl:w=4:=hw
    subst hRd
    refine ab E _ _ _ c3 rfl rfl ⟨by simp only [go_sem],by first | (rw [aa];decide) | (simp only [go_sem]<;>(try rw [aa])<;>decide)⟩ (by simp only [go_sem]) (by simp only [go_sem]) (by simp only [go_sem]) ?_
    rintro _ _ ⟨rfl,rfl⟩
    refine ⟨by simp only [go_sem];try omega,?_⟩
    simp only [go_sem]
    refine ⟨_,_,[100],id,⟨rfl,rfl⟩,?_⟩
    simp only [go_sem]
   ·have h1:f.k=3:=by simpa using h1
    rw [decide_eq_true (show ¬ g.k=3 from fun e=>hk ⟨h1,e⟩)]
    simp only [go_sem]
    subst hq
    rw [b5 (by decide)] at hRd
    obtain rfl:w=4:=hw
    subst hRd
    refine ab E _ _ _ c3 rfl rfl ⟨by simp only [go_sem],by first | (rw [aa];decide) | (simp only [go_sem]<;>(try rw [aa])<;>decide)⟩ (by simp only [go_sem]) (by simp only [go_sem]) (by simp only [go_sem]) ?_
    rintro _ _ ⟨rfl,rfl⟩
    refine ⟨by simp only [go_sem];try omega,?_⟩
    simp only [go_sem]
    refine ⟨_,_,[100],id,⟨rfl,rfl⟩,?_⟩
    simp only [go_sem]
 ·rw [if_neg h7] at hq
  by_cases hk:f.k=1∧g.k=1
  ·rw [if_pos hk] at hq
   rw [decide_eq_false (show ¬ ¬ f.k=1 by simp [hk.1])]
   simp only [go_sem]
   rw [decide_eq_false (show ¬ ¬ g.k=1 by simp [hk.2])]
   simp only [go_sem]
   refine ae E (c1) rfl rfl (by simp) ?_
   rintro _ rfl
   simp only [go_sem]
   refine ai E (fun he=>?_) (fun he=>?_)<;>simp only [go_sem]
   ·rw [if_pos he] at hq
    subst hq
    rw [b5 (by decide)] at hRd
    obtain rfl:w=2:=hw
    subst hRd
    refine ab E _ _ _ c2 rfl rfl ⟨by simp only [go_sem],by first | (rw [aa];decide) | (simp only [go_sem]<;>(try rw [aa])<;>decide)⟩ (by simp only [go_sem]) (by simp only [go_sem]) (by simp only [go_sem]) ?_
    rintro _ _ ⟨rfl,rfl⟩
    refine ⟨by simp only [go_sem];try omega,?_⟩
    simp only [go_sem]
    refine ⟨_,_,[100],id,⟨rfl,rfl⟩,?_⟩
    simp only [go_sem]
   have he:mC n.n g.n=0:=by simpa using he
   rw [if_neg (by simp [he])] at hq
   have h56:5≤n.n→n.n=5∨n.n=6:=fun h5=>by
    unfold mC at he
    (repeat' split at he)<;>first | omega | exact absurd he (by decide)
   have cl:=xE (G:=G) ⟨if 5≤n.n then 2 else 1,0,0,0,fT n.n f.n g.n,[],[],[],n.pos⟩ rfl
   by_cases h5:5≤n.n
   ·simp only [if_pos h5] at cl hq
    subst hq
    rw [cN,ny rfl] at hRd
    obtain rfl:w=5:=hw
    subst hRd
    generalize bz ⟨2,0,0,0,fT n.n f.n g.n,[],[],[],n.pos⟩=V at *
    unfold ndN at cl
    unfold exD at *
    refine aO E (fun g5=>?_) (fun g5=>?_)<;>simp only [go_sem]
    ·refine ae E (cl) rfl rfl (by simp) ?_
     rintro _ rfl
     simp only [go_sem]
     refine ⟨_,_,[100],id,⟨rfl,rfl⟩,?_⟩
     simp only [go_sem]
    ·have:=(h56 h5).resolve_left g5
     rw [decide_eq_true this]
     simp only [go_sem]
     refine ae E (cl) rfl rfl (by simp) ?_
     rintro _ rfl
     simp only [go_sem]
     refine ⟨_,_,[100],id,⟨rfl,rfl⟩,?_⟩
     simp only [go_sem]
   ·simp only [if_neg h5] at cl hq
    subst hq
    rw [cN,ny rfl] at hRd
    obtain rfl:w=5:=hw
    subst hRd
    generalize bz ⟨1,0,0,0,fT n.n f.n g.n,[],[],[],n.pos⟩=V at *
    unfold ndN at cl
    unfold exD at *
    rw [decide_eq_false (show ¬ n.n=5 by omega)]
    simp only [go_sem]
    rw [decide_eq_false (show ¬ n.n=6 by omega)]
    simp only [go_sem]
    refine ae E (cl) rfl rfl (by simp) ?_
    rintro _ rfl
    simp only [go_sem]
    refine ⟨_,_,[100],id,⟨rfl,rfl⟩,?_⟩
    simp only [go_sem]
  ·rw [if_neg hk] at hq
   refine aO E (fun h1=>?_) (fun h1=>?_)<;>simp only [go_sem]
   ·subst hq
    rw [b5 (by decide)] at hRd
    obtain rfl:w=4:=hw
    subst hRd
    refine ab E _ _ _ c3 rfl rfl ⟨by simp only [go_sem],by first | (rw [aa];decide) | (simp only [go_sem]<;>(try rw [aa])<;>decide)⟩ (by simp only [go_sem]) (by simp only [go_sem]) (by simp only [go_sem]) ?_
    rintro _ _ ⟨rfl,rfl⟩
    refine ⟨by simp only [go_sem];try omega,?_⟩
    simp only [go_sem]
    refine ⟨_,_,[100],id,⟨rfl,rfl⟩,?_⟩
    simp only [go_sem]
   ·have h1:f.k=1:=by simpa using h1
    rw [decide_eq_true (show ¬ g.k=1 from fun e=>hk ⟨h1,e⟩)]
    simp only [go_sem]
    subst hq
    rw [b5 (by decide)] at hRd
    obtain rfl:w=4:=hw
    subst hRd
    refine ab E _ _ _ c3 rfl rfl ⟨by simp only [go_sem],by first | (rw [aa];decide) | (simp only [go_sem]<;>(try rw [aa])<;>decide)⟩ (by simp only [go_sem]) (by simp only [go_sem]) (by simp only [go_sem]) ?_
    rintro _ _ ⟨rfl,rfl⟩
    refine ⟨by simp only [go_sem];try omega,?_⟩
    simp only [go_sem]
    refine ⟨_,_,[100],id,⟨rfl,rfl⟩,?_⟩
    simp only [go_sem]
end Go.Proofs.YtejpnabbmgpmaaaGreat

namespace Go.Proofs.YtejpnabbmgpmaaaGreat
open Go.Ab
set_option maxHeartbeats 1000000 in
theorem ER {G} {xs:List EN} (h:Run xs) {i:Nat} (hi:i<xs.length) (k8:(ndE xs i).k=8) :
  HCall Tryz.prog G 184 [.at [100] 0,.d (enD (ndE xs i))] (spO xs 5) [100] (fun r hp'=>r=.d (jz (az (can (ndE xs i)) (ktE xs i)))∧hp'=spO xs (az (can (ndE xs i)) (ktE xs i)).1):=by
 have ht:=h.t
 have hke:=ql (.inr (.inr (.inl k8)))
 obtain ⟨a,ha,hai⟩:=bh ht hi (k:=(ndE xs i).a) (by rw [hke];simp)
 obtain ⟨b,hb,hbi⟩:=bh ht hi (k:=(ndE xs i).b) (by rw [hke];simp)
 have hga:=aN (show a<xs.length by omega)
 have hlk:=ht.link i hi
 have k5:(ndE xs a).k=5:=by
  unfold dZ at hlk
  rw [Bool.and_eq_true] at hlk
  have h9:=hlk.2
  simp only [k8,Bool.or_eq_true,decide_eq_true_eq] at h9
  have h9:=h9.resolve_left (by simp)
  rwa [ha,Int.toNat_natCast] at h9
 obtain ⟨c,hc,hca⟩:=bh ht (show a<xs.length by omega) (k:=(ndE xs a).a) (by rw [kf (.inl k5)];simp)
 have ek:(trE xs a).kid 0=trE xs c:=by
  rw [rT ht (by omega)]
  unfold ktE
  rw [kf (.inl k5),hc]
  rfl
 have e0:(ktE xs i).getD 0 aC=trE xs a:=by unfold ktE;rw [hke,ha];rfl
 have e1:(ktE xs i).getD 1 aC=trE xs b:=by unfold ktE;rw [hke,hb];rfl
 have hR:az (can (ndE xs i)) (ktE xs i)=(5,dE (ndE xs i).name (dN (can (ndE xs i)) (trE xs a)) (trE xs b)):=by
  unfold az
  rw [fx,if_neg (by omega),if_neg (by omega),if_pos k8]
  simp only [e0,e1]
  rfl
 have ga:=dL ht h.rng (show a<xs.length by omega)
 have gc:=dL ht h.rng (show c<xs.length by omega)
 have la:=jY (ns:=xs) (show a<xs.length by omega)
 obtain ⟨ug,us⟩:=my (n:=can (ndE xs i)) (f:=trE xs a) (jP (ht.right i hi)) k8 ga (by rw [la];exact k5)
 have sa:=mg h (show a<xs.length by omega)
 have sc:=mg h (show c<xs.length by omega)
 have hun:dN (can (ndE xs i)) (trE xs a)=if (ndE xs a).name=(ndE xs i).name then trE xs a else .mk (can ⟨5,0,0,0,0,(ndE xs a).name,[],[],(ndE xs a).pos⟩) [.mk (can ⟨8,0,0,0,0,(ndE xs i).name,[],[],(ndE xs i).pos⟩) [trE xs a,trE xs c]]:=by
  unfold dN
  rw [la,ek]
  rfl
 rw [hR,cN]
 dsimp only
 clear hR e0 e1 ek hlk
 have c1:=b7 (G:=G) ht h.may 5 (show a<xs.length by omega)
 have c2:=b7 (G:=G) ht h.may 5 (show b<xs.length by omega)
 have c3:=b7 (G:=G) ht h.may 5 (show c<xs.length by omega)
 have c4:=rh (G:=G) h (show b<xs.length by omega) (ndE xs i).name ug (by omega) 5
 rw [← ha,← cH ht (by omega)] at c1
 rw [← hb] at c2
 rw [← hc,← cH ht (by omega)] at c3
 obtain ⟨U,hU⟩:∃ U,U=dN (can (ndE xs i)) (trE xs a):=⟨_,rfl⟩
 rw [← hU] at c4 hun ug us ⊢
 have hgi:=ht.right i hi
 have hgf:=ht.right a (by omega)
 generalize ndE xs i=n at *
 obtain ⟨f,hf⟩:∃ f,f=ndE xs a:=⟨_,rfl⟩
 rw [← hf] at hga hun k5 hgf hc c3
 generalize (dE n.name U (trE xs b)).enc=R at c4 ⊢
 generalize sbE xs b=Y at c2 c4
 generalize trE xs a=A at *
 generalize trE xs c=C at *
 have g1:(RT.mk (can ⟨8,0,0,0,0,n.name,[],[],n.pos⟩) [A,C]).good:=bj.2 ⟨⟨rfl,ku _,(lF (jT hgi (.inr (.inr (.inr (.inl k8))))) (jw hgi) (.inr rfl)).with _⟩,fun t ht=>by
  rcases List.mem_cons.1 ht with rfl | ht
  ·exact ga
  ·rw [List.mem_singleton.1 ht];exact gc⟩
 have d1:=xZ (G:=G) (n:=⟨8,0,0,0,0,n.name,[],[],n.pos⟩) (ts:=[A,C]) rfl rfl (bj.1 g1).2 (by rw [bw,bw];show A.sz+(C.sz+0)≤_;omega) (by simp)
 have s1:(RT.mk (can ⟨8,0,0,0,0,n.name,[],[],n.pos⟩) [A,C]).sz≤1300:=by rw [im,bw,bw];show A.sz+(C.sz+0)+1≤_;omega
 obtain ⟨J,hJ⟩:∃ J,J=RT.mk (can ⟨8,0,0,0,0,n.name,[],[],n.pos⟩) [A,C]:=⟨_,rfl⟩
 rw [← hJ] at d1 g1 s1 hun
 have d2:=xZ (G:=G) (n:=⟨5,0,0,0,0,f.name,[],[],f.pos⟩) (ts:=[J]) rfl rfl (fun t ht=>by rw [List.mem_singleton.1 ht];exact g1) (by rw [bw];show J.sz+0≤_;omega) (by simp)
 simp only [List.map_cons,List.map_nil] at d1 d2
 obtain ⟨V,hV⟩:∃ V,V=(RT.mk (can ⟨5,0,0,0,0,f.name,[],[],f.pos⟩) [J]).enc:=⟨_,rfl⟩
 rw [← hV] at d2
 unfold ndN at d1 d2
 unfold spO at *
 rw [dk n]
 refine gB Tryz.func184 rfl (by decide +kernel) (by simp [Tryz.ntmps184]) fun B0 hB0=>?_
 refine aB (al fun E=>?_)
 simp only [go_sem]
 refine aB (al fun E=>?_)
 simp only [go_sem]
 refine aj mixed E fun X=>?_
 simp only [go_sem]
 refine bS X (d:=9) [100] 0 none [.d (.sl (some 9) (xs.map enD)),.d (i64 5)] (by simp only [go_sem]) rfl rfl ?_
 simp only [go_sem]
 refine ⟨⟨by omega,by omega⟩,?_⟩
 rw [ha] at c1 ⊢
 first | rw [hga] | rw [Int.toNat_natCast,hga]
 simp only [go_sem]
 refine ⟨by decide +kernel,?_⟩
 refine aB (al fun E=>?_)
 simp only [go_sem]
 unfold exD at c1 c3 c4 d1 d2
 refine ab E _ _ _ c1 rfl rfl ⟨by simp only [go_sem],by first | (rw [aa];decide) | (simp only [go_sem]<;>(try rw [aa])<;>decide)⟩ (by simp only [go_sem]) (by simp only [go_sem]) (by simp only [go_sem]) ?_
 rintro _ _ ⟨rfl,rfl⟩
 refine ⟨by simp only [go_sem];try omega,?_⟩
 simp only [go_sem]
 refine aB (AJ [(0,.at [100] 0),(3,.at [3] 0),(4,.at [4] 0),(5,.at [5] 0),(6,.at [6] 0)]
  [([100],.box [.d (.sl (some 9) (xs.map enD)),.d (i64 5)]),([3],.box [.d (i64 n.k),.d (i64 (a:Int)),.d (i64 n.b),.d (i64 n.c),.d (i64 n.n),.d (.str n.name),.d (.str n.s),.d (.sl (some 3) (n.l.map fD)),.d (i64 n.pos)]),([4],.box [.d .nils]),
    ([5],.box [.d (i64 f.k),.d (i64 f.a),.d (i64 f.b),.d (i64 f.c),.d (i64 f.n),.d (.str f.name),.d (.str f.s),.d (.sl (some 3) (f.l.map fD)),.d (i64 f.pos)]),([6],.box [.d (.sl (some 9) (U.enc.map enD))])] [100,3,4,5,6] (fun E=>?_) ?_)
 ·simp only [go_sem]
  by_cases hn:f.name=n.name
  ·rw [if_pos hn] at hun
   rw [show (!(f.name == n.name))=false by simp [hn]]
   simp only [go_sem]
   refine og id ?_
   rw [hun]
   simp only [go_sem]
   all_goals first | rfl | exact ⟨rfl,rfl⟩
  ·rw [if_neg hn] at hun
   rw [show (!(f.name == n.name))=true by simp [hn]]
   simp only [go_sem]
   refine aj mixed E fun X=>?_
   simp only [go_sem]
   refine aM X _ _ _ _ _ c3 rfl rfl ⟨by simp only [go_sem],by first | (rw [aa];decide) | (simp only [go_sem]<;>(try rw [aa])<;>decide)⟩ (by simp only [go_sem]) (by simp only [go_sem]) (by simp only [go_sem]) (by simp only [go_sem];try omega) ?_
   simp only [go_sem]
   refine b9 X 36 [36] (some 1) [.agg [.sl (some 9) (A.enc.map enD)],.agg [.sl (some 9) (C.enc.map enD)]] d1 (fun _=>rfl) rfl rfl rfl (by simp) rfl (by simp only [go_sem]) ?_
   simp only [go_sem]
   refine ⟨by decide +kernel,?_⟩
   refine iZ E [44] (some 1) [.agg [.sl (some 9) (J.enc.map enD)]] rfl (by simp only [go_sem];rfl) ?_
   simp only [go_sem]
   refine ae E (d2) rfl rfl (by simp) ?_
   rintro _ rfl
   simp only [go_sem]
   refine og id ?_
   rw [hun,← hV]
   simp only [go_sem]
   all_goals first | rfl | exact ⟨rfl,rfl⟩
 refine al fun E=>?_
 simp only [go_sem]
 refine aj mixed E fun X=>?_
 simp only [go_sem]
 unfold exD at c2
 refine aM X _ _ _ _ _ c2 rfl rfl ⟨by simp only [go_sem],by first | (rw [aa];decide) | (simp only [go_sem]<;>(try rw [aa])<;>decide)⟩ (by simp only [go_sem]) (by simp only [go_sem]) (by simp only [go_sem]) (by simp only [go_sem];try omega) ?_
 simp only [go_sem]
 refine aM X _ _ _ _ _ c4 rfl rfl ⟨by simp only [go_sem],by first | (rw [aa];decide) | (simp only [go_sem]<;>(try rw [aa])<;>decide)⟩ (by simp only [go_sem]) (by simp only [go_sem]) (by simp only [go_sem]) (by simp only [go_sem];try omega) ?_
 simp only [go_sem]
 refine ⟨by decide +kernel,?_⟩
 refine A8 (.inl rfl) hB0 ?_
 simp only [go_sem]
 refine ⟨_,_,[100],id,⟨rfl,rfl⟩,?_⟩
 simp only [go_sem]
 rfl
end Go.Proofs.YtejpnabbmgpmaaaGreat

namespace Go.Proofs.YtejpnabbmgpmaaaGreat
open Go.Ab
theorem oc (q:Int × RT):∃ S,jz q=.agg [S]:=by
 unfold jz exD
 split
 ·exact ⟨_,rfl⟩
 ·exact ⟨_,rfl⟩
set_option maxHeartbeats 1000000 in
theorem F2 {G} {xs:List EN} (h:Run xs) {i:Nat} (hi:i<xs.length) :
  HCall Tryz.prog G 125 [.at [100] 0,.d (enD (ndE xs i))] (spO xs 5) [100] (fun r hp'=>r=.d (jz (az (can (ndE xs i)) (ktE xs i)))∧hp'=spO xs (az (can (ndE xs i)) (ktE xs i)).1):=by
 by_cases k7:(ndE xs i).k=7
 ·have ht:=h.t
  have hke:=ql (.inr (.inl k7))
  obtain ⟨a,ha,hai⟩:=bh ht hi (k:=(ndE xs i).a) (by rw [hke];simp)
  obtain ⟨b,hb,hbi⟩:=bh ht hi (k:=(ndE xs i).b) (by rw [hke];simp)
  have e0:(ktE xs i).getD 0 aC=trE xs a:=by unfold ktE;rw [hke,ha];rfl
  have e1:(ktE xs i).getD 1 aC=trE xs b:=by unfold ktE;rw [hke,hb];rfl
  have hR:az (can (ndE xs i)) (ktE xs i)=(5,dE (ndE xs i).name (trE xs a) (trE xs b)):=by
   unfold az
   rw [fx,if_neg (by omega),if_pos k7]
   simp only [e0,e1]
   rfl
  rw [hR,cN]
  dsimp only
  clear hR e0 e1
  have c1:=b7 (G:=G) ht h.may 5 (show b<xs.length by omega)
  have c2:=b7 (G:=G) ht h.may 5 (show a<xs.length by omega)
  have sa:=mg h (show a<xs.length by omega)
  have c3:=rh (G:=G) h (show b<xs.length by omega) (ndE xs i).name (dL ht h.rng (show a<xs.length by omega)) (by omega) 5
  rw [cH ht (by omega)] at c3
  rw [← hb] at c1
  rw [← ha] at c2
  generalize (dE (ndE xs i).name (trE xs a) (trE xs b)).enc=R at *
  generalize ndE xs i=n at *
  generalize sbE xs a=Y at *
  generalize sbE xs b=Z at *
  unfold exD spO at *
  rw [dk n]
  refine aq Tryz.func125 rfl (by decide +kernel) (by simp [Tryz.ntmps125]) (veil fun E=>?_)
  simp only [go_sem]
  rw [k7]
  simp only [go_sem]
  refine aj mixed E fun X=>?_
  simp only [go_sem]
  refine aM X _ _ _ _ _ c1 rfl rfl ⟨by simp only [go_sem],by first | (rw [aa];decide) | (simp only [go_sem]<;>(try rw [aa])<;>decide)⟩ (by simp only [go_sem]) (by simp only [go_sem]) (by simp only [go_sem]) (by simp only [go_sem];try omega) ?_
  simp only [go_sem]
  refine aM X _ _ _ _ _ c2 rfl rfl ⟨by simp only [go_sem],by first | (rw [aa];decide) | (simp only [go_sem]<;>(try rw [aa])<;>decide)⟩ (by simp only [go_sem]) (by simp only [go_sem]) (by simp only [go_sem]) (by simp only [go_sem];try omega) ?_
  simp only [go_sem]
  refine aM X _ _ _ _ _ c3 rfl rfl ⟨by simp only [go_sem],by first | (rw [aa];decide) | (simp only [go_sem]<;>(try rw [aa])<;>decide)⟩ (by simp only [go_sem]) (by simp only [go_sem]) (by simp only [go_sem]) (by simp only [go_sem];try omega) ?_
  simp only [go_sem]
  refine ⟨by decide +kernel,?_⟩
  refine ⟨_,_,[100],id,⟨rfl,rfl⟩,?_⟩
  simp only [go_sem]
 have k6:=Gn (G:=G) h hi
 have k8:=ER (G:=G) h hi
 have k9:=ED (G:=G) h hi
 have k10:=Fe (G:=G) h hi
 have k12:=Ec (G:=G) h hi
 have k14:=DQ (G:=G) h hi
 have c4:=gW (G:=G) xs 5 4
 have hno:(ndE xs i).k≠6→(ndE xs i).k≠8→(ndE xs i).k≠9→(ndE xs i).k≠10→(ndE xs i).k≠12→(ndE xs i).k≠14→az (can (ndE xs i)) (ktE xs i)=(4,aC):=fun h6 h8 h9 h10 h12 h14=>by
  unfold az
  rw [fx,if_neg h6,if_neg k7,if_neg h8,if_neg h9,if_neg h10,if_neg h12,if_neg h14]
 generalize az (can (ndE xs i)) (ktE xs i)=q at *
 obtain ⟨R,hR⟩:=oc q
 rw [hR] at k6 k8 k9 k10 k12 k14 ⊢
 obtain ⟨w,hw⟩:∃ w,w=q.1:=⟨_,rfl⟩
 rw [← hw] at k6 k8 k9 k10 k12 k14 ⊢
 generalize ndE xs i=n at *
 unfold spO at *
 rw [dk n] at k6 k8 k9 k10 k12 k14 ⊢
 refine aq Tryz.func125 rfl (by decide +kernel) (by simp [Tryz.ntmps125]) (veil fun E=>?_)
 simp only [go_sem]
 refine ai E (fun g6=>?_) (fun g6=>?_)<;>simp only [go_sem]
 ·refine ab E _ _ _ (k6 g6) rfl rfl ⟨by simp only [go_sem],by first | (rw [aa];decide) | (simp only [go_sem]<;>(try rw [aa])<;>decide)⟩ (by simp only [go_sem]) (by simp only [go_sem]) (by simp only [go_sem]) ?_
  rintro _ _ ⟨rfl,rfl⟩
  refine ⟨by simp only [go_sem];try omega,?_⟩
  simp only [go_sem]
  refine ⟨_,_,[100],id,⟨rfl,rfl⟩,?_⟩
  simp only [go_sem]
 rw [decide_eq_false k7]
 simp only [go_sem]
 refine ai E (fun g8=>?_) (fun g8=>?_)<;>simp only [go_sem]
 ·refine ab E _ _ _ (k8 g8) rfl rfl ⟨by simp only [go_sem],by first | (rw [aa];decide) | (simp only [go_sem]<;>(try rw [aa])<;>decide)⟩ (by simp only [go_sem]) (by simp only [go_sem]) (by simp only [go_sem]) ?_
  rintro _ _ ⟨rfl,rfl⟩
  refine ⟨by simp only [go_sem];try omega,?_⟩
  simp only [go_sem]
  refine ⟨_,_,[100],id,⟨rfl,rfl⟩,?_⟩
  simp only [go_sem]
 refine ai E (fun g9=>?_) (fun g9=>?_)<;>simp only [go_sem]
 ·refine ab E _ _ _ (k9 g9) rfl rfl ⟨by simp only [go_sem],by first | (rw [aa];decide) | (simp only [go_sem]<;>(try rw [aa])<;>decide)⟩ (by simp only [go_sem]) (by simp only [go_sem]) (by simp only [go_sem]) ?_
  rintro _ _ ⟨rfl,rfl⟩
  refine ⟨by simp only [go_sem];try omega,?_⟩
  simp only [go_sem]
  refine ⟨_,_,[100],id,⟨rfl,rfl⟩,?_⟩
  simp only [go_sem]
 refine ai E (fun g10=>?_) (fun g10=>?_)<;>simp only [go_sem]
 ·refine ab E _ _ _ (k10 g10) rfl rfl ⟨by simp only [go_sem],by first | (rw [aa];decide) | (simp only [go_sem]<;>(try rw [aa])<;>decide)⟩ (by simp only [go_sem]) (by simp only [go_sem]) (by simp only [go_sem]) ?_
  rintro _ _ ⟨rfl,rfl⟩
  refine ⟨by simp only [go_sem];try omega,?_⟩
  simp only [go_sem]
  refine ⟨_,_,[100],id,⟨rfl,rfl⟩,?_⟩
  simp only [go_sem]
 refine ai E (fun g12=>?_) (fun g12=>?_)<;>simp only [go_sem]
 ·refine ab E _ _ _ (k12 g12) rfl rfl ⟨by simp only [go_sem],by first | (rw [aa];decide) | (simp only [go_sem]<;>(try rw [aa])<;>decide)⟩ (by simp only [go_sem]) (by simp only [go_sem]) (by simp only [go_sem]) ?_
  rintro _ _ ⟨rfl,rfl⟩
  refine ⟨by simp only [go_sem];try omega,?_⟩
  simp only [go_sem]
  refine ⟨_,_,[100],id,⟨rfl,rfl⟩,?_⟩
  simp only [go_sem]
 refine ai E (fun g14=>?_) (fun g14=>?_)<;>simp only [go_sem]
 ·refine ab E _ _ _ (k14 g14) rfl rfl ⟨by simp only [go_sem],by first | (rw [aa];decide) | (simp only [go_sem]<;>(try rw [aa])<;>decide)⟩ (by simp only [go_sem]) (by simp only [go_sem]) (by simp only [go_sem]) ?_
  rintro _ _ ⟨rfl,rfl⟩
  refine ⟨by simp only [go_sem];try omega,?_⟩
  simp only [go_sem]
  refine ⟨_,_,[100],id,⟨rfl,rfl⟩,?_⟩
  simp only [go_sem]
 have hq:=hno g6 g8 g9 g10 g12 g14
 subst hq
 obtain rfl:w=4:=hw
 rw [b5 (by decide)] at hR
 obtain rfl:D.nils=R:=by injection hR with hR;injection hR
 refine ab E _ _ _ c4 rfl rfl ⟨by simp only [go_sem],by first | (rw [aa];decide) | (simp only [go_sem]<;>(try rw [aa])<;>decide)⟩ (by simp only [go_sem]) (by simp only [go_sem]) (by simp only [go_sem]) ?_
 rintro _ _ ⟨rfl,rfl⟩
 refine ⟨by simp only [go_sem];try omega,?_⟩
 simp only [go_sem]
 refine ⟨_,_,[100],id,⟨rfl,rfl⟩,?_⟩
 simp only [go_sem]
theorem tP (n:EN):∀ (k:Nat) (ts:List RT),(∀ j,j<ts.length→eh n (k+j)=true→dm (ts.getD j aC)=true)→gi n k ts=none
 | _,[],_=>by rw [gi]
 | k,t::r,h=>by
   have h0:=h 0 (by simp)
   rw [gi,if_neg (by
    simp only [Bool.and_eq_true,Bool.not_eq_true']
    rintro ⟨h1,h2⟩
    have:=h0 h1
    simp at this
    rw [this] at h2
    cases h2),tP n (k+1) r fun j hj hf=>by
    have:=h (j+1) (by simpa using hj) (by rw [← hf];congr 1;omega)
    simpa using this]
   rfl
theorem sU (n:EN):∀ (k:Nat) (ts:List RT) (j:Nat),j<ts.length→eh n (k+j)=true→dm (ts.getD j aC)=false→(∀ j',j' < j→eh n (k+j')=true→dm (ts.getD j' aC)=true) →
  gi n k ts=some ((stT (ts.getD j aC)).1,ts.set j (stT (ts.getD j aC)).2)
 | _,[],_,h,_,_,_=>absurd h (Nat.not_lt_zero _)
 | k,t::r,0,_,hf,hv,_=>by
   have hv:dm t=false:=by simpa using hv
   rw [gi,if_pos (by rw [show eh n k=true from hf,hv];rfl)]
   rfl
 | k,t::r,j+1,hj,hf,hv,ha=>by
   have h0:=ha 0 (by omega)
   rw [gi,if_neg (by
    simp only [Bool.and_eq_true,Bool.not_eq_true']
    rintro ⟨h1,h2⟩
    have:=h0 h1
    simp at this
    rw [this] at h2
    cases h2),sU n (k+1) r j (by simpa using hj) (by rw [← hf];congr 1;omega) (by simpa using hv) fun j' hj' hf'=>by
    have:=ha (j'+1) (by omega) (by rw [← hf'];congr 1;omega)
    simpa using this]
   rfl
end Go.Proofs.YtejpnabbmgpmaaaGreat

namespace Go.Proofs.YtejpnabbmgpmaaaGreat
open Go.Ab
theorem vg {n:EN}:(dM n).length≤(ah n).length∧∀ j,j<(ah n).length→((eh n j=true↔j<(dM n).length)∧((eh n j=true)→(dM n).getD j 0=(ah n).getD j 0)):=by
 unfold dM eh
 by_cases h1:n.k=6∨n.k=10∨n.k=11
 ·simp only [if_pos h1]
  exact ⟨Nat.le_refl _,fun j hj=>⟨by simp [hj],fun _=>by trivial⟩⟩
 simp only [if_neg h1]
 by_cases h2:n.k=7∨n.k=9∨n.k=12∨n.k=13∨n.k=14
 ·simp only [if_pos h2]
  obtain ⟨r,hr⟩:∃ r,ah n=n.a::r:=by
   rcases h2 with h | h | h | h | h
   ·exact ⟨_,ql (.inr (.inl h))⟩
   ·exact ⟨_,GF h⟩
   ·exact ⟨_,kf (.inr (.inl h))⟩
   ·exact ⟨_,kf (.inr (.inr h))⟩
   ·exact ⟨_,oN h⟩
  rw [hr]
  refine ⟨by simp,fun j hj=>⟨by simp,fun h=>?_⟩⟩
  have:j=0:=by simpa using h
  subst this
  rfl
 ·simp only [if_neg h2]
  exact ⟨Nat.zero_le _,fun j hj=>⟨by simp,fun h=>by cases h⟩⟩
theorem FY {ts:List RT} {q p:Nat} {x:RT} (hp:p<ts.length):(ts.set q x).getD p aC=if p=q then x else ts.getD p aC:=by
 rw [List.getD_eq_getElem?_getD,List.getElem?_set]
 by_cases h:q=p
 ·subst h
  simp [hp]
 ·rw [if_neg h,if_neg (fun e=>h e.symm)]
  rw [List.getD_eq_getElem?_getD]
theorem Cq {G} {xs:List EN} (h:Run xs):∀ (m i:Nat) (h0:Int),i<m→i<xs.length→HCall Tryz.prog G 75 [.at [100] 0,.d (i64 (i:Int))] (spO xs h0) [100] (fun r hp'=>r=.d (jz (stT (trE xs i)))∧hp'=spO xs (stT (trE xs i)).1)
 | 0,_,_,h,_=>absurd h (Nat.not_lt_zero _)
 | m+1,i,h0,him,hi=>by
   have ih:=Cq (G:=G) h m
   have ht:=h.t
   have hk:=av ht
   have hg:=aN hi
   have hsi:=oH ht _ (by rw [bd hi];exact List.getElem_mem hi:ndE xs i∈xs)
   have hkn:=ax hk hi
   have hgd:=dL ht h.rng hi
   have hlk:=xD ht xs.length i hi hi
   have hnd:=jX ht hi
   have hsz:=mg h hi
   rw [show rtE xs xs.length i=trE xs i from rfl] at hlk
   rw [Gz ht hi] at hgd hlk hsz ⊢
   obtain ⟨hfl,hfb⟩:=vg (n:=ndE xs i)
   have hcr:=F2 (G:=G) h hi
   have hkt:∀ q,q<(ah (ndE xs i)).length→∃ a:Nat,(ah (ndE xs i)).getD q 0=(a:Int)∧a<i∧(ktE xs i).getD q aC=trE xs a:=fun q hq=>by
    obtain ⟨a,h1,h2⟩:=bh ht hi (List.getElem_mem hq)
    refine ⟨a,by simp [hq,h1],h2,?_⟩
    unfold ktE
    simp [hq,h1]
   obtain ⟨ts,hts⟩:∃ ts,ts=ktE xs i:=⟨_,rfl⟩
   have htl:ts.length=(ah (ndE xs i)).length:=by rw [hts];exact List.length_map ..
   rw [← hts] at hcr hkt hgd hlk hsz ⊢
   have hkc:=dr (G:=G) (ndE xs i) (by omega)
   have hfc:=FA (G:=G) (ndE xs i) hsi
   obtain ⟨n,hne⟩:∃ n,n=ndE xs i:=⟨_,rfl⟩
   rw [← hne] at hg hsi hkn hnd hfl hfb hcr hkt htl hkc hfc hgd hlk hsz ⊢
   obtain ⟨K,hK⟩:∃ K,K=ah n:=⟨_,rfl⟩
   obtain ⟨F,hF⟩:∃ F,F=dM n:=⟨_,rfl⟩
   rw [← hK] at hkn hnd hfl hfb hkt htl hkc
   rw [← hF] at hfl hfb hfc
   have hKw:K.length=aG n:=by rw [hK,aV]
   have hKl:K.length≤900003:=by rw [hKw];unfold aG;have:=bJ n.k;split<;>omega
   obtain ⟨st,hst⟩:∃ st,st=stT (.mk (can n) ts):=⟨_,rfl⟩
   rw [← hst]
   obtain ⟨hw,hcn,hgl⟩:=(bj.1 hgd).1
   have htg:=(bj.1 hgd).2
   rw [RT.lk] at hlk
   obtain ⟨S,hS⟩:=oc st
   rw [hS]
   unfold spO at *
   refine aq Tryz.func75 rfl (by decide +kernel) (by simp [Tryz.ntmps75]) (veil fun E=>?_)
   simp only [go_sem]
   refine ⟨⟨by omega,by omega⟩,?_⟩
   rw [hg]
   simp only [go_sem]
   rw [dk n] at hkc hfc
   refine ab E _ [] [] hkc rfl rfl ⟨by simp only [go_sem],by rw [aa];decide⟩ rfl (by simp only [go_sem]) (by simp only [go_sem]) ?_
   rintro _ _ ⟨rfl,rfl⟩
   simp only [go_sem]
   refine iZ E [22,0] none (K.map i64) rfl (by simp only [go_sem];rfl) ?_
   simp only [go_sem]
   refine ae E (hfc) rfl rfl (by simp) ?_
   rintro _ rfl
   simp only [go_sem]
   refine cM E (X:={ q:Nat // q≤F.length∧∀ j,j<q→dm (ts.getD j aC)=true })
    (fun y=>[(0,.at [100] 0),(1,.d (i64 i)),(4,.at [4] 0),(5,.at [5] 0),(6,.d (.sl none (K.map i64))),(24,.d (.sl none (F.map i64))),(25,.d (i64 F.length)),(26,.d (i64 y.1))])
    (fun _=>[([100],.box [.d (.sl (some 9) (xs.map enD)),.d (i64 h0)]),([4],.box [.d .nils]),([5],.box [.d (i64 n.k),.d (i64 n.a),.d (i64 n.b),.d (i64 n.c),.d (i64 n.n),.d (.str n.name),.d (.str n.s),.d (.sl (some 3) (n.l.map fD)),.d (i64 n.pos)])]) [4,5,100] (fun y=>F.length-y.1) ⟨0,Nat.zero_le _,fun j hj=>absurd hj (Nat.not_lt_zero _)⟩ ?_ ?_
   ·simp only [go_sem]
    all_goals first | rfl | exact ⟨rfl,rfl⟩
   rintro ⟨q,hq,hva⟩ E0
   refine bb E0 fun Q' hQ E'=>?_
   simp only at hq hva ⊢
   simp only [go_sem]
   refine ai E' (fun f1=>?_) (fun f1=>?_)<;>simp only [go_sem]
   ·have hq':q<F.length:=by omega
    obtain ⟨a,ha,hai,hta⟩:=hkt q (by omega)
    have hfq:=(hfb q (by omega)).1.2 hq'
    have hFq:F.getD q 0=(a:Int):=((hfb q (by omega)).2 hfq).trans ha
    have c1:=FX (G:=G) ht h.may h0 (show a<xs.length by omega)
    have c2:=ih a h0 (by omega) (by omega)
    unfold spO at c1
    refine ⟨⟨by omega,by omega⟩,?_⟩
    rw [bk hq',hFq]
    simp only [go_sem]
    refine ab E' _ _ _ c1 rfl rfl ⟨by simp only [go_sem],by first | (rw [aa];decide) | (simp only [go_sem]<;>(try rw [aa])<;>decide)⟩ (by simp only [go_sem]) (by simp only [go_sem]) (by simp only [go_sem]) ?_
    rintro _ _ ⟨rfl,rfl⟩
    refine ⟨by simp only [go_sem];try omega,?_⟩
    simp only [go_sem]
    cases hv:dm (trE xs a) with
    | true =>
      simp only [go_sem]
      rw [ak ⟨by omega,by omega⟩,hQ]
      simp only [go_sem]
      refine ⟨⟨q+1,by omega,fun j hj=>?_⟩,by show F.length-(q+1)<_;omega,?_⟩
      ·by_cases e:j=q
       ·rw [e,hta,hv]
       ·exact hva j (by omega)
      ·first | rfl | exact ⟨rfl,rfl⟩
    | false =>
      simp only [go_sem]
      have hs:=sU (can n) 0 ts q (by omega) (by rw [Nat.zero_add];exact hfq) (by rw [hta,hv]) (fun j' hj' _=>hva j' hj')
      rw [hta] at hs
      have hst2:st=if (stT (trE xs a)).1=5 then (5,.mk (can n) (ts.set q (stT (trE xs a)).2)) else ((stT (trE xs a)).1,aC):=by
       rw [hst,stT,hs]
      have hsg:=nX (can n) 0 ts htg hlk.2 _ _ hs
      generalize stT (trE xs a)=u at c2 hst2 hsg
      obtain ⟨uh,ur⟩:=u
      simp only at c2 hst2 hsg
      by_cases h5:uh=5
      ·subst h5
       rw [if_pos rfl] at hst2
       rw [cN] at c2
       unfold exD at c2
       refine ab E' _ _ _ c2 rfl rfl ⟨by simp only [go_sem],by first | (rw [aa];decide) | (simp only [go_sem]<;>(try rw [aa])<;>decide)⟩ (by simp only [go_sem]) (by simp only [go_sem]) (by simp only [go_sem]) ?_
       rintro _ _ ⟨rfl,rfl⟩
       refine ⟨by simp only [go_sem];try omega,?_⟩
       simp only [go_sem]
       obtain ⟨us,hus⟩:∃ us,us=ts.set q ur:=⟨_,rfl⟩
       rw [← hus] at hsg hst2
       obtain ⟨hul,hug⟩:=hsg
       obtain ⟨hug,huz⟩:=hug rfl
       have hus2:∀ p,p<K.length→us.getD p aC=if p=q then ur else ts.getD p aC:=fun p hp=>by rw [hus,FY (by omega)]
       have hzz:szs us≤720000:=by
        rw [im] at hsz
        have:=Nat.mul_le_mul (show szs ts≤600 by omega) (show szs ts≤600 by omega)
        omega
       have c3:=Aw (G:=G) (n:=n) (ts:=us) hsi (by rw [← hKw,hul,htl]) hug (by omega) (by omega)
       rw [dk n] at c3
       refine lQ E' 10 98 (some 1) rfl (by rw [aa];decide) ?_
       simp only [go_sem]
       refine a9 E' (X:={ p:Nat // p≤K.length }) (fun y=>[(0,.at [100] 0),(1,.d (i64 i)),(4,.at [4] 0),(5,.at [5] 0),(6,.d (.sl none (K.map i64))),(8,.d (i64 a)),(9,.at [9] 0),(10,.vw [98] 0 y.1),(42,.d (.sl none (K.map i64))),(43,.d (i64 K.length)),(44,.d (i64 y.1))])
        (fun y=>[([100],.box [.d (.sl (some 9) (xs.map enD)),.d (i64 5)]),([4],.box [.d .nils]),([5],.box [.d (i64 n.k),.d (i64 n.a),.d (i64 n.b),.d (i64 n.c),.d (i64 n.n),.d (.str n.name),.d (.str n.s),.d (.sl (some 3) (n.l.map fD)),.d (i64 n.pos)]),([9],.box [.d (.sl (some 9) (ur.enc.map enD))]),([98],.arr (some 1) ((us.take y.1).map fun t=>exD t.enc))]) [98,9,4,5,100] (fun y=>K.length-y.1) ⟨0,Nat.zero_le _⟩ id ?_ ?_
       ·simp only [go_sem]
        all_goals first | rfl | exact ⟨rfl,rfl⟩
       rintro ⟨p,hp⟩ E2
       refine bb E2 fun Q2 hQ2 E3=>?_
       simp only at hp ⊢
       simp only [go_sem]
       refine ai E3 (fun g1=>?_) (fun g1=>?_)<;>simp only [go_sem]
       ·have hp':p<K.length:=by omega
        obtain ⟨b,hb,hbi,htb⟩:=hkt p hp'
        have hst3:us.take (p+1)=us.take p++[us.getD p aC]:=AL (by omega)
        rw [hus2 p hp'] at hst3
        refine ⟨⟨by omega,by omega⟩,?_⟩
        rw [bk hp',hb]
        simp only [go_sem]
        refine ai E3 (fun g2=>?_) (fun g2=>?_)<;>simp only [go_sem]
        ·have hpq:p=q:=by
          have h1:K[p]=(b:Int):=by simpa [hp'] using hb
          have h2:K[q]'(by omega)=(a:Int):=by simpa [show q<K.length by omega] using ha
          have h3:=List.Nodup.idxOf_getElem hnd p hp'
          have h4:=List.Nodup.idxOf_getElem hnd q (by omega)
          rw [h1,g2] at h3
          rw [h2] at h4
          omega
         rw [if_pos hpq] at hst3
         refine ⟨by omega,?_⟩
         rw [show List.take p (List.map (fun t:RT=>exD t.enc) (us.take p))++[.agg [.sl (some 9) (List.map enD (RT.enc ur))]]=(us.take (p+1)).map (fun t:RT=>exD t.enc) by
          rw [List.take_of_length_le (by rw [List.length_map,List.length_take];omega),hst3,List.map_append];rfl]
         rw [ak ⟨by omega,by omega⟩,hQ2]
         simp only [go_sem]
         refine ⟨⟨p+1,by omega⟩,by show K.length-(p+1)<_;omega,tau [([98],[54])],?_⟩
         simp only [go_sem]
         all_goals first | rfl | exact ⟨rfl,rfl⟩
        ·have hpq:p≠q:=by
          rintro rfl
          rw [ha] at hb
          exact g2 hb.symm
         rw [if_neg hpq,htb] at hst3
         have c4:=b7 (G:=G) ht h.may 5 (show b<xs.length by omega)
         rw [← cH ht (by omega)] at c4
         unfold spO exD at c4
         refine ab E3 _ _ _ c4 rfl rfl ⟨by simp only [go_sem],by first | (rw [aa];decide) | (simp only [go_sem]<;>(try rw [aa])<;>decide)⟩ (by simp only [go_sem]) (by simp only [go_sem]) (by simp only [go_sem]) ?_
         rintro _ _ ⟨rfl,rfl⟩
         refine ⟨by simp only [go_sem];try omega,?_⟩
         simp only [go_sem]
         refine ⟨by omega,?_⟩
         rw [show List.take p (List.map (fun t:RT=>exD t.enc) (us.take p))++[.agg [.sl (some 9) (List.map enD (RT.enc (trE xs b)))]]=(us.take (p+1)).map (fun t:RT=>exD t.enc) by
          rw [List.take_of_length_le (by rw [List.length_map,List.length_take];omega),hst3,List.map_append];rfl]
         rw [ak ⟨by omega,by omega⟩,hQ2]
         simp only [go_sem]
         refine ⟨⟨p+1,by omega⟩,by show K.length-(p+1)<_;omega,tau [([98],[60])],?_⟩
         simp only [go_sem]
         all_goals first | rfl | exact ⟨rfl,rfl⟩
       ·have h3:p=K.length:=by omega
        subst h3
        rw [hQ2,List.take_of_length_le (show us.length≤K.length by omega)]
        simp only [go_sem]
        refine iZ E' [98] (some 1) (us.map fun t=>exD t.enc) rfl (by simp only [go_sem];rfl) ?_
        simp only [go_sem]
        rw [List.take_of_length_le (by rw [List.length_map];omega)]
        refine ae E' c3 rfl rfl (by simp) ?_
        rintro _ rfl
        unfold exD
        simp only [go_sem]
        rw [hQ]
        simp only [go_sem]
        subst hst2
        rw [cN] at hS
        unfold exD at hS
        obtain rfl:D.sl (some 9) (List.map enD (RT.mk (can n) us).enc)=S:=by injection hS with hS;injection hS
        refine ⟨_,_,[100],id,⟨rfl,rfl⟩,?_⟩
        simp only [go_sem]
      ·rw [if_neg h5] at hst2
       rw [b5 h5] at c2
       refine ab E' _ _ _ c2 rfl rfl ⟨by simp only [go_sem],by first | (rw [aa];decide) | (simp only [go_sem]<;>(try rw [aa])<;>decide)⟩ (by simp only [go_sem]) (by simp only [go_sem]) (by simp only [go_sem]) ?_
       rintro _ _ ⟨rfl,rfl⟩
       refine ⟨by simp only [go_sem];try omega,?_⟩
       simp only [go_sem]
       rw [decide_eq_true h5]
       simp only [go_sem]
       rw [hQ]
       simp only [go_sem]
       subst hst2
       rw [b5 h5] at hS
       obtain rfl:D.nils=S:=by injection hS with hS;injection hS
       refine ⟨_,_,[100],id,⟨rfl,rfl⟩,?_⟩
       simp only [go_sem]
   ·have h3:q=F.length:=by omega
    subst h3
    have hs:=tP (can n) 0 ts (fun j hj hfj=>hva j ((hfb j (by omega)).1.1 (by rw [Nat.zero_add] at hfj;exact hfj)))
    have hst2:st=az (can n) ts:=by rw [hst,stT,hs]
    rw [hQ]
    simp only [go_sem]
    rw [← hst2,hS,dk n] at hcr
    refine ab E _ _ _ hcr rfl rfl ⟨by simp only [go_sem],by first | (rw [aa];decide) | (simp only [go_sem]<;>(try rw [aa])<;>decide)⟩ (by simp only [go_sem]) (by simp only [go_sem]) (by simp only [go_sem]) ?_
    rintro _ _ ⟨rfl,rfl⟩
    refine ⟨by simp only [go_sem];try omega,?_⟩
    simp only [go_sem]
    refine ⟨_,_,[100],id,⟨rfl,rfl⟩,?_⟩
    simp only [go_sem]
end Go.Proofs.YtejpnabbmgpmaaaGreat

namespace Go.Proofs.YtejpnabbmgpmaaaGreat
open Go.Ab
def ar (ns:List EN):List EN × Int × Int :=
 if bB ns≠0 then ([],0,bB ns) else if dm (trE ns (ns.length-1)) then (e6 ns,1,0) else
 if (stT (trE ns (ns.length-1))).1≠5 then (e6 ns,(stT (trE ns (ns.length-1))).1,0) else
 if bB (stT (trE ns (ns.length-1))).2.enc≠0 then ([],0,bB (stT (trE ns (ns.length-1))).2.enc) else ((stT (trE ns (ns.length-1))).2.enc,5,0)
def m8 (q:List EN × Int × Int):AV:=.tup [.d (if q.2.2=0 then exD q.1 else .agg [.nils]),.d (i64 q.2.1),.d (i64 q.2.2)]
structure Any (ns:List EN):Prop where
 sane:∀ n∈ns,fO BIG n
 few:ns.length≤1000000
 rng:∀ n∈ns,inR n.n
theorem uS {ns:List EN} (h:Run ns) (_hv:dm (trE ns (ns.length-1))=false) (h5:(stT (trE ns (ns.length-1))).1=5):Any (stT (trE ns (ns.length-1))).2.enc∧∀ n∈(stT (trE ns (ns.length-1))).2.enc,n.l.length≤30:=by
 have ht:=h.t
 have hp:=ht.pos
 have hgd:=dL ht h.rng (show ns.length-1<ns.length by omega)
 obtain ⟨g1,g2⟩:=rI _ hgd (xD ht ns.length (ns.length-1) (by omega) (by omega)) h5
 have hsz:=mg h (show ns.length-1<ns.length by omega)
 have:=Nat.mul_le_mul hsz hsz
 refine ⟨⟨fun n hn=>m5 (cT _ g1.rt n hn).1,?_,fun n hn=>(cT _ g1.rt n hn).2⟩,fun n hn=>ju (cT _ g1.rt n hn).1⟩
 show (stT (trE ns (ns.length-1))).2.sz≤_
 omega
set_option maxHeartbeats 1000000 in
theorem v9 {G} (ns:List EN) (ha:Any ns):HP Tryz.prog G 32 [exD ns] (fun r=>r=m8 (ar ns)):=by
 obtain ⟨R,hR⟩:∃ R,R=ar ns:=⟨_,rfl⟩
 rw [← hR]
 unfold ar at hR
 by_cases hm:bB ns=0
 ·have h:Run ns:=⟨hm,ha.rng⟩
  have ht:=h.t
  have hp:=ht.pos
  rw [if_neg (by simp [hm])] at hR
  have hi:ns.length-1<ns.length:=by omega
  have c1:=xA (G:=G) ht hm
  have hx:=nU h hi
  have hxp:=hx.t.pos
  have htx:=qX ht hi
  have c2:=Dy (G:=G) hx.t hx.may
  have c3:=Cq (G:=G) hx (sbE ns (ns.length-1)).length ((sbE ns (ns.length-1)).length-1) 0 (by omega) (by omega)
  rw [htx] at c2 c3
  have hsf:=uS h
  have hxl:(sbE ns (ns.length-1)).length≤600:=hx.t.few
  unfold e6 at c1 hR
  generalize sbE ns (ns.length-1)=X at *
  generalize trE ns (ns.length-1)=t at *
  cases hv:dm t with
  | true =>
    rw [hv,if_pos rfl] at hR
    subst hR
    rw [hv] at c2
    unfold exD at *
    refine aR Tryz.func32 rfl (by decide +kernel) (by simp [Tryz.ntmps32]) (veil fun E=>?_)
    simp only [go_sem]
    refine ae E (c1) rfl rfl (by simp) ?_
    rintro _ rfl
    simp only [go_sem]
    refine ae E (c2) rfl rfl (by simp) ?_
    rintro _ rfl
    simp only [go_sem]
    unfold m8
    refine ⟨[],?_⟩
    simp only [go_sem]
    rfl
  | false =>
    rw [hv,if_neg (by decide)] at hR
    rw [hv] at c2
    obtain ⟨q,hq⟩:∃ q,q=stT t:=⟨_,rfl⟩
    have hsf:=hsf hv
    rw [← hq] at c3 hR hsf
    obtain ⟨S,hS⟩:=oc q
    rw [hS,show ((X.length-1:Nat):Int)=(X.length:Int)-1 by omega] at c3
    unfold spO at c3
    unfold exD at c1 c2 ⊢
    refine aR Tryz.func32 rfl (by decide +kernel) (by simp [Tryz.ntmps32]) (veil fun E=>?_)
    simp only [go_sem]
    refine ae E (c1) rfl rfl (by simp) ?_
    rintro _ rfl
    simp only [go_sem]
    refine ae E (c2) rfl rfl (by simp) ?_
    rintro _ rfl
    simp only [go_sem]
    rw [ak ⟨by omega,by omega⟩]
    refine cL E (tau [([100],[25])]) _ _ _ c3 rfl (by simp only [go_sem];try rfl) ⟨by simp only [go_sem],by first | (rw [aa];decide) | (simp only [go_sem]<;>(try rw [aa])<;>decide)⟩ rfl (by simp only [go_sem];try rfl) (by simp only [go_sem]) ?_
    rintro _ _ ⟨rfl,rfl⟩
    refine ⟨by simp only [go_sem];try simp;try omega,?_⟩
    simp only [go_sem]
    by_cases h5:q.1=5
    ·rw [decide_eq_false (show ¬ ¬ q.1=5 by simp [h5])]
     rw [if_neg (by simp [h5])] at hR
     obtain ⟨g1,_⟩:=hsf h5
     have c4:=jO (G:=G) q.2.enc g1.sane g1.few
     obtain ⟨qh,qt⟩:=q
     simp only at h5 hR c4 hS
     subst h5
     rw [cN] at hS
     unfold exD at hS
     obtain rfl:D.sl (some 9) (List.map enD qt.enc)=S:=by injection hS with hS;injection hS
     generalize qt.enc=Y at *
     unfold exD at c4
     simp only [go_sem]
     refine ae E (c4) rfl rfl (by simp) ?_
     rintro _ rfl
     simp only [go_sem]
     by_cases hy:bB Y=0
     ·rw [decide_eq_false (show ¬ ¬ bB Y=0 by simp [hy])]
      rw [if_neg (by simp [hy])] at hR
      subst hR
      simp only [go_sem]
      unfold m8
      refine ⟨[],?_⟩
      simp only [go_sem]
      rfl
     ·rw [decide_eq_true hy]
      rw [if_pos hy] at hR
      subst hR
      simp only [go_sem]
      unfold m8
      refine ⟨[],?_⟩
      simp only [go_sem]
      rw [if_neg hy]
    ·rw [decide_eq_true h5]
     rw [if_pos h5] at hR
     subst hR
     simp only [go_sem]
     refine aj mixed E fun X2=>?_
     simp only [go_sem]
     refine bS X2 (d:=39) [25] 0 none [.d (.sl (some 9) (X.map enD)),.d (i64 q.1)] (by simp only [go_sem]) rfl rfl ?_
     simp only [go_sem]
     refine ⟨by decide +kernel,?_⟩
     unfold m8
     refine ⟨[],?_⟩
     simp only [go_sem]
     rfl
 ·rw [if_pos hm] at hR
  subst hR
  have c1:=xy (G:=G) hm ha.sane ha.few
  generalize bB ns=m at *
  unfold exD at *
  refine aR Tryz.func32 rfl (by decide +kernel) (by simp [Tryz.ntmps32]) (veil fun E=>?_)
  simp only [go_sem]
  refine ae E (c1) rfl rfl (by simp) ?_
  rintro _ rfl
  simp only [go_sem]
  rw [decide_eq_true hm]
  simp only [go_sem]
  unfold m8
  refine ⟨[],?_⟩
  simp only [go_sem]
  rw [if_neg hm]
end Go.Proofs.YtejpnabbmgpmaaaGreat

namespace Go.Proofs.YtejpnabbmgpmaaaGreat
open Go.Ab
end Go.Proofs.YtejpnabbmgpmaaaGreat

namespace Go.Ab
section
variable {P:Program} {cf:Cf} {ops:Array Oper} {K:St→Ns→Prop} {r:List Oper} {s:St} {ns:Ns}
end
end Go.Ab

namespace Go.Proofs.YtejpnabbmgpmaaaGreat
open Go.Ab
structure Low (ns:List EN):Prop where
 len:ns.length≤1000000
 l:∀ n∈ns,n.l.length≤900000
 k:∀ i,i<ns.length→(ah (ndE ns i)).all (inB i)=true
end Go.Proofs.YtejpnabbmgpmaaaGreat

namespace Go.Proofs.YtejpnabbmgpmaaaGreat
open Go.Ab
end Go.Proofs.YtejpnabbmgpmaaaGreat

namespace Go.Proofs.YtejpnabbmgpmaaaGreat
open Go.Ab
def pn (ns:List EN):Prop:=∀ i,i<ns.length→∀ k∈ah (ndE ns i),0≤k∧k<(i:Int)
theorem xF {a b:List EN} {i:Nat} (h:i<a.length):ndE (a++b) i=ndE a i:=by unfold ndE;simp [List.getElem?_append_left h]
theorem uJ {a b:List EN} {i:Nat} (h:a.length≤i):ndE (a++b) i=ndE b (i-a.length):=by unfold ndE;simp [List.getElem?_append_right h]
theorem CQ {a b:List EN} (h:pn a) (hb:pn b):pn (a++b.map (aF a.length)):=fun i hi k hk=>by
 by_cases h1:i<a.length
 ·rw [xF h1] at hk
  exact h i h1 k hk
 ·rw [List.length_append,List.length_map] at hi
  rw [uJ (by omega)] at hk
  have h2:i-a.length<b.length:=by omega
  have:ndE (b.map (aF a.length)) (i-a.length)=aF a.length (ndE b (i-a.length)):=by simp [ndE,h2]
  rw [this,eV] at hk
  obtain ⟨q,hq,rfl⟩:=List.mem_map.1 hk
  have:=hb _ h2 q hq
  omega
theorem s6:∀ (ls:List (List EN)) (acc:List EN) (rs:List Int),(∀ l∈ls,pn l∧0<l.length)→pn acc→(∀ k∈rs,0≤k∧k<(acc.length:Int))→pn (bl ls acc rs).1∧∀ k∈(bl ls acc rs).2,0≤k∧k<((bl ls acc rs).1.length:Int)
 | [],_,_,_,h1,h2=>⟨h1,h2⟩
 | l::r,acc,rs,hl,h1,h2=>by
   obtain ⟨g1,g2⟩:=hl l List.mem_cons_self
   refine s6 r _ _ (fun x hx=>hl x (List.mem_cons_of_mem _ hx)) (CQ h1 g1) (fun k hk=>?_)
   rw [List.length_append,List.length_map]
   rcases List.mem_append.1 hk with hk | hk
   ·have:=h2 k hk;omega
   ·rw [List.mem_singleton.1 hk];omega
theorem zP {n:EN} {ls:List (List EN)} (hw:aG n=ls.length) (h:∀ l∈ls,pn l∧0<l.length):pn (aD n ls):=by
 obtain ⟨h1,h2⟩:=s6 ls [] [] h (fun _ h=>absurd h (Nat.not_lt_zero _)) (fun _ h=>by cases h)
 have hr:=uD ls
 unfold aD
 generalize (bl ls [] []).1=acc at *
 generalize (bl ls [] []).2=rs at *
 intro i hi k hk
 by_cases g:i<acc.length
 ·rw [xF g] at hk
  exact h1 i g k hk
 ·rw [List.length_append,List.length_singleton] at hi
  rw [uJ (by omega),show i-acc.length=0 by omega,show ndE [aI n rs] 0=aI n rs from rfl,bY (by omega)] at hk
  have:=h2 k hk
  omega
mutual
theorem uI:∀ t:RT,t.ok→pn t.enc∧0<t.enc.length
 | .mk n ts,h=>by
   rw [RT.ok] at h
   refine ⟨?_,iT _⟩
   rw [RT.enc]
   exact zP (by rw [iE];exact h.1.1) (pY ts h.2)
theorem pY:∀ ts:List RT,RT.oks ts→∀ l∈RT.encs ts,pn l∧0<l.length
 | [],_,l,hl=>by rw [RT.encs] at hl;cases hl
 | t::r,h,l,hl=>by
   rw [RT.oks] at h
   rw [RT.encs] at hl
   rcases List.mem_cons.1 hl with rfl | hl
   ·exact uI t h.1
   ·exact pY r h.2 l hl
end
theorem Eh {t:RT} (h:t.good) (hs:t.sz≤1000000):Low t.enc:=by
 refine ⟨hs,fun n hn=>?_,fun i hi=>List.all_eq_true.2 fun k hk=>?_⟩
 ·have:=ju (cT t h.rt n hn).1
  omega
 ·have:=(uI t h.ok).1 i hi k hk
  simp [inB,this]
end Go.Proofs.YtejpnabbmgpmaaaGreat

namespace Go.Proofs.YtejpnabbmgpmaaaGreat
open Go.Ab
end Go.Proofs.YtejpnabbmgpmaaaGreat

namespace Go.Proofs.YtejpnabbmgpmaaaGreat
open Go.Ab
theorem D9 {G} (ns:List EN) (h1:1≤ns.length) (h2:ns.length≤1000000):HP Tryz.prog G 244 [exD ns] (fun r=>r=.d (enD (ndE ns (ns.length-1)))):=by
 have hg:=aN (show ns.length-1<ns.length by omega)
 generalize ndE ns (ns.length-1)=n at *
 rw [dk n]
 unfold exD
 refine aR Tryz.func244 rfl (by decide +kernel) (by simp [Tryz.ntmps244]) (veil fun E=>?_)
 simp only [go_sem]
 rw [ak ⟨by omega,by omega⟩]
 refine ⟨⟨by omega,by omega⟩,?_⟩
 rw [show ((ns.length:Int)-1).toNat=ns.length-1 by omega,hg]
 simp only [go_sem]
 refine ⟨[],?_⟩
 simp only [go_sem]
end Go.Proofs.YtejpnabbmgpmaaaGreat

namespace Go.Proofs.YtejpnabbmgpmaaaGreat
open Go.Ab
def rtN (t:RT):EN:=ndE t.enc (t.enc.length-1)
theorem Fk {t:RT} (h:t.good) (hs:t.sz≤1000000):t=.mk (can (rtN t)) ((ah (rtN t)).map fun k=>trE t.enc k.toNat):=by
 have hp:1≤t.enc.length:=iT t
 have:=ui (Eh h hs).k (i:=t.enc.length-1) (by omega)
 rw [lR h.ok] at this
 exact this
theorem Ct {t:RT} (h:t.good) (hs:t.sz≤1000000):t.lab=can (rtN t):=by
 conv=>lhs;rw [Fk h hs]
 rfl
end Go.Proofs.YtejpnabbmgpmaaaGreat

namespace Go.Proofs.YtejpnabbmgpmaaaGreat
open Go.Ab
structure Rdx (n:EN) (ts:List RT):Prop where
 g:(RT.mk (can n) ts).good
 l:n.l.length≤900000
 s:(RT.mk (can n) ts).sz≤600
 k:n.k=8→(ts.getD 0 aC).lab.k=5
section
variable {n:EN} {ts:List RT} (h:Rdx n ts)
include h
theorem Rdx.at {j:Nat} (hj:j<ts.length):(ts.getD j aC).good∧(ts.getD j aC).sz≤600:=by
 have hm:=kL hj
 have h1:=lY (t:=.mk (can n) ts) hm
 have h2:=h.s
 exact ⟨(bj.1 h.g).2 _ hm,by omega⟩
theorem Rdx.wide:aG n=ts.length:=by
 have:=(bj.1 h.g).1.1
 rwa [nt] at this
theorem Rdx.root {G} {j:Nat} (hj:j<ts.length):HP Tryz.prog G 244 [.agg [.sl (some 9) ((ts.getD j aC).enc.map enD)]] (fun r=>r=.d (enD (rtN (ts.getD j aC)))):=by
 obtain ⟨h1,h2⟩:=h.at hj
 have hp:1≤(ts.getD j aC).enc.length:=iT _
 have hs:(ts.getD j aC).enc.length≤600:=h2
 exact D9 _ hp (by omega)
theorem Rdx.lab {j:Nat} (hj:j<ts.length):(ts.getD j aC).lab=can (rtN (ts.getD j aC)):=by
 obtain ⟨h1,h2⟩:=h.at hj
 exact Ct h1 (by omega)
end
end Go.Proofs.YtejpnabbmgpmaaaGreat

namespace Go.Proofs.YtejpnabbmgpmaaaGreat
open Go.Ab
end Go.Proofs.YtejpnabbmgpmaaaGreat

