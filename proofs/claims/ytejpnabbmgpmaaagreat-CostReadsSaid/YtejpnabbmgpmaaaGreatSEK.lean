/-
  Trees as such: what stands below a node, put together. (with the parts that follow it)
-/
import Derived.Test.YtejpnabbmgpmaaaGreatSEJ
import Derived.Test.YtejpnabbmgpmaaaGreatSEH
import Derived.Test.YtejpnabbmgpmaaaGreatSEF
import Derived.Test.YtejpnabbmgpmaaaGreatSEI
import Derived.Test.YtejpnabbmgpmaaaGreatSEG
set_option linter.all false
namespace Go.Proofs.YtejpnabbmgpmaaaGreat
open Go.Ab
inductive RT where
 | mk (n:EN) (ts:List RT)
mutual
def RT.enc:RT→List EN
 | .mk n ts=>au n (RT.encs ts)
def RT.encs:List RT→List (List EN)
 | []=>[]
 | t::r=>t.enc::RT.encs r
end
def can (n:EN):EN:=bk n (List.replicate (bf n) 0)
end Go.Proofs.YtejpnabbmgpmaaaGreat

namespace Go.Proofs.YtejpnabbmgpmaaaGreat
open Go.Ab
mutual
def RT.ok:RT→Prop
 | .mk n ts=>(bf n=ts.length∧can n=n)∧RT.oks ts
def RT.oks:List RT→Prop
 | []=>True
 | t::r=>t.ok∧RT.oks r
end
end Go.Proofs.YtejpnabbmgpmaaaGreat

namespace Go.Proofs.YtejpnabbmgpmaaaGreat
open Go.Ab
theorem lK {β:Type} (g:EF→β) (hg:∀ (f:EF) (v:Int),g { f with to:=v }=g f) (ks:List Int) (o:Nat):∀ (l:List EF) (i:Nat),(aX ks o l i).map g=l.map g
 | [],_=>rfl
 | f::r,i=>by
   rw [aX,List.map_cons,List.map_cons,lK g hg ks o r (i+1)]
   split
   ·rw [hg]
   ·rfl
theorem all_map' {α:Type} (p:α→Bool):∀ l:List α,l.all p=(l.map p).all id
 | []=>rfl
 | x::r=>by rw [List.all_cons,List.map_cons,List.all_cons,all_map' p r];rfl
theorem vC {n:EN} {ks:List Int} (h:bL n=true):bL (bk n ks)=true:=by
 unfold bL at h ⊢
 simp only [Bool.and_eq_true] at h
 obtain ⟨h1,⟨⟨h2,h3⟩,h4⟩,_⟩:=h
 have e1:ib (bk n ks)=ib n:=rfl
 have e2:dY (bk n ks)=dY n:=rfl
 have e3:bY (bk n ks)=true:=by
  unfold bY at h4 ⊢
  rw [m9]
  by_cases hp:aH n.k=true
  ·rw [if_pos hp] at h4 ⊢
   have hl:(bk n ks).l=aX ks (aF n.k) n.l 0:=by show (if aH n.k then _ else [])=_;rw [if_pos hp]
   rw [hl,all_map',lK (fL n.k) (fun f v=>by unfold fL;rfl),← all_map',dm,lK (·.nm) (fun _ _=>rfl)]
   exact h4
  ·rw [if_neg hp]
   have hl:(bk n ks).l=[]:=by show (if aH n.k then _ else [])=_;rw [if_neg hp]
   rw [hl]
   rfl
 have e4:ff (bk n ks)=true:=by
  unfold ff
  rw [m9]
  show ([if 0<aF n.k then ks.getD 0 0 else 0,if 1<aF n.k then ks.getD 1 0 else 0,if 2<aF n.k then ks.getD 2 0 else 0].drop (aF n.k)).all _=true
  have:=bB n.k
  generalize aF n.k=q at this
  match q,this with
  | 0,_=>simp
  | 1,_=>simp
  | 2,_=>simp
  | 3,_=>simp
 have e5:(bk n ks).pos=n.pos:=rfl
 rw [e1,e2,e3,e4,e5,m9,h2,h3]
 simp only [Bool.and_eq_true] at h1 ⊢
 exact ⟨h1,by simp⟩
end Go.Proofs.YtejpnabbmgpmaaaGreat

namespace Go.Proofs.YtejpnabbmgpmaaaGreat
open Go.Ab
def GL (n:EN):Prop:=bL n=true∧inR n.n
theorem GL.with {n:EN} (ks:List Int) (h:GL n):GL (bk n ks):=⟨vC h.1,h.2⟩
mutual
def RT.rt:RT→Prop
 | .mk n ts=>GL n∧RT.rts ts
def RT.rts:List RT→Prop
 | []=>True
 | t::r=>t.rt∧RT.rts r
end
structure RT.good (t:RT):Prop where
 ok:t.ok
 rt:t.rt
def mQ:RT:=.mk (can (ndE [] 0)) []
def RT.lab:RT→EN
 | .mk n _=>n
def RT.kids:RT→List RT
 | .mk _ ts=>ts
def RT.kid (t:RT) (j:Nat):RT:=t.kids.getD j mQ
mutual
def IV:RT→Bool
 | .mk n ts=>if n.k=11∨n.k=13 then F3 ts else decide (n.k=1) || decide (n.k=2) || decide (n.k=3) || decide (n.k=5)
def F3:List RT→Bool
 | []=>true
 | t::r=>IV t && F3 r
end
def GK (n:EN) (k:Nat) (x:List UInt8):Bool :=
 if n.k=5∨n.k=8 then n.name == x else if n.k=7 then (n.name == x) && decide (k=1) else if n.k=14 then decide (0<k) && ((fdE n.l (k-1)).var == x) else false
mutual
def Ak (x:List UInt8) (v:RT):RT→RT
 | .mk n ts=>if n.k=4∧n.name=x then v else .mk n (FT x v n 0 ts)
def FT (x:List UInt8) (v:RT) (n:EN):Nat→List RT→List RT
 | _,[]=>[]
 | k,t::r=>(if GK n k x then t else Ak x v t)::FT x v n (k+1) r
end
def RT.sz (t:RT):Nat:=t.enc.length
def F2 (n:EN):RT:=.mk (can n) []
def HA (n a b:EN):Int × RT :=
 if n.n=7 then (if a.k=3∧b.k=3 then (5,F2 ⟨3,0,0,0,0,[],(a.s++b.s).take 200,[],n.pos⟩) else (4,mQ))
 else if a.k=1∧b.k=1 then (if Ib n.n b.n≠0 then (2,mQ) else (5,F2 ⟨if 5≤n.n then 2 else 1,0,0,0,HT n.n a.n b.n,[],[],[],n.pos⟩)) else (4,mQ)
def DH (n:EN) (f:RT):RT :=
 if f.lab.name=n.name then f else .mk (can ⟨5,0,0,0,0,f.lab.name,[],[],f.lab.pos⟩) [.mk (can ⟨8,0,0,0,0,n.name,[],[],n.pos⟩) [f,f.kid 0]]
def A0 (l:List EF) (x:List UInt8):Nat:=l.findIdx fun f=>f.nm == x
def GJ (n:EN) (ts:List RT):Int × RT :=
 let c:=fun j=>ts.getD j mQ
 if n.k=6 then (if (c 0).lab.k=5 then (5,Ak (c 0).lab.name (c 1) ((c 0).kid 0)) else (4,mQ))
 else if n.k=7 then (5,Ak n.name (c 0) (c 1))
 else if n.k=8 then (5,Ak n.name (DH n (c 0)) (c 1))
 else if n.k=9 then (if (c 0).lab.k=2 then (5,if (c 0).lab.n=1 then c 1 else c 2) else (4,mQ))
 else if n.k=10 then HA n (c 0).lab (c 1).lab
 else if n.k=12 then (if (c 0).lab.k=11∧A0 (c 0).lab.l n.name<(c 0).lab.l.length then (5,(c 0).kid (A0 (c 0).lab.l n.name)) else (4,mQ))
 else if n.k=14 then (if (c 0).lab.k=13∧A0 n.l (c 0).lab.name<n.l.length then (5,Ak (fdE n.l (A0 n.l (c 0).lab.name)).var ((c 0).kid 0) (c (A0 n.l (c 0).lab.name+1))) else (4,mQ))
 else (4,mQ)
def Gq (n:EN) (k:Nat):Bool:=if n.k=6∨n.k=10∨n.k=11 then true else if n.k=7∨n.k=9∨n.k=12∨n.k=13∨n.k=14 then decide (k=0) else false
mutual
def stT:RT→Int × RT
 | .mk n ts=>match HW n 0 ts with
   | none=>GJ n ts
   | some (h,us)=>if h=5 then (5,.mk n us) else (h,mQ)
def HW (n:EN):Nat→List RT→Option (Int × List RT)
 | _,[]=>none
 | k,t::r=>if Gq n k && !IV t then some ((stT t).1,(stT t).2::r) else (HW n (k+1) r).map fun q=>(q.1,t::q.2)
end
end Go.Proofs.YtejpnabbmgpmaaaGreat

namespace Go.Proofs.YtejpnabbmgpmaaaGreat
open Go.Ab
mutual
def RT.lk:RT→Prop
 | .mk n ts=>(n.k=8→(ts.getD 0 mQ).lab.k=5)∧RT.lks ts
def RT.lks:List RT→Prop
 | []=>True
 | t::r=>t.lk∧RT.lks r
end
theorem Gg {n:EN} (h:aH n.k=false):bf n=aF n.k:=by unfold bf;rw [h];rfl
end Go.Proofs.YtejpnabbmgpmaaaGreat

namespace Go.Proofs.YtejpnabbmgpmaaaGreat
open Go.Ab
def RwN (x:D) (n:EN):Prop:=∃ F,x=.agg [i64 n.k,i64 n.a,i64 n.b,i64 n.c,i64 n.n,.str n.name,.str n.s,F,i64 n.pos]∧(F=.nils∧n.l=[]∨F=efD n.l)
def RwL:List D→List EN→Prop
 | [],[]=>True
 | x::xs,n::ns=>RwN x n∧RwL xs ns
 | _,_=>False
theorem RwL.len:∀ {xs:List D} {ns:List EN},RwL xs ns→xs.length=ns.length
 | [],[],_=>rfl
 | _::_,_::_,h=>by simp [RwL.len h.2]
 | [],_::_,h=>h.elim
 | _::_,[],h=>h.elim
theorem RwL.get:∀ {xs:List D} {ns:List EN},RwL xs ns→∀ (i:Nat) x n,xs[i]?=some x→ns[i]?=some n→RwN x n
 | [],_,_,i,x,n,h,_=>by simp at h
 | _::_,[],h,_,_,_,_,_=>h.elim
 | x::xs,n::ns,h,0,_,_,h1,h2=>by simp at h1 h2;subst h1;subst h2;exact h.1
 | x::xs,n::ns,h,i+1,y,m,h1,h2=>h.2.get i y m (by simpa using h1) (by simpa using h2)
theorem Ht (n:EN):okW (some 9) (enD n):=⟨rfl,by simp [efD,D.scal]⟩
end Go.Proofs.YtejpnabbmgpmaaaGreat

namespace Go.Proofs.YtejpnabbmgpmaaaGreat
open Go.Ab
end Go.Proofs.YtejpnabbmgpmaaaGreat

namespace Go.Proofs.YtejpnabbmgpmaaaGreat
open Go.Ab
end Go.Proofs.YtejpnabbmgpmaaaGreat

namespace Go.Proofs.YtejpnabbmgpmaaaGreat
open Go.Ab
end Go.Proofs.YtejpnabbmgpmaaaGreat

namespace Go.Proofs.YtejpnabbmgpmaaaGreat
open Go.Ab
def Ja (q:Int × RT):D:=if q.1=5 then exD q.2.enc else .agg [.nils]
theorem qG {h:Int} {t:RT} (hh:h≠5):Ja (h,t)=.agg [.nils]:=if_neg hh
structure Run (xs:List EN):Prop where
 may:cA xs=0
 rng:∀ n∈xs,inR n.n
theorem Run.t {xs:List EN} (h:Run xs):cV xs:=sh h.may
theorem mN (n:EN):enD n=.agg [i64 n.k,i64 n.a,i64 n.b,i64 n.c,i64 n.n,.str n.name,.str n.s,.sl (some 3) (n.l.map fD),i64 n.pos]:=rfl
end Go.Proofs.YtejpnabbmgpmaaaGreat

namespace Go.Proofs.YtejpnabbmgpmaaaGreat
open Go.Ab
end Go.Proofs.YtejpnabbmgpmaaaGreat

namespace Go.Proofs.YtejpnabbmgpmaaaGreat
open Go.Ab
end Go.Proofs.YtejpnabbmgpmaaaGreat

namespace Go.Proofs.YtejpnabbmgpmaaaGreat
open Go.Ab
end Go.Proofs.YtejpnabbmgpmaaaGreat

namespace Go.Proofs.YtejpnabbmgpmaaaGreat
open Go.Ab
end Go.Proofs.YtejpnabbmgpmaaaGreat

namespace Go.Proofs.YtejpnabbmgpmaaaGreat
open Go.Ab
end Go.Proofs.YtejpnabbmgpmaaaGreat

namespace Go.Proofs.YtejpnabbmgpmaaaGreat
open Go.Ab
end Go.Proofs.YtejpnabbmgpmaaaGreat

namespace Go.Proofs.YtejpnabbmgpmaaaGreat
open Go.Ab
structure Any (ns:List EN):Prop where
 sane:∀ n∈ns,dc BIG n
 few:ns.length≤1000000
 rng:∀ n∈ns,inR n.n
end Go.Proofs.YtejpnabbmgpmaaaGreat

namespace Go.Proofs.YtejpnabbmgpmaaaGreat
open Go.Ab
theorem vz {ks:List Int} {o:Nat} {l:List EF} {q:Nat} (hq:q<l.length) (hk:o+l.length≤ks.length):aX ks o (l.take (q+1)) 0=aX ks o (l.take q) 0++[{ fdE l q with to:=ks.getD (o+q) 0 }]:=by
 rw [List.take_succ_eq_append_getElem hq,l5]
 simp only [aX,Nat.zero_add,List.length_take,Nat.min_eq_left (Nat.le_of_lt hq)]
 rw [if_pos (by omega),show fdE l q=l[q] by simp [fdE,hq]]
set_option maxHeartbeats 1000000 in
theorem wG {G} (n:EN) (ks:List Int) (hl:n.l.length≤900000) (hw:ks.length=bf n):HP Tryz.prog G 143 [enD n,.sl none (ks.map i64)] (fun r=>r=.d (enD (bk n ks))):=by
 have hk3:=bB n.k
 obtain ⟨a,ha⟩:∃ a,a=if 0<aF n.k then ks.getD 0 0 else 0:=⟨_,rfl⟩
 obtain ⟨b,hb⟩:∃ b,b=if 1<aF n.k then ks.getD 1 0 else 0:=⟨_,rfl⟩
 obtain ⟨c,hc⟩:∃ c,c=if 2<aF n.k then ks.getD 2 0 else 0:=⟨_,rfl⟩
 obtain ⟨L,hL⟩:∃ L,L=if aH n.k then aX ks (aF n.k) n.l 0 else []:=⟨_,rfl⟩
 have hR:bk n ks={ n with a:=a,b:=b,c:=c,l:=L }:=by rw [ha,hb,hc,hL];rfl
 rw [hR,mN n]
 rw [show enD { n with a:=a,b:=b,c:=c,l:=L }=.agg [i64 n.k,i64 a,i64 b,i64 c,i64 n.n,.str n.name,.str n.s,.sl (some 3) (L.map fD),i64 n.pos] from rfl]
 refine gf Tryz.func143 rfl (by decide +kernel) (by simp [Tryz.ntmps143]) fun B0 hB0=>?_
 refine aA (ao fun E=>?_)
 simp only [go_sem]
 refine aA (ao fun E=>?_)
 simp only [go_sem]
 refine aA (ao fun E=>?_)
 simp only [go_sem]
 refine rA [5] 7 99 (some 3) _ rfl rfl (by rw [aa];decide) ?_
 simp only [go_sem]
 refine aA (ao fun E=>?_)
 simp only [go_sem]
 refine aA (lW [(1,.d (.sl none (ks.map i64))),(2,.bx [2] 0),(4,.bx [4] 0),(5,.bx [5] 0),(6,.d (i64 (aF n.k:Nat)))]
  [([2],.box [.d (i64 n.k),.d (i64 n.a),.d (i64 n.b),.d (i64 n.c),.d (i64 n.n),.d (.str n.name),.d (.str n.s),.d (.sl (some 3) (n.l.map fD)),.d (i64 n.pos)]),([4],.box [.d (i64 0),.d (i64 0),.d (i64 0),.d (i64 0),.d (i64 0),.d (.str []),.d (.str []),.d .nils,.d (i64 0)]),([5],.box [.d (i64 n.k),.d (i64 0),.d (i64 0),.d (i64 0),.d (i64 n.n),.d (.str n.name),.d (.str n.s),.vw [99] 0 L.length,.d (i64 n.pos)]),([99],.arr (some 3) (L.map fD))]
  [2,4,5,99] (fun E=>?_) ?_)
 ·simp only [go_sem]
  by_cases hp:n.k=11∨n.k=14
  ·have hpz:aH n.k=true:=by rcases hp with h | h<;>rw [h]<;>rfl
   rw [hpz,if_pos rfl] at hL
   have hwl:ks.length=aF n.k+n.l.length:=by rw [hw];unfold bf;rw [hpz];rfl
   have hLl:L.length=n.l.length:=by rw [hL,dm]
   rcases hp with hx | hx
   all_goals
    first
    | (rw [decide_eq_true (show n.k=11 from hx)];simp only [go_sem])
    | (rw [decide_eq_false (show ¬ n.k=11 by omega)];simp only [go_sem];rw [decide_eq_true (show n.k=14 from hx)];simp only [go_sem])
    rw [ai ⟨by omega,by omega⟩,show (ks.length:Int)-(n.l.length:Int)=(aF n.k:Nat) by omega]
    refine az E (X:={ q:Nat // q≤n.l.length }) (fun y=>[(1,.d (.sl none (ks.map i64))),(2,.bx [2] 0),(4,.bx [4] 0),(5,.bx [5] 0),(6,.d (i64 (aF n.k:Nat))),(7,.d (i64 y.1))])
     (fun y=>[([2],.box [.d (i64 n.k),.d (i64 n.a),.d (i64 n.b),.d (i64 n.c),.d (i64 n.n),.d (.str n.name),.d (.str n.s),.d (.sl (some 3) (n.l.map fD)),.d (i64 n.pos)]),([4],.box [.d (i64 0),.d (i64 0),.d (i64 0),.d (i64 0),.d (i64 0),.d (.str []),.d (.str []),.d .nils,.d (i64 0)]),([5],.box [.d (i64 n.k),.d (i64 0),.d (i64 0),.d (i64 0),.d (i64 n.n),.d (.str n.name),.d (.str n.s),.vw [99] 0 y.1,.d (i64 n.pos)]),([99],.arr (some 3) ((aX ks (aF n.k) (n.l.take y.1) 0).map fD))]) [2,4,5,99] (fun y=>n.l.length-y.1) ⟨0,Nat.zero_le _⟩ id ?_ ?_
    ·simp only [go_sem]
     all_goals first | rfl | exact ⟨rfl,rfl⟩
    rintro ⟨q,hq⟩ E0
    refine aC E0 fun Q' hQ E'=>?_
    simp only at hq ⊢
    simp only [go_sem]
    refine ah E' (fun f1=>?_) (fun f1=>?_)<;>simp only [go_sem]
    ·have hq':q<n.l.length:=by omega
     have hsn:=vz (ks:=ks) (o:=aF n.k) hq' (by omega)
     have hln:(aX ks (aF n.k) (n.l.take q) 0).length=q:=by rw [dm,List.length_take];omega
     refine ⟨⟨by omega,by omega⟩,?_⟩
     rw [jK hq']
     simp only [go_sem]
     rw [ai (n:=((aF n.k:Nat):Int)+(q:Int)) ⟨by omega,by omega⟩]
     refine ⟨⟨by omega,by omega⟩,?_⟩
     rw [show (((aF n.k:Nat):Int)+(q:Int)).toNat=aF n.k+q by omega,av (by omega)]
     simp only [go_sem]
     refine ⟨by omega,?_⟩
     rw [show List.take q (List.map fD (aX ks (aF n.k) (n.l.take q) 0))++[.agg [.str (fdE n.l q).nm,.str (fdE n.l q).var,i64 (ks.getD (aF n.k+q) 0)]]=(aX ks (aF n.k) (n.l.take (q+1)) 0).map fD by
      rw [List.take_of_length_le (by rw [List.length_map];omega),hsn,List.map_append];rfl]
     rw [ai (n:=(q:Int)+1) ⟨by omega,by omega⟩,hQ]
     simp only [go_sem]
     refine ⟨⟨q+1,by omega⟩,by show n.l.length-(q+1)<_;omega,tau [([99],[51])],?_⟩
     simp only [go_sem]
     all_goals first | rfl | exact ⟨rfl,rfl⟩
    ·have h3:q=n.l.length:=by omega
     subst h3
     rw [List.take_length,← hL,hQ]
     simp only [go_sem]
     refine cC id ?_
     rw [hLl]
     simp only [go_sem]
     all_goals first | rfl | exact ⟨rfl,rfl⟩
  ·have hpz:aH n.k=false:=by unfold aH;simp;omega
   rw [hpz,if_neg (by decide)] at hL
   have hwl:ks.length=aF n.k:=by rw [hw];exact Gg hpz
   subst hL
   rw [decide_eq_false (show ¬ n.k=11 by omega)]
   simp only [go_sem]
   rw [decide_eq_false (show ¬ n.k=14 by omega)]
   simp only [go_sem]
   rw [hwl]
   refine cC id ?_
   simp only [go_sem]
   all_goals first | rfl | exact ⟨rfl,rfl⟩
 have hwk:aF n.k≤ks.length:=by rw [hw];unfold bf;omega
 refine aA (lW [(1,.d (.sl none (ks.map i64))),(2,.bx [2] 0),(4,.bx [4] 0),(5,.bx [5] 0),(6,.d (i64 (aF n.k:Nat)))]
  [([2],.box [.d (i64 n.k),.d (i64 n.a),.d (i64 n.b),.d (i64 n.c),.d (i64 n.n),.d (.str n.name),.d (.str n.s),.d (.sl (some 3) (n.l.map fD)),.d (i64 n.pos)]),([4],.box [.d (i64 0),.d (i64 0),.d (i64 0),.d (i64 0),.d (i64 0),.d (.str []),.d (.str []),.d .nils,.d (i64 0)]),([5],.box [.d (i64 n.k),.d (i64 a),.d (i64 0),.d (i64 0),.d (i64 n.n),.d (.str n.name),.d (.str n.s),.vw [99] 0 L.length,.d (i64 n.pos)]),([99],.arr (some 3) (L.map fD))]
  [2,4,5,99] (fun E=>?_) ?_)
 ·simp only [go_sem]
  refine ah E (fun g=>?_) (fun g=>?_)<;>simp only [go_sem]
  ·refine ⟨by omega,?_⟩
   rw [av (by omega)]
   simp only [go_sem]
   rw [if_pos (by omega)] at ha
   rw [← ha]
   refine cC id ?_
   simp only [go_sem]
   all_goals first | rfl | exact ⟨rfl,rfl⟩
  ·rw [if_neg (by omega)] at ha
   subst ha
   refine cC id ?_
   simp only [go_sem]
   all_goals first | rfl | exact ⟨rfl,rfl⟩
 refine aA (lW [(1,.d (.sl none (ks.map i64))),(2,.bx [2] 0),(4,.bx [4] 0),(5,.bx [5] 0),(6,.d (i64 (aF n.k:Nat)))]
  [([2],.box [.d (i64 n.k),.d (i64 n.a),.d (i64 n.b),.d (i64 n.c),.d (i64 n.n),.d (.str n.name),.d (.str n.s),.d (.sl (some 3) (n.l.map fD)),.d (i64 n.pos)]),([4],.box [.d (i64 0),.d (i64 0),.d (i64 0),.d (i64 0),.d (i64 0),.d (.str []),.d (.str []),.d .nils,.d (i64 0)]),([5],.box [.d (i64 n.k),.d (i64 a),.d (i64 b),.d (i64 0),.d (i64 n.n),.d (.str n.name),.d (.str n.s),.vw [99] 0 L.length,.d (i64 n.pos)]),([99],.arr (some 3) (L.map fD))]
  [2,4,5,99] (fun E=>?_) ?_)
 ·simp only [go_sem]
  refine ah E (fun g=>?_) (fun g=>?_)<;>simp only [go_sem]
  ·refine ⟨by omega,?_⟩
   rw [av (by omega)]
   simp only [go_sem]
   rw [if_pos (by omega)] at hb
   rw [← hb]
   refine cC id ?_
   simp only [go_sem]
   all_goals first | rfl | exact ⟨rfl,rfl⟩
  ·rw [if_neg (by omega)] at hb
   subst hb
   refine cC id ?_
   simp only [go_sem]
   all_goals first | rfl | exact ⟨rfl,rfl⟩
 refine aA (lW [(1,.d (.sl none (ks.map i64))),(2,.bx [2] 0),(4,.bx [4] 0),(5,.bx [5] 0),(6,.d (i64 (aF n.k:Nat)))]
  [([2],.box [.d (i64 n.k),.d (i64 n.a),.d (i64 n.b),.d (i64 n.c),.d (i64 n.n),.d (.str n.name),.d (.str n.s),.d (.sl (some 3) (n.l.map fD)),.d (i64 n.pos)]),([4],.box [.d (i64 0),.d (i64 0),.d (i64 0),.d (i64 0),.d (i64 0),.d (.str []),.d (.str []),.d .nils,.d (i64 0)]),([5],.box [.d (i64 n.k),.d (i64 a),.d (i64 b),.d (i64 c),.d (i64 n.n),.d (.str n.name),.d (.str n.s),.vw [99] 0 L.length,.d (i64 n.pos)]),([99],.arr (some 3) (L.map fD))]
  [2,4,5,99] (fun E=>?_) ?_)
 ·simp only [go_sem]
  refine ah E (fun g=>?_) (fun g=>?_)<;>simp only [go_sem]
  ·refine ⟨by omega,?_⟩
   rw [av (by omega)]
   simp only [go_sem]
   rw [if_pos (by omega)] at hc
   rw [← hc]
   refine cC id ?_
   simp only [go_sem]
   all_goals first | rfl | exact ⟨rfl,rfl⟩
  ·rw [if_neg (by omega)] at hc
   subst hc
   refine cC id ?_
   simp only [go_sem]
   all_goals first | rfl | exact ⟨rfl,rfl⟩
 refine ao fun E=>?_
 simp only [go_sem]
 refine eW (.inl rfl) hB0 ?_
 simp only [go_sem]
 refine ⟨[([99],some 3,L.map fD)],?_⟩
 simp only [go_sem]
end Go.Proofs.YtejpnabbmgpmaaaGreat

namespace Go.Proofs.YtejpnabbmgpmaaaGreat
open Go.Ab
structure Low (ns:List EN):Prop where
 len:ns.length≤1000000
 l:∀ n∈ns,n.l.length≤900000
 k:∀ i,i<ns.length→(aj (ndE ns i)).all (inB i)=true
end Go.Proofs.YtejpnabbmgpmaaaGreat

namespace Go.Proofs.YtejpnabbmgpmaaaGreat
open Go.Ab
theorem EO {α:Type} {l:List α} {q:Nat} (h:q<l.length) (f:α→Int):(l.take (q+1)).map f=(l.take q).map f++[f l[q]]:=by
 rw [List.take_succ_eq_append_getElem h,List.map_append];rfl
set_option maxHeartbeats 1000000 in
theorem uP {G} (n:EN) (ls:List (List EN)) (hn:n.l.length≤900000) (hw:bf n=ls.length) (hS:aT ls≤1000000) (hk:∀ l∈ls,∀ m∈l,eC l.length m) (hwl:∀ l∈ls,eK 900000 l) :
  HP Tryz.prog G 88 [enD n,.sl (some 1) (ls.map exD)] (fun r=>r=.d (exD (au n ls))):=by
 have hL:ls.length≤900003:=by rw [← hw];unfold bf;have:=bB n.k;split<;>omega
 have hend:=wG (G:=G) n (cH ls [] []).2 hn (by rw [sw,hw];simp)
 rw [mN n] at hend ⊢
 refine aw Tryz.func88 rfl (by decide +kernel) (by simp [Tryz.ntmps88]) (veil fun E=>?_)
 simp only [go_sem]
 refine az E (X:={ i:Nat // i≤ls.length }) (fun x=>[(1,.d (.sl (some 1) (ls.map exD))),(2,.bx [2] 0),(4,.bx [4] 0),(5,.vw [97] 0 (eY ls x.1).1.length),(6,.vw [98] 0 (eY ls x.1).2.length),(7,.d (i64 x.1))])
  (fun x=>[([2],.box [.d (i64 n.k),.d (i64 n.a),.d (i64 n.b),.d (i64 n.c),.d (i64 n.n),.d (.str n.name),.d (.str n.s),.d (.sl (some 3) (n.l.map fD)),.d (i64 n.pos)]),([4],.box [.d .nils]),([97],.arr (some 9) ((eY ls x.1).1.map enD)),([98],.arr none ((eY ls x.1).2.map i64))]) [2,4,97,98] (fun x=>ls.length-x.1) ⟨0,Nat.zero_le _⟩ (tau [([97],[13]),([98],[14])]) ?_ ?_
 ·simp only [go_sem]
  all_goals ((repeat' apply And.intro)<;>first | rfl | trivial)
 rintro ⟨i,hi⟩ E0
 refine aC E0 fun Q' hQ E'=>?_
 simp only at hi ⊢
 simp only [go_sem]
 refine ah E' (fun h1=>?_) (fun h1=>?_)<;>simp only [go_sem]
 ·have h1':i<ls.length:=by omega
  have hge:=w1 h1'
  obtain ⟨l,hle⟩:∃ l,l=ls[i]:=⟨_,rfl⟩
  have hmem:l∈ls:=by rw [hle];exact List.getElem_mem h1'
  have hcl:=tB h1'
  have hcs:=pI h1'
  have hcr:=wm ls i
  rw [← hle] at hcl hcs hge
  obtain ⟨acc,hacc⟩:∃ acc,acc=(eY ls i).1:=⟨_,rfl⟩
  obtain ⟨rs,hrs⟩:∃ rs,rs=(eY ls i).2:=⟨_,rfl⟩
  rw [← hacc] at hcl hcs
  rw [← hrs] at hcr hcs
  simp only [← hacc,← hrs]
  refine az E' (X:={ j:Nat // j≤l.length }) (fun x=>[(1,.d (.sl (some 1) (ls.map exD))),(2,.bx [2] 0),(4,.bx [4] 0),(5,.vw [97] 0 (acc.length+x.1)),(6,.vw [98] 0 rs.length),(7,.d (i64 i)),(8,.d (i64 acc.length)),(9,.d (i64 x.1))])
   (fun x=>[([2],.box [.d (i64 n.k),.d (i64 n.a),.d (i64 n.b),.d (i64 n.c),.d (i64 n.n),.d (.str n.name),.d (.str n.s),.d (.sl (some 3) (n.l.map fD)),.d (i64 n.pos)]),([4],.box [.d .nils]),([97],.arr (some 9) ((acc++(l.take x.1).map (aU acc.length)).map enD)),([98],.arr none (rs.map i64))]) [2,4,97,98] (fun x=>l.length-x.1) ⟨0,Nat.zero_le _⟩ id ?_ ?_
  ·simp only [go_sem]
   all_goals ((repeat' apply And.intro)<;>first | rfl | trivial | simp)
  rintro ⟨j,hj⟩ E2
  refine aC E2 fun Q2 hQ2 E3=>?_
  simp only at hj ⊢
  simp only [go_sem]
  refine ⟨⟨by omega,by omega⟩,?_⟩
  rw [hge]
  simp only [go_sem]
  refine ah E3 (fun h2=>?_) (fun h2=>?_)<;>simp only [go_sem]
  ·have h2':j<l.length:=by omega
   have hgl:=aN h2'
   rw [bG h2'] at hgl
   obtain ⟨m,hm⟩:∃ m,m=l[j]:=⟨_,rfl⟩
   have hmm:m∈l:=by rw [hm];exact List.getElem_mem h2'
   have hmk:=hk l hmem m hmm
   have hml:=hwl l hmem m hmm
   rw [← hm] at hgl
   have hkc:=l7 (G:=G) m (by omega)
   rw [mN m] at hkc
   refine ⟨⟨by omega,by omega⟩,?_⟩
   rw [hge]
   simp only [go_sem]
   refine ⟨⟨by omega,by omega⟩,?_⟩
   rw [hgl]
   simp only [go_sem]
   refine ag E3 hkc rfl rfl (by simp) ?_
   rintro _ rfl
   simp only [go_sem]
   have hKl:(aj m).length≤900003:=by
    rw [br];unfold bf
    have:=bB m.k
    split<;>omega
   have hKk:∀ q,q<(aj m).length→0≤(aj m).getD q 0∧(aj m).getD q 0<l.length:=fun q hq=>hmk _ (by simp [hq])
   have hwm:bk m ((aj m).map fun k:Int=>k+acc.length)=aU acc.length m:=rfl
   have hkw:=br m
   obtain ⟨K,hK⟩:∃ K,K=aj m:=⟨_,rfl⟩
   rw [← hK] at hKl hKk hwm hkw ⊢
   refine az E3 (X:={ q:Nat // q≤K.length }) (fun x=>[(1,.d (.sl (some 1) (ls.map exD))),(2,.bx [2] 0),(4,.bx [4] 0),(5,.vw [97] 0 (acc.length+j)),(6,.vw [98] 0 rs.length),(7,.d (i64 i)),(8,.d (i64 acc.length)),(9,.d (i64 j)),(10,.d (.sl none (K.map i64))),(11,.vw [96] 0 x.1),(12,.d (i64 x.1))])
    (fun x=>[([2],.box [.d (i64 n.k),.d (i64 n.a),.d (i64 n.b),.d (i64 n.c),.d (i64 n.n),.d (.str n.name),.d (.str n.s),.d (.sl (some 3) (n.l.map fD)),.d (i64 n.pos)]),([4],.box [.d .nils]),([97],.arr (some 9) ((acc++(l.take j).map (aU acc.length)).map enD)),([98],.arr none (rs.map i64)),([96],.arr none (((K.take x.1).map fun k:Int=>k+acc.length).map i64))]) [2,4,96,97,98] (fun x=>K.length-x.1) ⟨0,Nat.zero_le _⟩ (tau [([96],[42])]) ?_ ?_
   ·simp only [go_sem]
    all_goals ((repeat' apply And.intro)<;>first | rfl | trivial)
   rintro ⟨q,hq⟩ E4
   refine aC E4 fun Q4 hQ4 E5=>?_
   simp only at hq ⊢
   simp only [go_sem]
   refine ah E5 (fun h3=>?_) (fun h3=>?_)<;>simp only [go_sem]
   ·have h3':q<K.length:=by omega
    have hin:=hKk q h3'
    have hst:=EO h3' (fun k:Int=>k+acc.length)
    rw [show K[q]=K.getD q 0 by simp [h3']] at hst
    refine ⟨⟨by omega,by omega⟩,?_⟩
    rw [av h3']
    simp only [go_sem]
    refine ⟨by omega,?_⟩
    rw [ai (n:=K.getD q 0+(acc.length:Int)) ⟨by omega,by omega⟩]
    try rw [List.take_of_length_le (l:=List.map i64 _) (by simp;omega)]
    rw [show List.map i64 (List.map (fun k:Int=>k+acc.length) (List.take q K))++[i64 (K.getD q 0+acc.length)]=((K.take (q+1)).map fun k:Int=>k+acc.length).map i64 by rw [hst,List.map_append];rfl]
    rw [ai ⟨by omega,by omega⟩,hQ4]
    simp only [go_sem]
    refine ⟨⟨q+1,by omega⟩,by show K.length-(q+1)<_;omega,tau [([96],[57])],?_⟩
    simp only [go_sem]
    all_goals ((repeat' apply And.intro)<;>first | rfl | trivial)
   ·have hq2:q=K.length:=by omega
    subst hq2
    rw [List.take_length,hQ4]
    have cm:=wG (G:=G) m (K.map fun k:Int=>k+acc.length) hml (by rw [List.length_map,hkw])
    obtain ⟨M,hM⟩:∃ M,M=aU acc.length m:=⟨_,rfl⟩
    rw [hwm,← hM,mN m,mN M] at cm
    simp only [go_sem]
    refine ⟨⟨by omega,by omega⟩,?_⟩
    rw [hge]
    simp only [go_sem]
    refine ⟨⟨by omega,by omega⟩,?_⟩
    rw [hgl]
    simp only [go_sem]
    refine cJ E3 [96] none ((K.map fun k:Int=>k+acc.length).map i64) rfl (by simp only [go_sem];rfl) ?_
    simp only [go_sem]
    try rw [List.take_of_length_le (l:=List.map i64 _) (by simp)]
    refine ag E3 cm rfl rfl (by simp) ?_
    rintro _ rfl
    simp only [go_sem]
    refine ⟨by omega,?_⟩
    have hout:List.take (acc.length+j) (List.map enD (acc++List.map (aU acc.length) (List.take j l)))++[.agg [i64 M.k,i64 M.a,i64 M.b,i64 M.c,i64 M.n,.str M.name,.str M.s,.sl (some 3) (M.l.map fD),i64 M.pos]]=(acc++(l.take (j+1)).map (aU acc.length)).map enD:=by
     rw [List.take_of_length_le (by simp;omega),List.take_succ_eq_append_getElem h2',← hm]
     simp only [List.map_append,List.map_cons,List.map_nil,← hM,← mN M,List.append_assoc]
    rw [hout]
    rw [hQ2]
    simp only [go_sem]
    refine ⟨⟨j+1,by omega⟩,by show l.length-(j+1)<_;omega,tau [([97],[70])],?_⟩
    rw [ai ⟨by omega,by omega⟩]
    simp only [go_sem]
    all_goals ((repeat' apply And.intro)<;>first | rfl | trivial)
  ·rw [hQ2]
   simp only [go_sem]
   have hj2:j=l.length:=by omega
   subst hj2
   refine ⟨by omega,?_⟩
   have hro:List.take rs.length (List.map i64 rs)++[.int .i64 (w64 (((acc.length+l.length:Nat):Int)-1))]=(rs++[((acc.length+l.length:Nat):Int)-1]).map i64:=by
    rw [ai ⟨by omega,by omega⟩,List.take_of_length_le (by rw [List.length_map];exact Nat.le_refl _)]
    simp only [List.map_append,List.map_cons,List.map_nil]
   first | rw [hro] | (rw [List.take_of_length_le (by rw [List.length_map];exact Nat.le_refl _)] at hro;rw [hro])
   rw [hQ]
   simp only [go_sem]
   refine ⟨⟨i+1,by omega⟩,by show ls.length-(i+1)<_;omega,tau [([98],[76])],?_⟩
   simp only [hcs]
   rw [ai ⟨by omega,by omega⟩]
   simp only [go_sem]
   simp only [List.length_append,List.length_map,List.length_singleton]
   all_goals ((repeat' apply And.intro)<;>first | rfl | trivial)
 ·rw [hQ]
  have hi2:i=ls.length:=by omega
  subst hi2
  rw [sS]
  obtain ⟨acc,hacc⟩:∃ acc,acc=(cH ls [] []).1:=⟨_,rfl⟩
  obtain ⟨rs,hrs⟩:∃ rs,rs=(cH ls [] []).2:=⟨_,rfl⟩
  have hal:acc.length=aT ls:=by rw [hacc,kU];simp
  have hj:au n ls=acc++[bk n rs]:=by unfold au;rw [← hacc,← hrs]
  rw [← hrs] at hend
  rw [← hacc,← hrs]
  obtain ⟨M,hM⟩:∃ M,M=bk n rs:=⟨_,rfl⟩
  rw [← hM] at hj hend
  rw [mN M] at hend
  simp only [go_sem]
  refine cJ E [98] none (rs.map i64) rfl (by simp only [go_sem];rfl) ?_
  simp only [go_sem]
  try rw [List.take_of_length_le (l:=List.map i64 _) (by simp)]
  refine ag E hend rfl rfl (by simp) ?_
  rintro _ rfl
  simp only [go_sem]
  have hout:List.take acc.length (List.map enD acc)++[.agg [i64 M.k,i64 M.a,i64 M.b,i64 M.c,i64 M.n,.str M.name,.str M.s,.sl (some 3) (M.l.map fD),i64 M.pos]]=(au n ls).map enD:=by
   rw [List.take_of_length_le (by rw [List.length_map];exact Nat.le_refl _),hj,List.map_append,← mN];rfl
  refine ⟨by omega,?_⟩
  first | rw [hout] | (rw [List.take_of_length_le (by rw [List.length_map];exact Nat.le_refl _)] at hout;rw [hout])
  refine ⟨[([82],some 9,(au n ls).map enD)],?_⟩
  simp only [go_sem]
  rw [List.take_of_length_le (by rw [hj];simp)]
  rfl
end Go.Proofs.YtejpnabbmgpmaaaGreat

namespace Go.Proofs.YtejpnabbmgpmaaaGreat
open Go.Ab
def Fit (L:List Tok) (s:PS):Prop:=∃ a,a≤L.length∧s.l=L.drop a
def atN (L:List Tok) (s:PS):Nat:=L.length-s.l.length
theorem Fit.eq {L:List Tok} {s:PS} (h:Fit L s):s.l=L.drop (atN L s):=by
 obtain ⟨a,ha,hs⟩:=h
 unfold atN
 have:s.l.length=L.length-a:=by rw [hs,List.length_drop]
 rw [this,show L.length-(L.length-a)=a by omega,← hs]
theorem Fit.le {L:List Tok} {s:PS} (h:Fit L s):s.l.length≤L.length:=by
 obtain ⟨a,ha,hs⟩:=h
 rw [hs,List.length_drop];omega
theorem Fit.ss {L:List Tok} {s r:PS} (h:Fit L s) (g:SS s r):Fit L r:=by
 obtain ⟨a,ha,hs⟩:=h
 obtain ⟨k,hk⟩:=g.suf
 rw [hs,List.drop_drop] at hk
 by_cases hk':a+k≤L.length
 ·exact ⟨a+k,hk',hk⟩
 ·exact ⟨L.length,Nat.le_refl _,by rw [hk,List.drop_eq_nil_of_le (by omega),List.drop_length]⟩
def TS (L:List Tok) (s:PS):List (Name × Ob):=TX L (atN L s) s.fin
def RX (L:List Tok) (s:PS):List (Name × Ob):=([100],.box [.bx [101] 0,.d (i64 s.err),.d (i64 s.pos),.d (i64 s.nest)])::TS L s
theorem xL {L:List Tok} {s:PS} (h:Fit L s):(if atN L s<L.length then atN L s+1 else atN L s)=atN L s.next:=by
 have hl:=h.le
 unfold atN PS.next
 simp only [List.length_tail]
 cases hs:s.l with
 | nil=>simp
 | cons t r =>
   have:s.l.length=r.length+1:=by rw [hs];rfl
   simp only [List.length_cons] at *
   rw [if_pos (by omega)]
   omega
theorem fV {G} {L:List Tok} {s:PS} (h:Fit L s) (hl:L.length≤1000000):HCall Tryz.prog G 72 [.bx [101] 0] (TS L s) [101] (fun r hp'=>r=.d (.agg [i64 s.peek.k,.str s.peek.s,i64 s.peek.n,i64 s.peek.pos])∧hp'=TS L s):=by
 have h0:=vE (G:=G) L (atN L s) s.fin hl
 rw [← h.eq] at h0
 exact h0
theorem By {G} {L:List Tok} {s:PS} (h:Fit L s) (hl:L.length≤1000000):HCall Tryz.prog G 138 [.bx [101] 0] (TS L s) [101] (fun r hp'=>r=.d (.agg [i64 s.peek.k,.str s.peek.s,i64 s.peek.n,i64 s.peek.pos])∧hp'=TS L s.next):=by
 have h0:=FK (G:=G) L (atN L s) s.fin hl
 rw [← h.eq,xL h] at h0
 exact h0
theorem z9 {G} {L:List Tok} {s:PS} (h:Fit L s) (hl:L.length≤1000000) (k:Int) (t:List UInt8) (hk:k≠0∧k≠4):HCall Tryz.prog G 137 [.bx [101] 0,.d (i64 k),.d (.str t)] (TS L s) [101] (fun r hp'=>r=.d (.bool (s.is k t))∧hp'=TS L (if s.is k t then s.next else s)):=by
 have h0:=Ey (G:=G) L (atN L s) s.fin k t hl hk
 have hlt:=Ar (L:=L) (a:=atN L s) (fin:=s.fin) (k:=k) (t:=t)
 rw [← h.eq] at h0 hlt
 have hi:s.is k t=isT s.l s.fin k t:=rfl
 rw [hi]
 generalize isT s.l s.fin k t=b at *
 cases b with
 | false=>exact h0
 | true =>
   have:=xL h
   rw [if_pos (hlt rfl)] at this
   rw [if_pos rfl,this] at h0
   exact h0
theorem jd {G} (L:List Tok) (s:PS) (e p:Int):HCall Tryz.prog G 71 [.bx [100] 0,.d (i64 e),.d (i64 p)] (RX L s) [100,101] (fun r hp'=>r=.tup []∧hp'=RX L (s.fail e p)):=by
 generalize hX:s.fail e p=X
 unfold PS.fail at hX
 unfold RX TS TX ae
 refine aq Tryz.func71 rfl (by decide +kernel) (by simp [Tryz.ntmps71]) (veil fun E=>?_)
 simp only [go_sem]
 refine ah E (fun h=>?_) (fun h=>?_)<;>simp only [go_sem]
 ·rw [← hX,if_pos h]
  refine ⟨_,_,[100,101],id,⟨rfl,rfl⟩,?_⟩
  simp only [go_sem]
  rfl
 ·rw [← hX,if_neg h]
  refine ⟨_,_,[100,101],id,⟨rfl,rfl⟩,?_⟩
  simp only [go_sem]
theorem Ba {s:PS} {k:Int} {t:List UInt8}:s.sees k t=(decide (s.err=0) && s.is k t):=rfl
theorem iB {G} {L:List Tok} {s:PS} (hf:Fit L s) (hl:L.length≤1000000) (t:List UInt8):HCall Tryz.prog G 173 [.bx [100] 0,.d (.str t)] (RX L s) [100,101] (fun r hp'=>r=.d (.bool (s.sees 1 t))∧hp'=RX L (s.may 1 t)):=by
 have h0:=z9 (G:=G) hf hl 1 t (by decide)
 generalize hX:s.may 1 t=X
 have hX':X=if decide (s.err=0) && s.is 1 t then s.next else s:=by rw [← hX];rfl
 rw [Ba]
 generalize s.is 1 t=b at *
 unfold RX
 unfold TS TX ae at *
 refine aq Tryz.func173 rfl (by decide +kernel) (by simp [Tryz.ntmps173]) (veil fun E=>?_)
 simp only [go_sem]
 refine an E (fun h=>?_) (fun h=>?_)<;>simp only [go_sem]
 ·refine ab E [.bx [101] 0,.d (i64 1),.d (.str t)] (TS L s) [101] (by unfold TS TX ae;exact h0) rfl rfl ⟨by simp only [go_sem],by first | (rw [aa];decide) | (simp only [go_sem]<;>(try rw [aa])<;>decide)⟩ rfl (by unfold TS TX ae;simp only [go_sem]) (by unfold TS TX;simp only [go_sem]) ?_
  rintro _ _ ⟨rfl,rfl⟩
  unfold TS TX ae
  simp only [go_sem]
  rw [hX',decide_eq_true h]
  refine ⟨_,_,[100,101],id,⟨rfl,rfl⟩,?_⟩
  simp only [go_sem]
  cases b<;>rfl
 ·rw [hX',decide_eq_false h]
  refine ⟨_,_,[100,101],id,⟨rfl,rfl⟩,?_⟩
  simp only [go_sem]
theorem dj {G} {L:List Tok} {s:PS} (hf:Fit L s) (hl:L.length≤1000000) (t:List UInt8):HCall Tryz.prog G 178 [.bx [100] 0,.d (.str t)] (RX L s) [100,101] (fun r hp'=>r=.d (.bool (s.sees 7 t))∧hp'=RX L (s.may 7 t)):=by
 have h0:=z9 (G:=G) hf hl 7 t (by decide)
 generalize hX:s.may 7 t=X
 have hX':X=if decide (s.err=0) && s.is 7 t then s.next else s:=by rw [← hX];rfl
 rw [Ba]
 generalize s.is 7 t=b at *
 unfold RX
 unfold TS TX ae at *
 refine aq Tryz.func178 rfl (by decide +kernel) (by simp [Tryz.ntmps178]) (veil fun E=>?_)
 simp only [go_sem]
 refine an E (fun h=>?_) (fun h=>?_)<;>simp only [go_sem]
 ·refine ab E [.bx [101] 0,.d (i64 7),.d (.str t)] (TS L s) [101] (by unfold TS TX ae;exact h0) rfl rfl ⟨by simp only [go_sem],by first | (rw [aa];decide) | (simp only [go_sem]<;>(try rw [aa])<;>decide)⟩ rfl (by unfold TS TX ae;simp only [go_sem]) (by unfold TS TX;simp only [go_sem]) ?_
  rintro _ _ ⟨rfl,rfl⟩
  unfold TS TX ae
  simp only [go_sem]
  rw [hX',decide_eq_true h]
  refine ⟨_,_,[100,101],id,⟨rfl,rfl⟩,?_⟩
  simp only [go_sem]
  cases b<;>rfl
 ·rw [hX',decide_eq_false h]
  refine ⟨_,_,[100,101],id,⟨rfl,rfl⟩,?_⟩
  simp only [go_sem]
theorem ef {G} {L:List Tok} {s:PS} (hf:Fit L s) (hl:L.length≤1000000) (k:Int) (t:List UInt8) (hk:k≠0∧k≠4):HCall Tryz.prog G 175 [.bx [100] 0,.d (i64 k),.d (.str t)] (RX L s) [100,101] (fun r hp'=>r=.tup []∧hp'=RX L (s.must k t)):=by
 have h0:=z9 (G:=G) hf hl k t hk
 have h1:=fV (G:=G) hf hl
 have h2:=jd (G:=G) L s 5 s.peek.pos
 generalize hX:s.must k t=X
 have hX':X=if decide (s.err=0) && s.is k t then s.next else s.wrong:=by rw [← hX];rfl
 have hW:s.wrong=s.fail 5 s.peek.pos:=rfl
 rw [← hW] at h2
 have hE:¬ s.err=0→s.wrong=s:=fun h=>b8 h
 generalize s.wrong=W at *
 generalize s.is k t=b at *
 unfold RX TS TX ae
 refine aq Tryz.func175 rfl (by decide +kernel) (by simp [Tryz.ntmps175]) (veil fun E=>?_)
 simp only [go_sem]
 refine an E (fun h=>?_) (fun h=>?_)<;>simp only [go_sem]
 ·refine ab E [.bx [101] 0,.d (i64 k),.d (.str t)] (TS L s) [101] (h0) rfl rfl ⟨by simp only [go_sem],by first | (rw [aa];decide) | (simp only [go_sem]<;>(try rw [aa])<;>decide)⟩ rfl (by unfold TS TX ae;simp only [go_sem]) (by unfold TS TX;simp only [go_sem]) ?_
  rintro _ _ ⟨rfl,rfl⟩
  unfold TS TX ae
  simp only [go_sem]
  rw [decide_eq_true h,Bool.true_and] at hX'
  refine aB E (fun g=>?_) (fun g=>?_)<;>simp only [go_sem]
  ·have g':b=false:=by simpa using g
   subst g'
   refine ab E [.bx [101] 0] (TS L s) [101] (h1) rfl rfl ⟨by simp only [go_sem],by first | (rw [aa];decide) | (simp only [go_sem]<;>(try rw [aa])<;>decide)⟩ rfl (by unfold TS TX ae;simp only [go_sem]) (by unfold TS TX;simp only [go_sem]) ?_
   rintro _ _ ⟨rfl,rfl⟩
   unfold TS TX ae
   simp only [go_sem]
   refine ab E [.bx [100] 0,.d (i64 5),.d (i64 s.peek.pos)] (RX L s) [100,101] (h2) rfl rfl ⟨by simp only [go_sem],by first | (rw [aa];decide) | (simp only [go_sem]<;>(try rw [aa])<;>decide)⟩ rfl (by unfold RX TS TX ae;simp only [go_sem]) (by unfold RX TS TX;simp only [go_sem]) ?_
   rintro _ _ ⟨rfl,rfl⟩
   unfold RX TS TX ae
   simp only [go_sem]
   rw [hX']
   refine ⟨_,_,[100,101],id,⟨rfl,rfl⟩,?_⟩
   simp only [go_sem]
  ·have g':b=true:=by simpa using g
   subst g'
   rw [hX']
   refine ⟨_,_,[100,101],id,⟨rfl,rfl⟩,?_⟩
   simp only [go_sem]
   rfl
 ·rw [hX',decide_eq_false h,Bool.false_and,if_neg (by decide),hE h]
  refine ⟨_,_,[100,101],id,⟨rfl,rfl⟩,?_⟩
  simp only [go_sem]
theorem jG {G} {L:List Tok} {s:PS} (hf:Fit L s) (hl:L.length≤1000000) (k:Int):HCall Tryz.prog G 174 [.bx [100] 0,.d (i64 k)] (RX L s) [100,101] (fun r hp'=>r=.d (.str (s.of k).1)∧hp'=RX L (s.of k).2):=by
 have h0:=By (G:=G) hf hl
 have h1:=fV (G:=G) hf hl
 have h2:=jd (G:=G) L s 5 s.peek.pos
 have hX:s.of k=if decide (s.err=0) && decide (s.peek.k=k) then (s.peek.s,s.next) else ([],s.wrong):=rfl
 generalize s.of k=X at *
 have hW:s.wrong=s.fail 5 s.peek.pos:=rfl
 rw [← hW] at h2
 have hE:¬ s.err=0→s.wrong=s:=fun h=>b8 h
 generalize s.wrong=W at *
 unfold RX TS TX ae
 refine aq Tryz.func174 rfl (by decide +kernel) (by simp [Tryz.ntmps174]) (veil fun E=>?_)
 simp only [go_sem]
 refine ab E [.bx [101] 0] (TS L s) [101] (h1) rfl rfl ⟨by simp only [go_sem],by first | (rw [aa];decide) | (simp only [go_sem]<;>(try rw [aa])<;>decide)⟩ rfl (by unfold TS TX ae;simp only [go_sem]) (by unfold TS TX;simp only [go_sem]) ?_
 rintro _ _ ⟨rfl,rfl⟩
 unfold TS TX ae
 simp only [go_sem]
 refine ah E (fun h=>?_) (fun h=>?_)<;>simp only [go_sem]
 ·rw [hX,decide_eq_false h,Bool.false_and,if_neg (by decide),hE h]
  refine ⟨_,_,[100,101],id,⟨rfl,rfl⟩,?_⟩
  simp only [go_sem]
 have h:s.err=0:=by simpa using h
 rw [decide_eq_true h,Bool.true_and] at hX
 refine ah E (fun g=>?_) (fun g=>?_)<;>simp only [go_sem]
 ·refine ab E [.bx [100] 0,.d (i64 5),.d (i64 s.peek.pos)] (RX L s) [100,101] (h2) rfl rfl ⟨by simp only [go_sem],by first | (rw [aa];decide) | (simp only [go_sem]<;>(try rw [aa])<;>decide)⟩ rfl (by unfold RX TS TX ae;simp only [go_sem]) (by unfold RX TS TX;simp only [go_sem]) ?_
  rintro _ _ ⟨rfl,rfl⟩
  unfold RX TS TX ae
  simp only [go_sem]
  rw [hX,decide_eq_false g]
  refine ⟨_,_,[100,101],id,⟨rfl,rfl⟩,?_⟩
  simp only [go_sem]
 ·have g:s.peek.k=k:=by simpa using g
  refine ab E [.bx [101] 0] (TS L s) [101] (h0) rfl rfl ⟨by simp only [go_sem],by first | (rw [aa];decide) | (simp only [go_sem]<;>(try rw [aa])<;>decide)⟩ rfl (by unfold TS TX ae;simp only [go_sem]) (by unfold TS TX;simp only [go_sem]) ?_
  rintro _ _ ⟨rfl,rfl⟩
  unfold TS TX ae
  simp only [go_sem]
  rw [hX,decide_eq_true g]
  refine ⟨_,_,[100,101],id,⟨rfl,rfl⟩,?_⟩
  simp only [go_sem]
  rfl
theorem IT {G} (n:EN) (ls:List (List EN)) (hn:n.l=[]) (hw:bf n=ls.length) (hS:aT ls≤1000000) (hk:∀ l∈ls,∀ m∈l,eC l.length m) (hwl:∀ l∈ls,eK 900000 l) :
  HP Tryz.prog G 88 [ndN n,.sl (some 1) (ls.map exD)] (fun r=>r=.d (exD (au n ls))) :=
 HP.le (args':=[enD n,.sl (some 1) (ls.map exD)]) rfl (h:=uP n ls (by rw [hn];exact Nat.zero_le _) hw hS hk hwl) fun i x y hx hy=>by
  rcases i with _ | _ | i
  ·cases hx;cases hy;exact qE hn
  ·cases hx;cases hy;exact .refl _
  ·cases hx
theorem Ic {G} (n:EN) (hn:n.l=[]) (hw:bf n=0):HP Tryz.prog G 88 [ndN n,.nils] (fun r=>r=.d (exD (bj n))) :=
 HP.le (args':=[enD n,.sl (some 1) ([].map exD)]) rfl (h:=uP n [] (by rw [hn];exact Nat.zero_le _) hw (Nat.zero_le _) (fun l h=>by cases h) (fun l h=>by cases h)) fun i x y hx hy=>by
  rcases i with _ | _ | i
  ·cases hx;cases hy;exact qE hn
  ·cases hx;cases hy;exact .nil _
  ·cases hx
theorem eB {G} (n:EN) (ls:List (List EN)) (hn:n.l=[]) (hw:bf n=ls.length) (hS:aT ls≤1000000) (hk:∀ l∈ls,∀ m∈l,eC l.length m) (hwl:∀ l∈ls,eK 900000 l):HP Tryz.prog G 176 [ndN n,.sl (some 1) (ls.map exD)] (fun r=>r=.d (exD (au n ls))):=by
 have h0:=IT (G:=G) n ls hn hw hS hk hwl
 generalize au n ls=Y at h0 ⊢
 unfold ndN at *
 refine aw Tryz.func176 rfl (by decide +kernel) (by simp [Tryz.ntmps176]) (veil fun E=>?_)
 simp only [go_sem]
 refine ag E h0 rfl rfl (by simp) ?_
 rintro _ rfl
 unfold exD
 simp only [go_sem]
 refine ⟨[],?_⟩
 simp only [go_sem]
 rfl
theorem lP {G} (n:EN) (hn:n.l=[]) (hw:bf n=0):HP Tryz.prog G 176 [ndN n,.nils] (fun r=>r=.d (exD (bj n))):=by
 have h0:=Ic (G:=G) n hn hw
 generalize bj n=Y at h0 ⊢
 unfold ndN at *
 refine aw Tryz.func176 rfl (by decide +kernel) (by simp [Tryz.ntmps176]) (veil fun E=>?_)
 simp only [go_sem]
 refine ag E h0 rfl rfl (by simp) ?_
 rintro _ rfl
 unfold exD
 simp only [go_sem]
 refine ⟨[],?_⟩
 simp only [go_sem]
 rfl
theorem wA {G} (n:EN) (ls:List (List EN)) (hn:n.l.length≤900000) (hw:bf n=ls.length) (hS:aT ls≤1000000) (hk:∀ l∈ls,∀ m∈l,eC l.length m) (hwl:∀ l∈ls,eK 900000 l):HP Tryz.prog G 176 [enD n,.sl (some 1) (ls.map exD)] (fun r=>r=.d (exD (au n ls))):=by
 have h0:=uP (G:=G) n ls hn hw hS hk hwl
 generalize au n ls=Y at h0 ⊢
 unfold enD efD at *
 refine aw Tryz.func176 rfl (by decide +kernel) (by simp [Tryz.ntmps176]) (veil fun E=>?_)
 simp only [go_sem]
 refine ag E h0 rfl rfl (by simp) ?_
 rintro _ rfl
 unfold exD
 simp only [go_sem]
 refine ⟨[],?_⟩
 simp only [go_sem]
 rfl
theorem At {n:EN} (hn:n.l=[]) (h0:bk n []=n):Wk (.agg [.sl (some 9) [ndN n]]) (exD (bj n)):=by
 have e:bj n=[n]:=by unfold bj au;rw [show (cH [] [] []:List EN × List Int)=([],[]) from rfl];simp [h0]
 rw [e]
 refine Wk.agg rfl (by simp [D.scal]) fun i a b ha hb=>?_
 rcases i with _ | i
 ·cases ha;cases hb
  refine Wk.sl rfl (fun b hb=>by rw [List.map_cons,List.map_nil,List.mem_singleton] at hb;subst hb;exact Ht n) fun i a b ha hb=>?_
  rcases i with _ | i
  ·cases ha;cases hb
   refine ⟨rfl,fun j c d hc hd=>?_⟩
   match j,hc,hd with
   | 0,hc,hd | 1,hc,hd | 2,hc,hd | 3,hc,hd | 4,hc,hd | 5,hc,hd | 6,hc,hd | 8,hc,hd=>cases hc;cases hd;exact .refl _
   | 7,hc,hd =>
     cases hc;cases hd
     unfold efD
     rw [hn];exact .nils _
  ·cases ha
 ·cases ha
theorem jE {G}:HP Tryz.prog G 119 [] (fun r=>r=.d (exD noE)):=by
 refine HP.wkr (Q:=fun r=>r=.d (.agg [.sl (some 9) [ndN (nd0 1 0)]])) ?_ fun r hr=>⟨_,_,hr,At rfl rfl,rfl⟩
 refine aw Tryz.func119 rfl (by decide +kernel) (by simp [Tryz.ntmps119]) (veil fun E=>?_)
 simp only [go_sem]
 refine ⟨[([2],some 9,[ndN (nd0 1 0)])],?_⟩
 unfold ndN nd0
 simp only [go_sem]
end Go.Proofs.YtejpnabbmgpmaaaGreat

namespace Go.Proofs.YtejpnabbmgpmaaaGreat
open Go.Ab
def cO (f:Nat) (G:List (Nat × Obj)) (N:Nat) (sub:PS→PR):Prop:=∀ (L:List Tok) (s:PS),Fit L s→L.length≤100000→s.nest=N→HCall Tryz.prog G f [.bx [100] 0] (RX L s) [100,101] (fun r hp'=>r=.d (exD (sub s).1)∧hp'=RX L (sub s).2)
theorem bp {s:PS} {k:Int} {t:List UInt8} (h:s.sees k t=true):s.may k t=s.next:=by unfold PS.may;rw [h];rfl
theorem bS {s:PS} {k:Int} {t:List UInt8} (h:s.sees k t=false):s.may k t=s:=by unfold PS.may;rw [h];rfl
theorem CK {s:PS} (h:¬ s.err=0):∀ ops,opS s ops=none
 | []=>rfl
 | q::r=>by rw [opS,kY h,if_neg (by decide),CK h r]
theorem yP (s:PS):s.begins=(decide (s.peek.k=4) || decide (s.peek.k=5) || decide (s.peek.k=2) || (decide (s.peek.k=1) && (decide (s.peek.s=eI) || decide (s.peek.s=cZ) || decide (s.peek.s=e9))) || (decide (s.peek.k=7) && (decide (s.peek.s=[40]) || decide (s.peek.s=[123])))):=rfl
theorem Fq {G} (s:PS):HP Tryz.prog G 309 [.agg [i64 s.peek.k,.str s.peek.s,i64 s.peek.n,i64 s.peek.pos]] (fun r=>r=.d (.bool s.begins)):=by
 have hb:=yP s
 generalize s.begins=b at *
 generalize s.peek=t at *
 refine al Tryz.func309 rfl (by decide +kernel) (by simp [Tryz.ntmps309]) (veil fun E=>?_)
 simp only [go_sem]
 refine an E (fun h1=>?_) (fun h1=>?_)<;>simp only [go_sem]
 ·simp [hb,h1]
 refine an E (fun h2=>?_) (fun h2=>?_)<;>simp only [go_sem]
 ·simp [hb,h2]
 refine ah E (fun h3=>?_) (fun h3=>?_)<;>simp only [go_sem]
 ·simp [hb,h3]
 rw [decide_eq_false h1,decide_eq_false h2,decide_eq_false h3,Bool.or_false,Bool.or_false,Bool.false_or] at hb
 refine an E (fun h4=>?_) (fun h4=>?_)<;>simp only [go_sem]
 ·rw [decide_eq_true h4,Bool.true_and] at hb
  refine bU E (fun g1=>?_) (fun g1=>?_)<;>simp only [go_sem]
  ·have g1:t.s=eI:=by simpa [eI] using g1
   simp [hb,g1]
  have g1:¬ t.s=eI:=by simpa [eI] using g1
  refine bU E (fun g2=>?_) (fun g2=>?_)<;>simp only [go_sem]
  ·have g2:t.s=cZ:=by simpa [cZ] using g2
   simp [hb,g2]
  have g2:¬ t.s=cZ:=by simpa [cZ] using g2
  refine bU E (fun g3=>?_) (fun g3=>?_)<;>simp only [go_sem]
  ·have g3:t.s=e9:=by simpa [e9] using g3
   simp [hb,g3]
  have g3:¬ t.s=e9:=by simpa [e9] using g3
  refine an E (fun h5=>?_) (fun h5=>?_)<;>simp only [go_sem]
  ·exact absurd (h4.symm.trans h5) (by decide)
  ·simp [hb,g1,g2,g3,h5]
 rw [decide_eq_false h4,Bool.false_and,Bool.false_or] at hb
 refine an E (fun h5=>?_) (fun h5=>?_)<;>simp only [go_sem]
 ·rw [decide_eq_true h5,Bool.true_and] at hb
  refine bU E (fun g1=>?_) (fun g1=>?_)<;>simp only [go_sem]
  ·have g1:t.s=[40]:=by simpa using g1
   simp [hb,g1]
  have g1:¬ t.s=[40]:=by simpa using g1
  by_cases g2:t.s=[123]<;>simp [hb,g1,g2]
 ·simp [hb,h5]
theorem D5 {G} {N:Nat} {ex:PS→PR} (hex:∀ s,GP 1 s (ex s)) (hc:cO 274 G N (mg ex)):cO 236 G N (jZ ex):=by
 intro L s hf hl hN
 have hl1:L.length≤1000000:=by omega
 have hsg:=l8 hex
 obtain ⟨sub,hsub⟩:∃ sub,sub=mg ex:=⟨_,rfl⟩
 have hF:jZ ex s=dS bP sub (sub s).2.l.length.succ (sub s).1 (sub s).2:=by rw [hsub];rfl
 rw [hF]
 rw [← hsub] at hc hsg
 generalize hR:dS bP sub (sub s).2.l.length.succ (sub s).1 (sub s).2=R
 have h0:=hsg s
 obtain ⟨a0,s0,hs0⟩:∃ a0 s0,sub s=(a0,s0):=⟨_,_,rfl⟩
 have hc0:=hc L s hf hl hN
 rw [hs0] at hR h0 hc0
 simp only at hR hc0
 unfold exD at hc0
 unfold RX TS TX ae
 refine aq Tryz.func236 rfl (by decide +kernel) (by simp [Tryz.ntmps236]) (veil fun E=>?_)
 simp only [go_sem]
 refine ab E [.bx [100] 0] (RX L s) [100,101] (hc0) rfl rfl ⟨by simp only [go_sem],by first | (rw [aa];decide) | (simp only [go_sem]<;>(try rw [aa])<;>decide)⟩ rfl (by unfold RX TS TX ae;simp only [go_sem]) (by unfold RX TS TX;simp only [go_sem]) ?_
 rintro _ _ ⟨rfl,rfl⟩
 unfold RX TS TX ae
 simp only [go_sem]
 refine az E (X:={ x:Nat × List EN × PS // dS bP sub x.1 x.2.1 x.2.2=R∧GP 1 s x.2∧x.2.2.l.length<x.1 }) (fun x=>[(0,.bx [100] 0),(2,.bx [2] 0),(3,.bx [3] 0)])
  (fun x=>[([2],.box [.d .nils]),([3],.box [.d (.sl (some 9) (x.1.2.1.map enD))]),([100],.box [.bx [101] 0,.d (i64 x.1.2.2.err),.d (i64 x.1.2.2.pos),.d (i64 x.1.2.2.nest)]),([101],.box [.d (.sl (some 4) (L.map ck)),.d (i64 (atN L x.1.2.2)),.d (i64 x.1.2.2.fin)])]) [2,3,100,101] (fun x=>x.1.2.2.l.length) ⟨(s0.l.length.succ,a0,s0),hR,h0,Nat.lt_succ_self _⟩ id ?_ ?_
 ·simp only [go_sem]
  all_goals ((repeat' apply And.intro)<;>first | rfl | trivial)
 rintro ⟨⟨m,a,q⟩,hb,hg,hm⟩ E0
 refine aC E0 fun Q' hQ E'=>?_
 simp only at hb hg hm ⊢
 have hfq:=hf.ss hg.ss
 obtain ⟨m,rfl⟩:∃ k,m=k+1:=⟨m-1,by omega⟩
 rw [dS] at hb
 simp only [go_sem]
 refine ah E' (fun he=>?_) (fun he=>?_)<;>simp only [go_sem]
 rotate_left
 ·have ho:opS q bP=none:=CK he _
  have hb:(a,q)=R:=by rw [ho] at hb;exact hb
  subst hb
  rw [hQ]
  simp only [go_sem]
  refine ⟨_,_,[100,101],id,⟨rfl,rfl⟩,?_⟩
  simp only [go_sem]
  rfl
 refine ab E' [.bx [101] 0] (TS L q) [101] (fV hfq hl1) rfl rfl ⟨by simp only [go_sem],by first | (rw [aa];decide) | (simp only [go_sem]<;>(try rw [aa])<;>decide)⟩ rfl (by unfold TS TX ae;simp only [go_sem]) (by unfold TS TX;simp only [go_sem]) ?_
 rintro _ _ ⟨rfl,rfl⟩
 unfold TS TX ae
 simp only [go_sem]
 refine ab E' [.bx [100] 0,.d (.str [42])] (RX L q) [100,101] (dj hfq hl1 [42]) rfl rfl ⟨by simp only [go_sem],by first | (rw [aa];decide) | (simp only [go_sem]<;>(try rw [aa])<;>decide)⟩ rfl (by unfold RX TS TX ae;simp only [go_sem]) (by unfold RX TS TX;simp only [go_sem]) ?_
 rintro _ _ ⟨rfl,rfl⟩
 unfold RX TS TX ae
 simp only [go_sem]
 refine aB E' (fun k1=>?_) (fun k1=>?_)<;>simp only [go_sem]
 ·have ho:opS q bP=some 3:=by unfold bP opS;rw [k1];rfl
  rw [bp k1]
  have hsl:=dG ho
  have hnf:=hfq.ss (SS.next q)
  rw [ho] at hb
  simp only at hb
  refine ak mixed E' fun X=>?_
  simp only [go_sem]
  obtain ⟨b0,q1,hq1⟩:∃ b0 q1,sub q.next=(b0,q1):=⟨_,_,rfl⟩
  have h2:=hc L q.next hnf hl ((SS.next q).nest.trans (hg.ss.nest.trans hN))
  have h3:=hsg q.next
  rw [hq1] at h2 h3 hb
  unfold exD at h2
  refine aZ X [.bx [100] 0] (RX L q.next) [100,101] _ _ h2 rfl rfl ⟨by simp only [go_sem],by rw [aa];decide⟩ rfl (by unfold RX TS TX ae;simp only [go_sem]) (by unfold RX TS TX;simp only [go_sem]) (by unfold RX TS TX;simp only [go_sem]) ?_
  unfold RX TS TX ae
  simp only [go_sem]
  have ht2:=h3.tr
  have hz1:=hg.sz
  have hz2:=h3.sz
  have hn2:=(SS.next q).len
  have hfl:=hf.le
  simp only at ht2 hz1 hz2
  have h4:=eB (G:=G) { nd0 10 q.peek.pos with n:=3 } [a,b0] rfl rfl (by simp only [aT,List.map_cons,List.map_nil,List.sum_cons,List.sum_nil];omega)
   (fun l h=>by
    rcases List.mem_cons.1 h with rfl | h
    ·exact hg.tr.kids.2
    ·rw [List.mem_singleton.1 h];exact ht2.kids.2)
   (fun l h=>by
    rcases List.mem_cons.1 h with rfl | h
    ·exact hg.wd.mono (by omega)
    ·rw [List.mem_singleton.1 h];exact h3.wd.mono (by omega))
  have h5:=GP.iZ (e:=1) (n:={ nd0 10 q.peek.pos with n:=3 }) (s1:=s) (a:=(a,q)) (b:=(b0,q1)) hg h3 (SS.refl s) (SS.next q) rfl rfl (by simp only;omega)
  simp only at h5
  generalize au { nd0 10 q.peek.pos with n:=3 } [a,b0]=J at h4 h5 hb
  unfold ndN exD at h4
  refine bw X 30 [30] (some 1) [.agg [.sl (some 9) (a.map enD)],.agg [.sl (some 9) (b0.map enD)]] h4 (fun _=>rfl) rfl rfl rfl (by simp) rfl (by simp only [go_sem]) ?_
  simp only [go_sem]
  refine ⟨by decide +kernel,?_⟩
  rw [hQ]
  simp only [go_sem]
  have hlt:=h3.ss.len
  simp only at hlt
  refine ⟨⟨(m,J,q1),hb,h5,by show q1.l.length<m;omega⟩,by show q1.l.length<q.l.length;omega,id,?_⟩
  simp only [go_sem]
  all_goals ((repeat' apply And.intro)<;>first | rfl | trivial)
 rw [bS k1]
 refine ab E' [.bx [100] 0,.d (.str [47])] (RX L q) [100,101] (dj hfq hl1 [47]) rfl rfl ⟨by simp only [go_sem],by first | (rw [aa];decide) | (simp only [go_sem]<;>(try rw [aa])<;>decide)⟩ rfl (by unfold RX TS TX ae;simp only [go_sem]) (by unfold RX TS TX;simp only [go_sem]) ?_
 rintro _ _ ⟨rfl,rfl⟩
 unfold RX TS TX ae
 simp only [go_sem]
 refine aB E' (fun k2=>?_) (fun k2=>?_)<;>simp only [go_sem]
 ·have ho:opS q bP=some 4:=by unfold bP opS opS;rw [k1,k2];rfl
  rw [bp k2]
  have hsl:=dG ho
  have hnf:=hfq.ss (SS.next q)
  rw [ho] at hb
  simp only at hb
  refine ak mixed E' fun X=>?_
  simp only [go_sem]
  obtain ⟨b0,q1,hq1⟩:∃ b0 q1,sub q.next=(b0,q1):=⟨_,_,rfl⟩
  have h2:=hc L q.next hnf hl ((SS.next q).nest.trans (hg.ss.nest.trans hN))
  have h3:=hsg q.next
  rw [hq1] at h2 h3 hb
  unfold exD at h2
  refine aZ X [.bx [100] 0] (RX L q.next) [100,101] _ _ h2 rfl rfl ⟨by simp only [go_sem],by rw [aa];decide⟩ rfl (by unfold RX TS TX ae;simp only [go_sem]) (by unfold RX TS TX;simp only [go_sem]) (by unfold RX TS TX;simp only [go_sem]) ?_
  unfold RX TS TX ae
  simp only [go_sem]
  have ht2:=h3.tr
  have hz1:=hg.sz
  have hz2:=h3.sz
  have hn2:=(SS.next q).len
  have hfl:=hf.le
  simp only at ht2 hz1 hz2
  have h4:=eB (G:=G) { nd0 10 q.peek.pos with n:=4 } [a,b0] rfl rfl (by simp only [aT,List.map_cons,List.map_nil,List.sum_cons,List.sum_nil];omega)
   (fun l h=>by
    rcases List.mem_cons.1 h with rfl | h
    ·exact hg.tr.kids.2
    ·rw [List.mem_singleton.1 h];exact ht2.kids.2)
   (fun l h=>by
    rcases List.mem_cons.1 h with rfl | h
    ·exact hg.wd.mono (by omega)
    ·rw [List.mem_singleton.1 h];exact h3.wd.mono (by omega))
  have h5:=GP.iZ (e:=1) (n:={ nd0 10 q.peek.pos with n:=4 }) (s1:=s) (a:=(a,q)) (b:=(b0,q1)) hg h3 (SS.refl s) (SS.next q) rfl rfl (by simp only;omega)
  simp only at h5
  generalize au { nd0 10 q.peek.pos with n:=4 } [a,b0]=J at h4 h5 hb
  unfold ndN exD at h4
  refine bw X 30 [30] (some 1) [.agg [.sl (some 9) (a.map enD)],.agg [.sl (some 9) (b0.map enD)]] h4 (fun _=>rfl) rfl rfl rfl (by simp) rfl (by simp only [go_sem]) ?_
  simp only [go_sem]
  refine ⟨by decide +kernel,?_⟩
  rw [hQ]
  simp only [go_sem]
  have hlt:=h3.ss.len
  simp only at hlt
  refine ⟨⟨(m,J,q1),hb,h5,by show q1.l.length<m;omega⟩,by show q1.l.length<q.l.length;omega,id,?_⟩
  simp only [go_sem]
  all_goals ((repeat' apply And.intro)<;>first | rfl | trivial)
 rw [bS k2]
 have ho:opS q bP=none:=by unfold bP opS opS opS;rw [k1,k2];rfl
 have hb:(a,q)=R:=by rw [ho] at hb;exact hb
 subst hb
 rw [hQ]
 simp only [go_sem]
 refine ⟨_,_,[100,101],id,⟨rfl,rfl⟩,?_⟩
 simp only [go_sem]
 rfl
theorem EP {G} {N:Nat} {ex:PS→PR} (hex:∀ s,GP 1 s (ex s)) (hc:cO 236 G N (jZ ex)):cO 177 G N (rm ex):=by
 intro L s hf hl hN
 have hl1:L.length≤1000000:=by omega
 have hsg:=kg hex
 obtain ⟨sub,hsub⟩:∃ sub,sub=jZ ex:=⟨_,rfl⟩
 have hF:rm ex s=dS cl sub (sub s).2.l.length.succ (sub s).1 (sub s).2:=by rw [hsub];rfl
 rw [hF]
 rw [← hsub] at hc hsg
 generalize hR:dS cl sub (sub s).2.l.length.succ (sub s).1 (sub s).2=R
 have h0:=hsg s
 obtain ⟨a0,s0,hs0⟩:∃ a0 s0,sub s=(a0,s0):=⟨_,_,rfl⟩
 have hc0:=hc L s hf hl hN
 rw [hs0] at hR h0 hc0
 simp only at hR hc0
 unfold exD at hc0
 unfold RX TS TX ae
 refine aq Tryz.func177 rfl (by decide +kernel) (by simp [Tryz.ntmps177]) (veil fun E=>?_)
 simp only [go_sem]
 refine ab E [.bx [100] 0] (RX L s) [100,101] (hc0) rfl rfl ⟨by simp only [go_sem],by first | (rw [aa];decide) | (simp only [go_sem]<;>(try rw [aa])<;>decide)⟩ rfl (by unfold RX TS TX ae;simp only [go_sem]) (by unfold RX TS TX;simp only [go_sem]) ?_
 rintro _ _ ⟨rfl,rfl⟩
 unfold RX TS TX ae
 simp only [go_sem]
 refine az E (X:={ x:Nat × List EN × PS // dS cl sub x.1 x.2.1 x.2.2=R∧GP 1 s x.2∧x.2.2.l.length<x.1 }) (fun x=>[(0,.bx [100] 0),(2,.bx [2] 0),(3,.bx [3] 0)])
  (fun x=>[([2],.box [.d .nils]),([3],.box [.d (.sl (some 9) (x.1.2.1.map enD))]),([100],.box [.bx [101] 0,.d (i64 x.1.2.2.err),.d (i64 x.1.2.2.pos),.d (i64 x.1.2.2.nest)]),([101],.box [.d (.sl (some 4) (L.map ck)),.d (i64 (atN L x.1.2.2)),.d (i64 x.1.2.2.fin)])]) [2,3,100,101] (fun x=>x.1.2.2.l.length) ⟨(s0.l.length.succ,a0,s0),hR,h0,Nat.lt_succ_self _⟩ id ?_ ?_
 ·simp only [go_sem]
  all_goals ((repeat' apply And.intro)<;>first | rfl | trivial)
 rintro ⟨⟨m,a,q⟩,hb,hg,hm⟩ E0
 refine aC E0 fun Q' hQ E'=>?_
 simp only at hb hg hm ⊢
 have hfq:=hf.ss hg.ss
 obtain ⟨m,rfl⟩:∃ k,m=k+1:=⟨m-1,by omega⟩
 rw [dS] at hb
 simp only [go_sem]
 refine ah E' (fun he=>?_) (fun he=>?_)<;>simp only [go_sem]
 rotate_left
 ·have ho:opS q cl=none:=CK he _
  have hb:(a,q)=R:=by rw [ho] at hb;exact hb
  subst hb
  rw [hQ]
  simp only [go_sem]
  refine ⟨_,_,[100,101],id,⟨rfl,rfl⟩,?_⟩
  simp only [go_sem]
  rfl
 refine ab E' [.bx [101] 0] (TS L q) [101] (fV hfq hl1) rfl rfl ⟨by simp only [go_sem],by first | (rw [aa];decide) | (simp only [go_sem]<;>(try rw [aa])<;>decide)⟩ rfl (by unfold TS TX ae;simp only [go_sem]) (by unfold TS TX;simp only [go_sem]) ?_
 rintro _ _ ⟨rfl,rfl⟩
 unfold TS TX ae
 simp only [go_sem]
 refine ab E' [.bx [100] 0,.d (.str [43])] (RX L q) [100,101] (dj hfq hl1 [43]) rfl rfl ⟨by simp only [go_sem],by first | (rw [aa];decide) | (simp only [go_sem]<;>(try rw [aa])<;>decide)⟩ rfl (by unfold RX TS TX ae;simp only [go_sem]) (by unfold RX TS TX;simp only [go_sem]) ?_
 rintro _ _ ⟨rfl,rfl⟩
 unfold RX TS TX ae
 simp only [go_sem]
 refine aB E' (fun k1=>?_) (fun k1=>?_)<;>simp only [go_sem]
 ·have ho:opS q cl=some 1:=by unfold cl opS;rw [k1];rfl
  rw [bp k1]
  have hsl:=dG ho
  have hnf:=hfq.ss (SS.next q)
  rw [ho] at hb
  simp only at hb
  refine ak mixed E' fun X=>?_
  simp only [go_sem]
  obtain ⟨b0,q1,hq1⟩:∃ b0 q1,sub q.next=(b0,q1):=⟨_,_,rfl⟩
  have h2:=hc L q.next hnf hl ((SS.next q).nest.trans (hg.ss.nest.trans hN))
  have h3:=hsg q.next
  rw [hq1] at h2 h3 hb
  unfold exD at h2
  refine aZ X [.bx [100] 0] (RX L q.next) [100,101] _ _ h2 rfl rfl ⟨by simp only [go_sem],by rw [aa];decide⟩ rfl (by unfold RX TS TX ae;simp only [go_sem]) (by unfold RX TS TX;simp only [go_sem]) (by unfold RX TS TX;simp only [go_sem]) ?_
  unfold RX TS TX ae
  simp only [go_sem]
  have ht2:=h3.tr
  have hz1:=hg.sz
  have hz2:=h3.sz
  have hn2:=(SS.next q).len
  have hfl:=hf.le
  simp only at ht2 hz1 hz2
  have h4:=eB (G:=G) { nd0 10 q.peek.pos with n:=1 } [a,b0] rfl rfl (by simp only [aT,List.map_cons,List.map_nil,List.sum_cons,List.sum_nil];omega)
   (fun l h=>by
    rcases List.mem_cons.1 h with rfl | h
    ·exact hg.tr.kids.2
    ·rw [List.mem_singleton.1 h];exact ht2.kids.2)
   (fun l h=>by
    rcases List.mem_cons.1 h with rfl | h
    ·exact hg.wd.mono (by omega)
    ·rw [List.mem_singleton.1 h];exact h3.wd.mono (by omega))
  have h5:=GP.iZ (e:=1) (n:={ nd0 10 q.peek.pos with n:=1 }) (s1:=s) (a:=(a,q)) (b:=(b0,q1)) hg h3 (SS.refl s) (SS.next q) rfl rfl (by simp only;omega)
  simp only at h5
  generalize au { nd0 10 q.peek.pos with n:=1 } [a,b0]=J at h4 h5 hb
  unfold ndN exD at h4
  refine bw X 32 [32] (some 1) [.agg [.sl (some 9) (a.map enD)],.agg [.sl (some 9) (b0.map enD)]] h4 (fun _=>rfl) rfl rfl rfl (by simp) rfl (by simp only [go_sem]) ?_
  simp only [go_sem]
  refine ⟨by decide +kernel,?_⟩
  rw [hQ]
  simp only [go_sem]
  have hlt:=h3.ss.len
  simp only at hlt
  refine ⟨⟨(m,J,q1),hb,h5,by show q1.l.length<m;omega⟩,by show q1.l.length<q.l.length;omega,id,?_⟩
  simp only [go_sem]
  all_goals ((repeat' apply And.intro)<;>first | rfl | trivial)
 rw [bS k1]
 refine ab E' [.bx [100] 0,.d (.str [45])] (RX L q) [100,101] (dj hfq hl1 [45]) rfl rfl ⟨by simp only [go_sem],by first | (rw [aa];decide) | (simp only [go_sem]<;>(try rw [aa])<;>decide)⟩ rfl (by unfold RX TS TX ae;simp only [go_sem]) (by unfold RX TS TX;simp only [go_sem]) ?_
 rintro _ _ ⟨rfl,rfl⟩
 unfold RX TS TX ae
 simp only [go_sem]
 refine aB E' (fun k2=>?_) (fun k2=>?_)<;>simp only [go_sem]
 ·have ho:opS q cl=some 2:=by unfold cl opS opS;rw [k1,k2];rfl
  rw [bp k2]
  have hsl:=dG ho
  have hnf:=hfq.ss (SS.next q)
  rw [ho] at hb
  simp only at hb
  refine ak mixed E' fun X=>?_
  simp only [go_sem]
  obtain ⟨b0,q1,hq1⟩:∃ b0 q1,sub q.next=(b0,q1):=⟨_,_,rfl⟩
  have h2:=hc L q.next hnf hl ((SS.next q).nest.trans (hg.ss.nest.trans hN))
  have h3:=hsg q.next
  rw [hq1] at h2 h3 hb
  unfold exD at h2
  refine aZ X [.bx [100] 0] (RX L q.next) [100,101] _ _ h2 rfl rfl ⟨by simp only [go_sem],by rw [aa];decide⟩ rfl (by unfold RX TS TX ae;simp only [go_sem]) (by unfold RX TS TX;simp only [go_sem]) (by unfold RX TS TX;simp only [go_sem]) ?_
  unfold RX TS TX ae
  simp only [go_sem]
  have ht2:=h3.tr
  have hz1:=hg.sz
  have hz2:=h3.sz
  have hn2:=(SS.next q).len
  have hfl:=hf.le
  simp only at ht2 hz1 hz2
  have h4:=eB (G:=G) { nd0 10 q.peek.pos with n:=2 } [a,b0] rfl rfl (by simp only [aT,List.map_cons,List.map_nil,List.sum_cons,List.sum_nil];omega)
   (fun l h=>by
    rcases List.mem_cons.1 h with rfl | h
    ·exact hg.tr.kids.2
    ·rw [List.mem_singleton.1 h];exact ht2.kids.2)
   (fun l h=>by
    rcases List.mem_cons.1 h with rfl | h
    ·exact hg.wd.mono (by omega)
    ·rw [List.mem_singleton.1 h];exact h3.wd.mono (by omega))
  have h5:=GP.iZ (e:=1) (n:={ nd0 10 q.peek.pos with n:=2 }) (s1:=s) (a:=(a,q)) (b:=(b0,q1)) hg h3 (SS.refl s) (SS.next q) rfl rfl (by simp only;omega)
  simp only at h5
  generalize au { nd0 10 q.peek.pos with n:=2 } [a,b0]=J at h4 h5 hb
  unfold ndN exD at h4
  refine bw X 32 [32] (some 1) [.agg [.sl (some 9) (a.map enD)],.agg [.sl (some 9) (b0.map enD)]] h4 (fun _=>rfl) rfl rfl rfl (by simp) rfl (by simp only [go_sem]) ?_
  simp only [go_sem]
  refine ⟨by decide +kernel,?_⟩
  rw [hQ]
  simp only [go_sem]
  have hlt:=h3.ss.len
  simp only at hlt
  refine ⟨⟨(m,J,q1),hb,h5,by show q1.l.length<m;omega⟩,by show q1.l.length<q.l.length;omega,id,?_⟩
  simp only [go_sem]
  all_goals ((repeat' apply And.intro)<;>first | rfl | trivial)
 rw [bS k2]
 refine ab E' [.bx [100] 0,.d (.str [94])] (RX L q) [100,101] (dj hfq hl1 [94]) rfl rfl ⟨by simp only [go_sem],by first | (rw [aa];decide) | (simp only [go_sem]<;>(try rw [aa])<;>decide)⟩ rfl (by unfold RX TS TX ae;simp only [go_sem]) (by unfold RX TS TX;simp only [go_sem]) ?_
 rintro _ _ ⟨rfl,rfl⟩
 unfold RX TS TX ae
 simp only [go_sem]
 refine aB E' (fun k3=>?_) (fun k3=>?_)<;>simp only [go_sem]
 ·have ho:opS q cl=some 7:=by unfold cl opS opS opS;rw [k1,k2,k3];rfl
  rw [bp k3]
  have hsl:=dG ho
  have hnf:=hfq.ss (SS.next q)
  rw [ho] at hb
  simp only at hb
  refine ak mixed E' fun X=>?_
  simp only [go_sem]
  obtain ⟨b0,q1,hq1⟩:∃ b0 q1,sub q.next=(b0,q1):=⟨_,_,rfl⟩
  have h2:=hc L q.next hnf hl ((SS.next q).nest.trans (hg.ss.nest.trans hN))
  have h3:=hsg q.next
  rw [hq1] at h2 h3 hb
  unfold exD at h2
  refine aZ X [.bx [100] 0] (RX L q.next) [100,101] _ _ h2 rfl rfl ⟨by simp only [go_sem],by rw [aa];decide⟩ rfl (by unfold RX TS TX ae;simp only [go_sem]) (by unfold RX TS TX;simp only [go_sem]) (by unfold RX TS TX;simp only [go_sem]) ?_
  unfold RX TS TX ae
  simp only [go_sem]
  have ht2:=h3.tr
  have hz1:=hg.sz
  have hz2:=h3.sz
  have hn2:=(SS.next q).len
  have hfl:=hf.le
  simp only at ht2 hz1 hz2
  have h4:=eB (G:=G) { nd0 10 q.peek.pos with n:=7 } [a,b0] rfl rfl (by simp only [aT,List.map_cons,List.map_nil,List.sum_cons,List.sum_nil];omega)
   (fun l h=>by
    rcases List.mem_cons.1 h with rfl | h
    ·exact hg.tr.kids.2
    ·rw [List.mem_singleton.1 h];exact ht2.kids.2)
   (fun l h=>by
    rcases List.mem_cons.1 h with rfl | h
    ·exact hg.wd.mono (by omega)
    ·rw [List.mem_singleton.1 h];exact h3.wd.mono (by omega))
  have h5:=GP.iZ (e:=1) (n:={ nd0 10 q.peek.pos with n:=7 }) (s1:=s) (a:=(a,q)) (b:=(b0,q1)) hg h3 (SS.refl s) (SS.next q) rfl rfl (by simp only;omega)
  simp only at h5
  generalize au { nd0 10 q.peek.pos with n:=7 } [a,b0]=J at h4 h5 hb
  unfold ndN exD at h4
  refine bw X 32 [32] (some 1) [.agg [.sl (some 9) (a.map enD)],.agg [.sl (some 9) (b0.map enD)]] h4 (fun _=>rfl) rfl rfl rfl (by simp) rfl (by simp only [go_sem]) ?_
  simp only [go_sem]
  refine ⟨by decide +kernel,?_⟩
  rw [hQ]
  simp only [go_sem]
  have hlt:=h3.ss.len
  simp only at hlt
  refine ⟨⟨(m,J,q1),hb,h5,by show q1.l.length<m;omega⟩,by show q1.l.length<q.l.length;omega,id,?_⟩
  simp only [go_sem]
  all_goals ((repeat' apply And.intro)<;>first | rfl | trivial)
 rw [bS k3]
 have ho:opS q cl=none:=by unfold cl opS opS opS opS;rw [k1,k2,k3];rfl
 have hb:(a,q)=R:=by rw [ho] at hb;exact hb
 subst hb
 rw [hQ]
 simp only [go_sem]
 refine ⟨_,_,[100,101],id,⟨rfl,rfl⟩,?_⟩
 simp only [go_sem]
 rfl
end Go.Proofs.YtejpnabbmgpmaaaGreat

namespace Go.Proofs.YtejpnabbmgpmaaaGreat
open Go.Ab
theorem DN {G} {N:Nat} {ex:PS→PR} (hex:∀ s,GP 1 s (ex s)) (hc:cO 330 G N (cQ ex)):cO 308 G N (dO ex):=by
 intro L s hf hl hN
 have hl1:L.length≤1000000:=by omega
 have hg0:=nB hex s
 have hc0:=hc L s hf hl hN
 have hF:dO ex s=ch (cQ ex s).2.l.length.succ (cQ ex s).1 (cQ ex s).2:=rfl
 rw [hF]
 obtain ⟨a0,s0,hs0⟩:∃ a0 s0,cQ ex s=(a0,s0):=⟨_,_,rfl⟩
 rw [hs0] at hg0 hc0 ⊢
 simp only at hc0 ⊢
 generalize hR:ch s0.l.length.succ a0 s0=R
 unfold exD at hc0
 unfold RX TS TX ae
 refine aq Tryz.func308 rfl (by decide +kernel) (by simp [Tryz.ntmps308]) (veil fun E=>?_)
 simp only [go_sem]
 refine ab E [.bx [100] 0] (RX L s) [100,101] (hc0) rfl rfl ⟨by simp only [go_sem],by first | (rw [aa];decide) | (simp only [go_sem]<;>(try rw [aa])<;>decide)⟩ rfl (by unfold RX TS TX ae;simp only [go_sem]) (by unfold RX TS TX;simp only [go_sem]) ?_
 rintro _ _ ⟨rfl,rfl⟩
 unfold RX TS TX ae
 simp only [go_sem]
 refine az E (X:={ x:Nat × List EN × PS // ch x.1 x.2.1 x.2.2=R∧GQ s x.2∧x.2.2.l.length<x.1 }) (fun x=>[(0,.bx [100] 0),(2,.bx [2] 0),(3,.bx [3] 0)])
  (fun x=>[([2],.box [.d .nils]),([3],.box [.d (.sl (some 9) (x.1.2.1.map enD))]),([100],.box [.bx [101] 0,.d (i64 x.1.2.2.err),.d (i64 x.1.2.2.pos),.d (i64 x.1.2.2.nest)]),([101],.box [.d (.sl (some 4) (L.map ck)),.d (i64 (atN L x.1.2.2)),.d (i64 x.1.2.2.fin)])]) [2,3,100,101] (fun x=>x.1.2.2.l.length) ⟨(s0.l.length.succ,a0,s0),hR,hg0,Nat.lt_succ_self _⟩ id ?_ ?_
 ·simp only [go_sem]
  all_goals ((repeat' apply And.intro)<;>first | rfl | trivial)
 rintro ⟨⟨m,a,q⟩,hb,hg,hm⟩ E0
 refine aC E0 fun Q' hQ E'=>?_
 simp only at hb hg hm ⊢
 have hfq:=hf.ss hg.1.ss
 have hql:q.l.length≤s.l.length:=hg.1.ss.len
 obtain ⟨m,rfl⟩:∃ k,m=k+1:=⟨m-1,by omega⟩
 have hgn:=gJ s 1 a q hg
 rw [ch] at hb
 rw [show ch 1 a q=if q.sees 7 [46] then (au { nd0 12 q.peek.pos with name:=(q.next.of 2).1 } [a],(q.next.of 2).2) else (a,q) from rfl] at hgn
 simp only [go_sem]
 refine ah E' (fun he=>?_) (fun he=>?_)<;>simp only [go_sem]
 rotate_left
 ·rw [kY he,if_neg (by decide)] at hb
  subst hb
  rw [hQ]
  simp only [go_sem]
  refine ⟨_,_,[100,101],id,⟨rfl,rfl⟩,?_⟩
  simp only [go_sem]
  rfl
 refine ab E' [.bx [101] 0] (TS L q) [101] (fV hfq hl1) rfl rfl ⟨by simp only [go_sem],by first | (rw [aa];decide) | (simp only [go_sem]<;>(try rw [aa])<;>decide)⟩ rfl (by unfold TS TX ae;simp only [go_sem]) (by unfold TS TX;simp only [go_sem]) ?_
 rintro _ _ ⟨rfl,rfl⟩
 unfold TS TX ae
 simp only [go_sem]
 refine ab E' [.bx [100] 0,.d (.str [46])] (RX L q) [100,101] (dj hfq hl1 [46]) rfl rfl ⟨by simp only [go_sem],by first | (rw [aa];decide) | (simp only [go_sem]<;>(try rw [aa])<;>decide)⟩ rfl (by unfold RX TS TX ae;simp only [go_sem]) (by unfold RX TS TX;simp only [go_sem]) ?_
 rintro _ _ ⟨rfl,rfl⟩
 unfold RX TS TX ae
 simp only [go_sem]
 refine aB E' (fun h=>?_) (fun h=>?_)<;>simp only [go_sem]
 ·have h':q.sees 7 [46]=false:=by simpa using h
  rw [h',if_neg (by decide)] at hb
  rw [bS h']
  subst hb
  rw [hQ]
  simp only [go_sem]
  refine ⟨_,_,[100,101],id,⟨rfl,rfl⟩,?_⟩
  simp only [go_sem]
  rfl
 ·have h':q.sees 7 [46]=true:=by simpa using h
  have hsl:=ax h'
  rw [h',if_pos rfl] at hb hgn
  rw [bp h']
  have hfn:=hfq.ss (SS.next q)
  have h2:=jG (G:=G) hfn hl1 2
  obtain ⟨nm,q1,hq1⟩:∃ nm q1,q.next.of 2=(nm,q1):=⟨_,_,rfl⟩
  have hq1l:=(SS.of q.next 2).len
  rw [hq1] at h2 hb hgn hq1l
  simp only at hq1l
  refine ab E' [.bx [100] 0,.d (i64 2)] (RX L q.next) [100,101] (h2) rfl rfl ⟨by simp only [go_sem],by first | (rw [aa];decide) | (simp only [go_sem]<;>(try rw [aa])<;>decide)⟩ rfl (by unfold RX TS TX ae;simp only [go_sem]) (by unfold RX TS TX;simp only [go_sem]) ?_
  rintro _ _ ⟨rfl,rfl⟩
  unfold RX TS TX ae
  simp only [go_sem]
  have hz1:=hg.1.sz
  have hfl:=hf.le
  simp only at hz1
  have h4:=eB (G:=G) { nd0 12 q.peek.pos with name:=nm } [a] rfl rfl (by simp only [aT,List.map_cons,List.map_nil,List.sum_cons,List.sum_nil];omega)
   (fun l h=>by rw [List.mem_singleton.1 h];exact hg.1.tr.kids.2)
   (fun l h=>by rw [List.mem_singleton.1 h];exact hg.1.wd.mono (by omega))
  simp only at hb hgn
  generalize au { nd0 12 q.peek.pos with name:=nm } [a]=J at h4 hb hgn
  unfold ndN exD at h4
  refine cJ E' [29] (some 1) [.agg [.sl (some 9) (a.map enD)]] rfl (by simp only [go_sem];rfl) ?_
  simp only [go_sem]
  refine ag E' h4 rfl rfl (by simp) ?_
  rintro _ rfl
  simp only [go_sem]
  rw [hQ]
  simp only [go_sem]
  refine ⟨⟨(m,J,q1),hb,hgn,by show q1.l.length<m;omega⟩,by show q1.l.length<q.l.length;omega,id,?_⟩
  simp only [go_sem]
  all_goals ((repeat' apply And.intro)<;>first | rfl | trivial)
end Go.Proofs.YtejpnabbmgpmaaaGreat

namespace Go.Proofs.YtejpnabbmgpmaaaGreat
open Go.Ab
theorem FJ {G} {N:Nat} {ex:PS→PR} (hex:∀ s,GP 1 s (ex s)) (hc:cO 308 G N (dO ex)):cO 274 G N (mg ex):=by
 intro L s hf hl hN
 have hl1:L.length≤1000000:=by omega
 generalize hR:mg ex s=R
 unfold mg PS.has at hR
 have hsg:=iz hex
 have hfl:=hf.le
 unfold RX TS TX ae
 refine aq Tryz.func274 rfl (by decide +kernel) (by simp [Tryz.ntmps274]) (veil fun E=>?_)
 simp only [go_sem]
 refine ah E (fun he=>?_) (fun he=>?_)<;>simp only [go_sem]
 ·have hR':R=(noE,s):=by
   rw [← hR,decide_eq_false he,Bool.false_and,if_neg (by decide)]
   have h1:cQ ex s=(noE,s):=by
    unfold cQ
    simp only
    rw [if_pos he]
    unfold PS.wrong
    rw [b8 he]
   have h2:dO ex s=(noE,s):=by
    unfold dO
    simp only
    rw [h1]
    show ch (s.l.length+1) noE s=_
    rw [ch,kY he,if_neg (by decide)]
   simp only
   rw [h2]
   show iN ex (s.l.length+1) noE s=_
   rw [iN,decide_eq_false he,Bool.false_and,if_neg (by decide)]
  have hno:=jE (G:=G)
  subst hR'
  simp only
  generalize noE=J at *
  unfold exD at *
  refine ag E hno rfl rfl (by simp) ?_
  rintro _ rfl
  simp only [go_sem]
  refine ⟨_,_,[100,101],id,⟨rfl,rfl⟩,?_⟩
  simp only [go_sem]
 have he:s.err=0:=by simpa using he
 refine ab E [.bx [101] 0] (TS L s) [101] (fV hf hl1) rfl rfl ⟨by simp only [go_sem],by first | (rw [aa];decide) | (simp only [go_sem]<;>(try rw [aa])<;>decide)⟩ rfl (by unfold TS TX ae;simp only [go_sem]) (by unfold TS TX;simp only [go_sem]) ?_
 rintro _ _ ⟨rfl,rfl⟩
 unfold TS TX ae
 simp only [go_sem]
 rw [decide_eq_true he,Bool.true_and] at hR
 refine ah E (fun h2=>?_) (fun h2=>?_)<;>simp only [go_sem]
 ·rw [decide_eq_true h2,if_pos rfl] at hR
  refine ab E [.bx [101] 0] (TS L s) [101] (By hf hl1) rfl rfl ⟨by simp only [go_sem],by first | (rw [aa];decide) | (simp only [go_sem]<;>(try rw [aa])<;>decide)⟩ rfl (by unfold TS TX ae;simp only [go_sem]) (by unfold TS TX;simp only [go_sem]) ?_
  rintro _ _ ⟨rfl,rfl⟩
  unfold TS TX ae
  simp only [go_sem]
  refine ak mixed E fun X=>?_
  simp only [go_sem]
  obtain ⟨b0,q1,hq1⟩:∃ b0 q1,dO ex s.next=(b0,q1):=⟨_,_,rfl⟩
  have hn2:=(SS.next s).len
  have g2:=hc L s.next (hf.ss (SS.next s)) hl ((SS.next s).nest.trans hN)
  have h3:=(hsg s.next).1
  rw [hq1] at g2 h3 hR
  unfold exD at g2
  refine aZ X [.bx [100] 0] (RX L s.next) [100,101] _ _ g2 rfl rfl ⟨by simp only [go_sem],by rw [aa];decide⟩ rfl (by unfold RX TS TX ae;simp only [go_sem]<;>rfl) (by unfold RX TS TX;simp only [go_sem]) (by unfold RX TS TX;simp only [go_sem]) ?_
  unfold RX TS TX ae
  simp only [go_sem]
  have ht2:=h3.tr
  have hz2:=h3.sz
  simp only at ht2 hz2 hR
  have h4:=eB (G:=G) { nd0 13 s.peek.pos with name:=s.peek.s } [b0] rfl rfl (by simp only [aT,List.map_cons,List.map_nil,List.sum_cons,List.sum_nil];omega)
   (fun l h=>by rw [List.mem_singleton.1 h];exact ht2.kids.2)
   (fun l h=>by rw [List.mem_singleton.1 h];exact h3.wd.mono (by omega))
  generalize au { nd0 13 s.peek.pos with name:=s.peek.s } [b0]=J at h4 hR
  unfold ndN exD at h4
  refine bw X 32 [32] (some 1) [.agg [.sl (some 9) (b0.map enD)]] h4 (fun _=>rfl) rfl rfl rfl (by simp) rfl (by simp only [go_sem]) ?_
  simp only [go_sem]
  refine ⟨by decide +kernel,?_⟩
  rw [← hR]
  refine ⟨_,_,[100,101],id,⟨rfl,rfl⟩,?_⟩
  simp only [go_sem]
  rfl
 rw [decide_eq_false h2,if_neg (by decide)] at hR
 have h0:=(hsg s).1
 have hc0:=hc L s hf hl hN
 obtain ⟨a0,s0,hs0⟩:∃ a0 s0,dO ex s=(a0,s0):=⟨_,_,rfl⟩
 rw [hs0] at h0 hc0
 unfold exD at hc0
 simp only [hs0] at hR
 refine ab E [.bx [100] 0] (RX L s) [100,101] (hc0) rfl rfl ⟨by simp only [go_sem],by first | (rw [aa];decide) | (simp only [go_sem]<;>(try rw [aa])<;>decide)⟩ rfl (by unfold RX TS TX ae;simp only [go_sem]) (by unfold RX TS TX;simp only [go_sem]) ?_
 rintro _ _ ⟨rfl,rfl⟩
 unfold RX TS TX ae
 simp only [go_sem]
 refine az E (X:={ x:Nat × List EN × PS // iN ex x.1 x.2.1 x.2.2=R∧GP 1 s x.2∧x.2.2.l.length<x.1 }) (fun x=>[(0,.bx [100] 0),(2,.bx [2] 0),(4,.bx [4] 0)])
  (fun x=>[([2],.box [.d .nils]),([4],.box [.d (.sl (some 9) (x.1.2.1.map enD))]),([100],.box [.bx [101] 0,.d (i64 x.1.2.2.err),.d (i64 x.1.2.2.pos),.d (i64 x.1.2.2.nest)]),([101],.box [.d (.sl (some 4) (L.map ck)),.d (i64 (atN L x.1.2.2)),.d (i64 x.1.2.2.fin)])]) [2,4,100,101] (fun x=>x.1.2.2.l.length) ⟨(s0.l.length.succ,a0,s0),hR,h0,Nat.lt_succ_self _⟩ id ?_ ?_
 ·simp only [go_sem]
  all_goals ((repeat' apply And.intro)<;>first | rfl | trivial)
 rintro ⟨⟨m,a,q⟩,hb,hg,hm⟩ E0
 refine aC E0 fun Q' hQ E'=>?_
 simp only at hb hg hm ⊢
 have hfq:=hf.ss hg.ss
 have hql:q.l.length≤s.l.length:=hg.ss.len
 obtain ⟨m,rfl⟩:∃ k,m=k+1:=⟨m-1,by omega⟩
 have hgn:=kc hex s 1 a q hg
 rw [iN] at hb
 rw [show iN ex 1 a q=if decide (q.err=0) && q.begins then (au (nd0 6 (db a).pos) [a,(dO ex q).1],(dO ex q).2) else (a,q) from rfl] at hgn
 simp only [go_sem]
 refine an E' (fun g1=>?_) (fun g1=>?_)<;>simp only [go_sem]
 rotate_left
 ·rw [decide_eq_false g1,Bool.false_and,if_neg (by decide)] at hb
  subst hb
  rw [hQ]
  simp only [go_sem]
  refine ⟨_,_,[100,101],id,⟨rfl,rfl⟩,?_⟩
  simp only [go_sem]
  rfl
 rw [decide_eq_true g1,Bool.true_and] at hb hgn
 refine ab E' [.bx [101] 0] (TS L q) [101] (fV hfq hl1) rfl rfl ⟨by simp only [go_sem],by first | (rw [aa];decide) | (simp only [go_sem]<;>(try rw [aa])<;>decide)⟩ rfl (by unfold TS TX ae;simp only [go_sem]) (by unfold TS TX;simp only [go_sem]) ?_
 rintro _ _ ⟨rfl,rfl⟩
 unfold TS TX ae
 simp only [go_sem]
 refine ag E' (Fq q) rfl rfl (by simp) ?_
 rintro _ rfl
 simp only [go_sem]
 refine aB E' (fun g2=>?_) (fun g2=>?_)<;>simp only [go_sem]
 rotate_left
 ·rw [g2,if_neg (by decide)] at hb
  subst hb
  rw [hQ]
  simp only [go_sem]
  refine ⟨_,_,[100,101],id,⟨rfl,rfl⟩,?_⟩
  simp only [go_sem]
  rfl
 rw [g2,if_pos rfl] at hb hgn
 have hap:=hg.tr.kids.1
 have hz1:=hg.sz
 simp only at hap hz1
 rw [ai (n:=(a.length:Int)-1) ⟨by omega,by omega⟩]
 refine ⟨⟨by omega,by omega⟩,?_⟩
 rw [show ((a.length:Int)-1).toNat=a.length-1 by omega,aN (show a.length-1<a.length by omega)]
 have hrt:db a=ndE a (a.length-1):=rfl
 rw [← hrt]
 generalize db a=rt at hb hgn ⊢
 simp only [go_sem]
 refine ak mixed E' fun X=>?_
 simp only [go_sem]
 obtain ⟨b0,q1,hq1⟩:∃ b0 q1,dO ex q=(b0,q1):=⟨_,_,rfl⟩
 have h2:=hc L q hfq hl (hg.ss.nest.trans hN)
 have h3:=(hsg q).1
 have hlt:=oR hex g1 g2
 rw [hq1] at h2 h3 hb hgn hlt
 unfold exD at h2
 refine aZ X [.bx [100] 0] (RX L q) [100,101] _ _ h2 rfl rfl ⟨by simp only [go_sem],by rw [aa];decide⟩ rfl (by unfold RX TS TX ae;simp only [go_sem]<;>rfl) (by unfold RX TS TX;simp only [go_sem]) (by unfold RX TS TX;simp only [go_sem]) ?_
 unfold RX TS TX ae
 simp only [go_sem]
 have ht2:=h3.tr
 have hz2:=h3.sz
 simp only at ht2 hz2 hlt
 have h4:=eB (G:=G) (nd0 6 rt.pos) [a,b0] rfl rfl (by simp only [aT,List.map_cons,List.map_nil,List.sum_cons,List.sum_nil];omega)
  (fun l h=>by
   rcases List.mem_cons.1 h with rfl | h
   ·exact hg.tr.kids.2
   ·rw [List.mem_singleton.1 h];exact ht2.kids.2)
  (fun l h=>by
   rcases List.mem_cons.1 h with rfl | h
   ·exact hg.wd.mono (by omega)
   ·rw [List.mem_singleton.1 h];exact h3.wd.mono (by omega))
 simp only at hb hgn
 generalize au (nd0 6 rt.pos) [a,b0]=J at h4 hb hgn
 unfold ndN exD at h4
 refine bw X 63 [63] (some 1) [.agg [.sl (some 9) (a.map enD)],.agg [.sl (some 9) (b0.map enD)]] h4 (fun _=>rfl) rfl rfl rfl (by simp) rfl (by simp only [go_sem]) ?_
 simp only [go_sem]
 refine ⟨by decide +kernel,?_⟩
 rw [hQ]
 simp only [go_sem]
 refine ⟨⟨(m,J,q1),hb,hgn,by show q1.l.length<m;omega⟩,hlt,id,?_⟩
 simp only [go_sem]
 all_goals ((repeat' apply And.intro)<;>first | rfl | trivial)
end Go.Proofs.YtejpnabbmgpmaaaGreat

namespace Go.Proofs.YtejpnabbmgpmaaaGreat
open Go.Ab
def FX (L:List Tok) (s:PS) (l:List EF):List (Name × Ob):=([103],.arr (some 3) (l.map fD))::RX L s
theorem G7 (l:List EF) (t:List UInt8):(l.any fun f=>decide (f.nm=t))=decide (t∈l.map (·.nm)):=by
 rw [Bool.eq_iff_iff]
 simp only [List.any_eq_true,decide_eq_true_eq,List.mem_map]
theorem Gk {l:List EF} {i:Nat} (h:i<l.length):(l.map fD).getD i .nilp=.agg [.str l[i].nm,.str l[i].var,i64 l[i].to]:=by
 rw [List.getD_eq_getElem?_getD,List.getElem?_map,List.getElem?_eq_getElem h];rfl
theorem wi {G} (L:List Tok) (s:PS) (t:Tok) (l:List EF) (hl:l.length≤30):HCall Tryz.prog G 357 [.bx [100] 0,.d (.agg [i64 t.k,.str t.s,i64 t.n,i64 t.pos]),.vw [103] 0 l.length] (FX L s l) [100,101,103] (fun r hp'=>r=.tup []∧hp'=FX L (s.parted t l) l):=by
 generalize hR:s.parted t l=R
 unfold PS.parted at hR
 rw [G7] at hR
 have c8:=jd (G:=G) L s 8 t.pos
 have c5:=jd (G:=G) L s 5 t.pos
 have cin:=qU (G:=G) t.s (l.map (·.nm)) (by rw [List.length_map];omega)
 generalize hM:l.map (·.nm)=M at *
 have hMl:M.length=l.length:=by rw [← hM,List.length_map]
 have hMt:∀ i (h:i<l.length),(M.take (i+1)).map D.str=(M.take i).map D.str++[.str l[i].nm]:=fun i h=>by
  rw [List.take_succ_eq_append_getElem (by omega),List.map_append]
  simp [← hM]
 unfold strs at cin
 unfold FX RX TS TX ae
 refine aq Tryz.func357 rfl (by decide +kernel) (by simp [Tryz.ntmps357]) (veil fun E=>?_)
 simp only [go_sem]
 refine ah E (fun h1=>?_) (fun h1=>?_)<;>simp only [go_sem]
 ·rw [if_pos h1] at hR
  subst hR
  refine ⟨_,_,[100,101,103],id,⟨rfl,rfl⟩,?_⟩
  simp only [go_sem]
 rw [if_neg h1] at hR
 refine az E (X:={ i:Nat // i≤l.length }) (fun x=>[(0,.bx [100] 0),(2,.vw [103] 0 l.length),(4,.bx [4] 0),(6,.vw [98] 0 x.1),(7,.d (i64 x.1))])
  (fun x=>[([4],.box [.d (i64 t.k),.d (.str t.s),.d (i64 t.n),.d (i64 t.pos)]),([98],.arr none ((M.take x.1).map .str)),([103],.arr (some 3) (l.map fD)),([100],.box [.bx [101] 0,.d (i64 s.err),.d (i64 s.pos),.d (i64 s.nest)]),([101],.box [.d (.sl (some 4) (L.map ck)),.d (i64 (atN L s)),.d (i64 s.fin)])]) [4,98,100,101,103] (fun x=>l.length-x.1) ⟨0,Nat.zero_le _⟩ (tau [([98],[13])]) ?_ ?_
 ·simp only [go_sem]
  all_goals ((repeat' apply And.intro)<;>first | rfl | trivial)
 rintro ⟨i,hi⟩ E0
 refine aC E0 fun Q' hQ E'=>?_
 simp only at hi ⊢
 simp only [go_sem]
 refine ah E' (fun h2=>?_) (fun h2=>?_)<;>simp only [go_sem]
 ·have hi':i<l.length:=by omega
  refine ⟨⟨by omega,by omega⟩,?_⟩
  rw [Gk hi']
  simp only [go_sem]
  rw [show List.take i (List.map D.str (List.take i M))=(M.take i).map D.str from List.take_of_length_le (by rw [List.length_map,List.length_take];omega),← hMt i hi']
  refine ⟨by omega,?_⟩
  rw [hQ]
  simp only [go_sem]
  rw [ai (n:=(i:Int)+1) ⟨by omega,by omega⟩]
  refine ⟨⟨i+1,by omega⟩,by show l.length-(i+1)<l.length-i;omega,tau [([98],[27])],?_⟩
  simp only [go_sem]
  all_goals ((repeat' apply And.intro)<;>first | rfl | trivial)
 ·have hi':i=l.length:=by omega
  subst hi'
  rw [hQ]
  simp only [go_sem]
  rw [List.take_of_length_le (show M.length≤l.length by omega)]
  refine ah E (fun h3=>?_) (fun h3=>?_)<;>simp only [go_sem]
  ·rw [if_pos (by omega)] at hR
   refine ab E [.bx [100] 0,.d (i64 8),.d (i64 t.pos)] (RX L s) [100,101] (c8) rfl rfl ⟨by simp only [go_sem],by first | (rw [aa];decide) | (simp only [go_sem]<;>(try rw [aa])<;>decide)⟩ rfl (by unfold RX TS TX ae;simp only [go_sem]) (by unfold RX TS TX;simp only [go_sem]) ?_
   rintro _ _ ⟨rfl,rfl⟩
   unfold RX TS TX ae
   simp only [go_sem]
   rw [← hR]
   refine ⟨_,_,[100,101,103],id,⟨rfl,rfl⟩,?_⟩
   simp only [go_sem]
  ·rw [if_neg (by omega)] at hR
   refine cJ E [98] none (M.map .str) rfl (by simp only [go_sem];rfl) ?_
   simp only [go_sem]
   rw [show List.take l.length (List.map D.str M)=M.map .str from List.take_of_length_le (by rw [List.length_map];omega)]
   refine ag E cin rfl rfl (by simp) ?_
   rintro _ rfl
   simp only [go_sem]
   refine ah E (fun h4=>?_) (fun h4=>?_)<;>simp only [go_sem]
   ·rw [if_pos (decide_eq_true h4)] at hR
    refine ab E [.bx [100] 0,.d (i64 5),.d (i64 t.pos)] (RX L s) [100,101] (c5) rfl rfl ⟨by simp only [go_sem],by first | (rw [aa];decide) | (simp only [go_sem]<;>(try rw [aa])<;>decide)⟩ rfl (by unfold RX TS TX ae;simp only [go_sem]) (by unfold RX TS TX;simp only [go_sem]) ?_
    rintro _ _ ⟨rfl,rfl⟩
    unfold RX TS TX ae
    simp only [go_sem]
    rw [← hR]
    refine ⟨_,_,[100,101,103],id,⟨rfl,rfl⟩,?_⟩
    simp only [go_sem]
   ·rw [if_neg (by rw [decide_eq_false h4];decide)] at hR
    rw [← hR]
    refine ⟨_,_,[100,101,103],id,⟨rfl,rfl⟩,?_⟩
    simp only [go_sem]
end Go.Proofs.YtejpnabbmgpmaaaGreat

namespace Go.Proofs.YtejpnabbmgpmaaaGreat
open Go.Ab
def wh (f:Nat) (G:List (Nat × Obj)) (N:Nat) (sub:PS→Int→PR):Prop:=∀ (L:List Tok) (s:PS) (p:Int),Fit L s→L.length≤100000→s.nest=N→s.err=0→HCall Tryz.prog G f [.bx [100] 0,.d (i64 p)] (RX L s) [100,101] (fun r hp'=>r=.d (exD (sub s p).1)∧hp'=RX L (sub s p).2)
theorem nY {s:PS} {t:Tok} {l:List EF} (h:(s.parted t l).err=0):l.length≠30:=by
 unfold PS.parted at h
 split at h
 ·rename_i g;exact absurd h g
 split at h
 ·exact absurd h (pP (by decide))
 ·assumption
set_option maxHeartbeats 2000000 in
theorem DM {G} {N:Nat} {ex:PS→PR} (hex:∀ s,GP 1 s (ex s)) (hst:∀ s,s.err≠0→(ex s).2=s) (hc:cO 70 G N ex):wh 342 G N (cg ex):=by
 intro L s p hf hl hN he0
 have hl1:L.length≤1000000:=by omega
 have hfl:=hf.le
 generalize hR:cg ex s p=R
 unfold cg at hR
 have hg:=dH hex [44] du SS.field s.l.length.succ s [] [] rfl (fun _ h=>by cases h)
 obtain ⟨F,hF⟩:∃ F,F=aP ex [44] du s.l.length.succ s [] []:=⟨_,rfl⟩
 rw [← hF] at hg
 simp only [← hF] at hR
 obtain ⟨fl,kk,qf⟩:=F
 simp only at hR
 have g1:=hg.sz
 have g2:=hg.ln
 have g3:=hg.ss.len
 have g4:=hg.eq
 simp only [aT,List.map_nil,List.sum_nil,List.length_nil] at g1 g2 g3 g4
 unfold RX TS TX ae
 refine aq Tryz.func342 rfl (by decide +kernel) (by simp [Tryz.ntmps342]) (veil fun E=>?_)
 simp only [go_sem]
 refine ab E [.bx [100] 0,.d (.str [125])] (RX L s) [100,101] (dj hf hl1 [125]) rfl rfl ⟨by simp only [go_sem],by first | (rw [aa];decide) | (simp only [go_sem]<;>(try rw [aa])<;>decide)⟩ rfl (by unfold RX TS TX ae;simp only [go_sem]) (by unfold RX TS TX;simp only [go_sem]) ?_
 rintro _ _ ⟨rfl,rfl⟩
 unfold RX TS TX ae
 simp only [go_sem]
 refine aB E (fun h=>?_) (fun h=>?_)<;>simp only [go_sem]
 ·rw [if_pos h] at hR
  rw [bp h]
  have hlf:=lP (G:=G) (nd0 11 p) rfl rfl
  generalize bj (nd0 11 p)=J at hlf hR
  unfold ndN exD at hlf
  refine ag E hlf rfl rfl (by simp) ?_
  rintro _ rfl
  simp only [go_sem]
  subst hR
  refine ⟨_,_,[100,101],id,⟨rfl,rfl⟩,?_⟩
  simp only [go_sem]
  rfl
 rw [if_neg (by rw [h];decide)] at hR
 rw [bS h]
 refine qD E [5] 7 103 (some 3) [.d (i64 11),.d (i64 0),.d (i64 0),.d (i64 0),.d (i64 0),.d (.str []),.d (.str []),.d .nils,.d (i64 p)] rfl rfl (by rw [aa];decide) ?_
 simp only [go_sem]
 refine az E (X:={ x:Nat × PS × List EF × List (List EN) // aP ex [44] du x.1 x.2.1 x.2.2.1 x.2.2.2=(fl,kk,qf)∧x.2.1.err=0∧x.2.2.1.length≤30∧x.2.2.2.length=x.2.2.1.length∧SS s x.2.1∧x.2.1.l.length<x.1 })
  (fun x=>[(0,.bx [100] 0),(4,.bx [4] 0),(5,.bx [5] 0),(6,.vw [97] 0 x.1.2.2.2.length)])
  (fun x=>[([4],.box [.d .nils]),([5],.box [.d (i64 11),.d (i64 0),.d (i64 0),.d (i64 0),.d (i64 0),.d (.str []),.d (.str []),.vw [103] 0 x.1.2.2.1.length,.d (i64 p)]),([97],.arr (some 1) (x.1.2.2.2.map exD)),([103],.arr (some 3) (x.1.2.2.1.map fD)),([100],.box [.bx [101] 0,.d (i64 x.1.2.1.err),.d (i64 x.1.2.1.pos),.d (i64 x.1.2.1.nest)]),([101],.box [.d (.sl (some 4) (L.map ck)),.d (i64 (atN L x.1.2.1)),.d (i64 x.1.2.1.fin)])]) [4,5,97,103,100,101] (fun x=>x.1.2.1.l.length) ⟨(s.l.length.succ,s,[],[]),hF.symm,he0,Nat.zero_le _,rfl,SS.refl s,Nat.lt_succ_self _⟩ (tau [([97],[11])]) ?_ ?_
 ·simp only [go_sem]
  all_goals ((repeat' apply And.intro)<;>first | rfl | trivial)
 rintro ⟨⟨m,q,l,ks⟩,hb,hq0,hl30,hkl,hqs,hm⟩ E0
 refine aC E0 fun Q' hQ E'=>?_
 simp only at hb hq0 hl30 hkl hqs hm ⊢
 have hfq:=hf.ss hqs
 obtain ⟨m,rfl⟩:∃ k,m=k+1:=⟨m-1,by omega⟩
 rw [aP] at hb
 simp only [go_sem]
 rw [decide_eq_true hq0]
 simp only [go_sem]
 refine ab E' [.bx [101] 0] (TS L q) [101] (fV hfq hl1) rfl rfl ⟨by simp only [go_sem],by first | (rw [aa];decide) | (simp only [go_sem]<;>(try rw [aa])<;>decide)⟩ rfl (by unfold TS TX ae;simp only [go_sem]) (by unfold TS TX;simp only [go_sem]) ?_
 rintro _ _ ⟨rfl,rfl⟩
 unfold TS TX ae
 simp only [go_sem]
 obtain ⟨f,hfd⟩:∃ f,f=du q l:=⟨_,rfl⟩
 rw [← hfd] at hb
 unfold du at hfd
 simp only at hfd
 have c1:=jG (G:=G) hfq hl1 2
 have s1s:=SS.of q 2
 obtain ⟨q1,hq1⟩:∃ q1,q1=q.of 2:=⟨_,rfl⟩
 rw [← hq1] at c1 hfd s1s
 refine ab E' [.bx [100] 0,.d (i64 2)] (RX L q) [100,101] (c1) rfl rfl ⟨by simp only [go_sem],by first | (rw [aa];decide) | (simp only [go_sem]<;>(try rw [aa])<;>decide)⟩ rfl (by unfold RX TS TX ae;simp only [go_sem]) (by unfold RX TS TX;simp only [go_sem]) ?_
 rintro _ _ ⟨rfl,rfl⟩
 unfold RX TS TX ae
 simp only [go_sem]
 refine ab E' [.bx [100] 0,.d (.agg [i64 q.peek.k,.str q.peek.s,i64 q.peek.n,i64 q.peek.pos]),.vw [103] 0 l.length] (FX L q1.2 l) [100,101,103] (wi L q1.2 q.peek l hl30) rfl rfl ⟨by simp only [go_sem],by first | (rw [aa];decide) | (simp only [go_sem]<;>(try rw [aa])<;>decide)⟩ rfl (by unfold FX RX TS TX ae;simp only [go_sem]) (by unfold FX RX TS TX;simp only [go_sem]) ?_
 rintro _ _ ⟨rfl,rfl⟩
 unfold FX RX TS TX ae
 simp only [go_sem]
 refine ⟨Nat.le_refl _,?_⟩
 have s2s:SS q (q1.2.parted q.peek l):=SS.partp s1s _ _ fun N h=>gj h
 obtain ⟨q2,hq2⟩:∃ q2,q2=q1.2.parted q.peek l:=⟨_,rfl⟩
 rw [← hq2] at hfd s2s ⊢
 have c2:=ef (G:=G) (hfq.ss s2s) hl1 7 [61] (by decide)
 have s3s:=s2s.trans (SS.must q2 7 [61])
 have hfew:(q2.must 7 [61]).err=0→l.length≠30:=fun h=>by
  have:=cL h
  rw [hq2] at this
  exact nY this
 obtain ⟨q3,hq3⟩:∃ q3,q3=q2.must 7 [61]:=⟨_,rfl⟩
 rw [← hq3] at hfd c2 s3s hfew
 refine ab E' [.bx [100] 0,.d (i64 7),.d (.str [61])] (RX L q2) [100,101] (c2) rfl rfl ⟨by simp only [go_sem],by first | (rw [aa];decide) | (simp only [go_sem]<;>(try rw [aa])<;>decide)⟩ rfl (by unfold RX TS TX ae;simp only [go_sem]) (by unfold RX TS TX;simp only [go_sem]) ?_
 rintro _ _ ⟨rfl,rfl⟩
 unfold RX TS TX ae
 simp only [go_sem]
 have ce:=hc L q3 (hfq.ss s3s) hl (s3s.nest.trans (hqs.nest.trans hN))
 have he:=hex q3
 have hse:=hst q3
 rw [hfd] at hb
 simp only at hb
 obtain ⟨e1,q4,he1⟩:∃ e1 q4,ex q3=(e1,q4):=⟨_,_,rfl⟩
 rw [he1] at ce he hb hse
 unfold exD at ce
 simp only at ce hb hse
 have s4s:=s3s.trans he.ss
 refine ab E' [.bx [100] 0] (RX L q3) [100,101] (ce) rfl rfl ⟨by simp only [go_sem],by first | (rw [aa];decide) | (simp only [go_sem]<;>(try rw [aa])<;>decide)⟩ rfl (by unfold RX TS TX ae;simp only [go_sem]) (by unfold RX TS TX;simp only [go_sem]) ?_
 rintro _ _ ⟨rfl,rfl⟩
 unfold RX TS TX ae
 simp only [go_sem]
 refine ⟨by omega,?_⟩
 refine ⟨by omega,?_⟩
 rw [show ks.map exD++[.agg [.sl (some 9) (e1.map enD)]]=(ks++[e1]).map exD by rw [List.map_append];rfl]
 rw [show l.map fD++[.agg [.str q1.1,.str [],.int .i64 0]]=(l++[(⟨q1.1,[],0⟩:EF)]).map fD by rw [List.map_append];rfl]
 refine ab E' [.bx [100] 0,.d (.str [44])] (RX L q4) [100,101] (dj (hfq.ss s4s) hl1 [44]) rfl rfl ⟨by simp only [go_sem],by first | (rw [aa];decide) | (simp only [go_sem]<;>(try rw [aa])<;>decide)⟩ rfl (by unfold RX TS TX ae;simp only [go_sem]) (by unfold RX TS TX;simp only [go_sem]) ?_
 rintro _ _ ⟨rfl,rfl⟩
 unfold RX TS TX ae
 simp only [go_sem]
 refine aB E' (fun h2=>?_) (fun h2=>?_)<;>simp only [go_sem]
 ·have h2':q4.sees 7 [44]=false:=by simpa using h2
  rw [h2',if_neg (by decide)] at hb
  rw [bS h2']
  obtain ⟨b1,b2⟩:=Prod.mk.inj hb
  obtain ⟨b2,b3⟩:=Prod.mk.inj b2
  subst b1 b2 b3
  refine ab E' [.bx [100] 0,.d (i64 7),.d (.str [125])] (RX L q4) [100,101] (ef (hfq.ss s4s) hl1 7 [125] (by decide)) rfl rfl ⟨by simp only [go_sem],by first | (rw [aa];decide) | (simp only [go_sem]<;>(try rw [aa])<;>decide)⟩ rfl (by unfold RX TS TX ae;simp only [go_sem]) (by unfold RX TS TX;simp only [go_sem]) ?_
  rintro _ _ ⟨rfl,rfl⟩
  unfold RX TS TX ae
  simp only [go_sem]
  rw [hQ]
  simp only [go_sem]
  have h4:=wA (G:=G) { nd0 11 p with l:=l++[⟨q1.1,[],0⟩] } (ks++[e1]) (by simp only;omega) (by show 0+(l++[(⟨q1.1,[],0⟩:EF)]).length=_;rw [Nat.zero_add];exact g4) (by simp only [aT];omega)
   (fun l h=>(hg.tr l h).kids.2) (fun l h=>(hg.wd (s.l.length+1) (fun _ h=>by cases h) (by simp only;omega) l h).mono (by omega))
  refine cJ E [39] (some 1) ((ks++[e1]).map exD) rfl (by simp only [go_sem];rfl) ?_
  simp only [go_sem]
  refine cJ E [45] (some 3) ((l++[(⟨q1.1,[],0⟩:EF)]).map fD) rfl (by simp only [go_sem];rfl) ?_
  simp only [go_sem]
  rw [List.take_of_length_le (show ((ks++[e1]).map exD).length≤ks.length+1 by rw [List.length_map,List.length_append];exact Nat.le_refl _),List.take_of_length_le (show ((l++[(⟨q1.1,[],0⟩:EF)]).map fD).length≤l.length+1 by rw [List.length_map,List.length_append];exact Nat.le_refl _)]
  generalize au { nd0 11 p with l:=l++[⟨q1.1,[],0⟩] } (ks++[e1])=J at h4 hR
  unfold exD at h4
  refine ag E h4 rfl rfl (by simp) ?_
  rintro _ rfl
  simp only [go_sem]
  subst hR
  refine ⟨_,_,[100,101],id,⟨rfl,rfl⟩,?_⟩
  simp only [go_sem]
  rfl
 ·have h2':q4.sees 7 [44]=true:=by simpa using h2
  rw [h2',if_pos rfl] at hb
  rw [bp h2']
  have hq4:=eS h2'
  have hsl:=ax h2'
  have s5s:=s4s.trans (SS.next q4)
  have l4:=s4s.len
  simp only at l4
  have he3:q3.err=0:=by
   by_cases h:q3.err=0
   ·exact h
   ·have:=hse h
    rw [this] at hq4
    exact absurd hq4 h
  have hl31:=hfew he3
  rw [hQ]
  simp only [go_sem]
  refine ⟨⟨(m,q4.next,l++[⟨q1.1,[],0⟩],ks++[e1]),hb,hq4,by simp only [List.length_append,List.length_singleton];omega,by simp only [List.length_append,List.length_singleton];omega,hqs.trans s5s,by simp only;omega⟩,by show q4.next.l.length<q.l.length;omega,tau [([97],[39]),([103],[45])],?_⟩
  simp only [go_sem]
  simp only [List.length_append,List.length_singleton]
  all_goals ((repeat' apply And.intro)<;>first | rfl | trivial)
end Go.Proofs.YtejpnabbmgpmaaaGreat

namespace Go.Proofs.YtejpnabbmgpmaaaGreat
open Go.Ab
set_option maxHeartbeats 2000000 in
theorem Dw {G} {N:Nat} {ex:PS→PR} (hex:∀ s,GP 1 s (ex s)) (hst:∀ s,s.err≠0→(ex s).2=s) (hc:cO 70 G N ex):wh 343 G N (iA ex):=by
 intro L s p hf hl hN he0
 have hl1:L.length≤1000000:=by omega
 have hfl:=hf.le
 generalize hR:iA ex s p=R
 unfold iA at hR
 have ce:=hc L s hf hl hN
 have he:=hex s
 obtain ⟨e,s0,e0⟩:∃ e s0,ex s=(e,s0):=⟨_,_,rfl⟩
 rw [e0] at ce he hR
 simp only at ce hR
 have le:=he.ss.len
 have ne:=he.ss.nest
 have ze:=he.sz
 simp only at le ne ze
 have cm:=ef (G:=G) (hf.ss he.ss) hl1 1 bOf (by decide)
 have hm0:=SS.must s0 1 bOf
 obtain ⟨s1,hs1⟩:∃ s1,s1=s0.must 1 bOf:=⟨_,rfl⟩
 rw [← hs1] at cm hm0 hR
 have hf1:=(hf.ss he.ss).ss hm0
 have lm:=hm0.len
 have nm:=hm0.nest
 unfold exD at ce
 unfold RX TS TX ae
 refine aq Tryz.func343 rfl (by decide +kernel) (by simp [Tryz.ntmps343]) (veil fun E=>?_)
 simp only [go_sem]
 refine ab E [.bx [100] 0] (RX L s) [100,101] (ce) rfl rfl ⟨by simp only [go_sem],by first | (rw [aa];decide) | (simp only [go_sem]<;>(try rw [aa])<;>decide)⟩ rfl (by unfold RX TS TX ae;simp only [go_sem]) (by unfold RX TS TX;simp only [go_sem]) ?_
 rintro _ _ ⟨rfl,rfl⟩
 unfold RX TS TX ae
 simp only [go_sem]
 refine ab E [.bx [100] 0,.d (i64 1),.d (.str bOf)] (RX L s0) [100,101] (cm) rfl rfl ⟨by simp only [go_sem],by first | (rw [aa];decide) | (simp only [go_sem]<;>(try rw [aa])<;>decide)⟩ rfl (by unfold RX TS TX ae;simp only [go_sem]) (by unfold RX TS TX;simp only [go_sem]) ?_
 rintro _ _ ⟨rfl,rfl⟩
 unfold RX TS TX ae
 simp only [go_sem]
 by_cases h1:s1.err=0
 rotate_left
 ·rw [if_pos h1] at hR
  have h4:=eB (G:=G) (nd0 14 p) [e] rfl rfl (by simp only [aT,List.map_cons,List.map_nil,List.sum_cons,List.sum_nil];omega)
   (fun l h=>by rw [List.mem_singleton.1 h];exact he.tr.kids.2)
   (fun l h=>by rw [List.mem_singleton.1 h];exact he.wd.mono (by omega))
  refine az E (X:=Unit)
   (fun _=>[(0,.bx [100] 0),(4,.bx [4] 0),(5,.bx [5] 0),(6,.vw [97] 0 1)])
   (fun _=>[([4],.box [.d .nils]),([5],.box [.d (i64 14),.d (i64 0),.d (i64 0),.d (i64 0),.d (i64 0),.d (.str []),.d (.str []),.d .nils,.d (i64 p)]),([97],.arr (some 1) [.agg [.sl (some 9) (e.map enD)]]),([100],.box [.bx [101] 0,.d (i64 s1.err),.d (i64 s1.pos),.d (i64 s1.nest)]),([101],.box [.d (.sl (some 4) (L.map ck)),.d (i64 (atN L s1)),.d (i64 s1.fin)])]) [4,5,97,100,101] (fun _=>0) () (tau [([97],[14])]) ?_ ?_
  ·simp only [go_sem]
   all_goals ((repeat' apply And.intro)<;>first | rfl | trivial)
  rintro ⟨⟩ E0
  refine aC E0 fun Q' hQ E'=>?_
  simp only [go_sem]
  refine ah E' (fun h=>absurd h h1) (fun _=>?_)<;>simp only [go_sem]
  rw [hQ]
  simp only [go_sem]
  refine cJ E [97] (some 1) [.agg [.sl (some 9) (e.map enD)]] rfl (by simp only [go_sem];rfl) ?_
  simp only [go_sem]
  generalize au (nd0 14 p) [e]=J at h4 hR
  unfold ndN exD at h4
  refine ag E h4 rfl rfl (by simp) ?_
  rintro _ rfl
  simp only [go_sem]
  subst hR
  refine ⟨_,_,[100,101],id,⟨rfl,rfl⟩,?_⟩
  simp only [go_sem]
  rfl
 rw [if_neg (by simpa using h1)] at hR
 have hg:=dH hex [124] bI SS.branch s1.l.length.succ s1 [] [] rfl (fun _ h=>by cases h)
 obtain ⟨F,hF⟩:∃ F,F=aP ex [124] bI s1.l.length.succ s1 [] []:=⟨_,rfl⟩
 rw [← hF] at hg
 simp only [← hF] at hR
 obtain ⟨fl,kk,qf⟩:=F
 simp only at hR
 have g1:=hg.sz
 have g2:=hg.ln
 have g3:=hg.ss.len
 have g4:=hg.eq
 simp only [aT,List.map_nil,List.sum_nil,List.length_nil] at g1 g2 g3 g4
 refine qD E [5] 7 103 (some 3) [.d (i64 14),.d (i64 0),.d (i64 0),.d (i64 0),.d (i64 0),.d (.str []),.d (.str []),.d .nils,.d (i64 p)] rfl rfl (by rw [aa];decide) ?_
 simp only [go_sem]
 refine az E (X:={ x:Nat × PS × List EF × List (List EN) // aP ex [124] bI x.1 x.2.1 x.2.2.1 x.2.2.2=(fl,kk,qf)∧x.2.1.err=0∧x.2.2.1.length≤30∧x.2.2.2.length=x.2.2.1.length∧SS s1 x.2.1∧x.2.1.l.length<x.1 })
  (fun x=>[(0,.bx [100] 0),(4,.bx [4] 0),(5,.bx [5] 0),(6,.vw [97] 0 (x.1.2.2.2.length+1))])
  (fun x=>[([4],.box [.d .nils]),([5],.box [.d (i64 14),.d (i64 0),.d (i64 0),.d (i64 0),.d (i64 0),.d (.str []),.d (.str []),.vw [103] 0 x.1.2.2.1.length,.d (i64 p)]),([97],.arr (some 1) (.agg [.sl (some 9) (e.map enD)]::x.1.2.2.2.map exD)),([103],.arr (some 3) (x.1.2.2.1.map fD)),([100],.box [.bx [101] 0,.d (i64 x.1.2.1.err),.d (i64 x.1.2.1.pos),.d (i64 x.1.2.1.nest)]),([101],.box [.d (.sl (some 4) (L.map ck)),.d (i64 (atN L x.1.2.1)),.d (i64 x.1.2.1.fin)])]) [4,5,97,103,100,101] (fun x=>x.1.2.1.l.length) ⟨(s1.l.length.succ,s1,[],[]),hF.symm,h1,Nat.zero_le _,rfl,SS.refl s1,Nat.lt_succ_self _⟩ (tau [([97],[14])]) ?_ ?_
 ·simp only [go_sem]
  all_goals ((repeat' apply And.intro)<;>first | rfl | trivial)
 rintro ⟨⟨m,q,l,ks⟩,hb,hq0,hl30,hkl,hqs,hm⟩ E0
 refine aC E0 fun Q' hQ E'=>?_
 simp only at hb hq0 hl30 hkl hqs hm ⊢
 have hfq:=hf1.ss hqs
 obtain ⟨m,rfl⟩:∃ k,m=k+1:=⟨m-1,by omega⟩
 rw [aP] at hb
 simp only [go_sem]
 rw [decide_eq_true hq0]
 simp only [go_sem]
 refine ab E' [.bx [101] 0] (TS L q) [101] (fV hfq hl1) rfl rfl ⟨by simp only [go_sem],by first | (rw [aa];decide) | (simp only [go_sem]<;>(try rw [aa])<;>decide)⟩ rfl (by unfold TS TX ae;simp only [go_sem]) (by unfold TS TX;simp only [go_sem]) ?_
 rintro _ _ ⟨rfl,rfl⟩
 unfold TS TX ae
 simp only [go_sem]
 obtain ⟨f,hfd⟩:∃ f,f=bI q l:=⟨_,rfl⟩
 rw [← hfd] at hb
 unfold bI at hfd
 simp only at hfd
 have c1:=jG (G:=G) hfq hl1 3
 have s1s:=SS.of q 3
 obtain ⟨q1,hq1⟩:∃ q1,q1=q.of 3:=⟨_,rfl⟩
 rw [← hq1] at c1 hfd s1s
 refine ab E' [.bx [100] 0,.d (i64 3)] (RX L q) [100,101] (c1) rfl rfl ⟨by simp only [go_sem],by first | (rw [aa];decide) | (simp only [go_sem]<;>(try rw [aa])<;>decide)⟩ rfl (by unfold RX TS TX ae;simp only [go_sem]) (by unfold RX TS TX;simp only [go_sem]) ?_
 rintro _ _ ⟨rfl,rfl⟩
 unfold RX TS TX ae
 simp only [go_sem]
 refine ab E' [.bx [100] 0,.d (.agg [i64 q.peek.k,.str q.peek.s,i64 q.peek.n,i64 q.peek.pos]),.vw [103] 0 l.length] (FX L q1.2 l) [100,101,103] (wi L q1.2 q.peek l hl30) rfl rfl ⟨by simp only [go_sem],by first | (rw [aa];decide) | (simp only [go_sem]<;>(try rw [aa])<;>decide)⟩ rfl (by unfold FX RX TS TX ae;simp only [go_sem]) (by unfold FX RX TS TX;simp only [go_sem]) ?_
 rintro _ _ ⟨rfl,rfl⟩
 unfold FX RX TS TX ae
 simp only [go_sem]
 refine ⟨Nat.le_refl _,?_⟩
 have s2s:SS q (q1.2.parted q.peek l):=SS.partp s1s _ _ fun N h=>gj h
 obtain ⟨q2,hq2⟩:∃ q2,q2=q1.2.parted q.peek l:=⟨_,rfl⟩
 rw [← hq2] at hfd s2s ⊢
 have cv:=jG (G:=G) (hfq.ss s2s) hl1 2
 have svs:=s2s.trans (SS.of q2 2)
 obtain ⟨qv,hqv⟩:∃ qv,qv=q2.of 2:=⟨_,rfl⟩
 rw [← hqv] at cv hfd svs
 refine ab E' [.bx [100] 0,.d (i64 2)] (RX L q2) [100,101] (cv) rfl rfl ⟨by simp only [go_sem],by first | (rw [aa];decide) | (simp only [go_sem]<;>(try rw [aa])<;>decide)⟩ rfl (by unfold RX TS TX ae;simp only [go_sem]) (by unfold RX TS TX;simp only [go_sem]) ?_
 rintro _ _ ⟨rfl,rfl⟩
 unfold RX TS TX ae
 simp only [go_sem]
 have c2:=ef (G:=G) (hfq.ss svs) hl1 7 bTo (by decide)
 have s3s:=svs.trans (SS.must qv.2 7 bTo)
 have hfew:(qv.2.must 7 bTo).err=0→l.length≠30:=fun h=>by
  have:=cL h
  rw [hqv] at this
  have:=oq this
  rw [hq2] at this
  exact nY this
 obtain ⟨q3,hq3⟩:∃ q3,q3=qv.2.must 7 bTo:=⟨_,rfl⟩
 rw [← hq3] at hfd c2 s3s hfew
 refine ab E' [.bx [100] 0,.d (i64 7),.d (.str bTo)] (RX L qv.2) [100,101] (c2) rfl rfl ⟨by simp only [go_sem],by first | (rw [aa];decide) | (simp only [go_sem]<;>(try rw [aa])<;>decide)⟩ rfl (by unfold RX TS TX ae;simp only [go_sem]) (by unfold RX TS TX;simp only [go_sem]) ?_
 rintro _ _ ⟨rfl,rfl⟩
 unfold RX TS TX ae
 simp only [go_sem]
 have ce:=hc L q3 (hfq.ss s3s) hl (s3s.nest.trans (hqs.nest.trans (nm.trans (ne.trans hN))))
 have he2:=hex q3
 have hse:=hst q3
 rw [hfd] at hb
 simp only at hb
 obtain ⟨e1,q4,he1⟩:∃ e1 q4,ex q3=(e1,q4):=⟨_,_,rfl⟩
 rw [he1] at ce he2 hb hse
 unfold exD at ce
 simp only at ce hb hse
 have s4s:=s3s.trans he2.ss
 refine ab E' [.bx [100] 0] (RX L q3) [100,101] (ce) rfl rfl ⟨by simp only [go_sem],by first | (rw [aa];decide) | (simp only [go_sem]<;>(try rw [aa])<;>decide)⟩ rfl (by unfold RX TS TX ae;simp only [go_sem]) (by unfold RX TS TX;simp only [go_sem]) ?_
 rintro _ _ ⟨rfl,rfl⟩
 unfold RX TS TX ae
 simp only [go_sem]
 refine ⟨by omega,?_⟩
 refine ⟨by omega,?_⟩
 rw [show ks.map exD++[.agg [.sl (some 9) (e1.map enD)]]=(ks++[e1]).map exD by rw [List.map_append];rfl]
 rw [show l.map fD++[.agg [.str q1.1,.str qv.1,.int .i64 0]]=(l++[(⟨q1.1,qv.1,0⟩:EF)]).map fD by rw [List.map_append];rfl]
 refine ab E' [.bx [100] 0,.d (.str [124])] (RX L q4) [100,101] (dj (hfq.ss s4s) hl1 [124]) rfl rfl ⟨by simp only [go_sem],by first | (rw [aa];decide) | (simp only [go_sem]<;>(try rw [aa])<;>decide)⟩ rfl (by unfold RX TS TX ae;simp only [go_sem]) (by unfold RX TS TX;simp only [go_sem]) ?_
 rintro _ _ ⟨rfl,rfl⟩
 unfold RX TS TX ae
 simp only [go_sem]
 refine aB E' (fun h2=>?_) (fun h2=>?_)<;>simp only [go_sem]
 ·have h2':q4.sees 7 [124]=false:=by simpa using h2
  rw [h2',if_neg (by decide)] at hb
  rw [bS h2']
  obtain ⟨b1,b2⟩:=Prod.mk.inj hb
  obtain ⟨b2,b3⟩:=Prod.mk.inj b2
  subst b1 b2 b3
  refine ab E' [.bx [100] 0,.d (i64 1),.d (.str vV)] (RX L q4) [100,101] (ef (hfq.ss s4s) hl1 1 vV (by decide)) rfl rfl ⟨by simp only [go_sem],by first | (rw [aa];decide) | (simp only [go_sem]<;>(try rw [aa])<;>decide)⟩ rfl (by unfold RX TS TX ae;simp only [go_sem]) (by unfold RX TS TX;simp only [go_sem]) ?_
  rintro _ _ ⟨rfl,rfl⟩
  unfold RX TS TX ae
  simp only [go_sem]
  rw [hQ]
  simp only [go_sem]
  have h4:=wA (G:=G) { nd0 14 p with l:=l++[⟨q1.1,qv.1,0⟩] } (e::(ks++[e1])) (by simp only;omega) (by show 1+(l++[(⟨q1.1,qv.1,0⟩:EF)]).length=_;rw [List.length_cons,g4];omega) (by simp only [aT,List.map_cons,List.sum_cons];omega)
   (fun l h=>by
    rcases List.mem_cons.1 h with rfl | h
    ·exact he.tr.kids.2
    ·exact (hg.tr l h).kids.2)
   (fun l h=>by
    rcases List.mem_cons.1 h with rfl | h
    ·exact he.wd.mono (by omega)
    ·exact (hg.wd (s1.l.length+1) (fun _ h=>by cases h) (by simp only;omega) l h).mono (by omega))
  refine cJ E [42] (some 1) (.agg [.sl (some 9) (e.map enD)]::(ks++[e1]).map exD) rfl (by simp only [go_sem];rfl) ?_
  simp only [go_sem]
  refine cJ E [49] (some 3) ((l++[(⟨q1.1,qv.1,0⟩:EF)]).map fD) rfl (by simp only [go_sem];rfl) ?_
  simp only [go_sem]
  rw [List.take_of_length_le (show ((ks++[e1]).map exD).length≤ks.length+1 by rw [List.length_map,List.length_append];exact Nat.le_refl _),List.take_of_length_le (show ((l++[(⟨q1.1,qv.1,0⟩:EF)]).map fD).length≤l.length+1 by rw [List.length_map,List.length_append];exact Nat.le_refl _)]
  generalize au { nd0 14 p with l:=l++[⟨q1.1,qv.1,0⟩] } (e::(ks++[e1]))=J at h4 hR
  unfold exD at h4
  refine ag E h4 rfl rfl (by simp) ?_
  rintro _ rfl
  simp only [go_sem]
  subst hR
  refine ⟨_,_,[100,101],id,⟨rfl,rfl⟩,?_⟩
  simp only [go_sem]
  rfl
 ·have h2':q4.sees 7 [124]=true:=by simpa using h2
  rw [h2',if_pos rfl] at hb
  rw [bp h2']
  have hq4:=eS h2'
  have hsl:=ax h2'
  have s5s:=s4s.trans (SS.next q4)
  have l4:=s4s.len
  simp only at l4
  have he3:q3.err=0:=by
   by_cases h:q3.err=0
   ·exact h
   ·have:=hse h
    rw [this] at hq4
    exact absurd hq4 h
  have hl31:=hfew he3
  rw [hQ]
  simp only [go_sem]
  refine ⟨⟨(m,q4.next,l++[⟨q1.1,qv.1,0⟩],ks++[e1]),hb,hq4,by simp only [List.length_append,List.length_singleton];omega,by simp only [List.length_append,List.length_singleton];omega,hqs.trans s5s,by simp only;omega⟩,by show q4.next.l.length<q.l.length;omega,tau [([97],[42]),([103],[49])],?_⟩
  simp only [go_sem]
  simp only [List.length_append,List.length_singleton]
  all_goals ((repeat' apply And.intro)<;>first | rfl | trivial)
end Go.Proofs.YtejpnabbmgpmaaaGreat

namespace Go.Ab
theorem Sim.le2 {B:Base} {β:Name→Option Blk} {s s2:St} {tm:Array Value} {w:World} {τ:Name→Name} (U:List Nat) (b0:Name→Option Blk) (h:Sim B β s tm w) (hle:Le [] τ s s2) (hus:∀ x∈U,x∈s2.used)
  (hst:∀ p,nm U p→s2.hp p≠none→β (τ p)=b0 p):∃ β2,Sim { B with U0:=U,β0:=b0 } β2 s2 tm w:=by
 obtain ⟨β2,hb,hb'⟩:∃ β2:Name→Option Blk,(∀ p,s2.hp p≠none→β2 p=β (τ p))∧∀ p,s2.hp p=none→β2 p=b0 p:=by
  refine ⟨fun p=>if (s2.hp p).isSome then β (τ p) else b0 p,fun p hp=>?_,fun p hp=>?_⟩
  ·cases h:s2.hp p with
   | none=>exact absurd h hp
   | some o=>simp [h]
  ·simp [hp]
 have hob:∀ p o,s2.hp p=some o→s.hp (τ p)=some (o.ren τ)∧β2 p=β (τ p):=fun p o hp=>⟨(hle.hp p o hp).1,hb p (by rw [hp];simp)⟩
 have hown:∀ b,s2.own B.A β2 b→s.own B.A β b:=by
  rintro b (hA | ⟨p,k,hp,hk,rfl⟩)
  ·exact .inl hA
  ·cases ho:s2.hp p with
   | none=>exact absurd ho hp
   | some o =>
     obtain ⟨h1,h2⟩:=hob p o ho
     exact .inr ⟨τ p,k,by rw [h1];simp,by rw [← h2];exact hk,rfl⟩
 have hr:∀ v d,Rep w.heap (s.own B.A β) v d→Rep w.heap (s2.own B.A β2) v d:=fun v d hd=>hd.mono (fun _ _ _=>rfl) (fun b _=>hown b)
 refine ⟨β2,{ tms:=h.tms,io:=h.io,size:=h.size,frame:=h.frame,slots:=fun i=>?_,objs:=fun p o hp=>?_,blocks:=fun p k hp hk=>?_,inj:=fun p q k l hp hq hk hl e=>?_,us:=hus,stay:=fun p hp=>?_ }⟩
 ·rcases hle.fr i with e | ⟨e,hu⟩
  ·rw [e];exact .un _
  ·exact (h.slots i).ren hr hob _ e hu
 ·obtain ⟨h1,h2,h3⟩:=hle.hp p o hp
  exact ⟨h3,OR.ren hr hob (hb p (by rw [hp];simp)) h2 (h.objs _ _ h1).2⟩
 ·rw [hb p hp] at hk
  cases ho:s2.hp p with
  | none=>exact absurd ho hp
  | some o=>exact h.blocks (τ p) k (by rw [(hle.hp p o ho).1];simp) hk
 ·rw [hb p hp] at hk;rw [hb q hq] at hl
  have live:∀ p,s2.hp p≠none→s.hp (τ p)≠none:=fun p hp=>by
   cases ho:s2.hp p with
   | none=>exact absurd ho hp
   | some o=>rw [(hle.hp p o ho).1];simp
  exact hle.inj p q hp hq (h.inj _ _ k l (live p hp) (live q hq) hk hl e)
 ·cases ho:s2.hp p with
  | none=>exact hb' p ho
  | some o =>
    have hpn:s2.hp p≠none:=by rw [ho];simp
    rw [hb p hpn]
    exact hst p hp hpn
theorem HCall.turn {P:Program} {G:List (Nat × Obj)} {f:FuncId} {args args2:List AV} {hp hp2:List (Name × Ob)} {u u2:List Nat} {Q Q2:AV→List (Name × Ob)→Prop} (τ σ:Name→Name) (h:HCall P G f args2 hp2 u2 Q2) (hl:args2.length=args.length)
  (hin:Le [] τ (mk (aG 0 args) hp u) (mk (aG 0 args2) hp2 u2))
  (hout:∀ r' hp',Q2 r' hp'→∃ r hh,Q r hh∧∀ ur,∃ uo,(∀ x∈u,x∈uo)∧Le [] σ (mk [(0,r')] hp' ur) (mk [(0,r)] hh uo)∧∀ p,nm u p→(mk [(0,r)] hh uo).hp p≠none→nm u2 (σ p)∧τ (σ p)=p):HCall P G f args hp u Q:=by
 refine ⟨h.1,fun B β vs w h1 h2 h3 h4 h5=>?_⟩
 obtain ⟨β2,g5⟩:=h5.le2 u2 (fun p=>β (τ p)) hin (fun x hx=>hx) (fun _ _ _=>rfl)
 refine (h.2 { B with U0:=u2,β0:=fun p=>β (τ p) } β2 vs w (h1.trans hl.symm) h2 rfl h4 g5).mono ?_
 rintro e w' ⟨v,r',hp',u',β3,he,hq,hs⟩
 obtain ⟨r,hh,hQ,ho⟩:=hout r' hp' hq
 obtain ⟨uo,ho1,ho2,ho3⟩:=ho u'
 obtain ⟨β4,g6⟩:=hs.le2 B.U0 B.β0 ho2 (by rw [h3];exact ho1) (fun p hp hpn=>by
  rw [h3] at hp
  obtain ⟨k1,k2⟩:=ho3 p hp hpn
  rw [hs.stay _ k1]
  show β (τ (σ p))=_
  rw [k2]
  exact h5.stay p (by rw [h3];exact hp))
 exact ⟨v,r,hh,uo,β4,he,hQ,g6⟩
end Go.Ab

namespace Go.Proofs.YtejpnabbmgpmaaaGreat
open Go.Ab
def RY (L:List Tok) (s:PS):List (Name × Ob):=[([200],.box [.bx [201] 0,.d (i64 s.err),.d (i64 s.pos),.d (i64 s.nest)]),([201],.box [.d (.sl (some 4) (L.map ck)),.d (i64 (atN L s)),.d (i64 s.fin)])]
set_option maxHeartbeats 1000000 in
theorem GR {G} {N:Nat} {ex:PS→PR} (hex:∀ s,GP 1 s (ex s)) (hst:∀ s,s.err≠0→(ex s).2=s) (hc:cO 70 G N ex) (L:List Tok) (s:PS) (hf:Fit L s) (hl:L.length≤100000) (hN:s.nest=N) :
  HCall Tryz.prog G 330 [.bx [200] 0] (RY L s) [200,201] (fun r hp'=>r=.d (exD (cQ ex s).1)∧hp'=RY L (cQ ex s).2):=by
 have hl1:L.length≤1000000:=by omega
 generalize hR:cQ ex s=R
 unfold cQ at hR
 have hpk:=fV (G:=G) hf hl1
 have hnC:=By (G:=G) hf hl1
 have cw:=jd (G:=G) L s 5 s.peek.pos
 have hW:s.wrong=s.fail 5 s.peek.pos:=rfl
 have hE:¬ s.err=0→s.wrong=s:=fun h=>b8 h
 rw [← hW] at cw
 obtain ⟨t,ht⟩:∃ t,t=s.peek:=⟨_,rfl⟩
 rw [← ht] at hpk hnC hR cw
 simp only at hR
 have hnx:s.next.nest=N:=hN
 have hfn:=hf.ss (SS.next s)
 have c1:=iB (G:=G) hf hl1 eI
 have c2:=iB (G:=G) hf hl1 cZ
 have c3:=dj (G:=G) hf hl1 [40]
 have c4:=dj (G:=G) hf hl1 [123]
 have c5:=iB (G:=G) hf hl1 e9
 have cr:=DM (G:=G) hex hst hc L s.next t.pos hfn hl hnx
 have cc:=Dw (G:=G) hex hst hc L s.next t.pos hfn hl hnx
 have ce:=hc L s.next hfn hl hnx
 have he:=hex s.next
 generalize cg ex s.next t.pos=R1 at hR cr
 generalize iA ex s.next t.pos=R2 at hR cc
 obtain ⟨e0,s0,h0⟩:∃ e0 s0,ex s.next=(e0,s0):=⟨_,_,rfl⟩
 rw [h0] at ce hR he
 simp only at hR ce
 have cm:=ef (G:=G) (hfn.ss he.ss) hl1 7 [41] (by decide)
 unfold exD at cr cc ce
 unfold RY
 refine aq Tryz.func330 rfl (by decide +kernel) (by simp [Tryz.ntmps330]) (veil fun E=>?_)
 simp only [go_sem]
 refine ah E (fun h=>?_) (fun h=>?_)<;>simp only [go_sem]
 ·rw [if_pos (by simpa using h),hE h] at hR
  have hno:=jE (G:=G)
  generalize noE=J at hno hR
  unfold exD at hno
  refine ag E hno rfl rfl (by simp) ?_
  rintro _ rfl
  simp only [go_sem]
  subst hR
  refine ⟨_,_,[200,201],id,⟨rfl,rfl⟩,?_⟩
  simp only [go_sem]
  all_goals first | rfl | exact ⟨rfl,rfl⟩ | exact ⟨rfl,rfl,rfl⟩
 have he0:s.err=0:=by simpa using h
 have hen:s.next.err=0:=he0
 rw [if_neg (by simpa using he0)] at hR
 refine aS E (tau [([101],[201])]) [.bx [101] 0] (TS L s) [101] (hpk) rfl (by simp only [go_sem];try rfl) ⟨by simp only [go_sem],by first | (rw [aa];decide) | (simp only [go_sem]<;>(try rw [aa])<;>decide)⟩ rfl (by unfold TS TX ae;simp only [go_sem];try rfl) (by unfold TS TX;simp only [go_sem]) ?_
 rintro _ _ ⟨rfl,rfl⟩
 unfold TS TX ae
 simp only [go_sem]
 refine ah E (fun h=>?_) (fun h=>?_)<;>simp only [go_sem]
 ·rw [if_pos h] at hR
  refine aS E (tau [([101],[201])]) [.bx [101] 0] (TS L s) [101] (hnC) rfl (by simp only [go_sem];try rfl) ⟨by simp only [go_sem],by first | (rw [aa];decide) | (simp only [go_sem]<;>(try rw [aa])<;>decide)⟩ rfl (by unfold TS TX ae;simp only [go_sem];try rfl) (by unfold TS TX;simp only [go_sem]) ?_
  rintro _ _ ⟨rfl,rfl⟩
  unfold TS TX ae
  simp only [go_sem]
  have hlf:=lP (G:=G) ({ nd0 1 t.pos with n:=t.n }) rfl rfl
  generalize bj ({ nd0 1 t.pos with n:=t.n })=J at hlf hR
  unfold ndN exD at hlf
  refine ag E hlf rfl rfl (by simp) ?_
  rintro _ rfl
  simp only [go_sem]
  subst hR
  refine ⟨_,_,[200,201],id,⟨rfl,rfl⟩,?_⟩
  simp only [go_sem]
  all_goals first | rfl | exact ⟨rfl,rfl⟩ | exact ⟨rfl,rfl,rfl⟩
 rw [if_neg h] at hR
 refine ah E (fun h=>?_) (fun h=>?_)<;>simp only [go_sem]
 ·rw [if_pos h] at hR
  refine aS E (tau [([101],[201])]) [.bx [101] 0] (TS L s) [101] (hnC) rfl (by simp only [go_sem];try rfl) ⟨by simp only [go_sem],by first | (rw [aa];decide) | (simp only [go_sem]<;>(try rw [aa])<;>decide)⟩ rfl (by unfold TS TX ae;simp only [go_sem];try rfl) (by unfold TS TX;simp only [go_sem]) ?_
  rintro _ _ ⟨rfl,rfl⟩
  unfold TS TX ae
  simp only [go_sem]
  have hlf:=lP (G:=G) ({ nd0 3 t.pos with s:=t.s }) rfl rfl
  generalize bj ({ nd0 3 t.pos with s:=t.s })=J at hlf hR
  unfold ndN exD at hlf
  refine ag E hlf rfl rfl (by simp) ?_
  rintro _ rfl
  simp only [go_sem]
  subst hR
  refine ⟨_,_,[200,201],id,⟨rfl,rfl⟩,?_⟩
  simp only [go_sem]
  all_goals first | rfl | exact ⟨rfl,rfl⟩ | exact ⟨rfl,rfl,rfl⟩
 rw [if_neg h] at hR
 refine ah E (fun h=>?_) (fun h=>?_)<;>simp only [go_sem]
 ·rw [if_pos h] at hR
  refine aS E (tau [([101],[201])]) [.bx [101] 0] (TS L s) [101] (hnC) rfl (by simp only [go_sem];try rfl) ⟨by simp only [go_sem],by first | (rw [aa];decide) | (simp only [go_sem]<;>(try rw [aa])<;>decide)⟩ rfl (by unfold TS TX ae;simp only [go_sem];try rfl) (by unfold TS TX;simp only [go_sem]) ?_
  rintro _ _ ⟨rfl,rfl⟩
  unfold TS TX ae
  simp only [go_sem]
  have hlf:=lP (G:=G) ({ nd0 4 t.pos with name:=t.s }) rfl rfl
  generalize bj ({ nd0 4 t.pos with name:=t.s })=J at hlf hR
  unfold ndN exD at hlf
  refine ag E hlf rfl rfl (by simp) ?_
  rintro _ rfl
  simp only [go_sem]
  subst hR
  refine ⟨_,_,[200,201],id,⟨rfl,rfl⟩,?_⟩
  simp only [go_sem]
  all_goals first | rfl | exact ⟨rfl,rfl⟩ | exact ⟨rfl,rfl,rfl⟩
 rw [if_neg h] at hR
 refine aS E (tau [([100],[200]),([101],[201])]) [.bx [100] 0,.d (.str eI)] (RX L s) [100,101] (c1) rfl (by simp only [go_sem];try rfl) ⟨by simp only [go_sem],by first | (rw [aa];decide) | (simp only [go_sem]<;>(try rw [aa])<;>decide)⟩ rfl (by unfold RX TS TX ae;simp only [go_sem];try rfl) (by unfold RX TS TX;simp only [go_sem]) ?_
 rintro _ _ ⟨rfl,rfl⟩
 unfold RX TS TX ae
 simp only [go_sem]
 refine aB E (fun h=>?_) (fun h=>?_)<;>simp only [go_sem]
 ·rw [if_pos h] at hR
  rw [bp h]
  have hlf:=lP (G:=G) ({ nd0 2 t.pos with n:=1 }) rfl rfl
  generalize bj ({ nd0 2 t.pos with n:=1 })=J at hlf hR
  unfold ndN exD at hlf
  refine ag E hlf rfl rfl (by simp) ?_
  rintro _ rfl
  simp only [go_sem]
  subst hR
  refine ⟨_,_,[200,201],id,⟨rfl,rfl⟩,?_⟩
  simp only [go_sem]
  all_goals first | rfl | exact ⟨rfl,rfl⟩ | exact ⟨rfl,rfl,rfl⟩
 rw [if_neg (by rw [h];decide)] at hR
 rw [bS h]
 refine aS E (tau [([100],[200]),([101],[201])]) [.bx [100] 0,.d (.str cZ)] (RX L s) [100,101] (c2) rfl (by simp only [go_sem];try rfl) ⟨by simp only [go_sem],by first | (rw [aa];decide) | (simp only [go_sem]<;>(try rw [aa])<;>decide)⟩ rfl (by unfold RX TS TX ae;simp only [go_sem];try rfl) (by unfold RX TS TX;simp only [go_sem]) ?_
 rintro _ _ ⟨rfl,rfl⟩
 unfold RX TS TX ae
 simp only [go_sem]
 refine aB E (fun h=>?_) (fun h=>?_)<;>simp only [go_sem]
 ·rw [if_pos h] at hR
  rw [bp h]
  have hlf:=lP (G:=G) (nd0 2 t.pos) rfl rfl
  generalize bj (nd0 2 t.pos)=J at hlf hR
  unfold ndN exD at hlf
  refine ag E hlf rfl rfl (by simp) ?_
  rintro _ rfl
  simp only [go_sem]
  subst hR
  refine ⟨_,_,[200,201],id,⟨rfl,rfl⟩,?_⟩
  simp only [go_sem]
  all_goals first | rfl | exact ⟨rfl,rfl⟩ | exact ⟨rfl,rfl,rfl⟩
 rw [if_neg (by rw [h];decide)] at hR
 rw [bS h]
 refine aS E (tau [([100],[200]),([101],[201])]) [.bx [100] 0,.d (.str [40])] (RX L s) [100,101] (c3) rfl (by simp only [go_sem];try rfl) ⟨by simp only [go_sem],by first | (rw [aa];decide) | (simp only [go_sem]<;>(try rw [aa])<;>decide)⟩ rfl (by unfold RX TS TX ae;simp only [go_sem];try rfl) (by unfold RX TS TX;simp only [go_sem]) ?_
 rintro _ _ ⟨rfl,rfl⟩
 unfold RX TS TX ae
 simp only [go_sem]
 refine aB E (fun h=>?_) (fun h=>?_)<;>simp only [go_sem]
 ·rw [if_pos h] at hR
  rw [bp h]
  refine aS E (tau [([100],[200]),([101],[201])]) [.bx [100] 0] (RX L s.next) [100,101] (ce) rfl (by simp only [go_sem];try rfl) ⟨by simp only [go_sem],by first | (rw [aa];decide) | (simp only [go_sem]<;>(try rw [aa])<;>decide)⟩ rfl (by unfold RX TS TX ae;simp only [go_sem];try rfl) (by unfold RX TS TX;simp only [go_sem]) ?_
  rintro _ _ ⟨rfl,rfl⟩
  unfold RX TS TX ae
  simp only [go_sem]
  refine aS E (tau [([100],[200]),([101],[201])]) [.bx [100] 0,.d (i64 7),.d (.str [41])] (RX L s0) [100,101] (cm) rfl (by simp only [go_sem];try rfl) ⟨by simp only [go_sem],by first | (rw [aa];decide) | (simp only [go_sem]<;>(try rw [aa])<;>decide)⟩ rfl (by unfold RX TS TX ae;simp only [go_sem];try rfl) (by unfold RX TS TX;simp only [go_sem]) ?_
  rintro _ _ ⟨rfl,rfl⟩
  unfold RX TS TX ae
  simp only [go_sem]
  subst hR
  refine ⟨_,_,[200,201],id,⟨rfl,rfl⟩,?_⟩
  simp only [go_sem]
  all_goals rfl
 rw [if_neg (by rw [h];decide)] at hR
 rw [bS h]
 refine aS E (tau [([100],[200]),([101],[201])]) [.bx [100] 0,.d (.str [123])] (RX L s) [100,101] (c4) rfl (by simp only [go_sem];try rfl) ⟨by simp only [go_sem],by first | (rw [aa];decide) | (simp only [go_sem]<;>(try rw [aa])<;>decide)⟩ rfl (by unfold RX TS TX ae;simp only [go_sem];try rfl) (by unfold RX TS TX;simp only [go_sem]) ?_
 rintro _ _ ⟨rfl,rfl⟩
 unfold RX TS TX ae
 simp only [go_sem]
 refine aB E (fun h=>?_) (fun h=>?_)<;>simp only [go_sem]
 ·rw [if_pos h] at hR
  rw [bp h]
  refine aS E (tau [([100],[200]),([101],[201])]) [.bx [100] 0,.d (i64 t.pos)] (RX L s.next) [100,101] (cr hen) rfl (by simp only [go_sem];try rfl) ⟨by simp only [go_sem],by first | (rw [aa];decide) | (simp only [go_sem]<;>(try rw [aa])<;>decide)⟩ rfl (by unfold RX TS TX ae;simp only [go_sem];try rfl) (by unfold RX TS TX;simp only [go_sem]) ?_
  rintro _ _ ⟨rfl,rfl⟩
  unfold RX TS TX ae
  simp only [go_sem]
  subst hR
  refine ⟨_,_,[200,201],id,⟨rfl,rfl⟩,?_⟩
  simp only [go_sem]
  all_goals rfl
 rw [if_neg (by rw [h];decide)] at hR
 rw [bS h]
 refine aS E (tau [([100],[200]),([101],[201])]) [.bx [100] 0,.d (.str e9)] (RX L s) [100,101] (c5) rfl (by simp only [go_sem];try rfl) ⟨by simp only [go_sem],by first | (rw [aa];decide) | (simp only [go_sem]<;>(try rw [aa])<;>decide)⟩ rfl (by unfold RX TS TX ae;simp only [go_sem];try rfl) (by unfold RX TS TX;simp only [go_sem]) ?_
 rintro _ _ ⟨rfl,rfl⟩
 unfold RX TS TX ae
 simp only [go_sem]
 refine aB E (fun h=>?_) (fun h=>?_)<;>simp only [go_sem]
 ·rw [if_pos h] at hR
  rw [bp h]
  refine aS E (tau [([100],[200]),([101],[201])]) [.bx [100] 0,.d (i64 t.pos)] (RX L s.next) [100,101] (cc hen) rfl (by simp only [go_sem];try rfl) ⟨by simp only [go_sem],by first | (rw [aa];decide) | (simp only [go_sem]<;>(try rw [aa])<;>decide)⟩ rfl (by unfold RX TS TX ae;simp only [go_sem];try rfl) (by unfold RX TS TX;simp only [go_sem]) ?_
  rintro _ _ ⟨rfl,rfl⟩
  unfold RX TS TX ae
  simp only [go_sem]
  subst hR
  refine ⟨_,_,[200,201],id,⟨rfl,rfl⟩,?_⟩
  simp only [go_sem]
  all_goals rfl
 rw [if_neg (by rw [h];decide)] at hR
 rw [bS h]
 refine aS E (tau [([100],[200]),([101],[201])]) [.bx [100] 0,.d (i64 5),.d (i64 t.pos)] (RX L s) [100,101] (cw) rfl (by simp only [go_sem];try rfl) ⟨by simp only [go_sem],by first | (rw [aa];decide) | (simp only [go_sem]<;>(try rw [aa])<;>decide)⟩ rfl (by unfold RX TS TX ae;simp only [go_sem];try rfl) (by unfold RX TS TX;simp only [go_sem]) ?_
 rintro _ _ ⟨rfl,rfl⟩
 unfold RX TS TX ae
 simp only [go_sem]
 have hno:=jE (G:=G)
 generalize noE=J at hno hR
 unfold exD at hno
 refine ag E hno rfl rfl (by simp) ?_
 rintro _ rfl
 simp only [go_sem]
 subst hR
 refine ⟨_,_,[200,201],id,⟨rfl,rfl⟩,?_⟩
 simp only [go_sem]
 all_goals first | rfl | exact ⟨rfl,rfl⟩ | exact ⟨rfl,rfl,rfl⟩
theorem El {G} {N:Nat} {ex:PS→PR} (hex:∀ s,GP 1 s (ex s)) (hst:∀ s,s.err≠0→(ex s).2=s) (hc:cO 70 G N ex):cO 330 G N (cQ ex):=by
 intro L s hf hl hN
 refine HCall.turn (tau [([200],[100]),([201],[101])]) (tau [([100],[200]),([101],[201])]) (GR hex hst hc L s hf hl hN) rfl (LeL.le (fr:=[(0,.bx [200] 0)]) ?_) ?_
 ·unfold RX RY TS TX ae
  show LeL _ _ (mk [(0,.bx [100] 0)] _ _) _ _ _
  simp only [go_sem]
 ·rintro _ _ ⟨rfl,rfl⟩
  refine ⟨_,_,⟨rfl,rfl⟩,fun ur=>⟨[100,101],fun x h=>h,LeL.le ?_,fun p _ hne=>?_⟩⟩
  ·unfold RX RY TS TX ae
   simp only [go_sem]
  ·have hp:p=[100]∨p=[101]:=by
    refine Classical.byContradiction fun h=>hne ?_
    rw [not_or] at h
    unfold RX TS TX
    rw [FR]
    simp [lkA,h.1,h.2,Ne.symm h.1,Ne.symm h.2]
   rcases hp with rfl | rfl
   ·exact ⟨⟨200,[],rfl,by simp⟩,rfl⟩
   ·exact ⟨⟨201,[],rfl,by simp⟩,rfl⟩
end Go.Proofs.YtejpnabbmgpmaaaGreat

