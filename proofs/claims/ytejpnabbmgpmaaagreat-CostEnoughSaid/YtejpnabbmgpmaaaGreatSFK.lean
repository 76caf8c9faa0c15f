/-
  Trees as such: what stands below a node, put together. (with the parts that follow it)
-/
import Derived.Test.YtejpnabbmgpmaaaGreatSFJ
import Derived.Test.YtejpnabbmgpmaaaGreatSFH
import Derived.Test.YtejpnabbmgpmaaaGreatSFF
import Derived.Test.YtejpnabbmgpmaaaGreatSFI
import Derived.Test.YtejpnabbmgpmaaaGreatSFG
set_option linter.all false
namespace Go.Proofs.YtejpnabbmgpmaaaGreat
open Go.Ab
inductive RT where
 | mk (n:EN) (ts:List RT)
mutual
def RT.enc:RT→List EN
 | .mk n ts=>av n (RT.encs ts)
def RT.encs:List RT→List (List EN)
 | []=>[]
 | t::r=>t.enc::RT.encs r
end
def can (n:EN):EN:=bk n (List.replicate (bf n) 0)
end Go.Proofs.YtejpnabbmgpmaaaGreat

namespace Go.Proofs.YtejpnabbmgpmaaaGreat
open Go.Ab
mutual
def RT.ok:RT→Prop
 | .mk n ts=>(bf n=ts.length∧can n=n)∧RT.oks ts
def RT.oks:List RT→Prop
 | []=>True
 | t::r=>t.ok∧RT.oks r
end
end Go.Proofs.YtejpnabbmgpmaaaGreat

namespace Go.Proofs.YtejpnabbmgpmaaaGreat
open Go.Ab
theorem lX {β:Type} (g:EF→β) (hg:∀ (f:EF) (v:Int),g { f with to:=v }=g f) (ks:List Int) (o:Nat):∀ (l:List EF) (i:Nat),(aX ks o l i).map g=l.map g
 | [],_=>rfl
 | f::r,i=>by
   rw [aX,List.map_cons,List.map_cons,lX g hg ks o r (i+1)]
   split
   ·rw [hg]
   ·rfl
theorem all_map' {α:Type} (p:α→Bool):∀ l:List α,l.all p=(l.map p).all id
 | []=>rfl
 | x::r=>by rw [List.all_cons,List.map_cons,List.all_cons,all_map' p r];rfl
theorem v3 {n:EN} {ks:List Int} (h:bN n=true):bN (bk n ks)=true:=by
 unfold bN at h ⊢
 simp only [Bool.and_eq_true] at h
 obtain ⟨h1,⟨⟨h2,h3⟩,h4⟩,_⟩:=h
 have e1:iE (bk n ks)=iE n:=rfl
 have e2:ec (bk n ks)=ec n:=rfl
 have e3:bZ (bk n ks)=true:=by
  unfold bZ at h4 ⊢
  rw [nh]
  by_cases hp:aI n.k=true
  ·rw [if_pos hp] at h4 ⊢
   have hl:(bk n ks).l=aX ks (aG n.k) n.l 0:=by show (if aI n.k then _ else [])=_;rw [if_pos hp]
   rw [hl,all_map',lX (fK n.k) (fun f v=>by unfold fK;rfl),← all_map',dk,lX (·.nm) (fun _ _=>rfl)]
   exact h4
  ·rw [if_neg hp]
   have hl:(bk n ks).l=[]:=by show (if aI n.k then _ else [])=_;rw [if_neg hp]
   rw [hl]
   rfl
 have e4:ft (bk n ks)=true:=by
  unfold ft
  rw [nh]
  show ([if 0<aG n.k then ks.getD 0 0 else 0,if 1<aG n.k then ks.getD 1 0 else 0,if 2<aG n.k then ks.getD 2 0 else 0].drop (aG n.k)).all _=true
  have:=bC n.k
  generalize aG n.k=q at this
  match q,this with
  | 0,_=>simp
  | 1,_=>simp
  | 2,_=>simp
  | 3,_=>simp
 have e5:(bk n ks).pos=n.pos:=rfl
 rw [e1,e2,e3,e4,e5,nh,h2,h3]
 simp only [Bool.and_eq_true] at h1 ⊢
 exact ⟨h1,by simp⟩
theorem Im {d d':List Int} {f:Int→Int}:∀ {ks:List Int},(∀ c∈ks,d.getD (f c).toNat 0=d'.getD c.toNat 0)→mx d (ks.map f)=mx d' ks:=by
 suffices g:∀ (ks:List Int) (m:Int),(∀ c∈ks,d.getD (f c).toNat 0=d'.getD c.toNat 0)→(ks.map f).foldl (fun m k=>max m (d.getD k.toNat 0)) m=ks.foldl (fun m k=>max m (d'.getD k.toNat 0)) m from fun {ks} h=>g ks 0 h
 intro ks
 induction ks with
 | nil=>intro m _;rfl
 | cons c r ih =>
   intro m h
   rw [List.map_cons,List.foldl_cons,List.foldl_cons,h c List.mem_cons_self]
   exact ih _ fun x hx=>h x (List.mem_cons_of_mem _ hx)
theorem A3 {ns:List EN} {i:Nat} (hi:i<ns.length) (hk:∀ c∈aj (ndE ns i),0≤c∧c<(i:Int)):(cM ns []).getD i 0=mx (cM ns []) (aj (ndE ns i))+1:=by
 rw [xT hi]
 have:=Im (d:=bL ns i) (d':=cM ns []) (f:=id) (ks:=aj (ndE ns i)) fun c hc=>by
  have:=hk c hc
  exact (tK (Nat.le_of_lt hi) (show c.toNat<i by omega)).symm
 rw [List.map_id] at this
 rw [this]
end Go.Proofs.YtejpnabbmgpmaaaGreat

namespace Go.Proofs.YtejpnabbmgpmaaaGreat
open Go.Ab
def GL (n:EN):Prop:=bN n=true∧inR n.n
theorem GL.with {n:EN} (ks:List Int) (h:GL n):GL (bk n ks):=⟨v3 h.1,h.2⟩
mutual
def RT.rt:RT→Prop
 | .mk n ts=>GL n∧RT.rts ts
def RT.rts:List RT→Prop
 | []=>True
 | t::r=>t.rt∧RT.rts r
end
structure RT.good (t:RT):Prop where
 ok:t.ok
 rt:t.rt
def mV:RT:=.mk (can (ndE [] 0)) []
def RT.lab:RT→EN
 | .mk n _=>n
def RT.kids:RT→List RT
 | .mk _ ts=>ts
def RT.kid (t:RT) (j:Nat):RT:=t.kids.getD j mV
mutual
def Ip:RT→Bool
 | .mk n ts=>if n.k=11∨n.k=13 then Gf ts else decide (n.k=1) || decide (n.k=2) || decide (n.k=3) || decide (n.k=5)
def Gf:List RT→Bool
 | []=>true
 | t::r=>Ip t && Gf r
end
def GO (n:EN) (k:Nat) (x:List UInt8):Bool :=
 if n.k=5∨n.k=8 then n.name == x else if n.k=7 then (n.name == x) && decide (k=1) else if n.k=14 then decide (0<k) && ((fdE n.l (k-1)).var == x) else false
mutual
def Bt (x:List UInt8) (v:RT):RT→RT
 | .mk n ts=>if n.k=4∧n.name=x then v else .mk n (F2 x v n 0 ts)
def F2 (x:List UInt8) (v:RT) (n:EN):Nat→List RT→List RT
 | _,[]=>[]
 | k,t::r=>(if GO n k x then t else Bt x v t)::F2 x v n (k+1) r
end
def RT.sz (t:RT):Nat:=t.enc.length
def Ge (n:EN):RT:=.mk (can n) []
def I7 (n a b:EN):Int × RT :=
 if n.n=7 then (if a.k=3∧b.k=3 then (5,Ge ⟨3,0,0,0,0,[],(a.s++b.s).take 200,[],n.pos⟩) else (4,mV))
 else if a.k=1∧b.k=1 then (if ID n.n b.n≠0 then (2,mV) else (5,Ge ⟨if 5≤n.n then 2 else 1,0,0,0,IK n.n a.n b.n,[],[],[],n.pos⟩)) else (4,mV)
def Es (n:EN) (f:RT):RT :=
 if f.lab.name=n.name then f else .mk (can ⟨5,0,0,0,0,f.lab.name,[],[],f.lab.pos⟩) [.mk (can ⟨8,0,0,0,0,n.name,[],[],n.pos⟩) [f,f.kid 0]]
def CP (l:List EF) (x:List UInt8):Nat:=l.findIdx fun f=>f.nm == x
def Gr (n:EN) (ts:List RT):Int × RT :=
 let c:=fun j=>ts.getD j mV
 if n.k=6 then (if (c 0).lab.k=5 then (5,Bt (c 0).lab.name (c 1) ((c 0).kid 0)) else (4,mV))
 else if n.k=7 then (5,Bt n.name (c 0) (c 1))
 else if n.k=8 then (5,Bt n.name (Es n (c 0)) (c 1))
 else if n.k=9 then (if (c 0).lab.k=2 then (5,if (c 0).lab.n=1 then c 1 else c 2) else (4,mV))
 else if n.k=10 then I7 n (c 0).lab (c 1).lab
 else if n.k=12 then (if (c 0).lab.k=11∧CP (c 0).lab.l n.name<(c 0).lab.l.length then (5,(c 0).kid (CP (c 0).lab.l n.name)) else (4,mV))
 else if n.k=14 then (if (c 0).lab.k=13∧CP n.l (c 0).lab.name<n.l.length then (5,Bt (fdE n.l (CP n.l (c 0).lab.name)).var ((c 0).kid 0) (c (CP n.l (c 0).lab.name+1))) else (4,mV))
 else (4,mV)
def GX (n:EN) (k:Nat):Bool:=if n.k=6∨n.k=10∨n.k=11 then true else if n.k=7∨n.k=9∨n.k=12∨n.k=13∨n.k=14 then decide (k=0) else false
mutual
def stT:RT→Int × RT
 | .mk n ts=>match HS n 0 ts with
   | none=>Gr n ts
   | some (h,us)=>if h=5 then (5,.mk n us) else (h,mV)
def HS (n:EN):Nat→List RT→Option (Int × List RT)
 | _,[]=>none
 | k,t::r=>if GX n k && !Ip t then some ((stT t).1,(stT t).2::r) else (HS n (k+1) r).map fun q=>(q.1,t::q.2)
end
end Go.Proofs.YtejpnabbmgpmaaaGreat

namespace Go.Proofs.YtejpnabbmgpmaaaGreat
open Go.Ab
mutual
def RT.lk:RT→Prop
 | .mk n ts=>(n.k=8→(ts.getD 0 mV).lab.k=5)∧RT.lks ts
def RT.lks:List RT→Prop
 | []=>True
 | t::r=>t.lk∧RT.lks r
end
theorem HB {n:EN} (h:aI n.k=false):bf n=aG n.k:=by unfold bf;rw [h];rfl
end Go.Proofs.YtejpnabbmgpmaaaGreat

namespace Go.Proofs.YtejpnabbmgpmaaaGreat
open Go.Ab
def RwN (x:D) (n:EN):Prop:=∃ F,x=.agg [i64 n.k,i64 n.a,i64 n.b,i64 n.c,i64 n.n,.str n.name,.str n.s,F,i64 n.pos]∧(F=.nils∧n.l=[]∨F=efD n.l)
def RwL:List D→List EN→Prop
 | [],[]=>True
 | x::xs,n::ns=>RwN x n∧RwL xs ns
 | _,_=>False
theorem RwL.len:∀ {xs:List D} {ns:List EN},RwL xs ns→xs.length=ns.length
 | [],[],_=>rfl
 | _::_,_::_,h=>by simp [RwL.len h.2]
 | [],_::_,h=>h.elim
 | _::_,[],h=>h.elim
theorem RwL.get:∀ {xs:List D} {ns:List EN},RwL xs ns→∀ (i:Nat) x n,xs[i]?=some x→ns[i]?=some n→RwN x n
 | [],_,_,i,x,n,h,_=>by simp at h
 | _::_,[],h,_,_,_,_,_=>h.elim
 | x::xs,n::ns,h,0,_,_,h1,h2=>by simp at h1 h2;subst h1;subst h2;exact h.1
 | x::xs,n::ns,h,i+1,y,m,h1,h2=>h.2.get i y m (by simpa using h1) (by simpa using h2)
theorem Gp (n:EN):okW (some 9) (enD n):=⟨rfl,by simp [efD,D.scal]⟩
end Go.Proofs.YtejpnabbmgpmaaaGreat

namespace Go.Proofs.YtejpnabbmgpmaaaGreat
open Go.Ab
end Go.Proofs.YtejpnabbmgpmaaaGreat

namespace Go.Proofs.YtejpnabbmgpmaaaGreat
open Go.Ab
end Go.Proofs.YtejpnabbmgpmaaaGreat

namespace Go.Proofs.YtejpnabbmgpmaaaGreat
open Go.Ab
end Go.Proofs.YtejpnabbmgpmaaaGreat

namespace Go.Proofs.YtejpnabbmgpmaaaGreat
open Go.Ab
def Jk (q:Int × RT):D:=if q.1=5 then exD q.2.enc else .agg [.nils]
theorem sj {h:Int} {t:RT} (hh:h≠5):Jk (h,t)=.agg [.nils]:=if_neg hh
structure Run (xs:List EN):Prop where
 may:cH xs=0
 rng:∀ n∈xs,inR n.n
theorem Run.t {xs:List EN} (h:Run xs):cW xs:=pM h.may
theorem mI (n:EN):enD n=.agg [i64 n.k,i64 n.a,i64 n.b,i64 n.c,i64 n.n,.str n.name,.str n.s,.sl (some 3) (n.l.map fD),i64 n.pos]:=rfl
end Go.Proofs.YtejpnabbmgpmaaaGreat

namespace Go.Proofs.YtejpnabbmgpmaaaGreat
open Go.Ab
end Go.Proofs.YtejpnabbmgpmaaaGreat

namespace Go.Proofs.YtejpnabbmgpmaaaGreat
open Go.Ab
end Go.Proofs.YtejpnabbmgpmaaaGreat

namespace Go.Proofs.YtejpnabbmgpmaaaGreat
open Go.Ab
end Go.Proofs.YtejpnabbmgpmaaaGreat

namespace Go.Proofs.YtejpnabbmgpmaaaGreat
open Go.Ab
end Go.Proofs.YtejpnabbmgpmaaaGreat

namespace Go.Proofs.YtejpnabbmgpmaaaGreat
open Go.Ab
end Go.Proofs.YtejpnabbmgpmaaaGreat

namespace Go.Proofs.YtejpnabbmgpmaaaGreat
open Go.Ab
end Go.Proofs.YtejpnabbmgpmaaaGreat

namespace Go.Proofs.YtejpnabbmgpmaaaGreat
open Go.Ab
structure Any (ns:List EN):Prop where
 sane:∀ n∈ns,dx BIG n
 few:ns.length≤1000000
 rng:∀ n∈ns,inR n.n
end Go.Proofs.YtejpnabbmgpmaaaGreat

namespace Go.Proofs.YtejpnabbmgpmaaaGreat
open Go.Ab
theorem vc {ks:List Int} {o:Nat} {l:List EF} {q:Nat} (hq:q<l.length) (hk:o+l.length≤ks.length):aX ks o (l.take (q+1)) 0=aX ks o (l.take q) 0++[{ fdE l q with to:=ks.getD (o+q) 0 }]:=by
 rw [List.take_succ_eq_append_getElem hq,ma]
 simp only [aX,Nat.zero_add,List.length_take,Nat.min_eq_left (Nat.le_of_lt hq)]
 rw [if_pos (by omega),show fdE l q=l[q] by simp [fdE,hq]]
set_option maxHeartbeats 1000000 in
theorem wY {G} (n:EN) (ks:List Int) (hl:n.l.length≤900000) (hw:ks.length=bf n):HP Tryz.prog G 143 [enD n,.sl none (ks.map i64)] (fun r=>r=.d (enD (bk n ks))):=by
 have hk3:=bC n.k
 obtain ⟨a,ha⟩:∃ a,a=if 0<aG n.k then ks.getD 0 0 else 0:=⟨_,rfl⟩
 obtain ⟨b,hb⟩:∃ b,b=if 1<aG n.k then ks.getD 1 0 else 0:=⟨_,rfl⟩
 obtain ⟨c,hc⟩:∃ c,c=if 2<aG n.k then ks.getD 2 0 else 0:=⟨_,rfl⟩
 obtain ⟨L,hL⟩:∃ L,L=if aI n.k then aX ks (aG n.k) n.l 0 else []:=⟨_,rfl⟩
 have hR:bk n ks={ n with a:=a,b:=b,c:=c,l:=L }:=by rw [ha,hb,hc,hL];rfl
 rw [hR,mI n]
 rw [show enD { n with a:=a,b:=b,c:=c,l:=L }=.agg [i64 n.k,i64 a,i64 b,i64 c,i64 n.n,.str n.name,.str n.s,.sl (some 3) (L.map fD),i64 n.pos] from rfl]
 refine gl Tryz.func143 rfl (by decide +kernel) (by simp [Tryz.ntmps143]) fun B0 hB0=>?_
 refine aB (aq fun E=>?_)
 simp only [go_sem]
 refine aB (aq fun E=>?_)
 simp only [go_sem]
 refine aB (aq fun E=>?_)
 simp only [go_sem]
 refine rW [5] 7 99 (some 3) _ rfl rfl (by rw [aa];decide) ?_
 simp only [go_sem]
 refine aB (aq fun E=>?_)
 simp only [go_sem]
 refine aB (my [(1,.d (.sl none (ks.map i64))),(2,.bx [2] 0),(4,.bx [4] 0),(5,.bx [5] 0),(6,.d (i64 (aG n.k:Nat)))]
  [([2],.box [.d (i64 n.k),.d (i64 n.a),.d (i64 n.b),.d (i64 n.c),.d (i64 n.n),.d (.str n.name),.d (.str n.s),.d (.sl (some 3) (n.l.map fD)),.d (i64 n.pos)]),([4],.box [.d (i64 0),.d (i64 0),.d (i64 0),.d (i64 0),.d (i64 0),.d (.str []),.d (.str []),.d .nils,.d (i64 0)]),([5],.box [.d (i64 n.k),.d (i64 0),.d (i64 0),.d (i64 0),.d (i64 n.n),.d (.str n.name),.d (.str n.s),.vw [99] 0 L.length,.d (i64 n.pos)]),([99],.arr (some 3) (L.map fD))]
  [2,4,5,99] (fun E=>?_) ?_)
 ·simp only [go_sem]
  by_cases hp:n.k=11∨n.k=14
  ·have hpz:aI n.k=true:=by rcases hp with h | h<;>rw [h]<;>rfl
   rw [hpz,if_pos rfl] at hL
   have hwl:ks.length=aG n.k+n.l.length:=by rw [hw];unfold bf;rw [hpz];rfl
   have hLl:L.length=n.l.length:=by rw [hL,dk]
   rcases hp with hx | hx
   all_goals
    first
    | (rw [decide_eq_true (show n.k=11 from hx)];simp only [go_sem])
    | (rw [decide_eq_false (show ¬ n.k=11 by omega)];simp only [go_sem];rw [decide_eq_true (show n.k=14 from hx)];simp only [go_sem])
    rw [ai ⟨by omega,by omega⟩,show (ks.length:Int)-(n.l.length:Int)=(aG n.k:Nat) by omega]
    refine aA E (X:={ q:Nat // q≤n.l.length }) (fun y=>[(1,.d (.sl none (ks.map i64))),(2,.bx [2] 0),(4,.bx [4] 0),(5,.bx [5] 0),(6,.d (i64 (aG n.k:Nat))),(7,.d (i64 y.1))])
     (fun y=>[([2],.box [.d (i64 n.k),.d (i64 n.a),.d (i64 n.b),.d (i64 n.c),.d (i64 n.n),.d (.str n.name),.d (.str n.s),.d (.sl (some 3) (n.l.map fD)),.d (i64 n.pos)]),([4],.box [.d (i64 0),.d (i64 0),.d (i64 0),.d (i64 0),.d (i64 0),.d (.str []),.d (.str []),.d .nils,.d (i64 0)]),([5],.box [.d (i64 n.k),.d (i64 0),.d (i64 0),.d (i64 0),.d (i64 n.n),.d (.str n.name),.d (.str n.s),.vw [99] 0 y.1,.d (i64 n.pos)]),([99],.arr (some 3) ((aX ks (aG n.k) (n.l.take y.1) 0).map fD))]) [2,4,5,99] (fun y=>n.l.length-y.1) ⟨0,Nat.zero_le _⟩ id ?_ ?_
    ·simp only [go_sem]
     all_goals first | rfl | exact ⟨rfl,rfl⟩
    rintro ⟨q,hq⟩ E0
    refine aC E0 fun Q' hQ E'=>?_
    simp only at hq ⊢
    simp only [go_sem]
    refine ah E' (fun f1=>?_) (fun f1=>?_)<;>simp only [go_sem]
    ·have hq':q<n.l.length:=by omega
     have hsn:=vc (ks:=ks) (o:=aG n.k) hq' (by omega)
     have hln:(aX ks (aG n.k) (n.l.take q) 0).length=q:=by rw [dk,List.length_take];omega
     refine ⟨⟨by omega,by omega⟩,?_⟩
     rw [jA hq']
     simp only [go_sem]
     rw [ai (n:=((aG n.k:Nat):Int)+(q:Int)) ⟨by omega,by omega⟩]
     refine ⟨⟨by omega,by omega⟩,?_⟩
     rw [show (((aG n.k:Nat):Int)+(q:Int)).toNat=aG n.k+q by omega,aw (by omega)]
     simp only [go_sem]
     refine ⟨by omega,?_⟩
     rw [show List.take q (List.map fD (aX ks (aG n.k) (n.l.take q) 0))++[.agg [.str (fdE n.l q).nm,.str (fdE n.l q).var,i64 (ks.getD (aG n.k+q) 0)]]=(aX ks (aG n.k) (n.l.take (q+1)) 0).map fD by
      rw [List.take_of_length_le (by rw [List.length_map];omega),hsn,List.map_append];rfl]
     rw [ai (n:=(q:Int)+1) ⟨by omega,by omega⟩,hQ]
     simp only [go_sem]
     refine ⟨⟨q+1,by omega⟩,by show n.l.length-(q+1)<_;omega,tau [([99],[51])],?_⟩
     simp only [go_sem]
     all_goals first | rfl | exact ⟨rfl,rfl⟩
    ·have h3:q=n.l.length:=by omega
     subst h3
     rw [List.take_length,← hL,hQ]
     simp only [go_sem]
     refine cG id ?_
     rw [hLl]
     simp only [go_sem]
     all_goals first | rfl | exact ⟨rfl,rfl⟩
  ·have hpz:aI n.k=false:=by unfold aI;simp;omega
   rw [hpz,if_neg (by decide)] at hL
   have hwl:ks.length=aG n.k:=by rw [hw];exact HB hpz
   subst hL
   rw [decide_eq_false (show ¬ n.k=11 by omega)]
   simp only [go_sem]
   rw [decide_eq_false (show ¬ n.k=14 by omega)]
   simp only [go_sem]
   rw [hwl]
   refine cG id ?_
   simp only [go_sem]
   all_goals first | rfl | exact ⟨rfl,rfl⟩
 have hwk:aG n.k≤ks.length:=by rw [hw];unfold bf;omega
 refine aB (my [(1,.d (.sl none (ks.map i64))),(2,.bx [2] 0),(4,.bx [4] 0),(5,.bx [5] 0),(6,.d (i64 (aG n.k:Nat)))]
  [([2],.box [.d (i64 n.k),.d (i64 n.a),.d (i64 n.b),.d (i64 n.c),.d (i64 n.n),.d (.str n.name),.d (.str n.s),.d (.sl (some 3) (n.l.map fD)),.d (i64 n.pos)]),([4],.box [.d (i64 0),.d (i64 0),.d (i64 0),.d (i64 0),.d (i64 0),.d (.str []),.d (.str []),.d .nils,.d (i64 0)]),([5],.box [.d (i64 n.k),.d (i64 a),.d (i64 0),.d (i64 0),.d (i64 n.n),.d (.str n.name),.d (.str n.s),.vw [99] 0 L.length,.d (i64 n.pos)]),([99],.arr (some 3) (L.map fD))]
  [2,4,5,99] (fun E=>?_) ?_)
 ·simp only [go_sem]
  refine ah E (fun g=>?_) (fun g=>?_)<;>simp only [go_sem]
  ·refine ⟨by omega,?_⟩
   rw [aw (by omega)]
   simp only [go_sem]
   rw [if_pos (by omega)] at ha
   rw [← ha]
   refine cG id ?_
   simp only [go_sem]
   all_goals first | rfl | exact ⟨rfl,rfl⟩
  ·rw [if_neg (by omega)] at ha
   subst ha
   refine cG id ?_
   simp only [go_sem]
   all_goals first | rfl | exact ⟨rfl,rfl⟩
 refine aB (my [(1,.d (.sl none (ks.map i64))),(2,.bx [2] 0),(4,.bx [4] 0),(5,.bx [5] 0),(6,.d (i64 (aG n.k:Nat)))]
  [([2],.box [.d (i64 n.k),.d (i64 n.a),.d (i64 n.b),.d (i64 n.c),.d (i64 n.n),.d (.str n.name),.d (.str n.s),.d (.sl (some 3) (n.l.map fD)),.d (i64 n.pos)]),([4],.box [.d (i64 0),.d (i64 0),.d (i64 0),.d (i64 0),.d (i64 0),.d (.str []),.d (.str []),.d .nils,.d (i64 0)]),([5],.box [.d (i64 n.k),.d (i64 a),.d (i64 b),.d (i64 0),.d (i64 n.n),.d (.str n.name),.d (.str n.s),.vw [99] 0 L.length,.d (i64 n.pos)]),([99],.arr (some 3) (L.map fD))]
  [2,4,5,99] (fun E=>?_) ?_)
 ·simp only [go_sem]
  refine ah E (fun g=>?_) (fun g=>?_)<;>simp only [go_sem]
  ·refine ⟨by omega,?_⟩
   rw [aw (by omega)]
   simp only [go_sem]
   rw [if_pos (by omega)] at hb
   rw [← hb]
   refine cG id ?_
   simp only [go_sem]
   all_goals first | rfl | exact ⟨rfl,rfl⟩
  ·rw [if_neg (by omega)] at hb
   subst hb
   refine cG id ?_
   simp only [go_sem]
   all_goals first | rfl | exact ⟨rfl,rfl⟩
 refine aB (my [(1,.d (.sl none (ks.map i64))),(2,.bx [2] 0),(4,.bx [4] 0),(5,.bx [5] 0),(6,.d (i64 (aG n.k:Nat)))]
  [([2],.box [.d (i64 n.k),.d (i64 n.a),.d (i64 n.b),.d (i64 n.c),.d (i64 n.n),.d (.str n.name),.d (.str n.s),.d (.sl (some 3) (n.l.map fD)),.d (i64 n.pos)]),([4],.box [.d (i64 0),.d (i64 0),.d (i64 0),.d (i64 0),.d (i64 0),.d (.str []),.d (.str []),.d .nils,.d (i64 0)]),([5],.box [.d (i64 n.k),.d (i64 a),.d (i64 b),.d (i64 c),.d (i64 n.n),.d (.str n.name),.d (.str n.s),.vw [99] 0 L.length,.d (i64 n.pos)]),([99],.arr (some 3) (L.map fD))]
  [2,4,5,99] (fun E=>?_) ?_)
 ·simp only [go_sem]
  refine ah E (fun g=>?_) (fun g=>?_)<;>simp only [go_sem]
  ·refine ⟨by omega,?_⟩
   rw [aw (by omega)]
   simp only [go_sem]
   rw [if_pos (by omega)] at hc
   rw [← hc]
   refine cG id ?_
   simp only [go_sem]
   all_goals first | rfl | exact ⟨rfl,rfl⟩
  ·rw [if_neg (by omega)] at hc
   subst hc
   refine cG id ?_
   simp only [go_sem]
   all_goals first | rfl | exact ⟨rfl,rfl⟩
 refine aq fun E=>?_
 simp only [go_sem]
 refine fc (.inl rfl) hB0 ?_
 simp only [go_sem]
 refine ⟨[([99],some 3,L.map fD)],?_⟩
 simp only [go_sem]
end Go.Proofs.YtejpnabbmgpmaaaGreat

namespace Go.Proofs.YtejpnabbmgpmaaaGreat
open Go.Ab
structure Low (ns:List EN):Prop where
 len:ns.length≤1000000
 l:∀ n∈ns,n.l.length≤900000
 k:∀ i,i<ns.length→(aj (ndE ns i)).all (inB i)=true
end Go.Proofs.YtejpnabbmgpmaaaGreat

namespace Go.Proofs.YtejpnabbmgpmaaaGreat
open Go.Ab
theorem DU {α:Type} {l:List α} {q:Nat} (h:q<l.length) (f:α→Int):(l.take (q+1)).map f=(l.take q).map f++[f l[q]]:=by
 rw [List.take_succ_eq_append_getElem h,List.map_append];rfl
set_option maxHeartbeats 1000000 in
theorem vV {G} (n:EN) (ls:List (List EN)) (hn:n.l.length≤900000) (hw:bf n=ls.length) (hS:aT ls≤1000000) (hk:∀ l∈ls,∀ m∈l,eI l.length m) (hwl:∀ l∈ls,eT 900000 l) :
  HP Tryz.prog G 88 [enD n,.sl (some 1) (ls.map exD)] (fun r=>r=.d (exD (av n ls))):=by
 have hL:ls.length≤900003:=by rw [← hw];unfold bf;have:=bC n.k;split<;>omega
 have hend:=wY (G:=G) n (cI ls [] []).2 hn (by rw [sh,hw];simp)
 rw [mI n] at hend ⊢
 refine ax Tryz.func88 rfl (by decide +kernel) (by simp [Tryz.ntmps88]) (veil fun E=>?_)
 simp only [go_sem]
 refine aA E (X:={ i:Nat // i≤ls.length }) (fun x=>[(1,.d (.sl (some 1) (ls.map exD))),(2,.bx [2] 0),(4,.bx [4] 0),(5,.vw [97] 0 (fe ls x.1).1.length),(6,.vw [98] 0 (fe ls x.1).2.length),(7,.d (i64 x.1))])
  (fun x=>[([2],.box [.d (i64 n.k),.d (i64 n.a),.d (i64 n.b),.d (i64 n.c),.d (i64 n.n),.d (.str n.name),.d (.str n.s),.d (.sl (some 3) (n.l.map fD)),.d (i64 n.pos)]),([4],.box [.d .nils]),([97],.arr (some 9) ((fe ls x.1).1.map enD)),([98],.arr none ((fe ls x.1).2.map i64))]) [2,4,97,98] (fun x=>ls.length-x.1) ⟨0,Nat.zero_le _⟩ (tau [([97],[13]),([98],[14])]) ?_ ?_
 ·simp only [go_sem]
  all_goals ((repeat' apply And.intro)<;>first | rfl | trivial)
 rintro ⟨i,hi⟩ E0
 refine aC E0 fun Q' hQ E'=>?_
 simp only at hi ⊢
 simp only [go_sem]
 refine ah E' (fun h1=>?_) (fun h1=>?_)<;>simp only [go_sem]
 ·have h1':i<ls.length:=by omega
  have hge:=wC h1'
  obtain ⟨l,hle⟩:∃ l,l=ls[i]:=⟨_,rfl⟩
  have hmem:l∈ls:=by rw [hle];exact List.getElem_mem h1'
  have hcl:=sI h1'
  have hcs:=qb h1'
  have hcr:=xE ls i
  rw [← hle] at hcl hcs hge
  obtain ⟨acc,hacc⟩:∃ acc,acc=(fe ls i).1:=⟨_,rfl⟩
  obtain ⟨rs,hrs⟩:∃ rs,rs=(fe ls i).2:=⟨_,rfl⟩
  rw [← hacc] at hcl hcs
  rw [← hrs] at hcr hcs
  simp only [← hacc,← hrs]
  refine aA E' (X:={ j:Nat // j≤l.length }) (fun x=>[(1,.d (.sl (some 1) (ls.map exD))),(2,.bx [2] 0),(4,.bx [4] 0),(5,.vw [97] 0 (acc.length+x.1)),(6,.vw [98] 0 rs.length),(7,.d (i64 i)),(8,.d (i64 acc.length)),(9,.d (i64 x.1))])
   (fun x=>[([2],.box [.d (i64 n.k),.d (i64 n.a),.d (i64 n.b),.d (i64 n.c),.d (i64 n.n),.d (.str n.name),.d (.str n.s),.d (.sl (some 3) (n.l.map fD)),.d (i64 n.pos)]),([4],.box [.d .nils]),([97],.arr (some 9) ((acc++(l.take x.1).map (aV acc.length)).map enD)),([98],.arr none (rs.map i64))]) [2,4,97,98] (fun x=>l.length-x.1) ⟨0,Nat.zero_le _⟩ id ?_ ?_
  ·simp only [go_sem]
   all_goals ((repeat' apply And.intro)<;>first | rfl | trivial | simp)
  rintro ⟨j,hj⟩ E2
  refine aC E2 fun Q2 hQ2 E3=>?_
  simp only at hj ⊢
  simp only [go_sem]
  refine ⟨⟨by omega,by omega⟩,?_⟩
  rw [hge]
  simp only [go_sem]
  refine ah E3 (fun h2=>?_) (fun h2=>?_)<;>simp only [go_sem]
  ·have h2':j<l.length:=by omega
   have hgl:=aP h2'
   rw [bG h2'] at hgl
   obtain ⟨m,hm⟩:∃ m,m=l[j]:=⟨_,rfl⟩
   have hmm:m∈l:=by rw [hm];exact List.getElem_mem h2'
   have hmk:=hk l hmem m hmm
   have hml:=hwl l hmem m hmm
   rw [← hm] at hgl
   have hkc:=mA (G:=G) m (by omega)
   rw [mI m] at hkc
   refine ⟨⟨by omega,by omega⟩,?_⟩
   rw [hge]
   simp only [go_sem]
   refine ⟨⟨by omega,by omega⟩,?_⟩
   rw [hgl]
   simp only [go_sem]
   refine ag E3 hkc rfl rfl (by simp) ?_
   rintro _ rfl
   simp only [go_sem]
   have hKl:(aj m).length≤900003:=by
    rw [bt];unfold bf
    have:=bC m.k
    split<;>omega
   have hKk:∀ q,q<(aj m).length→0≤(aj m).getD q 0∧(aj m).getD q 0<l.length:=fun q hq=>hmk _ (by simp [hq])
   have hwm:bk m ((aj m).map fun k:Int=>k+acc.length)=aV acc.length m:=rfl
   have hkw:=bt m
   obtain ⟨K,hK⟩:∃ K,K=aj m:=⟨_,rfl⟩
   rw [← hK] at hKl hKk hwm hkw ⊢
   refine aA E3 (X:={ q:Nat // q≤K.length }) (fun x=>[(1,.d (.sl (some 1) (ls.map exD))),(2,.bx [2] 0),(4,.bx [4] 0),(5,.vw [97] 0 (acc.length+j)),(6,.vw [98] 0 rs.length),(7,.d (i64 i)),(8,.d (i64 acc.length)),(9,.d (i64 j)),(10,.d (.sl none (K.map i64))),(11,.vw [96] 0 x.1),(12,.d (i64 x.1))])
    (fun x=>[([2],.box [.d (i64 n.k),.d (i64 n.a),.d (i64 n.b),.d (i64 n.c),.d (i64 n.n),.d (.str n.name),.d (.str n.s),.d (.sl (some 3) (n.l.map fD)),.d (i64 n.pos)]),([4],.box [.d .nils]),([97],.arr (some 9) ((acc++(l.take j).map (aV acc.length)).map enD)),([98],.arr none (rs.map i64)),([96],.arr none (((K.take x.1).map fun k:Int=>k+acc.length).map i64))]) [2,4,96,97,98] (fun x=>K.length-x.1) ⟨0,Nat.zero_le _⟩ (tau [([96],[42])]) ?_ ?_
   ·simp only [go_sem]
    all_goals ((repeat' apply And.intro)<;>first | rfl | trivial)
   rintro ⟨q,hq⟩ E4
   refine aC E4 fun Q4 hQ4 E5=>?_
   simp only at hq ⊢
   simp only [go_sem]
   refine ah E5 (fun h3=>?_) (fun h3=>?_)<;>simp only [go_sem]
   ·have h3':q<K.length:=by omega
    have hin:=hKk q h3'
    have hst:=DU h3' (fun k:Int=>k+acc.length)
    rw [show K[q]=K.getD q 0 by simp [h3']] at hst
    refine ⟨⟨by omega,by omega⟩,?_⟩
    rw [aw h3']
    simp only [go_sem]
    refine ⟨by omega,?_⟩
    rw [ai (n:=K.getD q 0+(acc.length:Int)) ⟨by omega,by omega⟩]
    try rw [List.take_of_length_le (l:=List.map i64 _) (by simp;omega)]
    rw [show List.map i64 (List.map (fun k:Int=>k+acc.length) (List.take q K))++[i64 (K.getD q 0+acc.length)]=((K.take (q+1)).map fun k:Int=>k+acc.length).map i64 by rw [hst,List.map_append];rfl]
    rw [ai ⟨by omega,by omega⟩,hQ4]
    simp only [go_sem]
    refine ⟨⟨q+1,by omega⟩,by show K.length-(q+1)<_;omega,tau [([96],[57])],?_⟩
    simp only [go_sem]
    all_goals ((repeat' apply And.intro)<;>first | rfl | trivial)
   ·have hq2:q=K.length:=by omega
    subst hq2
    rw [List.take_length,hQ4]
    have cm:=wY (G:=G) m (K.map fun k:Int=>k+acc.length) hml (by rw [List.length_map,hkw])
    obtain ⟨M,hM⟩:∃ M,M=aV acc.length m:=⟨_,rfl⟩
    rw [hwm,← hM,mI m,mI M] at cm
    simp only [go_sem]
    refine ⟨⟨by omega,by omega⟩,?_⟩
    rw [hge]
    simp only [go_sem]
    refine ⟨⟨by omega,by omega⟩,?_⟩
    rw [hgl]
    simp only [go_sem]
    refine cL E3 [96] none ((K.map fun k:Int=>k+acc.length).map i64) rfl (by simp only [go_sem];rfl) ?_
    simp only [go_sem]
    try rw [List.take_of_length_le (l:=List.map i64 _) (by simp)]
    refine ag E3 cm rfl rfl (by simp) ?_
    rintro _ rfl
    simp only [go_sem]
    refine ⟨by omega,?_⟩
    have hout:List.take (acc.length+j) (List.map enD (acc++List.map (aV acc.length) (List.take j l)))++[.agg [i64 M.k,i64 M.a,i64 M.b,i64 M.c,i64 M.n,.str M.name,.str M.s,.sl (some 3) (M.l.map fD),i64 M.pos]]=(acc++(l.take (j+1)).map (aV acc.length)).map enD:=by
     rw [List.take_of_length_le (by simp;omega),List.take_succ_eq_append_getElem h2',← hm]
     simp only [List.map_append,List.map_cons,List.map_nil,← hM,← mI M,List.append_assoc]
    rw [hout]
    rw [hQ2]
    simp only [go_sem]
    refine ⟨⟨j+1,by omega⟩,by show l.length-(j+1)<_;omega,tau [([97],[70])],?_⟩
    rw [ai ⟨by omega,by omega⟩]
    simp only [go_sem]
    all_goals ((repeat' apply And.intro)<;>first | rfl | trivial)
  ·rw [hQ2]
   simp only [go_sem]
   have hj2:j=l.length:=by omega
   subst hj2
   refine ⟨by omega,?_⟩
   have hro:List.take rs.length (List.map i64 rs)++[.int .i64 (w64 (((acc.length+l.length:Nat):Int)-1))]=(rs++[((acc.length+l.length:Nat):Int)-1]).map i64:=by
    rw [ai ⟨by omega,by omega⟩,List.take_of_length_le (by rw [List.length_map];exact Nat.le_refl _)]
    simp only [List.map_append,List.map_cons,List.map_nil]
   first | rw [hro] | (rw [List.take_of_length_le (by rw [List.length_map];exact Nat.le_refl _)] at hro;rw [hro])
   rw [hQ]
   simp only [go_sem]
   refine ⟨⟨i+1,by omega⟩,by show ls.length-(i+1)<_;omega,tau [([98],[76])],?_⟩
   simp only [hcs]
   rw [ai ⟨by omega,by omega⟩]
   simp only [go_sem]
   simp only [List.length_append,List.length_map,List.length_singleton]
   all_goals ((repeat' apply And.intro)<;>first | rfl | trivial)
 ·rw [hQ]
  have hi2:i=ls.length:=by omega
  subst hi2
  rw [tO]
  obtain ⟨acc,hacc⟩:∃ acc,acc=(cI ls [] []).1:=⟨_,rfl⟩
  obtain ⟨rs,hrs⟩:∃ rs,rs=(cI ls [] []).2:=⟨_,rfl⟩
  have hal:acc.length=aT ls:=by rw [hacc,kN];simp
  have hj:av n ls=acc++[bk n rs]:=by unfold av;rw [← hacc,← hrs]
  rw [← hrs] at hend
  rw [← hacc,← hrs]
  obtain ⟨M,hM⟩:∃ M,M=bk n rs:=⟨_,rfl⟩
  rw [← hM] at hj hend
  rw [mI M] at hend
  simp only [go_sem]
  refine cL E [98] none (rs.map i64) rfl (by simp only [go_sem];rfl) ?_
  simp only [go_sem]
  try rw [List.take_of_length_le (l:=List.map i64 _) (by simp)]
  refine ag E hend rfl rfl (by simp) ?_
  rintro _ rfl
  simp only [go_sem]
  have hout:List.take acc.length (List.map enD acc)++[.agg [i64 M.k,i64 M.a,i64 M.b,i64 M.c,i64 M.n,.str M.name,.str M.s,.sl (some 3) (M.l.map fD),i64 M.pos]]=(av n ls).map enD:=by
   rw [List.take_of_length_le (by rw [List.length_map];exact Nat.le_refl _),hj,List.map_append,← mI];rfl
  refine ⟨by omega,?_⟩
  first | rw [hout] | (rw [List.take_of_length_le (by rw [List.length_map];exact Nat.le_refl _)] at hout;rw [hout])
  refine ⟨[([82],some 9,(av n ls).map enD)],?_⟩
  simp only [go_sem]
  rw [List.take_of_length_le (by rw [hj];simp)]
  rfl
end Go.Proofs.YtejpnabbmgpmaaaGreat

namespace Go.Proofs.YtejpnabbmgpmaaaGreat
open Go.Ab
def Fit (L:List Tok) (s:PS):Prop:=∃ a,a≤L.length∧s.l=L.drop a
def atN (L:List Tok) (s:PS):Nat:=L.length-s.l.length
theorem Fit.eq {L:List Tok} {s:PS} (h:Fit L s):s.l=L.drop (atN L s):=by
 obtain ⟨a,ha,hs⟩:=h
 unfold atN
 have:s.l.length=L.length-a:=by rw [hs,List.length_drop]
 rw [this,show L.length-(L.length-a)=a by omega,← hs]
theorem Fit.le {L:List Tok} {s:PS} (h:Fit L s):s.l.length≤L.length:=by
 obtain ⟨a,ha,hs⟩:=h
 rw [hs,List.length_drop];omega
theorem Fit.ss {L:List Tok} {s r:PS} (h:Fit L s) (g:SS s r):Fit L r:=by
 obtain ⟨a,ha,hs⟩:=h
 obtain ⟨k,hk⟩:=g.suf
 rw [hs,List.drop_drop] at hk
 by_cases hk':a+k≤L.length
 ·exact ⟨a+k,hk',hk⟩
 ·exact ⟨L.length,Nat.le_refl _,by rw [hk,List.drop_eq_nil_of_le (by omega),List.drop_length]⟩
def TS (L:List Tok) (s:PS):List (Name × Ob):=TX L (atN L s) s.fin
def RX (L:List Tok) (s:PS):List (Name × Ob):=([100],.box [.bx [101] 0,.d (i64 s.err),.d (i64 s.pos),.d (i64 s.nest)])::TS L s
theorem yb {L:List Tok} {s:PS} (h:Fit L s):(if atN L s<L.length then atN L s+1 else atN L s)=atN L s.next:=by
 have hl:=h.le
 unfold atN PS.next
 simp only [List.length_tail]
 cases hs:s.l with
 | nil=>simp
 | cons t r =>
   have:s.l.length=r.length+1:=by rw [hs];rfl
   simp only [List.length_cons] at *
   rw [if_pos (by omega)]
   omega
theorem fH {G} {L:List Tok} {s:PS} (h:Fit L s) (hl:L.length≤1000000):HCall Tryz.prog G 72 [.bx [101] 0] (TS L s) [101] (fun r hp'=>r=.d (.agg [i64 s.peek.k,.str s.peek.s,i64 s.peek.n,i64 s.peek.pos])∧hp'=TS L s):=by
 have h0:=vT (G:=G) L (atN L s) s.fin hl
 rw [← h.eq] at h0
 exact h0
theorem Dl {G} {L:List Tok} {s:PS} (h:Fit L s) (hl:L.length≤1000000):HCall Tryz.prog G 138 [.bx [101] 0] (TS L s) [101] (fun r hp'=>r=.d (.agg [i64 s.peek.k,.str s.peek.s,i64 s.peek.n,i64 s.peek.pos])∧hp'=TS L s.next):=by
 have h0:=Fg (G:=G) L (atN L s) s.fin hl
 rw [← h.eq,yb h] at h0
 exact h0
theorem De {G} {L:List Tok} {s:PS} (h:Fit L s) (hl:L.length≤1000000) (k:Int) (t:List UInt8) (hk:k≠0∧k≠4):HCall Tryz.prog G 137 [.bx [101] 0,.d (i64 k),.d (.str t)] (TS L s) [101] (fun r hp'=>r=.d (.bool (s.is k t))∧hp'=TS L (if s.is k t then s.next else s)):=by
 have h0:=Fc (G:=G) L (atN L s) s.fin k t hl hk
 have hlt:=CK (L:=L) (a:=atN L s) (fin:=s.fin) (k:=k) (t:=t)
 rw [← h.eq] at h0 hlt
 have hi:s.is k t=isT s.l s.fin k t:=rfl
 rw [hi]
 generalize isT s.l s.fin k t=b at *
 cases b with
 | false=>exact h0
 | true =>
   have:=yb h
   rw [if_pos (hlt rfl)] at this
   rw [if_pos rfl,this] at h0
   exact h0
theorem iV {G} (L:List Tok) (s:PS) (e p:Int):HCall Tryz.prog G 71 [.bx [100] 0,.d (i64 e),.d (i64 p)] (RX L s) [100,101] (fun r hp'=>r=.tup []∧hp'=RX L (s.fail e p)):=by
 generalize hX:s.fail e p=X
 unfold PS.fail at hX
 unfold RX TS TX ae
 refine ar Tryz.func71 rfl (by decide +kernel) (by simp [Tryz.ntmps71]) (veil fun E=>?_)
 simp only [go_sem]
 refine ah E (fun h=>?_) (fun h=>?_)<;>simp only [go_sem]
 ·rw [← hX,if_pos h]
  refine ⟨_,_,[100,101],id,⟨rfl,rfl⟩,?_⟩
  simp only [go_sem]
  rfl
 ·rw [← hX,if_neg h]
  refine ⟨_,_,[100,101],id,⟨rfl,rfl⟩,?_⟩
  simp only [go_sem]
theorem Bc {s:PS} {k:Int} {t:List UInt8}:s.sees k t=(decide (s.err=0) && s.is k t):=rfl
theorem iq {G} {L:List Tok} {s:PS} (hf:Fit L s) (hl:L.length≤1000000) (t:List UInt8):HCall Tryz.prog G 173 [.bx [100] 0,.d (.str t)] (RX L s) [100,101] (fun r hp'=>r=.d (.bool (s.sees 1 t))∧hp'=RX L (s.may 1 t)):=by
 have h0:=De (G:=G) hf hl 1 t (by decide)
 generalize hX:s.may 1 t=X
 have hX':X=if decide (s.err=0) && s.is 1 t then s.next else s:=by rw [← hX];rfl
 rw [Bc]
 generalize s.is 1 t=b at *
 unfold RX
 unfold TS TX ae at *
 refine ar Tryz.func173 rfl (by decide +kernel) (by simp [Tryz.ntmps173]) (veil fun E=>?_)
 simp only [go_sem]
 refine ao E (fun h=>?_) (fun h=>?_)<;>simp only [go_sem]
 ·refine ab E [.bx [101] 0,.d (i64 1),.d (.str t)] (TS L s) [101] (by unfold TS TX ae;exact h0) rfl rfl ⟨by simp only [go_sem],by first | (rw [aa];decide) | (simp only [go_sem]<;>(try rw [aa])<;>decide)⟩ rfl (by unfold TS TX ae;simp only [go_sem]) (by unfold TS TX;simp only [go_sem]) ?_
  rintro _ _ ⟨rfl,rfl⟩
  unfold TS TX ae
  simp only [go_sem]
  rw [hX',decide_eq_true h]
  refine ⟨_,_,[100,101],id,⟨rfl,rfl⟩,?_⟩
  simp only [go_sem]
  cases b<;>rfl
 ·rw [hX',decide_eq_false h]
  refine ⟨_,_,[100,101],id,⟨rfl,rfl⟩,?_⟩
  simp only [go_sem]
theorem dm {G} {L:List Tok} {s:PS} (hf:Fit L s) (hl:L.length≤1000000) (t:List UInt8):HCall Tryz.prog G 178 [.bx [100] 0,.d (.str t)] (RX L s) [100,101] (fun r hp'=>r=.d (.bool (s.sees 7 t))∧hp'=RX L (s.may 7 t)):=by
 have h0:=De (G:=G) hf hl 7 t (by decide)
 generalize hX:s.may 7 t=X
 have hX':X=if decide (s.err=0) && s.is 7 t then s.next else s:=by rw [← hX];rfl
 rw [Bc]
 generalize s.is 7 t=b at *
 unfold RX
 unfold TS TX ae at *
 refine ar Tryz.func178 rfl (by decide +kernel) (by simp [Tryz.ntmps178]) (veil fun E=>?_)
 simp only [go_sem]
 refine ao E (fun h=>?_) (fun h=>?_)<;>simp only [go_sem]
 ·refine ab E [.bx [101] 0,.d (i64 7),.d (.str t)] (TS L s) [101] (by unfold TS TX ae;exact h0) rfl rfl ⟨by simp only [go_sem],by first | (rw [aa];decide) | (simp only [go_sem]<;>(try rw [aa])<;>decide)⟩ rfl (by unfold TS TX ae;simp only [go_sem]) (by unfold TS TX;simp only [go_sem]) ?_
  rintro _ _ ⟨rfl,rfl⟩
  unfold TS TX ae
  simp only [go_sem]
  rw [hX',decide_eq_true h]
  refine ⟨_,_,[100,101],id,⟨rfl,rfl⟩,?_⟩
  simp only [go_sem]
  cases b<;>rfl
 ·rw [hX',decide_eq_false h]
  refine ⟨_,_,[100,101],id,⟨rfl,rfl⟩,?_⟩
  simp only [go_sem]
theorem ei {G} {L:List Tok} {s:PS} (hf:Fit L s) (hl:L.length≤1000000) (k:Int) (t:List UInt8) (hk:k≠0∧k≠4):HCall Tryz.prog G 175 [.bx [100] 0,.d (i64 k),.d (.str t)] (RX L s) [100,101] (fun r hp'=>r=.tup []∧hp'=RX L (s.must k t)):=by
 have h0:=De (G:=G) hf hl k t hk
 have h1:=fH (G:=G) hf hl
 have h2:=iV (G:=G) L s 5 s.peek.pos
 generalize hX:s.must k t=X
 have hX':X=if decide (s.err=0) && s.is k t then s.next else s.wrong:=by rw [← hX];rfl
 have hW:s.wrong=s.fail 5 s.peek.pos:=rfl
 rw [← hW] at h2
 have hE:¬ s.err=0→s.wrong=s:=fun h=>cg h
 generalize s.wrong=W at *
 generalize s.is k t=b at *
 unfold RX TS TX ae
 refine ar Tryz.func175 rfl (by decide +kernel) (by simp [Tryz.ntmps175]) (veil fun E=>?_)
 simp only [go_sem]
 refine ao E (fun h=>?_) (fun h=>?_)<;>simp only [go_sem]
 ·refine ab E [.bx [101] 0,.d (i64 k),.d (.str t)] (TS L s) [101] (h0) rfl rfl ⟨by simp only [go_sem],by first | (rw [aa];decide) | (simp only [go_sem]<;>(try rw [aa])<;>decide)⟩ rfl (by unfold TS TX ae;simp only [go_sem]) (by unfold TS TX;simp only [go_sem]) ?_
  rintro _ _ ⟨rfl,rfl⟩
  unfold TS TX ae
  simp only [go_sem]
  rw [decide_eq_true h,Bool.true_and] at hX'
  refine aD E (fun g=>?_) (fun g=>?_)<;>simp only [go_sem]
  ·have g':b=false:=by simpa using g
   subst g'
   refine ab E [.bx [101] 0] (TS L s) [101] (h1) rfl rfl ⟨by simp only [go_sem],by first | (rw [aa];decide) | (simp only [go_sem]<;>(try rw [aa])<;>decide)⟩ rfl (by unfold TS TX ae;simp only [go_sem]) (by unfold TS TX;simp only [go_sem]) ?_
   rintro _ _ ⟨rfl,rfl⟩
   unfold TS TX ae
   simp only [go_sem]
   refine ab E [.bx [100] 0,.d (i64 5),.d (i64 s.peek.pos)] (RX L s) [100,101] (h2) rfl rfl ⟨by simp only [go_sem],by first | (rw [aa];decide) | (simp only [go_sem]<;>(try rw [aa])<;>decide)⟩ rfl (by unfold RX TS TX ae;simp only [go_sem]) (by unfold RX TS TX;simp only [go_sem]) ?_
   rintro _ _ ⟨rfl,rfl⟩
   unfold RX TS TX ae
   simp only [go_sem]
   rw [hX']
   refine ⟨_,_,[100,101],id,⟨rfl,rfl⟩,?_⟩
   simp only [go_sem]
  ·have g':b=true:=by simpa using g
   subst g'
   rw [hX']
   refine ⟨_,_,[100,101],id,⟨rfl,rfl⟩,?_⟩
   simp only [go_sem]
   rfl
 ·rw [hX',decide_eq_false h,Bool.false_and,if_neg (by decide),hE h]
  refine ⟨_,_,[100,101],id,⟨rfl,rfl⟩,?_⟩
  simp only [go_sem]
theorem jK {G} {L:List Tok} {s:PS} (hf:Fit L s) (hl:L.length≤1000000) (k:Int):HCall Tryz.prog G 174 [.bx [100] 0,.d (i64 k)] (RX L s) [100,101] (fun r hp'=>r=.d (.str (s.of k).1)∧hp'=RX L (s.of k).2):=by
 have h0:=Dl (G:=G) hf hl
 have h1:=fH (G:=G) hf hl
 have h2:=iV (G:=G) L s 5 s.peek.pos
 have hX:s.of k=if decide (s.err=0) && decide (s.peek.k=k) then (s.peek.s,s.next) else ([],s.wrong):=rfl
 generalize s.of k=X at *
 have hW:s.wrong=s.fail 5 s.peek.pos:=rfl
 rw [← hW] at h2
 have hE:¬ s.err=0→s.wrong=s:=fun h=>cg h
 generalize s.wrong=W at *
 unfold RX TS TX ae
 refine ar Tryz.func174 rfl (by decide +kernel) (by simp [Tryz.ntmps174]) (veil fun E=>?_)
 simp only [go_sem]
 refine ab E [.bx [101] 0] (TS L s) [101] (h1) rfl rfl ⟨by simp only [go_sem],by first | (rw [aa];decide) | (simp only [go_sem]<;>(try rw [aa])<;>decide)⟩ rfl (by unfold TS TX ae;simp only [go_sem]) (by unfold TS TX;simp only [go_sem]) ?_
 rintro _ _ ⟨rfl,rfl⟩
 unfold TS TX ae
 simp only [go_sem]
 refine ah E (fun h=>?_) (fun h=>?_)<;>simp only [go_sem]
 ·rw [hX,decide_eq_false h,Bool.false_and,if_neg (by decide),hE h]
  refine ⟨_,_,[100,101],id,⟨rfl,rfl⟩,?_⟩
  simp only [go_sem]
 have h:s.err=0:=by simpa using h
 rw [decide_eq_true h,Bool.true_and] at hX
 refine ah E (fun g=>?_) (fun g=>?_)<;>simp only [go_sem]
 ·refine ab E [.bx [100] 0,.d (i64 5),.d (i64 s.peek.pos)] (RX L s) [100,101] (h2) rfl rfl ⟨by simp only [go_sem],by first | (rw [aa];decide) | (simp only [go_sem]<;>(try rw [aa])<;>decide)⟩ rfl (by unfold RX TS TX ae;simp only [go_sem]) (by unfold RX TS TX;simp only [go_sem]) ?_
  rintro _ _ ⟨rfl,rfl⟩
  unfold RX TS TX ae
  simp only [go_sem]
  rw [hX,decide_eq_false g]
  refine ⟨_,_,[100,101],id,⟨rfl,rfl⟩,?_⟩
  simp only [go_sem]
 ·have g:s.peek.k=k:=by simpa using g
  refine ab E [.bx [101] 0] (TS L s) [101] (h0) rfl rfl ⟨by simp only [go_sem],by first | (rw [aa];decide) | (simp only [go_sem]<;>(try rw [aa])<;>decide)⟩ rfl (by unfold TS TX ae;simp only [go_sem]) (by unfold TS TX;simp only [go_sem]) ?_
  rintro _ _ ⟨rfl,rfl⟩
  unfold TS TX ae
  simp only [go_sem]
  rw [hX,decide_eq_true g]
  refine ⟨_,_,[100,101],id,⟨rfl,rfl⟩,?_⟩
  simp only [go_sem]
  rfl
theorem HW {G} (n:EN) (ls:List (List EN)) (hn:n.l=[]) (hw:bf n=ls.length) (hS:aT ls≤1000000) (hk:∀ l∈ls,∀ m∈l,eI l.length m) (hwl:∀ l∈ls,eT 900000 l) :
  HP Tryz.prog G 88 [ndN n,.sl (some 1) (ls.map exD)] (fun r=>r=.d (exD (av n ls))) :=
 HP.le (args':=[enD n,.sl (some 1) (ls.map exD)]) rfl (h:=vV n ls (by rw [hn];exact Nat.zero_le _) hw hS hk hwl) fun i x y hx hy=>by
  rcases i with _ | _ | i
  ·cases hx;cases hy;exact rE hn
  ·cases hx;cases hy;exact .refl _
  ·cases hx
theorem Ic {G} (n:EN) (hn:n.l=[]) (hw:bf n=0):HP Tryz.prog G 88 [ndN n,.nils] (fun r=>r=.d (exD (bj n))) :=
 HP.le (args':=[enD n,.sl (some 1) ([].map exD)]) rfl (h:=vV n [] (by rw [hn];exact Nat.zero_le _) hw (Nat.zero_le _) (fun l h=>by cases h) (fun l h=>by cases h)) fun i x y hx hy=>by
  rcases i with _ | _ | i
  ·cases hx;cases hy;exact rE hn
  ·cases hx;cases hy;exact .nil _
  ·cases hx
theorem eK {G} (n:EN) (ls:List (List EN)) (hn:n.l=[]) (hw:bf n=ls.length) (hS:aT ls≤1000000) (hk:∀ l∈ls,∀ m∈l,eI l.length m) (hwl:∀ l∈ls,eT 900000 l):HP Tryz.prog G 176 [ndN n,.sl (some 1) (ls.map exD)] (fun r=>r=.d (exD (av n ls))):=by
 have h0:=HW (G:=G) n ls hn hw hS hk hwl
 generalize av n ls=Y at h0 ⊢
 unfold ndN at *
 refine ax Tryz.func176 rfl (by decide +kernel) (by simp [Tryz.ntmps176]) (veil fun E=>?_)
 simp only [go_sem]
 refine ag E h0 rfl rfl (by simp) ?_
 rintro _ rfl
 unfold exD
 simp only [go_sem]
 refine ⟨[],?_⟩
 simp only [go_sem]
 rfl
theorem mf {G} (n:EN) (hn:n.l=[]) (hw:bf n=0):HP Tryz.prog G 176 [ndN n,.nils] (fun r=>r=.d (exD (bj n))):=by
 have h0:=Ic (G:=G) n hn hw
 generalize bj n=Y at h0 ⊢
 unfold ndN at *
 refine ax Tryz.func176 rfl (by decide +kernel) (by simp [Tryz.ntmps176]) (veil fun E=>?_)
 simp only [go_sem]
 refine ag E h0 rfl rfl (by simp) ?_
 rintro _ rfl
 unfold exD
 simp only [go_sem]
 refine ⟨[],?_⟩
 simp only [go_sem]
 rfl
theorem wz {G} (n:EN) (ls:List (List EN)) (hn:n.l.length≤900000) (hw:bf n=ls.length) (hS:aT ls≤1000000) (hk:∀ l∈ls,∀ m∈l,eI l.length m) (hwl:∀ l∈ls,eT 900000 l):HP Tryz.prog G 176 [enD n,.sl (some 1) (ls.map exD)] (fun r=>r=.d (exD (av n ls))):=by
 have h0:=vV (G:=G) n ls hn hw hS hk hwl
 generalize av n ls=Y at h0 ⊢
 unfold enD efD at *
 refine ax Tryz.func176 rfl (by decide +kernel) (by simp [Tryz.ntmps176]) (veil fun E=>?_)
 simp only [go_sem]
 refine ag E h0 rfl rfl (by simp) ?_
 rintro _ rfl
 unfold exD
 simp only [go_sem]
 refine ⟨[],?_⟩
 simp only [go_sem]
 rfl
theorem BL {n:EN} (hn:n.l=[]) (h0:bk n []=n):Wk (.agg [.sl (some 9) [ndN n]]) (exD (bj n)):=by
 have e:bj n=[n]:=by unfold bj av;rw [show (cI [] [] []:List EN × List Int)=([],[]) from rfl];simp [h0]
 rw [e]
 refine Wk.agg rfl (by simp [D.scal]) fun i a b ha hb=>?_
 rcases i with _ | i
 ·cases ha;cases hb
  refine Wk.sl rfl (fun b hb=>by rw [List.map_cons,List.map_nil,List.mem_singleton] at hb;subst hb;exact Gp n) fun i a b ha hb=>?_
  rcases i with _ | i
  ·cases ha;cases hb
   refine ⟨rfl,fun j c d hc hd=>?_⟩
   match j,hc,hd with
   | 0,hc,hd | 1,hc,hd | 2,hc,hd | 3,hc,hd | 4,hc,hd | 5,hc,hd | 6,hc,hd | 8,hc,hd=>cases hc;cases hd;exact .refl _
   | 7,hc,hd =>
     cases hc;cases hd
     unfold efD
     rw [hn];exact .nils _
  ·cases ha
 ·cases ha
theorem jO {G}:HP Tryz.prog G 119 [] (fun r=>r=.d (exD noE)):=by
 refine HP.wkr (Q:=fun r=>r=.d (.agg [.sl (some 9) [ndN (nd0 1 0)]])) ?_ fun r hr=>⟨_,_,hr,BL rfl rfl,rfl⟩
 refine ax Tryz.func119 rfl (by decide +kernel) (by simp [Tryz.ntmps119]) (veil fun E=>?_)
 simp only [go_sem]
 refine ⟨[([2],some 9,[ndN (nd0 1 0)])],?_⟩
 unfold ndN nd0
 simp only [go_sem]
end Go.Proofs.YtejpnabbmgpmaaaGreat

namespace Go.Proofs.YtejpnabbmgpmaaaGreat
open Go.Ab
def cR (f:Nat) (G:List (Nat × Obj)) (N:Nat) (sub:PS→PR):Prop:=∀ (L:List Tok) (s:PS),Fit L s→L.length≤100000→s.nest=N→HCall Tryz.prog G f [.bx [100] 0] (RX L s) [100,101] (fun r hp'=>r=.d (exD (sub s).1)∧hp'=RX L (sub s).2)
theorem br {s:PS} {k:Int} {t:List UInt8} (h:s.sees k t=true):s.may k t=s.next:=by unfold PS.may;rw [h];rfl
theorem bP {s:PS} {k:Int} {t:List UInt8} (h:s.sees k t=false):s.may k t=s:=by unfold PS.may;rw [h];rfl
theorem Cl {s:PS} (h:¬ s.err=0):∀ ops,opS s ops=none
 | []=>rfl
 | q::r=>by rw [opS,lz h,if_neg (by decide),Cl h r]
theorem zw (s:PS):s.begins=(decide (s.peek.k=4) || decide (s.peek.k=5) || decide (s.peek.k=2) || (decide (s.peek.k=1) && (decide (s.peek.s=eY) || decide (s.peek.s=cX) || decide (s.peek.s=fg))) || (decide (s.peek.k=7) && (decide (s.peek.s=[40]) || decide (s.peek.s=[123])))):=rfl
theorem El {G} (s:PS):HP Tryz.prog G 309 [.agg [i64 s.peek.k,.str s.peek.s,i64 s.peek.n,i64 s.peek.pos]] (fun r=>r=.d (.bool s.begins)):=by
 have hb:=zw s
 generalize s.begins=b at *
 generalize s.peek=t at *
 refine al Tryz.func309 rfl (by decide +kernel) (by simp [Tryz.ntmps309]) (veil fun E=>?_)
 simp only [go_sem]
 refine ao E (fun h1=>?_) (fun h1=>?_)<;>simp only [go_sem]
 ·simp [hb,h1]
 refine ao E (fun h2=>?_) (fun h2=>?_)<;>simp only [go_sem]
 ·simp [hb,h2]
 refine ah E (fun h3=>?_) (fun h3=>?_)<;>simp only [go_sem]
 ·simp [hb,h3]
 rw [decide_eq_false h1,decide_eq_false h2,decide_eq_false h3,Bool.or_false,Bool.or_false,Bool.false_or] at hb
 refine ao E (fun h4=>?_) (fun h4=>?_)<;>simp only [go_sem]
 ·rw [decide_eq_true h4,Bool.true_and] at hb
  refine bU E (fun g1=>?_) (fun g1=>?_)<;>simp only [go_sem]
  ·have g1:t.s=eY:=by simpa [eY] using g1
   simp [hb,g1]
  have g1:¬ t.s=eY:=by simpa [eY] using g1
  refine bU E (fun g2=>?_) (fun g2=>?_)<;>simp only [go_sem]
  ·have g2:t.s=cX:=by simpa [cX] using g2
   simp [hb,g2]
  have g2:¬ t.s=cX:=by simpa [cX] using g2
  refine bU E (fun g3=>?_) (fun g3=>?_)<;>simp only [go_sem]
  ·have g3:t.s=fg:=by simpa [fg] using g3
   simp [hb,g3]
  have g3:¬ t.s=fg:=by simpa [fg] using g3
  refine ao E (fun h5=>?_) (fun h5=>?_)<;>simp only [go_sem]
  ·exact absurd (h4.symm.trans h5) (by decide)
  ·simp [hb,g1,g2,g3,h5]
 rw [decide_eq_false h4,Bool.false_and,Bool.false_or] at hb
 refine ao E (fun h5=>?_) (fun h5=>?_)<;>simp only [go_sem]
 ·rw [decide_eq_true h5,Bool.true_and] at hb
  refine bU E (fun g1=>?_) (fun g1=>?_)<;>simp only [go_sem]
  ·have g1:t.s=[40]:=by simpa using g1
   simp [hb,g1]
  have g1:¬ t.s=[40]:=by simpa using g1
  by_cases g2:t.s=[123]<;>simp [hb,g1,g2]
 ·simp [hb,h5]
theorem FL {G} {N:Nat} {ex:PS→PR} (hex:∀ s,GP 1 s (ex s)) (hc:cR 274 G N (l7 ex)):cR 236 G N (j4 ex):=by
 intro L s hf hl hN
 have hl1:L.length≤1000000:=by omega
 have hsg:=mb hex
 obtain ⟨sub,hsub⟩:∃ sub,sub=l7 ex:=⟨_,rfl⟩
 have hF:j4 ex s=dW bT sub (sub s).2.l.length.succ (sub s).1 (sub s).2:=by rw [hsub];rfl
 rw [hF]
 rw [← hsub] at hc hsg
 generalize hR:dW bT sub (sub s).2.l.length.succ (sub s).1 (sub s).2=R
 have h0:=hsg s
 obtain ⟨a0,s0,hs0⟩:∃ a0 s0,sub s=(a0,s0):=⟨_,_,rfl⟩
 have hc0:=hc L s hf hl hN
 rw [hs0] at hR h0 hc0
 simp only at hR hc0
 unfold exD at hc0
 unfold RX TS TX ae
 refine ar Tryz.func236 rfl (by decide +kernel) (by simp [Tryz.ntmps236]) (veil fun E=>?_)
 simp only [go_sem]
 refine ab E [.bx [100] 0] (RX L s) [100,101] (hc0) rfl rfl ⟨by simp only [go_sem],by first | (rw [aa];decide) | (simp only [go_sem]<;>(try rw [aa])<;>decide)⟩ rfl (by unfold RX TS TX ae;simp only [go_sem]) (by unfold RX TS TX;simp only [go_sem]) ?_
 rintro _ _ ⟨rfl,rfl⟩
 unfold RX TS TX ae
 simp only [go_sem]
 refine aA E (X:={ x:Nat × List EN × PS // dW bT sub x.1 x.2.1 x.2.2=R∧GP 1 s x.2∧x.2.2.l.length<x.1 }) (fun x=>[(0,.bx [100] 0),(2,.bx [2] 0),(3,.bx [3] 0)])
  (fun x=>[([2],.box [.d .nils]),([3],.box [.d (.sl (some 9) (x.1.2.1.map enD))]),([100],.box [.bx [101] 0,.d (i64 x.1.2.2.err),.d (i64 x.1.2.2.pos),.d (i64 x.1.2.2.nest)]),([101],.box [.d (.sl (some 4) (L.map ck)),.d (i64 (atN L x.1.2.2)),.d (i64 x.1.2.2.fin)])]) [2,3,100,101] (fun x=>x.1.2.2.l.length) ⟨(s0.l.length.succ,a0,s0),hR,h0,Nat.lt_succ_self _⟩ id ?_ ?_
 ·simp only [go_sem]
  all_goals ((repeat' apply And.intro)<;>first | rfl | trivial)
 rintro ⟨⟨m,a,q⟩,hb,hg,hm⟩ E0
 refine aC E0 fun Q' hQ E'=>?_
 simp only at hb hg hm ⊢
 have hfq:=hf.ss hg.ss
 obtain ⟨m,rfl⟩:∃ k,m=k+1:=⟨m-1,by omega⟩
 rw [dW] at hb
 simp only [go_sem]
 refine ah E' (fun he=>?_) (fun he=>?_)<;>simp only [go_sem]
 rotate_left
 ·have ho:opS q bT=none:=Cl he _
  have hb:(a,q)=R:=by rw [ho] at hb;exact hb
  subst hb
  rw [hQ]
  simp only [go_sem]
  refine ⟨_,_,[100,101],id,⟨rfl,rfl⟩,?_⟩
  simp only [go_sem]
  rfl
 refine ab E' [.bx [101] 0] (TS L q) [101] (fH hfq hl1) rfl rfl ⟨by simp only [go_sem],by first | (rw [aa];decide) | (simp only [go_sem]<;>(try rw [aa])<;>decide)⟩ rfl (by unfold TS TX ae;simp only [go_sem]) (by unfold TS TX;simp only [go_sem]) ?_
 rintro _ _ ⟨rfl,rfl⟩
 unfold TS TX ae
 simp only [go_sem]
 refine ab E' [.bx [100] 0,.d (.str [42])] (RX L q) [100,101] (dm hfq hl1 [42]) rfl rfl ⟨by simp only [go_sem],by first | (rw [aa];decide) | (simp only [go_sem]<;>(try rw [aa])<;>decide)⟩ rfl (by unfold RX TS TX ae;simp only [go_sem]) (by unfold RX TS TX;simp only [go_sem]) ?_
 rintro _ _ ⟨rfl,rfl⟩
 unfold RX TS TX ae
 simp only [go_sem]
 refine aD E' (fun k1=>?_) (fun k1=>?_)<;>simp only [go_sem]
 ·have ho:opS q bT=some 3:=by unfold bT opS;rw [k1];rfl
  rw [br k1]
  have hsl:=dG ho
  have hnf:=hfq.ss (SS.next q)
  rw [ho] at hb
  simp only at hb
  refine ak mixed E' fun X=>?_
  simp only [go_sem]
  obtain ⟨b0,q1,hq1⟩:∃ b0 q1,sub q.next=(b0,q1):=⟨_,_,rfl⟩
  have h2:=hc L q.next hnf hl ((SS.next q).nest.trans (hg.ss.nest.trans hN))
  have h3:=hsg q.next
  rw [hq1] at h2 h3 hb
  unfold exD at h2
  refine aZ X [.bx [100] 0] (RX L q.next) [100,101] _ _ h2 rfl rfl ⟨by simp only [go_sem],by rw [aa];decide⟩ rfl (by unfold RX TS TX ae;simp only [go_sem]) (by unfold RX TS TX;simp only [go_sem]) (by unfold RX TS TX;simp only [go_sem]) ?_
  unfold RX TS TX ae
  simp only [go_sem]
  have ht2:=h3.tr
  have hz1:=hg.sz
  have hz2:=h3.sz
  have hn2:=(SS.next q).len
  have hfl:=hf.le
  simp only at ht2 hz1 hz2
  have h4:=eK (G:=G) { nd0 10 q.peek.pos with n:=3 } [a,b0] rfl rfl (by simp only [aT,List.map_cons,List.map_nil,List.sum_cons,List.sum_nil];omega)
   (fun l h=>by
    rcases List.mem_cons.1 h with rfl | h
    ·exact hg.tr.kids.2
    ·rw [List.mem_singleton.1 h];exact ht2.kids.2)
   (fun l h=>by
    rcases List.mem_cons.1 h with rfl | h
    ·exact hg.wd.mono (by omega)
    ·rw [List.mem_singleton.1 h];exact h3.wd.mono (by omega))
  have h5:=GP.jk (e:=1) (n:={ nd0 10 q.peek.pos with n:=3 }) (s1:=s) (a:=(a,q)) (b:=(b0,q1)) hg h3 (SS.refl s) (SS.next q) rfl rfl (by simp only;omega)
  simp only at h5
  generalize av { nd0 10 q.peek.pos with n:=3 } [a,b0]=J at h4 h5 hb
  unfold ndN exD at h4
  refine bw X 30 [30] (some 1) [.agg [.sl (some 9) (a.map enD)],.agg [.sl (some 9) (b0.map enD)]] h4 (fun _=>rfl) rfl rfl rfl (by simp) rfl (by simp only [go_sem]) ?_
  simp only [go_sem]
  refine ⟨by decide +kernel,?_⟩
  rw [hQ]
  simp only [go_sem]
  have hlt:=h3.ss.len
  simp only at hlt
  refine ⟨⟨(m,J,q1),hb,h5,by show q1.l.length<m;omega⟩,by show q1.l.length<q.l.length;omega,id,?_⟩
  simp only [go_sem]
  all_goals ((repeat' apply And.intro)<;>first | rfl | trivial)
 rw [bP k1]
 refine ab E' [.bx [100] 0,.d (.str [47])] (RX L q) [100,101] (dm hfq hl1 [47]) rfl rfl ⟨by simp only [go_sem],by first | (rw [aa];decide) | (simp only [go_sem]<;>(try rw [aa])<;>decide)⟩ rfl (by unfold RX TS TX ae;simp only [go_sem]) (by unfold RX TS TX;simp only [go_sem]) ?_
 rintro _ _ ⟨rfl,rfl⟩
 unfold RX TS TX ae
 simp only [go_sem]
 refine aD E' (fun k2=>?_) (fun k2=>?_)<;>simp only [go_sem]
 ·have ho:opS q bT=some 4:=by unfold bT opS opS;rw [k1,k2];rfl
  rw [br k2]
  have hsl:=dG ho
  have hnf:=hfq.ss (SS.next q)
  rw [ho] at hb
  simp only at hb
  refine ak mixed E' fun X=>?_
  simp only [go_sem]
  obtain ⟨b0,q1,hq1⟩:∃ b0 q1,sub q.next=(b0,q1):=⟨_,_,rfl⟩
  have h2:=hc L q.next hnf hl ((SS.next q).nest.trans (hg.ss.nest.trans hN))
  have h3:=hsg q.next
  rw [hq1] at h2 h3 hb
  unfold exD at h2
  refine aZ X [.bx [100] 0] (RX L q.next) [100,101] _ _ h2 rfl rfl ⟨by simp only [go_sem],by rw [aa];decide⟩ rfl (by unfold RX TS TX ae;simp only [go_sem]) (by unfold RX TS TX;simp only [go_sem]) (by unfold RX TS TX;simp only [go_sem]) ?_
  unfold RX TS TX ae
  simp only [go_sem]
  have ht2:=h3.tr
  have hz1:=hg.sz
  have hz2:=h3.sz
  have hn2:=(SS.next q).len
  have hfl:=hf.le
  simp only at ht2 hz1 hz2
  have h4:=eK (G:=G) { nd0 10 q.peek.pos with n:=4 } [a,b0] rfl rfl (by simp only [aT,List.map_cons,List.map_nil,List.sum_cons,List.sum_nil];omega)
   (fun l h=>by
    rcases List.mem_cons.1 h with rfl | h
    ·exact hg.tr.kids.2
    ·rw [List.mem_singleton.1 h];exact ht2.kids.2)
   (fun l h=>by
    rcases List.mem_cons.1 h with rfl | h
    ·exact hg.wd.mono (by omega)
    ·rw [List.mem_singleton.1 h];exact h3.wd.mono (by omega))
  have h5:=GP.jk (e:=1) (n:={ nd0 10 q.peek.pos with n:=4 }) (s1:=s) (a:=(a,q)) (b:=(b0,q1)) hg h3 (SS.refl s) (SS.next q) rfl rfl (by simp only;omega)
  simp only at h5
  generalize av { nd0 10 q.peek.pos with n:=4 } [a,b0]=J at h4 h5 hb
  unfold ndN exD at h4
  refine bw X 30 [30] (some 1) [.agg [.sl (some 9) (a.map enD)],.agg [.sl (some 9) (b0.map enD)]] h4 (fun _=>rfl) rfl rfl rfl (by simp) rfl (by simp only [go_sem]) ?_
  simp only [go_sem]
  refine ⟨by decide +kernel,?_⟩
  rw [hQ]
  simp only [go_sem]
  have hlt:=h3.ss.len
  simp only at hlt
  refine ⟨⟨(m,J,q1),hb,h5,by show q1.l.length<m;omega⟩,by show q1.l.length<q.l.length;omega,id,?_⟩
  simp only [go_sem]
  all_goals ((repeat' apply And.intro)<;>first | rfl | trivial)
 rw [bP k2]
 have ho:opS q bT=none:=by unfold bT opS opS opS;rw [k1,k2];rfl
 have hb:(a,q)=R:=by rw [ho] at hb;exact hb
 subst hb
 rw [hQ]
 simp only [go_sem]
 refine ⟨_,_,[100,101],id,⟨rfl,rfl⟩,?_⟩
 simp only [go_sem]
 rfl
theorem Ew {G} {N:Nat} {ex:PS→PR} (hex:∀ s,GP 1 s (ex s)) (hc:cR 236 G N (j4 ex)):cR 177 G N (sC ex):=by
 intro L s hf hl hN
 have hl1:L.length≤1000000:=by omega
 have hsg:=kg hex
 obtain ⟨sub,hsub⟩:∃ sub,sub=j4 ex:=⟨_,rfl⟩
 have hF:sC ex s=dW cn sub (sub s).2.l.length.succ (sub s).1 (sub s).2:=by rw [hsub];rfl
 rw [hF]
 rw [← hsub] at hc hsg
 generalize hR:dW cn sub (sub s).2.l.length.succ (sub s).1 (sub s).2=R
 have h0:=hsg s
 obtain ⟨a0,s0,hs0⟩:∃ a0 s0,sub s=(a0,s0):=⟨_,_,rfl⟩
 have hc0:=hc L s hf hl hN
 rw [hs0] at hR h0 hc0
 simp only at hR hc0
 unfold exD at hc0
 unfold RX TS TX ae
 refine ar Tryz.func177 rfl (by decide +kernel) (by simp [Tryz.ntmps177]) (veil fun E=>?_)
 simp only [go_sem]
 refine ab E [.bx [100] 0] (RX L s) [100,101] (hc0) rfl rfl ⟨by simp only [go_sem],by first | (rw [aa];decide) | (simp only [go_sem]<;>(try rw [aa])<;>decide)⟩ rfl (by unfold RX TS TX ae;simp only [go_sem]) (by unfold RX TS TX;simp only [go_sem]) ?_
 rintro _ _ ⟨rfl,rfl⟩
 unfold RX TS TX ae
 simp only [go_sem]
 refine aA E (X:={ x:Nat × List EN × PS // dW cn sub x.1 x.2.1 x.2.2=R∧GP 1 s x.2∧x.2.2.l.length<x.1 }) (fun x=>[(0,.bx [100] 0),(2,.bx [2] 0),(3,.bx [3] 0)])
  (fun x=>[([2],.box [.d .nils]),([3],.box [.d (.sl (some 9) (x.1.2.1.map enD))]),([100],.box [.bx [101] 0,.d (i64 x.1.2.2.err),.d (i64 x.1.2.2.pos),.d (i64 x.1.2.2.nest)]),([101],.box [.d (.sl (some 4) (L.map ck)),.d (i64 (atN L x.1.2.2)),.d (i64 x.1.2.2.fin)])]) [2,3,100,101] (fun x=>x.1.2.2.l.length) ⟨(s0.l.length.succ,a0,s0),hR,h0,Nat.lt_succ_self _⟩ id ?_ ?_
 ·simp only [go_sem]
  all_goals ((repeat' apply And.intro)<;>first | rfl | trivial)
 rintro ⟨⟨m,a,q⟩,hb,hg,hm⟩ E0
 refine aC E0 fun Q' hQ E'=>?_
 simp only at hb hg hm ⊢
 have hfq:=hf.ss hg.ss
 obtain ⟨m,rfl⟩:∃ k,m=k+1:=⟨m-1,by omega⟩
 rw [dW] at hb
 simp only [go_sem]
 refine ah E' (fun he=>?_) (fun he=>?_)<;>simp only [go_sem]
 rotate_left
 ·have ho:opS q cn=none:=Cl he _
  have hb:(a,q)=R:=by rw [ho] at hb;exact hb
  subst hb
  rw [hQ]
  simp only [go_sem]
  refine ⟨_,_,[100,101],id,⟨rfl,rfl⟩,?_⟩
  simp only [go_sem]
  rfl
 refine ab E' [.bx [101] 0] (TS L q) [101] (fH hfq hl1) rfl rfl ⟨by simp only [go_sem],by first | (rw [aa];decide) | (simp only [go_sem]<;>(try rw [aa])<;>decide)⟩ rfl (by unfold TS TX ae;simp only [go_sem]) (by unfold TS TX;simp only [go_sem]) ?_
 rintro _ _ ⟨rfl,rfl⟩
 unfold TS TX ae
 simp only [go_sem]
 refine ab E' [.bx [100] 0,.d (.str [43])] (RX L q) [100,101] (dm hfq hl1 [43]) rfl rfl ⟨by simp only [go_sem],by first | (rw [aa];decide) | (simp only [go_sem]<;>(try rw [aa])<;>decide)⟩ rfl (by unfold RX TS TX ae;simp only [go_sem]) (by unfold RX TS TX;simp only [go_sem]) ?_
 rintro _ _ ⟨rfl,rfl⟩
 unfold RX TS TX ae
 simp only [go_sem]
 refine aD E' (fun k1=>?_) (fun k1=>?_)<;>simp only [go_sem]
 ·have ho:opS q cn=some 1:=by unfold cn opS;rw [k1];rfl
  rw [br k1]
  have hsl:=dG ho
  have hnf:=hfq.ss (SS.next q)
  rw [ho] at hb
  simp only at hb
  refine ak mixed E' fun X=>?_
  simp only [go_sem]
  obtain ⟨b0,q1,hq1⟩:∃ b0 q1,sub q.next=(b0,q1):=⟨_,_,rfl⟩
  have h2:=hc L q.next hnf hl ((SS.next q).nest.trans (hg.ss.nest.trans hN))
  have h3:=hsg q.next
  rw [hq1] at h2 h3 hb
  unfold exD at h2
  refine aZ X [.bx [100] 0] (RX L q.next) [100,101] _ _ h2 rfl rfl ⟨by simp only [go_sem],by rw [aa];decide⟩ rfl (by unfold RX TS TX ae;simp only [go_sem]) (by unfold RX TS TX;simp only [go_sem]) (by unfold RX TS TX;simp only [go_sem]) ?_
  unfold RX TS TX ae
  simp only [go_sem]
  have ht2:=h3.tr
  have hz1:=hg.sz
  have hz2:=h3.sz
  have hn2:=(SS.next q).len
  have hfl:=hf.le
  simp only at ht2 hz1 hz2
  have h4:=eK (G:=G) { nd0 10 q.peek.pos with n:=1 } [a,b0] rfl rfl (by simp only [aT,List.map_cons,List.map_nil,List.sum_cons,List.sum_nil];omega)
   (fun l h=>by
    rcases List.mem_cons.1 h with rfl | h
    ·exact hg.tr.kids.2
    ·rw [List.mem_singleton.1 h];exact ht2.kids.2)
   (fun l h=>by
    rcases List.mem_cons.1 h with rfl | h
    ·exact hg.wd.mono (by omega)
    ·rw [List.mem_singleton.1 h];exact h3.wd.mono (by omega))
  have h5:=GP.jk (e:=1) (n:={ nd0 10 q.peek.pos with n:=1 }) (s1:=s) (a:=(a,q)) (b:=(b0,q1)) hg h3 (SS.refl s) (SS.next q) rfl rfl (by simp only;omega)
  simp only at h5
  generalize av { nd0 10 q.peek.pos with n:=1 } [a,b0]=J at h4 h5 hb
  unfold ndN exD at h4
  refine bw X 32 [32] (some 1) [.agg [.sl (some 9) (a.map enD)],.agg [.sl (some 9) (b0.map enD)]] h4 (fun _=>rfl) rfl rfl rfl (by simp) rfl (by simp only [go_sem]) ?_
  simp only [go_sem]
  refine ⟨by decide +kernel,?_⟩
  rw [hQ]
  simp only [go_sem]
  have hlt:=h3.ss.len
  simp only at hlt
  refine ⟨⟨(m,J,q1),hb,h5,by show q1.l.length<m;omega⟩,by show q1.l.length<q.l.length;omega,id,?_⟩
  simp only [go_sem]
  all_goals ((repeat' apply And.intro)<;>first | rfl | trivial)
 rw [bP k1]
 refine ab E' [.bx [100] 0,.d (.str [45])] (RX L q) [100,101] (dm hfq hl1 [45]) rfl rfl ⟨by simp only [go_sem],by first | (rw [aa];decide) | (simp only [go_sem]<;>(try rw [aa])<;>decide)⟩ rfl (by unfold RX TS TX ae;simp only [go_sem]) (by unfold RX TS TX;simp only [go_sem]) ?_
 rintro _ _ ⟨rfl,rfl⟩
 unfold RX TS TX ae
 simp only [go_sem]
 refine aD E' (fun k2=>?_) (fun k2=>?_)<;>simp only [go_sem]
 ·have ho:opS q cn=some 2:=by unfold cn opS opS;rw [k1,k2];rfl
  rw [br k2]
  have hsl:=dG ho
  have hnf:=hfq.ss (SS.next q)
  rw [ho] at hb
  simp only at hb
  refine ak mixed E' fun X=>?_
  simp only [go_sem]
  obtain ⟨b0,q1,hq1⟩:∃ b0 q1,sub q.next=(b0,q1):=⟨_,_,rfl⟩
  have h2:=hc L q.next hnf hl ((SS.next q).nest.trans (hg.ss.nest.trans hN))
  have h3:=hsg q.next
  rw [hq1] at h2 h3 hb
  unfold exD at h2
  refine aZ X [.bx [100] 0] (RX L q.next) [100,101] _ _ h2 rfl rfl ⟨by simp only [go_sem],by rw [aa];decide⟩ rfl (by unfold RX TS TX ae;simp only [go_sem]) (by unfold RX TS TX;simp only [go_sem]) (by unfold RX TS TX;simp only [go_sem]) ?_
  unfold RX TS TX ae
  simp only [go_sem]
  have ht2:=h3.tr
  have hz1:=hg.sz
  have hz2:=h3.sz
  have hn2:=(SS.next q).len
  have hfl:=hf.le
  simp only at ht2 hz1 hz2
  have h4:=eK (G:=G) { nd0 10 q.peek.pos with n:=2 } [a,b0] rfl rfl (by simp only [aT,List.map_cons,List.map_nil,List.sum_cons,List.sum_nil];omega)
   (fun l h=>by
    rcases List.mem_cons.1 h with rfl | h
    ·exact hg.tr.kids.2
    ·rw [List.mem_singleton.1 h];exact ht2.kids.2)
   (fun l h=>by
    rcases List.mem_cons.1 h with rfl | h
    ·exact hg.wd.mono (by omega)
    ·rw [List.mem_singleton.1 h];exact h3.wd.mono (by omega))
  have h5:=GP.jk (e:=1) (n:={ nd0 10 q.peek.pos with n:=2 }) (s1:=s) (a:=(a,q)) (b:=(b0,q1)) hg h3 (SS.refl s) (SS.next q) rfl rfl (by simp only;omega)
  simp only at h5
  generalize av { nd0 10 q.peek.pos with n:=2 } [a,b0]=J at h4 h5 hb
  unfold ndN exD at h4
  refine bw X 32 [32] (some 1) [.agg [.sl (some 9) (a.map enD)],.agg [.sl (some 9) (b0.map enD)]] h4 (fun _=>rfl) rfl rfl rfl (by simp) rfl (by simp only [go_sem]) ?_
  simp only [go_sem]
  refine ⟨by decide +kernel,?_⟩
  rw [hQ]
  simp only [go_sem]
  have hlt:=h3.ss.len
  simp only at hlt
  refine ⟨⟨(m,J,q1),hb,h5,by show q1.l.length<m;omega⟩,by show q1.l.length<q.l.length;omega,id,?_⟩
  simp only [go_sem]
  all_goals ((repeat' apply And.intro)<;>first | rfl | trivial)
 rw [bP k2]
 refine ab E' [.bx [100] 0,.d (.str [94])] (RX L q) [100,101] (dm hfq hl1 [94]) rfl rfl ⟨by simp only [go_sem],by first | (rw [aa];decide) | (simp only [go_sem]<;>(try rw [aa])<;>decide)⟩ rfl (by unfold RX TS TX ae;simp only [go_sem]) (by unfold RX TS TX;simp only [go_sem]) ?_
 rintro _ _ ⟨rfl,rfl⟩
 unfold RX TS TX ae
 simp only [go_sem]
 refine aD E' (fun k3=>?_) (fun k3=>?_)<;>simp only [go_sem]
 ·have ho:opS q cn=some 7:=by unfold cn opS opS opS;rw [k1,k2,k3];rfl
  rw [br k3]
  have hsl:=dG ho
  have hnf:=hfq.ss (SS.next q)
  rw [ho] at hb
  simp only at hb
  refine ak mixed E' fun X=>?_
  simp only [go_sem]
  obtain ⟨b0,q1,hq1⟩:∃ b0 q1,sub q.next=(b0,q1):=⟨_,_,rfl⟩
  have h2:=hc L q.next hnf hl ((SS.next q).nest.trans (hg.ss.nest.trans hN))
  have h3:=hsg q.next
  rw [hq1] at h2 h3 hb
  unfold exD at h2
  refine aZ X [.bx [100] 0] (RX L q.next) [100,101] _ _ h2 rfl rfl ⟨by simp only [go_sem],by rw [aa];decide⟩ rfl (by unfold RX TS TX ae;simp only [go_sem]) (by unfold RX TS TX;simp only [go_sem]) (by unfold RX TS TX;simp only [go_sem]) ?_
  unfold RX TS TX ae
  simp only [go_sem]
  have ht2:=h3.tr
  have hz1:=hg.sz
  have hz2:=h3.sz
  have hn2:=(SS.next q).len
  have hfl:=hf.le
  simp only at ht2 hz1 hz2
  have h4:=eK (G:=G) { nd0 10 q.peek.pos with n:=7 } [a,b0] rfl rfl (by simp only [aT,List.map_cons,List.map_nil,List.sum_cons,List.sum_nil];omega)
   (fun l h=>by
    rcases List.mem_cons.1 h with rfl | h
    ·exact hg.tr.kids.2
    ·rw [List.mem_singleton.1 h];exact ht2.kids.2)
   (fun l h=>by
    rcases List.mem_cons.1 h with rfl | h
    ·exact hg.wd.mono (by omega)
    ·rw [List.mem_singleton.1 h];exact h3.wd.mono (by omega))
  have h5:=GP.jk (e:=1) (n:={ nd0 10 q.peek.pos with n:=7 }) (s1:=s) (a:=(a,q)) (b:=(b0,q1)) hg h3 (SS.refl s) (SS.next q) rfl rfl (by simp only;omega)
  simp only at h5
  generalize av { nd0 10 q.peek.pos with n:=7 } [a,b0]=J at h4 h5 hb
  unfold ndN exD at h4
  refine bw X 32 [32] (some 1) [.agg [.sl (some 9) (a.map enD)],.agg [.sl (some 9) (b0.map enD)]] h4 (fun _=>rfl) rfl rfl rfl (by simp) rfl (by simp only [go_sem]) ?_
  simp only [go_sem]
  refine ⟨by decide +kernel,?_⟩
  rw [hQ]
  simp only [go_sem]
  have hlt:=h3.ss.len
  simp only at hlt
  refine ⟨⟨(m,J,q1),hb,h5,by show q1.l.length<m;omega⟩,by show q1.l.length<q.l.length;omega,id,?_⟩
  simp only [go_sem]
  all_goals ((repeat' apply And.intro)<;>first | rfl | trivial)
 rw [bP k3]
 have ho:opS q cn=none:=by unfold cn opS opS opS opS;rw [k1,k2,k3];rfl
 have hb:(a,q)=R:=by rw [ho] at hb;exact hb
 subst hb
 rw [hQ]
 simp only [go_sem]
 refine ⟨_,_,[100,101],id,⟨rfl,rfl⟩,?_⟩
 simp only [go_sem]
 rfl
end Go.Proofs.YtejpnabbmgpmaaaGreat

namespace Go.Proofs.YtejpnabbmgpmaaaGreat
open Go.Ab
theorem Ev {G} {N:Nat} {ex:PS→PR} (hex:∀ s,GP 1 s (ex s)) (hc:cR 330 G N (cT ex)):cR 308 G N (dQ ex):=by
 intro L s hf hl hN
 have hl1:L.length≤1000000:=by omega
 have hg0:=oe hex s
 have hc0:=hc L s hf hl hN
 have hF:dQ ex s=cj (cT ex s).2.l.length.succ (cT ex s).1 (cT ex s).2:=rfl
 rw [hF]
 obtain ⟨a0,s0,hs0⟩:∃ a0 s0,cT ex s=(a0,s0):=⟨_,_,rfl⟩
 rw [hs0] at hg0 hc0 ⊢
 simp only at hc0 ⊢
 generalize hR:cj s0.l.length.succ a0 s0=R
 unfold exD at hc0
 unfold RX TS TX ae
 refine ar Tryz.func308 rfl (by decide +kernel) (by simp [Tryz.ntmps308]) (veil fun E=>?_)
 simp only [go_sem]
 refine ab E [.bx [100] 0] (RX L s) [100,101] (hc0) rfl rfl ⟨by simp only [go_sem],by first | (rw [aa];decide) | (simp only [go_sem]<;>(try rw [aa])<;>decide)⟩ rfl (by unfold RX TS TX ae;simp only [go_sem]) (by unfold RX TS TX;simp only [go_sem]) ?_
 rintro _ _ ⟨rfl,rfl⟩
 unfold RX TS TX ae
 simp only [go_sem]
 refine aA E (X:={ x:Nat × List EN × PS // cj x.1 x.2.1 x.2.2=R∧GQ s x.2∧x.2.2.l.length<x.1 }) (fun x=>[(0,.bx [100] 0),(2,.bx [2] 0),(3,.bx [3] 0)])
  (fun x=>[([2],.box [.d .nils]),([3],.box [.d (.sl (some 9) (x.1.2.1.map enD))]),([100],.box [.bx [101] 0,.d (i64 x.1.2.2.err),.d (i64 x.1.2.2.pos),.d (i64 x.1.2.2.nest)]),([101],.box [.d (.sl (some 4) (L.map ck)),.d (i64 (atN L x.1.2.2)),.d (i64 x.1.2.2.fin)])]) [2,3,100,101] (fun x=>x.1.2.2.l.length) ⟨(s0.l.length.succ,a0,s0),hR,hg0,Nat.lt_succ_self _⟩ id ?_ ?_
 ·simp only [go_sem]
  all_goals ((repeat' apply And.intro)<;>first | rfl | trivial)
 rintro ⟨⟨m,a,q⟩,hb,hg,hm⟩ E0
 refine aC E0 fun Q' hQ E'=>?_
 simp only at hb hg hm ⊢
 have hfq:=hf.ss hg.1.ss
 have hql:q.l.length≤s.l.length:=hg.1.ss.len
 obtain ⟨m,rfl⟩:∃ k,m=k+1:=⟨m-1,by omega⟩
 have hgn:=gI s 1 a q hg
 rw [cj] at hb
 rw [show cj 1 a q=if q.sees 7 [46] then (av { nd0 12 q.peek.pos with name:=(q.next.of 2).1 } [a],(q.next.of 2).2) else (a,q) from rfl] at hgn
 simp only [go_sem]
 refine ah E' (fun he=>?_) (fun he=>?_)<;>simp only [go_sem]
 rotate_left
 ·rw [lz he,if_neg (by decide)] at hb
  subst hb
  rw [hQ]
  simp only [go_sem]
  refine ⟨_,_,[100,101],id,⟨rfl,rfl⟩,?_⟩
  simp only [go_sem]
  rfl
 refine ab E' [.bx [101] 0] (TS L q) [101] (fH hfq hl1) rfl rfl ⟨by simp only [go_sem],by first | (rw [aa];decide) | (simp only [go_sem]<;>(try rw [aa])<;>decide)⟩ rfl (by unfold TS TX ae;simp only [go_sem]) (by unfold TS TX;simp only [go_sem]) ?_
 rintro _ _ ⟨rfl,rfl⟩
 unfold TS TX ae
 simp only [go_sem]
 refine ab E' [.bx [100] 0,.d (.str [46])] (RX L q) [100,101] (dm hfq hl1 [46]) rfl rfl ⟨by simp only [go_sem],by first | (rw [aa];decide) | (simp only [go_sem]<;>(try rw [aa])<;>decide)⟩ rfl (by unfold RX TS TX ae;simp only [go_sem]) (by unfold RX TS TX;simp only [go_sem]) ?_
 rintro _ _ ⟨rfl,rfl⟩
 unfold RX TS TX ae
 simp only [go_sem]
 refine aD E' (fun h=>?_) (fun h=>?_)<;>simp only [go_sem]
 ·have h':q.sees 7 [46]=false:=by simpa using h
  rw [h',if_neg (by decide)] at hb
  rw [bP h']
  subst hb
  rw [hQ]
  simp only [go_sem]
  refine ⟨_,_,[100,101],id,⟨rfl,rfl⟩,?_⟩
  simp only [go_sem]
  rfl
 ·have h':q.sees 7 [46]=true:=by simpa using h
  have hsl:=az h'
  rw [h',if_pos rfl] at hb hgn
  rw [br h']
  have hfn:=hfq.ss (SS.next q)
  have h2:=jK (G:=G) hfn hl1 2
  obtain ⟨nm,q1,hq1⟩:∃ nm q1,q.next.of 2=(nm,q1):=⟨_,_,rfl⟩
  have hq1l:=(SS.of q.next 2).len
  rw [hq1] at h2 hb hgn hq1l
  simp only at hq1l
  refine ab E' [.bx [100] 0,.d (i64 2)] (RX L q.next) [100,101] (h2) rfl rfl ⟨by simp only [go_sem],by first | (rw [aa];decide) | (simp only [go_sem]<;>(try rw [aa])<;>decide)⟩ rfl (by unfold RX TS TX ae;simp only [go_sem]) (by unfold RX TS TX;simp only [go_sem]) ?_
  rintro _ _ ⟨rfl,rfl⟩
  unfold RX TS TX ae
  simp only [go_sem]
  have hz1:=hg.1.sz
  have hfl:=hf.le
  simp only at hz1
  have h4:=eK (G:=G) { nd0 12 q.peek.pos with name:=nm } [a] rfl rfl (by simp only [aT,List.map_cons,List.map_nil,List.sum_cons,List.sum_nil];omega)
   (fun l h=>by rw [List.mem_singleton.1 h];exact hg.1.tr.kids.2)
   (fun l h=>by rw [List.mem_singleton.1 h];exact hg.1.wd.mono (by omega))
  simp only at hb hgn
  generalize av { nd0 12 q.peek.pos with name:=nm } [a]=J at h4 hb hgn
  unfold ndN exD at h4
  refine cL E' [29] (some 1) [.agg [.sl (some 9) (a.map enD)]] rfl (by simp only [go_sem];rfl) ?_
  simp only [go_sem]
  refine ag E' h4 rfl rfl (by simp) ?_
  rintro _ rfl
  simp only [go_sem]
  rw [hQ]
  simp only [go_sem]
  refine ⟨⟨(m,J,q1),hb,hgn,by show q1.l.length<m;omega⟩,by show q1.l.length<q.l.length;omega,id,?_⟩
  simp only [go_sem]
  all_goals ((repeat' apply And.intro)<;>first | rfl | trivial)
end Go.Proofs.YtejpnabbmgpmaaaGreat

namespace Go.Proofs.YtejpnabbmgpmaaaGreat
open Go.Ab
theorem Fu {G} {N:Nat} {ex:PS→PR} (hex:∀ s,GP 1 s (ex s)) (hc:cR 308 G N (dQ ex)):cR 274 G N (l7 ex):=by
 intro L s hf hl hN
 have hl1:L.length≤1000000:=by omega
 generalize hR:l7 ex s=R
 unfold l7 PS.has at hR
 have hsg:=ic hex
 have hfl:=hf.le
 unfold RX TS TX ae
 refine ar Tryz.func274 rfl (by decide +kernel) (by simp [Tryz.ntmps274]) (veil fun E=>?_)
 simp only [go_sem]
 refine ah E (fun he=>?_) (fun he=>?_)<;>simp only [go_sem]
 ·have hR':R=(noE,s):=by
   rw [← hR,decide_eq_false he,Bool.false_and,if_neg (by decide)]
   have h1:cT ex s=(noE,s):=by
    unfold cT
    simp only
    rw [if_pos he]
    unfold PS.wrong
    rw [cg he]
   have h2:dQ ex s=(noE,s):=by
    unfold dQ
    simp only
    rw [h1]
    show cj (s.l.length+1) noE s=_
    rw [cj,lz he,if_neg (by decide)]
   simp only
   rw [h2]
   show jd ex (s.l.length+1) noE s=_
   rw [jd,decide_eq_false he,Bool.false_and,if_neg (by decide)]
  have hno:=jO (G:=G)
  subst hR'
  simp only
  generalize noE=J at *
  unfold exD at *
  refine ag E hno rfl rfl (by simp) ?_
  rintro _ rfl
  simp only [go_sem]
  refine ⟨_,_,[100,101],id,⟨rfl,rfl⟩,?_⟩
  simp only [go_sem]
 have he:s.err=0:=by simpa using he
 refine ab E [.bx [101] 0] (TS L s) [101] (fH hf hl1) rfl rfl ⟨by simp only [go_sem],by first | (rw [aa];decide) | (simp only [go_sem]<;>(try rw [aa])<;>decide)⟩ rfl (by unfold TS TX ae;simp only [go_sem]) (by unfold TS TX;simp only [go_sem]) ?_
 rintro _ _ ⟨rfl,rfl⟩
 unfold TS TX ae
 simp only [go_sem]
 rw [decide_eq_true he,Bool.true_and] at hR
 refine ah E (fun h2=>?_) (fun h2=>?_)<;>simp only [go_sem]
 ·rw [decide_eq_true h2,if_pos rfl] at hR
  refine ab E [.bx [101] 0] (TS L s) [101] (Dl hf hl1) rfl rfl ⟨by simp only [go_sem],by first | (rw [aa];decide) | (simp only [go_sem]<;>(try rw [aa])<;>decide)⟩ rfl (by unfold TS TX ae;simp only [go_sem]) (by unfold TS TX;simp only [go_sem]) ?_
  rintro _ _ ⟨rfl,rfl⟩
  unfold TS TX ae
  simp only [go_sem]
  refine ak mixed E fun X=>?_
  simp only [go_sem]
  obtain ⟨b0,q1,hq1⟩:∃ b0 q1,dQ ex s.next=(b0,q1):=⟨_,_,rfl⟩
  have hn2:=(SS.next s).len
  have g2:=hc L s.next (hf.ss (SS.next s)) hl ((SS.next s).nest.trans hN)
  have h3:=(hsg s.next).1
  rw [hq1] at g2 h3 hR
  unfold exD at g2
  refine aZ X [.bx [100] 0] (RX L s.next) [100,101] _ _ g2 rfl rfl ⟨by simp only [go_sem],by rw [aa];decide⟩ rfl (by unfold RX TS TX ae;simp only [go_sem]<;>rfl) (by unfold RX TS TX;simp only [go_sem]) (by unfold RX TS TX;simp only [go_sem]) ?_
  unfold RX TS TX ae
  simp only [go_sem]
  have ht2:=h3.tr
  have hz2:=h3.sz
  simp only at ht2 hz2 hR
  have h4:=eK (G:=G) { nd0 13 s.peek.pos with name:=s.peek.s } [b0] rfl rfl (by simp only [aT,List.map_cons,List.map_nil,List.sum_cons,List.sum_nil];omega)
   (fun l h=>by rw [List.mem_singleton.1 h];exact ht2.kids.2)
   (fun l h=>by rw [List.mem_singleton.1 h];exact h3.wd.mono (by omega))
  generalize av { nd0 13 s.peek.pos with name:=s.peek.s } [b0]=J at h4 hR
  unfold ndN exD at h4
  refine bw X 32 [32] (some 1) [.agg [.sl (some 9) (b0.map enD)]] h4 (fun _=>rfl) rfl rfl rfl (by simp) rfl (by simp only [go_sem]) ?_
  simp only [go_sem]
  refine ⟨by decide +kernel,?_⟩
  rw [← hR]
  refine ⟨_,_,[100,101],id,⟨rfl,rfl⟩,?_⟩
  simp only [go_sem]
  rfl
 rw [decide_eq_false h2,if_neg (by decide)] at hR
 have h0:=(hsg s).1
 have hc0:=hc L s hf hl hN
 obtain ⟨a0,s0,hs0⟩:∃ a0 s0,dQ ex s=(a0,s0):=⟨_,_,rfl⟩
 rw [hs0] at h0 hc0
 unfold exD at hc0
 simp only [hs0] at hR
 refine ab E [.bx [100] 0] (RX L s) [100,101] (hc0) rfl rfl ⟨by simp only [go_sem],by first | (rw [aa];decide) | (simp only [go_sem]<;>(try rw [aa])<;>decide)⟩ rfl (by unfold RX TS TX ae;simp only [go_sem]) (by unfold RX TS TX;simp only [go_sem]) ?_
 rintro _ _ ⟨rfl,rfl⟩
 unfold RX TS TX ae
 simp only [go_sem]
 refine aA E (X:={ x:Nat × List EN × PS // jd ex x.1 x.2.1 x.2.2=R∧GP 1 s x.2∧x.2.2.l.length<x.1 }) (fun x=>[(0,.bx [100] 0),(2,.bx [2] 0),(4,.bx [4] 0)])
  (fun x=>[([2],.box [.d .nils]),([4],.box [.d (.sl (some 9) (x.1.2.1.map enD))]),([100],.box [.bx [101] 0,.d (i64 x.1.2.2.err),.d (i64 x.1.2.2.pos),.d (i64 x.1.2.2.nest)]),([101],.box [.d (.sl (some 4) (L.map ck)),.d (i64 (atN L x.1.2.2)),.d (i64 x.1.2.2.fin)])]) [2,4,100,101] (fun x=>x.1.2.2.l.length) ⟨(s0.l.length.succ,a0,s0),hR,h0,Nat.lt_succ_self _⟩ id ?_ ?_
 ·simp only [go_sem]
  all_goals ((repeat' apply And.intro)<;>first | rfl | trivial)
 rintro ⟨⟨m,a,q⟩,hb,hg,hm⟩ E0
 refine aC E0 fun Q' hQ E'=>?_
 simp only at hb hg hm ⊢
 have hfq:=hf.ss hg.ss
 have hql:q.l.length≤s.l.length:=hg.ss.len
 obtain ⟨m,rfl⟩:∃ k,m=k+1:=⟨m-1,by omega⟩
 have hgn:=kx hex s 1 a q hg
 rw [jd] at hb
 rw [show jd ex 1 a q=if decide (q.err=0) && q.begins then (av (nd0 6 (dh a).pos) [a,(dQ ex q).1],(dQ ex q).2) else (a,q) from rfl] at hgn
 simp only [go_sem]
 refine ao E' (fun g1=>?_) (fun g1=>?_)<;>simp only [go_sem]
 rotate_left
 ·rw [decide_eq_false g1,Bool.false_and,if_neg (by decide)] at hb
  subst hb
  rw [hQ]
  simp only [go_sem]
  refine ⟨_,_,[100,101],id,⟨rfl,rfl⟩,?_⟩
  simp only [go_sem]
  rfl
 rw [decide_eq_true g1,Bool.true_and] at hb hgn
 refine ab E' [.bx [101] 0] (TS L q) [101] (fH hfq hl1) rfl rfl ⟨by simp only [go_sem],by first | (rw [aa];decide) | (simp only [go_sem]<;>(try rw [aa])<;>decide)⟩ rfl (by unfold TS TX ae;simp only [go_sem]) (by unfold TS TX;simp only [go_sem]) ?_
 rintro _ _ ⟨rfl,rfl⟩
 unfold TS TX ae
 simp only [go_sem]
 refine ag E' (El q) rfl rfl (by simp) ?_
 rintro _ rfl
 simp only [go_sem]
 refine aD E' (fun g2=>?_) (fun g2=>?_)<;>simp only [go_sem]
 rotate_left
 ·rw [g2,if_neg (by decide)] at hb
  subst hb
  rw [hQ]
  simp only [go_sem]
  refine ⟨_,_,[100,101],id,⟨rfl,rfl⟩,?_⟩
  simp only [go_sem]
  rfl
 rw [g2,if_pos rfl] at hb hgn
 have hap:=hg.tr.kids.1
 have hz1:=hg.sz
 simp only at hap hz1
 rw [ai (n:=(a.length:Int)-1) ⟨by omega,by omega⟩]
 refine ⟨⟨by omega,by omega⟩,?_⟩
 rw [show ((a.length:Int)-1).toNat=a.length-1 by omega,aP (show a.length-1<a.length by omega)]
 have hrt:dh a=ndE a (a.length-1):=rfl
 rw [← hrt]
 generalize dh a=rt at hb hgn ⊢
 simp only [go_sem]
 refine ak mixed E' fun X=>?_
 simp only [go_sem]
 obtain ⟨b0,q1,hq1⟩:∃ b0 q1,dQ ex q=(b0,q1):=⟨_,_,rfl⟩
 have h2:=hc L q hfq hl (hg.ss.nest.trans hN)
 have h3:=(hsg q).1
 have hlt:=pj hex g1 g2
 rw [hq1] at h2 h3 hb hgn hlt
 unfold exD at h2
 refine aZ X [.bx [100] 0] (RX L q) [100,101] _ _ h2 rfl rfl ⟨by simp only [go_sem],by rw [aa];decide⟩ rfl (by unfold RX TS TX ae;simp only [go_sem]<;>rfl) (by unfold RX TS TX;simp only [go_sem]) (by unfold RX TS TX;simp only [go_sem]) ?_
 unfold RX TS TX ae
 simp only [go_sem]
 have ht2:=h3.tr
 have hz2:=h3.sz
 simp only at ht2 hz2 hlt
 have h4:=eK (G:=G) (nd0 6 rt.pos) [a,b0] rfl rfl (by simp only [aT,List.map_cons,List.map_nil,List.sum_cons,List.sum_nil];omega)
  (fun l h=>by
   rcases List.mem_cons.1 h with rfl | h
   ·exact hg.tr.kids.2
   ·rw [List.mem_singleton.1 h];exact ht2.kids.2)
  (fun l h=>by
   rcases List.mem_cons.1 h with rfl | h
   ·exact hg.wd.mono (by omega)
   ·rw [List.mem_singleton.1 h];exact h3.wd.mono (by omega))
 simp only at hb hgn
 generalize av (nd0 6 rt.pos) [a,b0]=J at h4 hb hgn
 unfold ndN exD at h4
 refine bw X 63 [63] (some 1) [.agg [.sl (some 9) (a.map enD)],.agg [.sl (some 9) (b0.map enD)]] h4 (fun _=>rfl) rfl rfl rfl (by simp) rfl (by simp only [go_sem]) ?_
 simp only [go_sem]
 refine ⟨by decide +kernel,?_⟩
 rw [hQ]
 simp only [go_sem]
 refine ⟨⟨(m,J,q1),hb,hgn,by show q1.l.length<m;omega⟩,hlt,id,?_⟩
 simp only [go_sem]
 all_goals ((repeat' apply And.intro)<;>first | rfl | trivial)
end Go.Proofs.YtejpnabbmgpmaaaGreat

namespace Go.Proofs.YtejpnabbmgpmaaaGreat
open Go.Ab
def FX (L:List Tok) (s:PS) (l:List EF):List (Name × Ob):=([103],.arr (some 3) (l.map fD))::RX L s
theorem GK (l:List EF) (t:List UInt8):(l.any fun f=>decide (f.nm=t))=decide (t∈l.map (·.nm)):=by
 rw [Bool.eq_iff_iff]
 simp only [List.any_eq_true,decide_eq_true_eq,List.mem_map]
theorem GH {l:List EF} {i:Nat} (h:i<l.length):(l.map fD).getD i .nilp=.agg [.str l[i].nm,.str l[i].var,i64 l[i].to]:=by
 rw [List.getD_eq_getElem?_getD,List.getElem?_map,List.getElem?_eq_getElem h];rfl
theorem xM {G} (L:List Tok) (s:PS) (t:Tok) (l:List EF) (hl:l.length≤30):HCall Tryz.prog G 357 [.bx [100] 0,.d (.agg [i64 t.k,.str t.s,i64 t.n,i64 t.pos]),.vw [103] 0 l.length] (FX L s l) [100,101,103] (fun r hp'=>r=.tup []∧hp'=FX L (s.parted t l) l):=by
 generalize hR:s.parted t l=R
 unfold PS.parted at hR
 rw [GK] at hR
 have c8:=iV (G:=G) L s 8 t.pos
 have c5:=iV (G:=G) L s 5 t.pos
 have cin:=rY (G:=G) t.s (l.map (·.nm)) (by rw [List.length_map];omega)
 generalize hM:l.map (·.nm)=M at *
 have hMl:M.length=l.length:=by rw [← hM,List.length_map]
 have hMt:∀ i (h:i<l.length),(M.take (i+1)).map D.str=(M.take i).map D.str++[.str l[i].nm]:=fun i h=>by
  rw [List.take_succ_eq_append_getElem (by omega),List.map_append]
  simp [← hM]
 unfold strs at cin
 unfold FX RX TS TX ae
 refine ar Tryz.func357 rfl (by decide +kernel) (by simp [Tryz.ntmps357]) (veil fun E=>?_)
 simp only [go_sem]
 refine ah E (fun h1=>?_) (fun h1=>?_)<;>simp only [go_sem]
 ·rw [if_pos h1] at hR
  subst hR
  refine ⟨_,_,[100,101,103],id,⟨rfl,rfl⟩,?_⟩
  simp only [go_sem]
 rw [if_neg h1] at hR
 refine aA E (X:={ i:Nat // i≤l.length }) (fun x=>[(0,.bx [100] 0),(2,.vw [103] 0 l.length),(4,.bx [4] 0),(6,.vw [98] 0 x.1),(7,.d (i64 x.1))])
  (fun x=>[([4],.box [.d (i64 t.k),.d (.str t.s),.d (i64 t.n),.d (i64 t.pos)]),([98],.arr none ((M.take x.1).map .str)),([103],.arr (some 3) (l.map fD)),([100],.box [.bx [101] 0,.d (i64 s.err),.d (i64 s.pos),.d (i64 s.nest)]),([101],.box [.d (.sl (some 4) (L.map ck)),.d (i64 (atN L s)),.d (i64 s.fin)])]) [4,98,100,101,103] (fun x=>l.length-x.1) ⟨0,Nat.zero_le _⟩ (tau [([98],[13])]) ?_ ?_
 ·simp only [go_sem]
  all_goals ((repeat' apply And.intro)<;>first | rfl | trivial)
 rintro ⟨i,hi⟩ E0
 refine aC E0 fun Q' hQ E'=>?_
 simp only at hi ⊢
 simp only [go_sem]
 refine ah E' (fun h2=>?_) (fun h2=>?_)<;>simp only [go_sem]
 ·have hi':i<l.length:=by omega
  refine ⟨⟨by omega,by omega⟩,?_⟩
  rw [GH hi']
  simp only [go_sem]
  rw [show List.take i (List.map D.str (List.take i M))=(M.take i).map D.str from List.take_of_length_le (by rw [List.length_map,List.length_take];omega),← hMt i hi']
  refine ⟨by omega,?_⟩
  rw [hQ]
  simp only [go_sem]
  rw [ai (n:=(i:Int)+1) ⟨by omega,by omega⟩]
  refine ⟨⟨i+1,by omega⟩,by show l.length-(i+1)<l.length-i;omega,tau [([98],[27])],?_⟩
  simp only [go_sem]
  all_goals ((repeat' apply And.intro)<;>first | rfl | trivial)
 ·have hi':i=l.length:=by omega
  subst hi'
  rw [hQ]
  simp only [go_sem]
  rw [List.take_of_length_le (show M.length≤l.length by omega)]
  refine ah E (fun h3=>?_) (fun h3=>?_)<;>simp only [go_sem]
  ·rw [if_pos (by omega)] at hR
   refine ab E [.bx [100] 0,.d (i64 8),.d (i64 t.pos)] (RX L s) [100,101] (c8) rfl rfl ⟨by simp only [go_sem],by first | (rw [aa];decide) | (simp only [go_sem]<;>(try rw [aa])<;>decide)⟩ rfl (by unfold RX TS TX ae;simp only [go_sem]) (by unfold RX TS TX;simp only [go_sem]) ?_
   rintro _ _ ⟨rfl,rfl⟩
   unfold RX TS TX ae
   simp only [go_sem]
   rw [← hR]
   refine ⟨_,_,[100,101,103],id,⟨rfl,rfl⟩,?_⟩
   simp only [go_sem]
  ·rw [if_neg (by omega)] at hR
   refine cL E [98] none (M.map .str) rfl (by simp only [go_sem];rfl) ?_
   simp only [go_sem]
   rw [show List.take l.length (List.map D.str M)=M.map .str from List.take_of_length_le (by rw [List.length_map];omega)]
   refine ag E cin rfl rfl (by simp) ?_
   rintro _ rfl
   simp only [go_sem]
   refine ah E (fun h4=>?_) (fun h4=>?_)<;>simp only [go_sem]
   ·rw [if_pos (decide_eq_true h4)] at hR
    refine ab E [.bx [100] 0,.d (i64 5),.d (i64 t.pos)] (RX L s) [100,101] (c5) rfl rfl ⟨by simp only [go_sem],by first | (rw [aa];decide) | (simp only [go_sem]<;>(try rw [aa])<;>decide)⟩ rfl (by unfold RX TS TX ae;simp only [go_sem]) (by unfold RX TS TX;simp only [go_sem]) ?_
    rintro _ _ ⟨rfl,rfl⟩
    unfold RX TS TX ae
    simp only [go_sem]
    rw [← hR]
    refine ⟨_,_,[100,101,103],id,⟨rfl,rfl⟩,?_⟩
    simp only [go_sem]
   ·rw [if_neg (by rw [decide_eq_false h4];decide)] at hR
    rw [← hR]
    refine ⟨_,_,[100,101,103],id,⟨rfl,rfl⟩,?_⟩
    simp only [go_sem]
end Go.Proofs.YtejpnabbmgpmaaaGreat

namespace Go.Proofs.YtejpnabbmgpmaaaGreat
open Go.Ab
def xU (f:Nat) (G:List (Nat × Obj)) (N:Nat) (sub:PS→Int→PR):Prop:=∀ (L:List Tok) (s:PS) (p:Int),Fit L s→L.length≤100000→s.nest=N→s.err=0→HCall Tryz.prog G f [.bx [100] 0,.d (i64 p)] (RX L s) [100,101] (fun r hp'=>r=.d (exD (sub s p).1)∧hp'=RX L (sub s p).2)
theorem oZ {s:PS} {t:Tok} {l:List EF} (h:(s.parted t l).err=0):l.length≠30:=by
 unfold PS.parted at h
 split at h
 ·rename_i g;exact absurd h g
 split at h
 ·exact absurd h (qJ (by decide))
 ·assumption
set_option maxHeartbeats 2000000 in
theorem DE {G} {N:Nat} {ex:PS→PR} (hex:∀ s,GP 1 s (ex s)) (hst:∀ s,s.err≠0→(ex s).2=s) (hc:cR 70 G N ex):xU 342 G N (ch ex):=by
 intro L s p hf hl hN he0
 have hl1:L.length≤1000000:=by omega
 have hfl:=hf.le
 generalize hR:ch ex s p=R
 unfold ch at hR
 have hg:=dH hex [44] dB SS.field s.l.length.succ s [] [] rfl (fun _ h=>by cases h)
 obtain ⟨F,hF⟩:∃ F,F=aR ex [44] dB s.l.length.succ s [] []:=⟨_,rfl⟩
 rw [← hF] at hg
 simp only [← hF] at hR
 obtain ⟨fl,kk,qf⟩:=F
 simp only at hR
 have g1:=hg.sz
 have g2:=hg.ln
 have g3:=hg.ss.len
 have g4:=hg.eq
 simp only [aT,List.map_nil,List.sum_nil,List.length_nil] at g1 g2 g3 g4
 unfold RX TS TX ae
 refine ar Tryz.func342 rfl (by decide +kernel) (by simp [Tryz.ntmps342]) (veil fun E=>?_)
 simp only [go_sem]
 refine ab E [.bx [100] 0,.d (.str [125])] (RX L s) [100,101] (dm hf hl1 [125]) rfl rfl ⟨by simp only [go_sem],by first | (rw [aa];decide) | (simp only [go_sem]<;>(try rw [aa])<;>decide)⟩ rfl (by unfold RX TS TX ae;simp only [go_sem]) (by unfold RX TS TX;simp only [go_sem]) ?_
 rintro _ _ ⟨rfl,rfl⟩
 unfold RX TS TX ae
 simp only [go_sem]
 refine aD E (fun h=>?_) (fun h=>?_)<;>simp only [go_sem]
 ·rw [if_pos h] at hR
  rw [br h]
  have hlf:=mf (G:=G) (nd0 11 p) rfl rfl
  generalize bj (nd0 11 p)=J at hlf hR
  unfold ndN exD at hlf
  refine ag E hlf rfl rfl (by simp) ?_
  rintro _ rfl
  simp only [go_sem]
  subst hR
  refine ⟨_,_,[100,101],id,⟨rfl,rfl⟩,?_⟩
  simp only [go_sem]
  rfl
 rw [if_neg (by rw [h];decide)] at hR
 rw [bP h]
 refine rf E [5] 7 103 (some 3) [.d (i64 11),.d (i64 0),.d (i64 0),.d (i64 0),.d (i64 0),.d (.str []),.d (.str []),.d .nils,.d (i64 p)] rfl rfl (by rw [aa];decide) ?_
 simp only [go_sem]
 refine aA E (X:={ x:Nat × PS × List EF × List (List EN) // aR ex [44] dB x.1 x.2.1 x.2.2.1 x.2.2.2=(fl,kk,qf)∧x.2.1.err=0∧x.2.2.1.length≤30∧x.2.2.2.length=x.2.2.1.length∧SS s x.2.1∧x.2.1.l.length<x.1 })
  (fun x=>[(0,.bx [100] 0),(4,.bx [4] 0),(5,.bx [5] 0),(6,.vw [97] 0 x.1.2.2.2.length)])
  (fun x=>[([4],.box [.d .nils]),([5],.box [.d (i64 11),.d (i64 0),.d (i64 0),.d (i64 0),.d (i64 0),.d (.str []),.d (.str []),.vw [103] 0 x.1.2.2.1.length,.d (i64 p)]),([97],.arr (some 1) (x.1.2.2.2.map exD)),([103],.arr (some 3) (x.1.2.2.1.map fD)),([100],.box [.bx [101] 0,.d (i64 x.1.2.1.err),.d (i64 x.1.2.1.pos),.d (i64 x.1.2.1.nest)]),([101],.box [.d (.sl (some 4) (L.map ck)),.d (i64 (atN L x.1.2.1)),.d (i64 x.1.2.1.fin)])]) [4,5,97,103,100,101] (fun x=>x.1.2.1.l.length) ⟨(s.l.length.succ,s,[],[]),hF.symm,he0,Nat.zero_le _,rfl,SS.refl s,Nat.lt_succ_self _⟩ (tau [([97],[11])]) ?_ ?_
 ·simp only [go_sem]
  all_goals ((repeat' apply And.intro)<;>first | rfl | trivial)
 rintro ⟨⟨m,q,l,ks⟩,hb,hq0,hl30,hkl,hqs,hm⟩ E0
 refine aC E0 fun Q' hQ E'=>?_
 simp only at hb hq0 hl30 hkl hqs hm ⊢
 have hfq:=hf.ss hqs
 obtain ⟨m,rfl⟩:∃ k,m=k+1:=⟨m-1,by omega⟩
 rw [aR] at hb
 simp only [go_sem]
 rw [decide_eq_true hq0]
 simp only [go_sem]
 refine ab E' [.bx [101] 0] (TS L q) [101] (fH hfq hl1) rfl rfl ⟨by simp only [go_sem],by first | (rw [aa];decide) | (simp only [go_sem]<;>(try rw [aa])<;>decide)⟩ rfl (by unfold TS TX ae;simp only [go_sem]) (by unfold TS TX;simp only [go_sem]) ?_
 rintro _ _ ⟨rfl,rfl⟩
 unfold TS TX ae
 simp only [go_sem]
 obtain ⟨f,hfd⟩:∃ f,f=dB q l:=⟨_,rfl⟩
 rw [← hfd] at hb
 unfold dB at hfd
 simp only at hfd
 have c1:=jK (G:=G) hfq hl1 2
 have s1s:=SS.of q 2
 obtain ⟨q1,hq1⟩:∃ q1,q1=q.of 2:=⟨_,rfl⟩
 rw [← hq1] at c1 hfd s1s
 refine ab E' [.bx [100] 0,.d (i64 2)] (RX L q) [100,101] (c1) rfl rfl ⟨by simp only [go_sem],by first | (rw [aa];decide) | (simp only [go_sem]<;>(try rw [aa])<;>decide)⟩ rfl (by unfold RX TS TX ae;simp only [go_sem]) (by unfold RX TS TX;simp only [go_sem]) ?_
 rintro _ _ ⟨rfl,rfl⟩
 unfold RX TS TX ae
 simp only [go_sem]
 refine ab E' [.bx [100] 0,.d (.agg [i64 q.peek.k,.str q.peek.s,i64 q.peek.n,i64 q.peek.pos]),.vw [103] 0 l.length] (FX L q1.2 l) [100,101,103] (xM L q1.2 q.peek l hl30) rfl rfl ⟨by simp only [go_sem],by first | (rw [aa];decide) | (simp only [go_sem]<;>(try rw [aa])<;>decide)⟩ rfl (by unfold FX RX TS TX ae;simp only [go_sem]) (by unfold FX RX TS TX;simp only [go_sem]) ?_
 rintro _ _ ⟨rfl,rfl⟩
 unfold FX RX TS TX ae
 simp only [go_sem]
 refine ⟨Nat.le_refl _,?_⟩
 have s2s:SS q (q1.2.parted q.peek l):=SS.partp s1s _ _ fun N h=>gq h
 obtain ⟨q2,hq2⟩:∃ q2,q2=q1.2.parted q.peek l:=⟨_,rfl⟩
 rw [← hq2] at hfd s2s ⊢
 have c2:=ei (G:=G) (hfq.ss s2s) hl1 7 [61] (by decide)
 have s3s:=s2s.trans (SS.must q2 7 [61])
 have hfew:(q2.must 7 [61]).err=0→l.length≠30:=fun h=>by
  have:=cN h
  rw [hq2] at this
  exact oZ this
 obtain ⟨q3,hq3⟩:∃ q3,q3=q2.must 7 [61]:=⟨_,rfl⟩
 rw [← hq3] at hfd c2 s3s hfew
 refine ab E' [.bx [100] 0,.d (i64 7),.d (.str [61])] (RX L q2) [100,101] (c2) rfl rfl ⟨by simp only [go_sem],by first | (rw [aa];decide) | (simp only [go_sem]<;>(try rw [aa])<;>decide)⟩ rfl (by unfold RX TS TX ae;simp only [go_sem]) (by unfold RX TS TX;simp only [go_sem]) ?_
 rintro _ _ ⟨rfl,rfl⟩
 unfold RX TS TX ae
 simp only [go_sem]
 have ce:=hc L q3 (hfq.ss s3s) hl (s3s.nest.trans (hqs.nest.trans hN))
 have he:=hex q3
 have hse:=hst q3
 rw [hfd] at hb
 simp only at hb
 obtain ⟨e1,q4,he1⟩:∃ e1 q4,ex q3=(e1,q4):=⟨_,_,rfl⟩
 rw [he1] at ce he hb hse
 unfold exD at ce
 simp only at ce hb hse
 have s4s:=s3s.trans he.ss
 refine ab E' [.bx [100] 0] (RX L q3) [100,101] (ce) rfl rfl ⟨by simp only [go_sem],by first | (rw [aa];decide) | (simp only [go_sem]<;>(try rw [aa])<;>decide)⟩ rfl (by unfold RX TS TX ae;simp only [go_sem]) (by unfold RX TS TX;simp only [go_sem]) ?_
 rintro _ _ ⟨rfl,rfl⟩
 unfold RX TS TX ae
 simp only [go_sem]
 refine ⟨by omega,?_⟩
 refine ⟨by omega,?_⟩
 rw [show ks.map exD++[.agg [.sl (some 9) (e1.map enD)]]=(ks++[e1]).map exD by rw [List.map_append];rfl]
 rw [show l.map fD++[.agg [.str q1.1,.str [],.int .i64 0]]=(l++[(⟨q1.1,[],0⟩:EF)]).map fD by rw [List.map_append];rfl]
 refine ab E' [.bx [100] 0,.d (.str [44])] (RX L q4) [100,101] (dm (hfq.ss s4s) hl1 [44]) rfl rfl ⟨by simp only [go_sem],by first | (rw [aa];decide) | (simp only [go_sem]<;>(try rw [aa])<;>decide)⟩ rfl (by unfold RX TS TX ae;simp only [go_sem]) (by unfold RX TS TX;simp only [go_sem]) ?_
 rintro _ _ ⟨rfl,rfl⟩
 unfold RX TS TX ae
 simp only [go_sem]
 refine aD E' (fun h2=>?_) (fun h2=>?_)<;>simp only [go_sem]
 ·have h2':q4.sees 7 [44]=false:=by simpa using h2
  rw [h2',if_neg (by decide)] at hb
  rw [bP h2']
  obtain ⟨b1,b2⟩:=Prod.mk.inj hb
  obtain ⟨b2,b3⟩:=Prod.mk.inj b2
  subst b1 b2 b3
  refine ab E' [.bx [100] 0,.d (i64 7),.d (.str [125])] (RX L q4) [100,101] (ei (hfq.ss s4s) hl1 7 [125] (by decide)) rfl rfl ⟨by simp only [go_sem],by first | (rw [aa];decide) | (simp only [go_sem]<;>(try rw [aa])<;>decide)⟩ rfl (by unfold RX TS TX ae;simp only [go_sem]) (by unfold RX TS TX;simp only [go_sem]) ?_
  rintro _ _ ⟨rfl,rfl⟩
  unfold RX TS TX ae
  simp only [go_sem]
  rw [hQ]
  simp only [go_sem]
  have h4:=wz (G:=G) { nd0 11 p with l:=l++[⟨q1.1,[],0⟩] } (ks++[e1]) (by simp only;omega) (by show 0+(l++[(⟨q1.1,[],0⟩:EF)]).length=_;rw [Nat.zero_add];exact g4) (by simp only [aT];omega)
   (fun l h=>(hg.tr l h).kids.2) (fun l h=>(hg.wd (s.l.length+1) (fun _ h=>by cases h) (by simp only;omega) l h).mono (by omega))
  refine cL E [39] (some 1) ((ks++[e1]).map exD) rfl (by simp only [go_sem];rfl) ?_
  simp only [go_sem]
  refine cL E [45] (some 3) ((l++[(⟨q1.1,[],0⟩:EF)]).map fD) rfl (by simp only [go_sem];rfl) ?_
  simp only [go_sem]
  rw [List.take_of_length_le (show ((ks++[e1]).map exD).length≤ks.length+1 by rw [List.length_map,List.length_append];exact Nat.le_refl _),List.take_of_length_le (show ((l++[(⟨q1.1,[],0⟩:EF)]).map fD).length≤l.length+1 by rw [List.length_map,List.length_append];exact Nat.le_refl _)]
  generalize av { nd0 11 p with l:=l++[⟨q1.1,[],0⟩] } (ks++[e1])=J at h4 hR
  unfold exD at h4
  refine ag E h4 rfl rfl (by simp) ?_
  rintro _ rfl
  simp only [go_sem]
  subst hR
  refine ⟨_,_,[100,101],id,⟨rfl,rfl⟩,?_⟩
  simp only [go_sem]
  rfl
 ·have h2':q4.sees 7 [44]=true:=by simpa using h2
  rw [h2',if_pos rfl] at hb
  rw [br h2']
  have hq4:=eV h2'
  have hsl:=az h2'
  have s5s:=s4s.trans (SS.next q4)
  have l4:=s4s.len
  simp only at l4
  have he3:q3.err=0:=by
   by_cases h:q3.err=0
   ·exact h
   ·have:=hse h
    rw [this] at hq4
    exact absurd hq4 h
  have hl31:=hfew he3
  rw [hQ]
  simp only [go_sem]
  refine ⟨⟨(m,q4.next,l++[⟨q1.1,[],0⟩],ks++[e1]),hb,hq4,by simp only [List.length_append,List.length_singleton];omega,by simp only [List.length_append,List.length_singleton];omega,hqs.trans s5s,by simp only;omega⟩,by show q4.next.l.length<q.l.length;omega,tau [([97],[39]),([103],[45])],?_⟩
  simp only [go_sem]
  simp only [List.length_append,List.length_singleton]
  all_goals ((repeat' apply And.intro)<;>first | rfl | trivial)
end Go.Proofs.YtejpnabbmgpmaaaGreat

namespace Go.Proofs.YtejpnabbmgpmaaaGreat
open Go.Ab
set_option maxHeartbeats 2000000 in
theorem DX {G} {N:Nat} {ex:PS→PR} (hex:∀ s,GP 1 s (ex s)) (hst:∀ s,s.err≠0→(ex s).2=s) (hc:cR 70 G N ex):xU 343 G N (ik ex):=by
 intro L s p hf hl hN he0
 have hl1:L.length≤1000000:=by omega
 have hfl:=hf.le
 generalize hR:ik ex s p=R
 unfold ik at hR
 have ce:=hc L s hf hl hN
 have he:=hex s
 obtain ⟨e,s0,e0⟩:∃ e s0,ex s=(e,s0):=⟨_,_,rfl⟩
 rw [e0] at ce he hR
 simp only at ce hR
 have le:=he.ss.len
 have ne:=he.ss.nest
 have ze:=he.sz
 simp only at le ne ze
 have cm:=ei (G:=G) (hf.ss he.ss) hl1 1 bOf (by decide)
 have hm0:=SS.must s0 1 bOf
 obtain ⟨s1,hs1⟩:∃ s1,s1=s0.must 1 bOf:=⟨_,rfl⟩
 rw [← hs1] at cm hm0 hR
 have hf1:=(hf.ss he.ss).ss hm0
 have lm:=hm0.len
 have nm:=hm0.nest
 unfold exD at ce
 unfold RX TS TX ae
 refine ar Tryz.func343 rfl (by decide +kernel) (by simp [Tryz.ntmps343]) (veil fun E=>?_)
 simp only [go_sem]
 refine ab E [.bx [100] 0] (RX L s) [100,101] (ce) rfl rfl ⟨by simp only [go_sem],by first | (rw [aa];decide) | (simp only [go_sem]<;>(try rw [aa])<;>decide)⟩ rfl (by unfold RX TS TX ae;simp only [go_sem]) (by unfold RX TS TX;simp only [go_sem]) ?_
 rintro _ _ ⟨rfl,rfl⟩
 unfold RX TS TX ae
 simp only [go_sem]
 refine ab E [.bx [100] 0,.d (i64 1),.d (.str bOf)] (RX L s0) [100,101] (cm) rfl rfl ⟨by simp only [go_sem],by first | (rw [aa];decide) | (simp only [go_sem]<;>(try rw [aa])<;>decide)⟩ rfl (by unfold RX TS TX ae;simp only [go_sem]) (by unfold RX TS TX;simp only [go_sem]) ?_
 rintro _ _ ⟨rfl,rfl⟩
 unfold RX TS TX ae
 simp only [go_sem]
 by_cases h1:s1.err=0
 rotate_left
 ·rw [if_pos h1] at hR
  have h4:=eK (G:=G) (nd0 14 p) [e] rfl rfl (by simp only [aT,List.map_cons,List.map_nil,List.sum_cons,List.sum_nil];omega)
   (fun l h=>by rw [List.mem_singleton.1 h];exact he.tr.kids.2)
   (fun l h=>by rw [List.mem_singleton.1 h];exact he.wd.mono (by omega))
  refine aA E (X:=Unit)
   (fun _=>[(0,.bx [100] 0),(4,.bx [4] 0),(5,.bx [5] 0),(6,.vw [97] 0 1)])
   (fun _=>[([4],.box [.d .nils]),([5],.box [.d (i64 14),.d (i64 0),.d (i64 0),.d (i64 0),.d (i64 0),.d (.str []),.d (.str []),.d .nils,.d (i64 p)]),([97],.arr (some 1) [.agg [.sl (some 9) (e.map enD)]]),([100],.box [.bx [101] 0,.d (i64 s1.err),.d (i64 s1.pos),.d (i64 s1.nest)]),([101],.box [.d (.sl (some 4) (L.map ck)),.d (i64 (atN L s1)),.d (i64 s1.fin)])]) [4,5,97,100,101] (fun _=>0) () (tau [([97],[14])]) ?_ ?_
  ·simp only [go_sem]
   all_goals ((repeat' apply And.intro)<;>first | rfl | trivial)
  rintro ⟨⟩ E0
  refine aC E0 fun Q' hQ E'=>?_
  simp only [go_sem]
  refine ah E' (fun h=>absurd h h1) (fun _=>?_)<;>simp only [go_sem]
  rw [hQ]
  simp only [go_sem]
  refine cL E [97] (some 1) [.agg [.sl (some 9) (e.map enD)]] rfl (by simp only [go_sem];rfl) ?_
  simp only [go_sem]
  generalize av (nd0 14 p) [e]=J at h4 hR
  unfold ndN exD at h4
  refine ag E h4 rfl rfl (by simp) ?_
  rintro _ rfl
  simp only [go_sem]
  subst hR
  refine ⟨_,_,[100,101],id,⟨rfl,rfl⟩,?_⟩
  simp only [go_sem]
  rfl
 rw [if_neg (by simpa using h1)] at hR
 have hg:=dH hex [124] bM SS.branch s1.l.length.succ s1 [] [] rfl (fun _ h=>by cases h)
 obtain ⟨F,hF⟩:∃ F,F=aR ex [124] bM s1.l.length.succ s1 [] []:=⟨_,rfl⟩
 rw [← hF] at hg
 simp only [← hF] at hR
 obtain ⟨fl,kk,qf⟩:=F
 simp only at hR
 have g1:=hg.sz
 have g2:=hg.ln
 have g3:=hg.ss.len
 have g4:=hg.eq
 simp only [aT,List.map_nil,List.sum_nil,List.length_nil] at g1 g2 g3 g4
 refine rf E [5] 7 103 (some 3) [.d (i64 14),.d (i64 0),.d (i64 0),.d (i64 0),.d (i64 0),.d (.str []),.d (.str []),.d .nils,.d (i64 p)] rfl rfl (by rw [aa];decide) ?_
 simp only [go_sem]
 refine aA E (X:={ x:Nat × PS × List EF × List (List EN) // aR ex [124] bM x.1 x.2.1 x.2.2.1 x.2.2.2=(fl,kk,qf)∧x.2.1.err=0∧x.2.2.1.length≤30∧x.2.2.2.length=x.2.2.1.length∧SS s1 x.2.1∧x.2.1.l.length<x.1 })
  (fun x=>[(0,.bx [100] 0),(4,.bx [4] 0),(5,.bx [5] 0),(6,.vw [97] 0 (x.1.2.2.2.length+1))])
  (fun x=>[([4],.box [.d .nils]),([5],.box [.d (i64 14),.d (i64 0),.d (i64 0),.d (i64 0),.d (i64 0),.d (.str []),.d (.str []),.vw [103] 0 x.1.2.2.1.length,.d (i64 p)]),([97],.arr (some 1) (.agg [.sl (some 9) (e.map enD)]::x.1.2.2.2.map exD)),([103],.arr (some 3) (x.1.2.2.1.map fD)),([100],.box [.bx [101] 0,.d (i64 x.1.2.1.err),.d (i64 x.1.2.1.pos),.d (i64 x.1.2.1.nest)]),([101],.box [.d (.sl (some 4) (L.map ck)),.d (i64 (atN L x.1.2.1)),.d (i64 x.1.2.1.fin)])]) [4,5,97,103,100,101] (fun x=>x.1.2.1.l.length) ⟨(s1.l.length.succ,s1,[],[]),hF.symm,h1,Nat.zero_le _,rfl,SS.refl s1,Nat.lt_succ_self _⟩ (tau [([97],[14])]) ?_ ?_
 ·simp only [go_sem]
  all_goals ((repeat' apply And.intro)<;>first | rfl | trivial)
 rintro ⟨⟨m,q,l,ks⟩,hb,hq0,hl30,hkl,hqs,hm⟩ E0
 refine aC E0 fun Q' hQ E'=>?_
 simp only at hb hq0 hl30 hkl hqs hm ⊢
 have hfq:=hf1.ss hqs
 obtain ⟨m,rfl⟩:∃ k,m=k+1:=⟨m-1,by omega⟩
 rw [aR] at hb
 simp only [go_sem]
 rw [decide_eq_true hq0]
 simp only [go_sem]
 refine ab E' [.bx [101] 0] (TS L q) [101] (fH hfq hl1) rfl rfl ⟨by simp only [go_sem],by first | (rw [aa];decide) | (simp only [go_sem]<;>(try rw [aa])<;>decide)⟩ rfl (by unfold TS TX ae;simp only [go_sem]) (by unfold TS TX;simp only [go_sem]) ?_
 rintro _ _ ⟨rfl,rfl⟩
 unfold TS TX ae
 simp only [go_sem]
 obtain ⟨f,hfd⟩:∃ f,f=bM q l:=⟨_,rfl⟩
 rw [← hfd] at hb
 unfold bM at hfd
 simp only at hfd
 have c1:=jK (G:=G) hfq hl1 3
 have s1s:=SS.of q 3
 obtain ⟨q1,hq1⟩:∃ q1,q1=q.of 3:=⟨_,rfl⟩
 rw [← hq1] at c1 hfd s1s
 refine ab E' [.bx [100] 0,.d (i64 3)] (RX L q) [100,101] (c1) rfl rfl ⟨by simp only [go_sem],by first | (rw [aa];decide) | (simp only [go_sem]<;>(try rw [aa])<;>decide)⟩ rfl (by unfold RX TS TX ae;simp only [go_sem]) (by unfold RX TS TX;simp only [go_sem]) ?_
 rintro _ _ ⟨rfl,rfl⟩
 unfold RX TS TX ae
 simp only [go_sem]
 refine ab E' [.bx [100] 0,.d (.agg [i64 q.peek.k,.str q.peek.s,i64 q.peek.n,i64 q.peek.pos]),.vw [103] 0 l.length] (FX L q1.2 l) [100,101,103] (xM L q1.2 q.peek l hl30) rfl rfl ⟨by simp only [go_sem],by first | (rw [aa];decide) | (simp only [go_sem]<;>(try rw [aa])<;>decide)⟩ rfl (by unfold FX RX TS TX ae;simp only [go_sem]) (by unfold FX RX TS TX;simp only [go_sem]) ?_
 rintro _ _ ⟨rfl,rfl⟩
 unfold FX RX TS TX ae
 simp only [go_sem]
 refine ⟨Nat.le_refl _,?_⟩
 have s2s:SS q (q1.2.parted q.peek l):=SS.partp s1s _ _ fun N h=>gq h
 obtain ⟨q2,hq2⟩:∃ q2,q2=q1.2.parted q.peek l:=⟨_,rfl⟩
 rw [← hq2] at hfd s2s ⊢
 have cv:=jK (G:=G) (hfq.ss s2s) hl1 2
 have svs:=s2s.trans (SS.of q2 2)
 obtain ⟨qv,hqv⟩:∃ qv,qv=q2.of 2:=⟨_,rfl⟩
 rw [← hqv] at cv hfd svs
 refine ab E' [.bx [100] 0,.d (i64 2)] (RX L q2) [100,101] (cv) rfl rfl ⟨by simp only [go_sem],by first | (rw [aa];decide) | (simp only [go_sem]<;>(try rw [aa])<;>decide)⟩ rfl (by unfold RX TS TX ae;simp only [go_sem]) (by unfold RX TS TX;simp only [go_sem]) ?_
 rintro _ _ ⟨rfl,rfl⟩
 unfold RX TS TX ae
 simp only [go_sem]
 have c2:=ei (G:=G) (hfq.ss svs) hl1 7 bTo (by decide)
 have s3s:=svs.trans (SS.must qv.2 7 bTo)
 have hfew:(qv.2.must 7 bTo).err=0→l.length≠30:=fun h=>by
  have:=cN h
  rw [hqv] at this
  have:=py this
  rw [hq2] at this
  exact oZ this
 obtain ⟨q3,hq3⟩:∃ q3,q3=qv.2.must 7 bTo:=⟨_,rfl⟩
 rw [← hq3] at hfd c2 s3s hfew
 refine ab E' [.bx [100] 0,.d (i64 7),.d (.str bTo)] (RX L qv.2) [100,101] (c2) rfl rfl ⟨by simp only [go_sem],by first | (rw [aa];decide) | (simp only [go_sem]<;>(try rw [aa])<;>decide)⟩ rfl (by unfold RX TS TX ae;simp only [go_sem]) (by unfold RX TS TX;simp only [go_sem]) ?_
 rintro _ _ ⟨rfl,rfl⟩
 unfold RX TS TX ae
 simp only [go_sem]
 have ce:=hc L q3 (hfq.ss s3s) hl (s3s.nest.trans (hqs.nest.trans (nm.trans (ne.trans hN))))
 have he2:=hex q3
 have hse:=hst q3
 rw [hfd] at hb
 simp only at hb
 obtain ⟨e1,q4,he1⟩:∃ e1 q4,ex q3=(e1,q4):=⟨_,_,rfl⟩
 rw [he1] at ce he2 hb hse
 unfold exD at ce
 simp only at ce hb hse
 have s4s:=s3s.trans he2.ss
 refine ab E' [.bx [100] 0] (RX L q3) [100,101] (ce) rfl rfl ⟨by simp only [go_sem],by first | (rw [aa];decide) | (simp only [go_sem]<;>(try rw [aa])<;>decide)⟩ rfl (by unfold RX TS TX ae;simp only [go_sem]) (by unfold RX TS TX;simp only [go_sem]) ?_
 rintro _ _ ⟨rfl,rfl⟩
 unfold RX TS TX ae
 simp only [go_sem]
 refine ⟨by omega,?_⟩
 refine ⟨by omega,?_⟩
 rw [show ks.map exD++[.agg [.sl (some 9) (e1.map enD)]]=(ks++[e1]).map exD by rw [List.map_append];rfl]
 rw [show l.map fD++[.agg [.str q1.1,.str qv.1,.int .i64 0]]=(l++[(⟨q1.1,qv.1,0⟩:EF)]).map fD by rw [List.map_append];rfl]
 refine ab E' [.bx [100] 0,.d (.str [124])] (RX L q4) [100,101] (dm (hfq.ss s4s) hl1 [124]) rfl rfl ⟨by simp only [go_sem],by first | (rw [aa];decide) | (simp only [go_sem]<;>(try rw [aa])<;>decide)⟩ rfl (by unfold RX TS TX ae;simp only [go_sem]) (by unfold RX TS TX;simp only [go_sem]) ?_
 rintro _ _ ⟨rfl,rfl⟩
 unfold RX TS TX ae
 simp only [go_sem]
 refine aD E' (fun h2=>?_) (fun h2=>?_)<;>simp only [go_sem]
 ·have h2':q4.sees 7 [124]=false:=by simpa using h2
  rw [h2',if_neg (by decide)] at hb
  rw [bP h2']
  obtain ⟨b1,b2⟩:=Prod.mk.inj hb
  obtain ⟨b2,b3⟩:=Prod.mk.inj b2
  subst b1 b2 b3
  refine ab E' [.bx [100] 0,.d (i64 1),.d (.str vj)] (RX L q4) [100,101] (ei (hfq.ss s4s) hl1 1 vj (by decide)) rfl rfl ⟨by simp only [go_sem],by first | (rw [aa];decide) | (simp only [go_sem]<;>(try rw [aa])<;>decide)⟩ rfl (by unfold RX TS TX ae;simp only [go_sem]) (by unfold RX TS TX;simp only [go_sem]) ?_
  rintro _ _ ⟨rfl,rfl⟩
  unfold RX TS TX ae
  simp only [go_sem]
  rw [hQ]
  simp only [go_sem]
  have h4:=wz (G:=G) { nd0 14 p with l:=l++[⟨q1.1,qv.1,0⟩] } (e::(ks++[e1])) (by simp only;omega) (by show 1+(l++[(⟨q1.1,qv.1,0⟩:EF)]).length=_;rw [List.length_cons,g4];omega) (by simp only [aT,List.map_cons,List.sum_cons];omega)
   (fun l h=>by
    rcases List.mem_cons.1 h with rfl | h
    ·exact he.tr.kids.2
    ·exact (hg.tr l h).kids.2)
   (fun l h=>by
    rcases List.mem_cons.1 h with rfl | h
    ·exact he.wd.mono (by omega)
    ·exact (hg.wd (s1.l.length+1) (fun _ h=>by cases h) (by simp only;omega) l h).mono (by omega))
  refine cL E [42] (some 1) (.agg [.sl (some 9) (e.map enD)]::(ks++[e1]).map exD) rfl (by simp only [go_sem];rfl) ?_
  simp only [go_sem]
  refine cL E [49] (some 3) ((l++[(⟨q1.1,qv.1,0⟩:EF)]).map fD) rfl (by simp only [go_sem];rfl) ?_
  simp only [go_sem]
  rw [List.take_of_length_le (show ((ks++[e1]).map exD).length≤ks.length+1 by rw [List.length_map,List.length_append];exact Nat.le_refl _),List.take_of_length_le (show ((l++[(⟨q1.1,qv.1,0⟩:EF)]).map fD).length≤l.length+1 by rw [List.length_map,List.length_append];exact Nat.le_refl _)]
  generalize av { nd0 14 p with l:=l++[⟨q1.1,qv.1,0⟩] } (e::(ks++[e1]))=J at h4 hR
  unfold exD at h4
  refine ag E h4 rfl rfl (by simp) ?_
  rintro _ rfl
  simp only [go_sem]
  subst hR
  refine ⟨_,_,[100,101],id,⟨rfl,rfl⟩,?_⟩
  simp only [go_sem]
  rfl
 ·have h2':q4.sees 7 [124]=true:=by simpa using h2
  rw [h2',if_pos rfl] at hb
  rw [br h2']
  have hq4:=eV h2'
  have hsl:=az h2'
  have s5s:=s4s.trans (SS.next q4)
  have l4:=s4s.len
  simp only at l4
  have he3:q3.err=0:=by
   by_cases h:q3.err=0
   ·exact h
   ·have:=hse h
    rw [this] at hq4
    exact absurd hq4 h
  have hl31:=hfew he3
  rw [hQ]
  simp only [go_sem]
  refine ⟨⟨(m,q4.next,l++[⟨q1.1,qv.1,0⟩],ks++[e1]),hb,hq4,by simp only [List.length_append,List.length_singleton];omega,by simp only [List.length_append,List.length_singleton];omega,hqs.trans s5s,by simp only;omega⟩,by show q4.next.l.length<q.l.length;omega,tau [([97],[42]),([103],[49])],?_⟩
  simp only [go_sem]
  simp only [List.length_append,List.length_singleton]
  all_goals ((repeat' apply And.intro)<;>first | rfl | trivial)
end Go.Proofs.YtejpnabbmgpmaaaGreat

namespace Go.Ab
theorem Sim.le2 {B:Base} {β:Name→Option Blk} {s s2:St} {tm:Array Value} {w:World} {τ:Name→Name} (U:List Nat) (b0:Name→Option Blk) (h:Sim B β s tm w) (hle:Le [] τ s s2) (hus:∀ x∈U,x∈s2.used)
  (hst:∀ p,nm U p→s2.hp p≠none→β (τ p)=b0 p):∃ β2,Sim { B with U0:=U,β0:=b0 } β2 s2 tm w:=by
 obtain ⟨β2,hb,hb'⟩:∃ β2:Name→Option Blk,(∀ p,s2.hp p≠none→β2 p=β (τ p))∧∀ p,s2.hp p=none→β2 p=b0 p:=by
  refine ⟨fun p=>if (s2.hp p).isSome then β (τ p) else b0 p,fun p hp=>?_,fun p hp=>?_⟩
  ·cases h:s2.hp p with
   | none=>exact absurd h hp
   | some o=>simp [h]
  ·simp [hp]
 have hob:∀ p o,s2.hp p=some o→s.hp (τ p)=some (o.ren τ)∧β2 p=β (τ p):=fun p o hp=>⟨(hle.hp p o hp).1,hb p (by rw [hp];simp)⟩
 have hown:∀ b,s2.own B.A β2 b→s.own B.A β b:=by
  rintro b (hA | ⟨p,k,hp,hk,rfl⟩)
  ·exact .inl hA
  ·cases ho:s2.hp p with
   | none=>exact absurd ho hp
   | some o =>
     obtain ⟨h1,h2⟩:=hob p o ho
     exact .inr ⟨τ p,k,by rw [h1];simp,by rw [← h2];exact hk,rfl⟩
 have hr:∀ v d,Rep w.heap (s.own B.A β) v d→Rep w.heap (s2.own B.A β2) v d:=fun v d hd=>hd.mono (fun _ _ _=>rfl) (fun b _=>hown b)
 refine ⟨β2,{ tms:=h.tms,io:=h.io,size:=h.size,frame:=h.frame,slots:=fun i=>?_,objs:=fun p o hp=>?_,blocks:=fun p k hp hk=>?_,inj:=fun p q k l hp hq hk hl e=>?_,us:=hus,stay:=fun p hp=>?_ }⟩
 ·rcases hle.fr i with e | ⟨e,hu⟩
  ·rw [e];exact .un _
  ·exact (h.slots i).ren hr hob _ e hu
 ·obtain ⟨h1,h2,h3⟩:=hle.hp p o hp
  exact ⟨h3,OR.ren hr hob (hb p (by rw [hp];simp)) h2 (h.objs _ _ h1).2⟩
 ·rw [hb p hp] at hk
  cases ho:s2.hp p with
  | none=>exact absurd ho hp
  | some o=>exact h.blocks (τ p) k (by rw [(hle.hp p o ho).1];simp) hk
 ·rw [hb p hp] at hk;rw [hb q hq] at hl
  have live:∀ p,s2.hp p≠none→s.hp (τ p)≠none:=fun p hp=>by
   cases ho:s2.hp p with
   | none=>exact absurd ho hp
   | some o=>rw [(hle.hp p o ho).1];simp
  exact hle.inj p q hp hq (h.inj _ _ k l (live p hp) (live q hq) hk hl e)
 ·cases ho:s2.hp p with
  | none=>exact hb' p ho
  | some o =>
    have hpn:s2.hp p≠none:=by rw [ho];simp
    rw [hb p hpn]
    exact hst p hp hpn
theorem HCall.turn {P:Program} {G:List (Nat × Obj)} {f:FuncId} {args args2:List AV} {hp hp2:List (Name × Ob)} {u u2:List Nat} {Q Q2:AV→List (Name × Ob)→Prop} (τ σ:Name→Name) (h:HCall P G f args2 hp2 u2 Q2) (hl:args2.length=args.length)
  (hin:Le [] τ (mk (aH 0 args) hp u) (mk (aH 0 args2) hp2 u2))
  (hout:∀ r' hp',Q2 r' hp'→∃ r hh,Q r hh∧∀ ur,∃ uo,(∀ x∈u,x∈uo)∧Le [] σ (mk [(0,r')] hp' ur) (mk [(0,r)] hh uo)∧∀ p,nm u p→(mk [(0,r)] hh uo).hp p≠none→nm u2 (σ p)∧τ (σ p)=p):HCall P G f args hp u Q:=by
 refine ⟨h.1,fun B β vs w h1 h2 h3 h4 h5=>?_⟩
 obtain ⟨β2,g5⟩:=h5.le2 u2 (fun p=>β (τ p)) hin (fun x hx=>hx) (fun _ _ _=>rfl)
 refine (h.2 { B with U0:=u2,β0:=fun p=>β (τ p) } β2 vs w (h1.trans hl.symm) h2 rfl h4 g5).mono ?_
 rintro e w' ⟨v,r',hp',u',β3,he,hq,hs⟩
 obtain ⟨r,hh,hQ,ho⟩:=hout r' hp' hq
 obtain ⟨uo,ho1,ho2,ho3⟩:=ho u'
 obtain ⟨β4,g6⟩:=hs.le2 B.U0 B.β0 ho2 (by rw [h3];exact ho1) (fun p hp hpn=>by
  rw [h3] at hp
  obtain ⟨k1,k2⟩:=ho3 p hp hpn
  rw [hs.stay _ k1]
  show β (τ (σ p))=_
  rw [k2]
  exact h5.stay p (by rw [h3];exact hp))
 exact ⟨v,r,hh,uo,β4,he,hQ,g6⟩
end Go.Ab

namespace Go.Proofs.YtejpnabbmgpmaaaGreat
open Go.Ab
def RY (L:List Tok) (s:PS):List (Name × Ob):=[([200],.box [.bx [201] 0,.d (i64 s.err),.d (i64 s.pos),.d (i64 s.nest)]),([201],.box [.d (.sl (some 4) (L.map ck)),.d (i64 (atN L s)),.d (i64 s.fin)])]
set_option maxHeartbeats 1000000 in
theorem Hr {G} {N:Nat} {ex:PS→PR} (hex:∀ s,GP 1 s (ex s)) (hst:∀ s,s.err≠0→(ex s).2=s) (hc:cR 70 G N ex) (L:List Tok) (s:PS) (hf:Fit L s) (hl:L.length≤100000) (hN:s.nest=N) :
  HCall Tryz.prog G 330 [.bx [200] 0] (RY L s) [200,201] (fun r hp'=>r=.d (exD (cT ex s).1)∧hp'=RY L (cT ex s).2):=by
 have hl1:L.length≤1000000:=by omega
 generalize hR:cT ex s=R
 unfold cT at hR
 have hpk:=fH (G:=G) hf hl1
 have hnC:=Dl (G:=G) hf hl1
 have cw:=iV (G:=G) L s 5 s.peek.pos
 have hW:s.wrong=s.fail 5 s.peek.pos:=rfl
 have hE:¬ s.err=0→s.wrong=s:=fun h=>cg h
 rw [← hW] at cw
 obtain ⟨t,ht⟩:∃ t,t=s.peek:=⟨_,rfl⟩
 rw [← ht] at hpk hnC hR cw
 simp only at hR
 have hnx:s.next.nest=N:=hN
 have hfn:=hf.ss (SS.next s)
 have c1:=iq (G:=G) hf hl1 eY
 have c2:=iq (G:=G) hf hl1 cX
 have c3:=dm (G:=G) hf hl1 [40]
 have c4:=dm (G:=G) hf hl1 [123]
 have c5:=iq (G:=G) hf hl1 fg
 have cr:=DE (G:=G) hex hst hc L s.next t.pos hfn hl hnx
 have cc:=DX (G:=G) hex hst hc L s.next t.pos hfn hl hnx
 have ce:=hc L s.next hfn hl hnx
 have he:=hex s.next
 generalize ch ex s.next t.pos=R1 at hR cr
 generalize ik ex s.next t.pos=R2 at hR cc
 obtain ⟨e0,s0,h0⟩:∃ e0 s0,ex s.next=(e0,s0):=⟨_,_,rfl⟩
 rw [h0] at ce hR he
 simp only at hR ce
 have cm:=ei (G:=G) (hfn.ss he.ss) hl1 7 [41] (by decide)
 unfold exD at cr cc ce
 unfold RY
 refine ar Tryz.func330 rfl (by decide +kernel) (by simp [Tryz.ntmps330]) (veil fun E=>?_)
 simp only [go_sem]
 refine ah E (fun h=>?_) (fun h=>?_)<;>simp only [go_sem]
 ·rw [if_pos (by simpa using h),hE h] at hR
  have hno:=jO (G:=G)
  generalize noE=J at hno hR
  unfold exD at hno
  refine ag E hno rfl rfl (by simp) ?_
  rintro _ rfl
  simp only [go_sem]
  subst hR
  refine ⟨_,_,[200,201],id,⟨rfl,rfl⟩,?_⟩
  simp only [go_sem]
  all_goals first | rfl | exact ⟨rfl,rfl⟩ | exact ⟨rfl,rfl,rfl⟩
 have he0:s.err=0:=by simpa using h
 have hen:s.next.err=0:=he0
 rw [if_neg (by simpa using he0)] at hR
 refine aU E (tau [([101],[201])]) [.bx [101] 0] (TS L s) [101] (hpk) rfl (by simp only [go_sem];try rfl) ⟨by simp only [go_sem],by first | (rw [aa];decide) | (simp only [go_sem]<;>(try rw [aa])<;>decide)⟩ rfl (by unfold TS TX ae;simp only [go_sem];try rfl) (by unfold TS TX;simp only [go_sem]) ?_
 rintro _ _ ⟨rfl,rfl⟩
 unfold TS TX ae
 simp only [go_sem]
 refine ah E (fun h=>?_) (fun h=>?_)<;>simp only [go_sem]
 ·rw [if_pos h] at hR
  refine aU E (tau [([101],[201])]) [.bx [101] 0] (TS L s) [101] (hnC) rfl (by simp only [go_sem];try rfl) ⟨by simp only [go_sem],by first | (rw [aa];decide) | (simp only [go_sem]<;>(try rw [aa])<;>decide)⟩ rfl (by unfold TS TX ae;simp only [go_sem];try rfl) (by unfold TS TX;simp only [go_sem]) ?_
  rintro _ _ ⟨rfl,rfl⟩
  unfold TS TX ae
  simp only [go_sem]
  have hlf:=mf (G:=G) ({ nd0 1 t.pos with n:=t.n }) rfl rfl
  generalize bj ({ nd0 1 t.pos with n:=t.n })=J at hlf hR
  unfold ndN exD at hlf
  refine ag E hlf rfl rfl (by simp) ?_
  rintro _ rfl
  simp only [go_sem]
  subst hR
  refine ⟨_,_,[200,201],id,⟨rfl,rfl⟩,?_⟩
  simp only [go_sem]
  all_goals first | rfl | exact ⟨rfl,rfl⟩ | exact ⟨rfl,rfl,rfl⟩
 rw [if_neg h] at hR
 refine ah E (fun h=>?_) (fun h=>?_)<;>simp only [go_sem]
 ·rw [if_pos h] at hR
  refine aU E (tau [([101],[201])]) [.bx [101] 0] (TS L s) [101] (hnC) rfl (by simp only [go_sem];try rfl) ⟨by simp only [go_sem],by first | (rw [aa];decide) | (simp only [go_sem]<;>(try rw [aa])<;>decide)⟩ rfl (by unfold TS TX ae;simp only [go_sem];try rfl) (by unfold TS TX;simp only [go_sem]) ?_
  rintro _ _ ⟨rfl,rfl⟩
  unfold TS TX ae
  simp only [go_sem]
  have hlf:=mf (G:=G) ({ nd0 3 t.pos with s:=t.s }) rfl rfl
  generalize bj ({ nd0 3 t.pos with s:=t.s })=J at hlf hR
  unfold ndN exD at hlf
  refine ag E hlf rfl rfl (by simp) ?_
  rintro _ rfl
  simp only [go_sem]
  subst hR
  refine ⟨_,_,[200,201],id,⟨rfl,rfl⟩,?_⟩
  simp only [go_sem]
  all_goals first | rfl | exact ⟨rfl,rfl⟩ | exact ⟨rfl,rfl,rfl⟩
 rw [if_neg h] at hR
 refine ah E (fun h=>?_) (fun h=>?_)<;>simp only [go_sem]
 ·rw [if_pos h] at hR
  refine aU E (tau [([101],[201])]) [.bx [101] 0] (TS L s) [101] (hnC) rfl (by simp only [go_sem];try rfl) ⟨by simp only [go_sem],by first | (rw [aa];decide) | (simp only [go_sem]<;>(try rw [aa])<;>decide)⟩ rfl (by unfold TS TX ae;simp only [go_sem];try rfl) (by unfold TS TX;simp only [go_sem]) ?_
  rintro _ _ ⟨rfl,rfl⟩
  unfold TS TX ae
  simp only [go_sem]
  have hlf:=mf (G:=G) ({ nd0 4 t.pos with name:=t.s }) rfl rfl
  generalize bj ({ nd0 4 t.pos with name:=t.s })=J at hlf hR
  unfold ndN exD at hlf
  refine ag E hlf rfl rfl (by simp) ?_
  rintro _ rfl
  simp only [go_sem]
  subst hR
  refine ⟨_,_,[200,201],id,⟨rfl,rfl⟩,?_⟩
  simp only [go_sem]
  all_goals first | rfl | exact ⟨rfl,rfl⟩ | exact ⟨rfl,rfl,rfl⟩
 rw [if_neg h] at hR
 refine aU E (tau [([100],[200]),([101],[201])]) [.bx [100] 0,.d (.str eY)] (RX L s) [100,101] (c1) rfl (by simp only [go_sem];try rfl) ⟨by simp only [go_sem],by first | (rw [aa];decide) | (simp only [go_sem]<;>(try rw [aa])<;>decide)⟩ rfl (by unfold RX TS TX ae;simp only [go_sem];try rfl) (by unfold RX TS TX;simp only [go_sem]) ?_
 rintro _ _ ⟨rfl,rfl⟩
 unfold RX TS TX ae
 simp only [go_sem]
 refine aD E (fun h=>?_) (fun h=>?_)<;>simp only [go_sem]
 ·rw [if_pos h] at hR
  rw [br h]
  have hlf:=mf (G:=G) ({ nd0 2 t.pos with n:=1 }) rfl rfl
  generalize bj ({ nd0 2 t.pos with n:=1 })=J at hlf hR
  unfold ndN exD at hlf
  refine ag E hlf rfl rfl (by simp) ?_
  rintro _ rfl
  simp only [go_sem]
  subst hR
  refine ⟨_,_,[200,201],id,⟨rfl,rfl⟩,?_⟩
  simp only [go_sem]
  all_goals first | rfl | exact ⟨rfl,rfl⟩ | exact ⟨rfl,rfl,rfl⟩
 rw [if_neg (by rw [h];decide)] at hR
 rw [bP h]
 refine aU E (tau [([100],[200]),([101],[201])]) [.bx [100] 0,.d (.str cX)] (RX L s) [100,101] (c2) rfl (by simp only [go_sem];try rfl) ⟨by simp only [go_sem],by first | (rw [aa];decide) | (simp only [go_sem]<;>(try rw [aa])<;>decide)⟩ rfl (by unfold RX TS TX ae;simp only [go_sem];try rfl) (by unfold RX TS TX;simp only [go_sem]) ?_
 rintro _ _ ⟨rfl,rfl⟩
 unfold RX TS TX ae
 simp only [go_sem]
 refine aD E (fun h=>?_) (fun h=>?_)<;>simp only [go_sem]
 ·rw [if_pos h] at hR
  rw [br h]
  have hlf:=mf (G:=G) (nd0 2 t.pos) rfl rfl
  generalize bj (nd0 2 t.pos)=J at hlf hR
  unfold ndN exD at hlf
  refine ag E hlf rfl rfl (by simp) ?_
  rintro _ rfl
  simp only [go_sem]
  subst hR
  refine ⟨_,_,[200,201],id,⟨rfl,rfl⟩,?_⟩
  simp only [go_sem]
  all_goals first | rfl | exact ⟨rfl,rfl⟩ | exact ⟨rfl,rfl,rfl⟩
 rw [if_neg (by rw [h];decide)] at hR
 rw [bP h]
 refine aU E (tau [([100],[200]),([101],[201])]) [.bx [100] 0,.d (.str [40])] (RX L s) [100,101] (c3) rfl (by simp only [go_sem];try rfl) ⟨by simp only [go_sem],by first | (rw [aa];decide) | (simp only [go_sem]<;>(try rw [aa])<;>decide)⟩ rfl (by unfold RX TS TX ae;simp only [go_sem];try rfl) (by unfold RX TS TX;simp only [go_sem]) ?_
 rintro _ _ ⟨rfl,rfl⟩
 unfold RX TS TX ae
 simp only [go_sem]
 refine aD E (fun h=>?_) (fun h=>?_)<;>simp only [go_sem]
 ·rw [if_pos h] at hR
  rw [br h]
  refine aU E (tau [([100],[200]),([101],[201])]) [.bx [100] 0] (RX L s.next) [100,101] (ce) rfl (by simp only [go_sem];try rfl) ⟨by simp only [go_sem],by first | (rw [aa];decide) | (simp only [go_sem]<;>(try rw [aa])<;>decide)⟩ rfl (by unfold RX TS TX ae;simp only [go_sem];try rfl) (by unfold RX TS TX;simp only [go_sem]) ?_
  rintro _ _ ⟨rfl,rfl⟩
  unfold RX TS TX ae
  simp only [go_sem]
  refine aU E (tau [([100],[200]),([101],[201])]) [.bx [100] 0,.d (i64 7),.d (.str [41])] (RX L s0) [100,101] (cm) rfl (by simp only [go_sem];try rfl) ⟨by simp only [go_sem],by first | (rw [aa];decide) | (simp only [go_sem]<;>(try rw [aa])<;>decide)⟩ rfl (by unfold RX TS TX ae;simp only [go_sem];try rfl) (by unfold RX TS TX;simp only [go_sem]) ?_
  rintro _ _ ⟨rfl,rfl⟩
  unfold RX TS TX ae
  simp only [go_sem]
  subst hR
  refine ⟨_,_,[200,201],id,⟨rfl,rfl⟩,?_⟩
  simp only [go_sem]
  all_goals rfl
 rw [if_neg (by rw [h];decide)] at hR
 rw [bP h]
 refine aU E (tau [([100],[200]),([101],[201])]) [.bx [100] 0,.d (.str [123])] (RX L s) [100,101] (c4) rfl (by simp only [go_sem];try rfl) ⟨by simp only [go_sem],by first | (rw [aa];decide) | (simp only [go_sem]<;>(try rw [aa])<;>decide)⟩ rfl (by unfold RX TS TX ae;simp only [go_sem];try rfl) (by unfold RX TS TX;simp only [go_sem]) ?_
 rintro _ _ ⟨rfl,rfl⟩
 unfold RX TS TX ae
 simp only [go_sem]
 refine aD E (fun h=>?_) (fun h=>?_)<;>simp only [go_sem]
 ·rw [if_pos h] at hR
  rw [br h]
  refine aU E (tau [([100],[200]),([101],[201])]) [.bx [100] 0,.d (i64 t.pos)] (RX L s.next) [100,101] (cr hen) rfl (by simp only [go_sem];try rfl) ⟨by simp only [go_sem],by first | (rw [aa];decide) | (simp only [go_sem]<;>(try rw [aa])<;>decide)⟩ rfl (by unfold RX TS TX ae;simp only [go_sem];try rfl) (by unfold RX TS TX;simp only [go_sem]) ?_
  rintro _ _ ⟨rfl,rfl⟩
  unfold RX TS TX ae
  simp only [go_sem]
  subst hR
  refine ⟨_,_,[200,201],id,⟨rfl,rfl⟩,?_⟩
  simp only [go_sem]
  all_goals rfl
 rw [if_neg (by rw [h];decide)] at hR
 rw [bP h]
 refine aU E (tau [([100],[200]),([101],[201])]) [.bx [100] 0,.d (.str fg)] (RX L s) [100,101] (c5) rfl (by simp only [go_sem];try rfl) ⟨by simp only [go_sem],by first | (rw [aa];decide) | (simp only [go_sem]<;>(try rw [aa])<;>decide)⟩ rfl (by unfold RX TS TX ae;simp only [go_sem];try rfl) (by unfold RX TS TX;simp only [go_sem]) ?_
 rintro _ _ ⟨rfl,rfl⟩
 unfold RX TS TX ae
 simp only [go_sem]
 refine aD E (fun h=>?_) (fun h=>?_)<;>simp only [go_sem]
 ·rw [if_pos h] at hR
  rw [br h]
  refine aU E (tau [([100],[200]),([101],[201])]) [.bx [100] 0,.d (i64 t.pos)] (RX L s.next) [100,101] (cc hen) rfl (by simp only [go_sem];try rfl) ⟨by simp only [go_sem],by first | (rw [aa];decide) | (simp only [go_sem]<;>(try rw [aa])<;>decide)⟩ rfl (by unfold RX TS TX ae;simp only [go_sem];try rfl) (by unfold RX TS TX;simp only [go_sem]) ?_
  rintro _ _ ⟨rfl,rfl⟩
  unfold RX TS TX ae
  simp only [go_sem]
  subst hR
  refine ⟨_,_,[200,201],id,⟨rfl,rfl⟩,?_⟩
  simp only [go_sem]
  all_goals rfl
 rw [if_neg (by rw [h];decide)] at hR
 rw [bP h]
 refine aU E (tau [([100],[200]),([101],[201])]) [.bx [100] 0,.d (i64 5),.d (i64 t.pos)] (RX L s) [100,101] (cw) rfl (by simp only [go_sem];try rfl) ⟨by simp only [go_sem],by first | (rw [aa];decide) | (simp only [go_sem]<;>(try rw [aa])<;>decide)⟩ rfl (by unfold RX TS TX ae;simp only [go_sem];try rfl) (by unfold RX TS TX;simp only [go_sem]) ?_
 rintro _ _ ⟨rfl,rfl⟩
 unfold RX TS TX ae
 simp only [go_sem]
 have hno:=jO (G:=G)
 generalize noE=J at hno hR
 unfold exD at hno
 refine ag E hno rfl rfl (by simp) ?_
 rintro _ rfl
 simp only [go_sem]
 subst hR
 refine ⟨_,_,[200,201],id,⟨rfl,rfl⟩,?_⟩
 simp only [go_sem]
 all_goals first | rfl | exact ⟨rfl,rfl⟩ | exact ⟨rfl,rfl,rfl⟩
theorem EI {G} {N:Nat} {ex:PS→PR} (hex:∀ s,GP 1 s (ex s)) (hst:∀ s,s.err≠0→(ex s).2=s) (hc:cR 70 G N ex):cR 330 G N (cT ex):=by
 intro L s hf hl hN
 refine HCall.turn (tau [([200],[100]),([201],[101])]) (tau [([100],[200]),([101],[201])]) (Hr hex hst hc L s hf hl hN) rfl (LeL.le (fr:=[(0,.bx [200] 0)]) ?_) ?_
 ·unfold RX RY TS TX ae
  show LeL _ _ (mk [(0,.bx [100] 0)] _ _) _ _ _
  simp only [go_sem]
 ·rintro _ _ ⟨rfl,rfl⟩
  refine ⟨_,_,⟨rfl,rfl⟩,fun ur=>⟨[100,101],fun x h=>h,LeL.le ?_,fun p _ hne=>?_⟩⟩
  ·unfold RX RY TS TX ae
   simp only [go_sem]
  ·have hp:p=[100]∨p=[101]:=by
    refine Classical.byContradiction fun h=>hne ?_
    rw [not_or] at h
    unfold RX TS TX
    rw [F6]
    simp [lkA,h.1,h.2,Ne.symm h.1,Ne.symm h.2]
   rcases hp with rfl | rfl
   ·exact ⟨⟨200,[],rfl,by simp⟩,rfl⟩
   ·exact ⟨⟨201,[],rfl,by simp⟩,rfl⟩
end Go.Proofs.YtejpnabbmgpmaaaGreat

