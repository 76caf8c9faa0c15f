/-
  One step of a tree: the program's lesser functions. (with the parts that follow it)
-/
import Derived.Test.YtejpnabbmgpmaaaGreatDoorWSI
import Derived.Test.YtejpnabbmgpmaaaGreatDoorWSJ
import Derived.Test.YtejpnabbmgpmaaaGreatDoorWSH
import Derived.Test.YtejpnabbmgpmaaaGreatDoorWSF
import Derived.Test.YtejpnabbmgpmaaaGreatDoorWSG
import Derived.Test.YtejpnabbmgpmaaaGreatDoorWSC
import Derived.Lib.ItoaLen
set_option linter.all false
namespace Go.Proofs.YtejpnabbmgpmaaaGreatDoor
open Go.Ab
theorem Lm {ns:List EN} (ht:bx ns):∀ n∈ns,n.l.length≤900000:=fun n hn=>by have:=ht.l n hn;omega
theorem vj {ns:List EN} (ht:bx ns):∀ n∈ns,eY BIG n:=fun n hn=>by
 obtain ⟨i,hi,rfl⟩:=List.mem_iff_getElem.1 hn
 have:=ht.right i hi
 rw [bh hi] at this
 exact n8 this
theorem Jm {ns:List EN} {i:Nat} (hi:i<ns.length):(trE ns i).lab=can (ndE ns i):=Cy ns ns.length i (by omega)
end Go.Proofs.YtejpnabbmgpmaaaGreatDoor

namespace Go.Proofs.YtejpnabbmgpmaaaGreatDoor
open Go.Ab
end Go.Proofs.YtejpnabbmgpmaaaGreatDoor

namespace Go.Proofs.YtejpnabbmgpmaaaGreatDoor
open Go.Ab
theorem dF (n:EN):enD n=.agg [i64 n.k,i64 n.a,i64 n.b,i64 n.c,i64 n.n,.str n.name,.str n.s,.sl (some 3) (n.l.map fD),i64 n.pos]:=rfl
theorem yG {xs:List EN} (ht:bx xs) {i:Nat} (hi:i<xs.length) {k:Int} (hk:k∈aj (ndE xs i)):∃ a:Nat,k=(a:Int)∧a<i:=by
 obtain ⟨h1,h2⟩:=aE (aN ht) hi k hk
 exact ⟨k.toNat,by omega,by omega⟩
theorem kI {n:EN} (h:n.k=5∨n.k=12∨n.k=13):aj n=[n.a]:=by rcases h with h | h | h<;>simp [aj,h,aG,aw]
theorem cJ {n:EN} (h:n.k=6∨n.k=7∨n.k=8∨n.k=10):aj n=[n.a,n.b]:=by rcases h with h | h | h | h<;>simp [aj,h,aG,aw]
theorem kJ {n:EN} (h:n.k=9):aj n=[n.a,n.b,n.c]:=by simp [aj,h,aG,aw]
theorem Bo {n:EN} (h:n.k=11):aj n=n.l.map (·.to):=by simp [aj,h,aG,aw]
theorem vU {ks:List Int} {o:Nat} {l:List EF} {q:Nat} (hq:q<l.length) (hk:o+l.length≤ks.length):aT ks o (l.take (q+1)) 0=aT ks o (l.take q) 0++[{ fdE l q with to:=ks.getD (o+q) 0 }]:=by
 rw [List.take_succ_eq_append_getElem hq,lJ]
 simp only [aT,Nat.zero_add,List.length_take,Nat.min_eq_left (Nat.le_of_lt hq)]
 rw [if_pos (by omega),show fdE l q=l[q] by simp [fdE,hq]]
set_option maxHeartbeats 1000000 in
theorem yr {G} (n:EN) (ks:List Int) (hl:n.l.length≤900000) (hw:ks.length=aF n):HP Tryz.prog G 147 [enD n,.sl none (ks.map i64)] (fun r=>r=.d (enD (aM n ks))):=by
 have hk3:=cI n.k
 obtain ⟨a,ha⟩:∃ a,a=if 0<aG n.k then ks.getD 0 0 else 0:=⟨_,rfl⟩
 obtain ⟨b,hb⟩:∃ b,b=if 1<aG n.k then ks.getD 1 0 else 0:=⟨_,rfl⟩
 obtain ⟨c,hc⟩:∃ c,c=if 2<aG n.k then ks.getD 2 0 else 0:=⟨_,rfl⟩
 obtain ⟨L,hL⟩:∃ L,L=if aw n.k then aT ks (aG n.k) n.l 0 else []:=⟨_,rfl⟩
 have hR:aM n ks={ n with a:=a,b:=b,c:=c,l:=L }:=by rw [ha,hb,hc,hL];rfl
 rw [hR,dF n]
 rw [show enD { n with a:=a,b:=b,c:=c,l:=L }=.agg [i64 n.k,i64 a,i64 b,i64 c,i64 n.n,.str n.name,.str n.s,.sl (some 3) (L.map fD),i64 n.pos] from rfl]
 refine mN Tryz.func147 rfl (by decide +kernel) (by simp [Tryz.ntmps147]) fun B0 hB0=>?_
 refine aZ (aC fun E=>?_)
 simp only [go_sem]
 refine aZ (aC fun E=>?_)
 simp only [go_sem]
 refine aZ (aC fun E=>?_)
 simp only [go_sem]
 refine rm [5] 7 99 (some 3) _ rfl rfl (by rw [aa];decide) ?_
 simp only [go_sem]
 refine aZ (aC fun E=>?_)
 simp only [go_sem]
 refine aZ (rA [(1,.d (.sl none (ks.map i64))),(2,.bx [2] 0),(4,.bx [4] 0),(5,.bx [5] 0),(6,.d (i64 (aG n.k:Nat)))]
  [([2],.box [.d (i64 n.k),.d (i64 n.a),.d (i64 n.b),.d (i64 n.c),.d (i64 n.n),.d (.str n.name),.d (.str n.s),.d (.sl (some 3) (n.l.map fD)),.d (i64 n.pos)]),([4],.box [.d (i64 0),.d (i64 0),.d (i64 0),.d (i64 0),.d (i64 0),.d (.str []),.d (.str []),.d .nils,.d (i64 0)]),([5],.box [.d (i64 n.k),.d (i64 0),.d (i64 0),.d (i64 0),.d (i64 n.n),.d (.str n.name),.d (.str n.s),.vw [99] 0 L.length,.d (i64 n.pos)]),([99],.arr (some 3) (L.map fD))]
  [2,4,5,99] (fun E=>?_) ?_)
 ·simp only [go_sem]
  by_cases hp:n.k=11∨n.k=14
  ·have hpz:aw n.k=true:=by rcases hp with h | h<;>rw [h]<;>rfl
   rw [hpz,if_pos rfl] at hL
   have hwl:ks.length=aG n.k+n.l.length:=by rw [hw];unfold aF;rw [hpz];rfl
   have hLl:L.length=n.l.length:=by rw [hL,cD]
   rcases hp with hx | hx
   all_goals
    first
    | (rw [decide_eq_true (show n.k=11 from hx)];simp only [go_sem])
    | (rw [decide_eq_false (show ¬ n.k=11 by omega)];simp only [go_sem];rw [decide_eq_true (show n.k=14 from hx)];simp only [go_sem])
    rw [al ⟨by omega,by omega⟩,show (ks.length:Int)-(n.l.length:Int)=(aG n.k:Nat) by omega]
    refine aU E (X:={ q:Nat // q≤n.l.length }) (fun y=>[(1,.d (.sl none (ks.map i64))),(2,.bx [2] 0),(4,.bx [4] 0),(5,.bx [5] 0),(6,.d (i64 (aG n.k:Nat))),(7,.d (i64 y.1))])
     (fun y=>[([2],.box [.d (i64 n.k),.d (i64 n.a),.d (i64 n.b),.d (i64 n.c),.d (i64 n.n),.d (.str n.name),.d (.str n.s),.d (.sl (some 3) (n.l.map fD)),.d (i64 n.pos)]),([4],.box [.d (i64 0),.d (i64 0),.d (i64 0),.d (i64 0),.d (i64 0),.d (.str []),.d (.str []),.d .nils,.d (i64 0)]),([5],.box [.d (i64 n.k),.d (i64 0),.d (i64 0),.d (i64 0),.d (i64 n.n),.d (.str n.name),.d (.str n.s),.vw [99] 0 y.1,.d (i64 n.pos)]),([99],.arr (some 3) ((aT ks (aG n.k) (n.l.take y.1) 0).map fD))]) [2,4,5,99] (fun y=>n.l.length-y.1) ⟨0,Nat.zero_le _⟩ id ?_ ?_
    ·simp only [go_sem]
     all_goals first | rfl | exact ⟨rfl,rfl⟩
    rintro ⟨q,hq⟩ E0
    refine bk E0 fun Q' hQ E'=>?_
    simp only at hq ⊢
    simp only [go_sem]
    refine ai E' (fun f1=>?_) (fun f1=>?_)<;>simp only [go_sem]
    ·have hq':q<n.l.length:=by omega
     have hsn:=vU (ks:=ks) (o:=aG n.k) hq' (by omega)
     have hln:(aT ks (aG n.k) (n.l.take q) 0).length=q:=by rw [cD,List.length_take];omega
     refine ⟨by omega,?_⟩
     rw [mH hq']
     simp only [go_sem]
     rw [al (n:=((aG n.k:Nat):Int)+(q:Int)) ⟨by omega,by omega⟩]
     refine ⟨by omega,?_⟩
     rw [show (((aG n.k:Nat):Int)+(q:Int)).toNat=aG n.k+q by omega,aR (by omega)]
     simp only [go_sem]
     refine ⟨by omega,?_⟩
     rw [show List.take q (List.map fD (aT ks (aG n.k) (n.l.take q) 0))++[.agg [.str (fdE n.l q).nm,.str (fdE n.l q).var,i64 (ks.getD (aG n.k+q) 0)]]=(aT ks (aG n.k) (n.l.take (q+1)) 0).map fD by
      rw [List.take_of_length_le (by rw [List.length_map];omega),hsn,List.map_append];rfl]
     rw [al (n:=(q:Int)+1) ⟨by omega,by omega⟩,hQ]
     simp only [go_sem]
     refine ⟨⟨q+1,by omega⟩,by show n.l.length-(q+1)<_;omega,tau [([99],[51])],?_⟩
     simp only [go_sem]
     all_goals first | rfl | exact ⟨rfl,rfl⟩
    ·have h3:q=n.l.length:=by omega
     subst h3
     rw [List.take_length,← hL,hQ]
     simp only [go_sem]
     refine iQ id ?_
     rw [hLl]
     simp only [go_sem]
     all_goals first | rfl | exact ⟨rfl,rfl⟩
  ·have hpz:aw n.k=false:=by unfold aw;simp;omega
   rw [hpz,if_neg (by decide)] at hL
   have hwl:ks.length=aG n.k:=by rw [hw];exact JD hpz
   subst hL
   rw [decide_eq_false (show ¬ n.k=11 by omega)]
   simp only [go_sem]
   rw [decide_eq_false (show ¬ n.k=14 by omega)]
   simp only [go_sem]
   rw [hwl]
   refine iQ id ?_
   simp only [go_sem]
   all_goals first | rfl | exact ⟨rfl,rfl⟩
 have hwk:aG n.k≤ks.length:=by rw [hw];unfold aF;omega
 refine aZ (rA [(1,.d (.sl none (ks.map i64))),(2,.bx [2] 0),(4,.bx [4] 0),(5,.bx [5] 0),(6,.d (i64 (aG n.k:Nat)))]
  [([2],.box [.d (i64 n.k),.d (i64 n.a),.d (i64 n.b),.d (i64 n.c),.d (i64 n.n),.d (.str n.name),.d (.str n.s),.d (.sl (some 3) (n.l.map fD)),.d (i64 n.pos)]),([4],.box [.d (i64 0),.d (i64 0),.d (i64 0),.d (i64 0),.d (i64 0),.d (.str []),.d (.str []),.d .nils,.d (i64 0)]),([5],.box [.d (i64 n.k),.d (i64 a),.d (i64 0),.d (i64 0),.d (i64 n.n),.d (.str n.name),.d (.str n.s),.vw [99] 0 L.length,.d (i64 n.pos)]),([99],.arr (some 3) (L.map fD))]
  [2,4,5,99] (fun E=>?_) ?_)
 ·simp only [go_sem]
  refine ai E (fun g=>?_) (fun g=>?_)<;>simp only [go_sem]
  ·refine ⟨by omega,?_⟩
   rw [aR (by omega)]
   simp only [go_sem]
   rw [if_pos (by omega)] at ha
   rw [← ha]
   refine iQ id ?_
   simp only [go_sem]
   all_goals first | rfl | exact ⟨rfl,rfl⟩
  ·rw [if_neg (by omega)] at ha
   subst ha
   refine iQ id ?_
   simp only [go_sem]
   all_goals first | rfl | exact ⟨rfl,rfl⟩
 refine aZ (rA [(1,.d (.sl none (ks.map i64))),(2,.bx [2] 0),(4,.bx [4] 0),(5,.bx [5] 0),(6,.d (i64 (aG n.k:Nat)))]
  [([2],.box [.d (i64 n.k),.d (i64 n.a),.d (i64 n.b),.d (i64 n.c),.d (i64 n.n),.d (.str n.name),.d (.str n.s),.d (.sl (some 3) (n.l.map fD)),.d (i64 n.pos)]),([4],.box [.d (i64 0),.d (i64 0),.d (i64 0),.d (i64 0),.d (i64 0),.d (.str []),.d (.str []),.d .nils,.d (i64 0)]),([5],.box [.d (i64 n.k),.d (i64 a),.d (i64 b),.d (i64 0),.d (i64 n.n),.d (.str n.name),.d (.str n.s),.vw [99] 0 L.length,.d (i64 n.pos)]),([99],.arr (some 3) (L.map fD))]
  [2,4,5,99] (fun E=>?_) ?_)
 ·simp only [go_sem]
  refine ai E (fun g=>?_) (fun g=>?_)<;>simp only [go_sem]
  ·refine ⟨by omega,?_⟩
   rw [aR (by omega)]
   simp only [go_sem]
   rw [if_pos (by omega)] at hb
   rw [← hb]
   refine iQ id ?_
   simp only [go_sem]
   all_goals first | rfl | exact ⟨rfl,rfl⟩
  ·rw [if_neg (by omega)] at hb
   subst hb
   refine iQ id ?_
   simp only [go_sem]
   all_goals first | rfl | exact ⟨rfl,rfl⟩
 refine aZ (rA [(1,.d (.sl none (ks.map i64))),(2,.bx [2] 0),(4,.bx [4] 0),(5,.bx [5] 0),(6,.d (i64 (aG n.k:Nat)))]
  [([2],.box [.d (i64 n.k),.d (i64 n.a),.d (i64 n.b),.d (i64 n.c),.d (i64 n.n),.d (.str n.name),.d (.str n.s),.d (.sl (some 3) (n.l.map fD)),.d (i64 n.pos)]),([4],.box [.d (i64 0),.d (i64 0),.d (i64 0),.d (i64 0),.d (i64 0),.d (.str []),.d (.str []),.d .nils,.d (i64 0)]),([5],.box [.d (i64 n.k),.d (i64 a),.d (i64 b),.d (i64 c),.d (i64 n.n),.d (.str n.name),.d (.str n.s),.vw [99] 0 L.length,.d (i64 n.pos)]),([99],.arr (some 3) (L.map fD))]
  [2,4,5,99] (fun E=>?_) ?_)
 ·simp only [go_sem]
  refine ai E (fun g=>?_) (fun g=>?_)<;>simp only [go_sem]
  ·refine ⟨by omega,?_⟩
   rw [aR (by omega)]
   simp only [go_sem]
   rw [if_pos (by omega)] at hc
   rw [← hc]
   refine iQ id ?_
   simp only [go_sem]
   all_goals first | rfl | exact ⟨rfl,rfl⟩
  ·rw [if_neg (by omega)] at hc
   subst hc
   refine iQ id ?_
   simp only [go_sem]
   all_goals first | rfl | exact ⟨rfl,rfl⟩
 refine aC fun E=>?_
 simp only [go_sem]
 refine iA (.inl rfl) hB0 ?_
 simp only [go_sem]
 refine ⟨[([99],some 3,L.map fD)],?_⟩
 simp only [go_sem]
end Go.Proofs.YtejpnabbmgpmaaaGreatDoor

namespace Go.Proofs.YtejpnabbmgpmaaaGreatDoor
open Go.Ab
theorem xG {G} (n:EN):HP Tryz.prog G 109 [enD n] (fun r=>r=.d (i64 (ak n:Nat))):=by
 generalize hR:ak n=R
 rw [dF]
 refine an Tryz.func109 rfl (by decide +kernel) (by simp [Tryz.ntmps109]) (veil fun E=>?_)
 simp only [go_sem]
 refine ai E (fun h1=>?_) (fun h1=>?_)<;>simp only [go_sem]
 ·rw [decide_eq_true h1]
  simp only [go_sem]
  rw [← hR];simp [ak,h1]
 refine ai E (fun h2=>?_) (fun h2=>?_)<;>simp only [go_sem]
 ·rw [decide_eq_true h2]
  simp only [go_sem]
  rw [← hR];simp [ak,h2]
 refine ai E (fun h3=>?_) (fun h3=>?_)<;>simp only [go_sem]
 ·rw [decide_eq_true h3]
  simp only [go_sem]
  rw [← hR];simp [ak,h3]
 refine ai E (fun h4=>?_) (fun h4=>?_)<;>simp only [go_sem]
 ·rw [← hR];simp [ak,h4]
 refine ai E (fun h5=>?_) (fun h5=>?_)<;>simp only [go_sem]
 ·refine ai E (fun g1=>?_) (fun g1=>?_)<;>simp only [go_sem]
  ·rw [decide_eq_true g1]
   simp only [go_sem]
   rw [← hR];simp [ak,h5,g1]
  refine ai E (fun g2=>?_) (fun g2=>?_)<;>simp only [go_sem]
  ·rw [← hR];simp [ak,h5,g2]
  refine ai E (fun g3=>?_) (fun g3=>?_)<;>simp only [go_sem]
  ·rw [decide_eq_true g3]
   simp only [go_sem]
   rw [← hR];simp [ak,h5,g3]
  refine ai E (fun g4=>?_) (fun g4=>?_)<;>simp only [go_sem]
  ·rw [← hR];simp [ak,h5,g4]
  ·rw [← hR];simp [ak,h5,g1,g2,g3,g4]
 refine ai E (fun h6=>?_) (fun h6=>?_)<;>simp only [go_sem]
 ·rw [← hR];simp [ak,h6]
 refine ai E (fun h7=>?_) (fun h7=>?_)<;>simp only [go_sem]
 ·rw [← hR];simp [ak,h7]
 refine ai E (fun h8=>?_) (fun h8=>?_)<;>simp only [go_sem]
 ·rw [← hR];simp [ak,h8]
 ·rw [← hR];simp [ak,h1,h2,h3,h4,h5,h6,h7,h8]
theorem Di {G} (op:Int):HP Tryz.prog G 26 [i64 op] (fun r=>r=.d (.str (eZ op))):=by
 generalize hR:eZ op=R
 unfold eZ at hR
 refine an Tryz.func26 rfl (by decide +kernel) (by simp [Tryz.ntmps26]) (veil fun E=>?_)
 simp only [go_sem]
 refine ai E (fun h=>?_) (fun h=>?_)<;>simp only [go_sem]
 ·rw [← hR,if_pos h]
 rw [if_neg h] at hR
 refine ai E (fun h=>?_) (fun h=>?_)<;>simp only [go_sem]
 ·rw [← hR,if_pos h]
 rw [if_neg h] at hR
 refine ai E (fun h=>?_) (fun h=>?_)<;>simp only [go_sem]
 ·rw [← hR,if_pos h]
 rw [if_neg h] at hR
 refine ai E (fun h=>?_) (fun h=>?_)<;>simp only [go_sem]
 ·rw [← hR,if_pos h]
 rw [if_neg h] at hR
 refine ai E (fun h=>?_) (fun h=>?_)<;>simp only [go_sem]
 ·rw [← hR,if_pos h]
 rw [if_neg h] at hR
 refine ai E (fun h=>?_) (fun h=>?_)<;>simp only [go_sem]
 ·rw [← hR,if_pos h]
 rw [if_neg h] at hR
 refine ai E (fun h=>?_) (fun h=>?_)<;>simp only [go_sem]
 ·rw [← hR,if_pos h]
 rw [if_neg h] at hR
 rw [← hR]
end Go.Proofs.YtejpnabbmgpmaaaGreatDoor

namespace Go.Proofs.YtejpnabbmgpmaaaGreatDoor
open Go.Ab
variable {t:TypeId} {fz:Nat × Nat}
theorem B8 (n:Int) (hn:inR n):HP Tryz.prog (GT t fz) 95 [i64 n] (fun r=>r=.d (.str (bB n))):=by
 refine an Tryz.func95 rfl (by decide +kernel) (by simp [Tryz.ntmps95]) (veil fun E=>?_)
 have hl:=Lib.itoa_length_le n hn.1 hn.2
 simp only [go_sem]
 refine ae E (Fv n hn) rfl rfl (by simp) ?_
 rintro _ rfl
 simp only [go_sem]
 refine ae E (rV (Lib.itoa n) [45]) rfl rfl (by simp) ?_
 rintro _ rfl
 simp only [go_sem]
 by_cases h:n<0
 ·have e:Lib.itoa n=45::Lib.decDigits n.natAbs:=by simp [Lib.itoa,h]
  rw [e,show aS (45::Lib.decDigits n.natAbs) [45]=true by simp [aS]]
  rw [e] at hl
  simp only [List.length_cons] at hl
  simp only [go_sem]
  simp only [bB,h,if_true,List.drop_succ_cons,List.drop_zero]
  first | exact ⟨by omega,rfl⟩ | exact ⟨by omega,trivial⟩ | omega
 ·have e:Lib.itoa n=Lib.decDigits n.toNat:=by simp [Lib.itoa,h]
  rw [e,z6]
  simp only [go_sem]
  simp [bB,h]
end Go.Proofs.YtejpnabbmgpmaaaGreatDoor

namespace Go.Proofs.YtejpnabbmgpmaaaGreatDoor
open Go.Ab
def Writes (G:List (Nat × Obj)) (f:Nat) (args:List AV) (xs:List D) (T:List UInt8):Prop :=
 ∀ (b:Bool) (l:List UInt8),l.length+T.length≤800000000→HCall Tryz.prog G f (.bx [0] 0::args) (prS (av b) xs l) [0,1] (fun r hp'=>r=.tup []∧hp'=prM xs (l++T))
def jS (n:EN):List UInt8:=if n.k=1 then bB n.n else if n.k=2 then (if n.n=1 then cC else bF) else if n.k=3 then quS n.s else n.name
theorem Ey {tt:TypeId} {fz:Nat × Nat} (n:EN) (xs:List D) (hk:1≤n.k∧n.k≤4) (hn:inR n.n) (hs:n.s.length≤200):Writes (GT tt fz) 66 [.d (enD n)] xs (jS n):=by
 intro b l hl
 obtain ⟨X,hX⟩:∃ X,jS n=X:=⟨_,rfl⟩
 rw [hX] at hl ⊢
 unfold jS at hX
 rw [dF]
 unfold prS prM
 cases b with
 | false =>
   refine ao Tryz.func66 rfl (by decide +kernel) (by simp [Tryz.ntmps66]) (veil fun E=>?_)
   simp only [go_sem]
   refine ai E (fun h=>?_) (fun h=>?_)<;>simp only [go_sem]
   ·rw [if_pos h] at hX
    subst hX
    refine ae E (B8 n.n hn) rfl rfl (by simp) ?_
    rintro _ rfl
    simp only [go_sem]
    refine aA E [12] none ([bB n.n].map .str) rfl (by simp only [go_sem];rfl) ?_
    simp only [go_sem]
    refine ah E (tau [([1],[1])]) [.bx [0] 0,.d (.sl none ([bB n.n].map .str))] (prS (av false) xs l) [0,1] (aD false xs l [bB n.n] (by simp) (by simp) (by simp only [List.flatten_cons,List.flatten_nil,List.length_append,List.length_nil,List.length_cons];omega)) rfl rfl ⟨by simp only [go_sem],by rw [aa];decide⟩ rfl (by unfold prS;simp only [go_sem]) (by unfold prS;simp only [go_sem]) ?_
    rintro _ _ ⟨rfl,rfl⟩
    simp only [List.flatten_cons,List.flatten_nil,List.append_nil]
    unfold prM prS
    simp only [go_sem]
    refine ⟨_,_,[0,1,2],tau [([2],[13,2])],⟨rfl,rfl⟩,?_⟩
    simp only [go_sem]
   rw [if_neg h] at hX
   refine ai E (fun h2=>?_) (fun h2=>?_)<;>simp only [go_sem]
   ·rw [if_pos h2] at hX
    refine ai E (fun h3=>?_) (fun h3=>?_)<;>simp only [go_sem]
    ·rw [if_pos h3] at hX
     subst hX
     refine aA E [20] none ([cC].map .str) rfl (by simp only [go_sem];rfl) ?_
     simp only [go_sem]
     refine ah E (tau [([1],[1])]) [.bx [0] 0,.d (.sl none ([cC].map .str))] (prS (av false) xs l) [0,1] (aD false xs l [cC] (by simp) (by simp) (by simp only [List.flatten_cons,List.flatten_nil,List.length_append,List.length_nil,List.length_cons];omega)) rfl rfl ⟨by simp only [go_sem],by rw [aa];decide⟩ rfl (by unfold prS;simp only [go_sem]) (by unfold prS;simp only [go_sem]) ?_
     rintro _ _ ⟨rfl,rfl⟩
     simp only [List.flatten_cons,List.flatten_nil,List.append_nil]
     unfold prM prS
     simp only [go_sem]
     refine ⟨_,_,[0,1,2],tau [([2],[21,2])],⟨rfl,rfl⟩,?_⟩
     simp only [go_sem]
    ·rw [if_neg h3] at hX
     subst hX
     refine aA E [23] none ([bF].map .str) rfl (by simp only [go_sem];rfl) ?_
     simp only [go_sem]
     refine ah E (tau [([1],[1])]) [.bx [0] 0,.d (.sl none ([bF].map .str))] (prS (av false) xs l) [0,1] (aD false xs l [bF] (by simp) (by simp) (by simp only [List.flatten_cons,List.flatten_nil,List.length_append,List.length_nil,List.length_cons];omega)) rfl rfl ⟨by simp only [go_sem],by rw [aa];decide⟩ rfl (by unfold prS;simp only [go_sem]) (by unfold prS;simp only [go_sem]) ?_
     rintro _ _ ⟨rfl,rfl⟩
     simp only [List.flatten_cons,List.flatten_nil,List.append_nil]
     unfold prM prS
     simp only [go_sem]
     refine ⟨_,_,[0,1,2],tau [([2],[24,2])],⟨rfl,rfl⟩,?_⟩
     simp only [go_sem]
   rw [if_neg h2] at hX
   refine ai E (fun h4=>?_) (fun h4=>?_)<;>simp only [go_sem]
   ·rw [if_pos h4] at hX
    subst hX
    refine ae E (CV n.s (by omega)) rfl rfl (by simp) ?_
    rintro _ rfl
    simp only [go_sem]
    refine aA E [31] none ([quS n.s].map .str) rfl (by simp only [go_sem];rfl) ?_
    simp only [go_sem]
    refine ah E (tau [([1],[1])]) [.bx [0] 0,.d (.sl none ([quS n.s].map .str))] (prS (av false) xs l) [0,1] (aD false xs l [quS n.s] (by simp) (by simp) (by simp only [List.flatten_cons,List.flatten_nil,List.length_append,List.length_nil,List.length_cons];omega)) rfl rfl ⟨by simp only [go_sem],by rw [aa];decide⟩ rfl (by unfold prS;simp only [go_sem]) (by unfold prS;simp only [go_sem]) ?_
    rintro _ _ ⟨rfl,rfl⟩
    simp only [List.flatten_cons,List.flatten_nil,List.append_nil]
    unfold prM prS
    simp only [go_sem]
    refine ⟨_,_,[0,1,2],tau [([2],[32,2])],⟨rfl,rfl⟩,?_⟩
    simp only [go_sem]
   rw [if_neg h4] at hX
   refine ai E (fun h5=>?_) (fun h5=>?_)<;>simp only [go_sem]
   ·subst hX
    refine aA E [38] none ([n.name].map .str) rfl (by simp only [go_sem];rfl) ?_
    simp only [go_sem]
    refine ah E (tau [([1],[1])]) [.bx [0] 0,.d (.sl none ([n.name].map .str))] (prS (av false) xs l) [0,1] (aD false xs l [n.name] (by simp) (by simp) (by simp only [List.flatten_cons,List.flatten_nil,List.length_append,List.length_nil,List.length_cons];omega)) rfl rfl ⟨by simp only [go_sem],by rw [aa];decide⟩ rfl (by unfold prS;simp only [go_sem]) (by unfold prS;simp only [go_sem]) ?_
    rintro _ _ ⟨rfl,rfl⟩
    simp only [List.flatten_cons,List.flatten_nil,List.append_nil]
    unfold prM prS
    simp only [go_sem]
    refine ⟨_,_,[0,1,2],tau [([2],[39,2])],⟨rfl,rfl⟩,?_⟩
    simp only [go_sem]
   omega
 | true =>
   refine ao Tryz.func66 rfl (by decide +kernel) (by simp [Tryz.ntmps66]) (veil fun E=>?_)
   simp only [go_sem]
   refine ai E (fun h=>?_) (fun h=>?_)<;>simp only [go_sem]
   ·rw [if_pos h] at hX
    subst hX
    refine ae E (B8 n.n hn) rfl rfl (by simp) ?_
    rintro _ rfl
    simp only [go_sem]
    refine aA E [12] none ([bB n.n].map .str) rfl (by simp only [go_sem];rfl) ?_
    simp only [go_sem]
    refine ah E (tau [([1],[1])]) [.bx [0] 0,.d (.sl none ([bB n.n].map .str))] (prS (av true) xs l) [0,1] (aD true xs l [bB n.n] (by simp) (by simp) (by simp only [List.flatten_cons,List.flatten_nil,List.length_append,List.length_nil,List.length_cons];omega)) rfl rfl ⟨by simp only [go_sem],by rw [aa];decide⟩ rfl (by unfold prS;simp only [go_sem]) (by unfold prS;simp only [go_sem]) ?_
    rintro _ _ ⟨rfl,rfl⟩
    simp only [List.flatten_cons,List.flatten_nil,List.append_nil]
    unfold prM prS
    simp only [go_sem]
    refine ⟨_,_,[0,1,2],tau [([2],[13,2])],⟨rfl,rfl⟩,?_⟩
    simp only [go_sem]
   rw [if_neg h] at hX
   refine ai E (fun h2=>?_) (fun h2=>?_)<;>simp only [go_sem]
   ·rw [if_pos h2] at hX
    refine ai E (fun h3=>?_) (fun h3=>?_)<;>simp only [go_sem]
    ·rw [if_pos h3] at hX
     subst hX
     refine aA E [20] none ([cC].map .str) rfl (by simp only [go_sem];rfl) ?_
     simp only [go_sem]
     refine ah E (tau [([1],[1])]) [.bx [0] 0,.d (.sl none ([cC].map .str))] (prS (av true) xs l) [0,1] (aD true xs l [cC] (by simp) (by simp) (by simp only [List.flatten_cons,List.flatten_nil,List.length_append,List.length_nil,List.length_cons];omega)) rfl rfl ⟨by simp only [go_sem],by rw [aa];decide⟩ rfl (by unfold prS;simp only [go_sem]) (by unfold prS;simp only [go_sem]) ?_
     rintro _ _ ⟨rfl,rfl⟩
     simp only [List.flatten_cons,List.flatten_nil,List.append_nil]
     unfold prM prS
     simp only [go_sem]
     refine ⟨_,_,[0,1,2],tau [([2],[21,2])],⟨rfl,rfl⟩,?_⟩
     simp only [go_sem]
    ·rw [if_neg h3] at hX
     subst hX
     refine aA E [23] none ([bF].map .str) rfl (by simp only [go_sem];rfl) ?_
     simp only [go_sem]
     refine ah E (tau [([1],[1])]) [.bx [0] 0,.d (.sl none ([bF].map .str))] (prS (av true) xs l) [0,1] (aD true xs l [bF] (by simp) (by simp) (by simp only [List.flatten_cons,List.flatten_nil,List.length_append,List.length_nil,List.length_cons];omega)) rfl rfl ⟨by simp only [go_sem],by rw [aa];decide⟩ rfl (by unfold prS;simp only [go_sem]) (by unfold prS;simp only [go_sem]) ?_
     rintro _ _ ⟨rfl,rfl⟩
     simp only [List.flatten_cons,List.flatten_nil,List.append_nil]
     unfold prM prS
     simp only [go_sem]
     refine ⟨_,_,[0,1,2],tau [([2],[24,2])],⟨rfl,rfl⟩,?_⟩
     simp only [go_sem]
   rw [if_neg h2] at hX
   refine ai E (fun h4=>?_) (fun h4=>?_)<;>simp only [go_sem]
   ·rw [if_pos h4] at hX
    subst hX
    refine ae E (CV n.s (by omega)) rfl rfl (by simp) ?_
    rintro _ rfl
    simp only [go_sem]
    refine aA E [31] none ([quS n.s].map .str) rfl (by simp only [go_sem];rfl) ?_
    simp only [go_sem]
    refine ah E (tau [([1],[1])]) [.bx [0] 0,.d (.sl none ([quS n.s].map .str))] (prS (av true) xs l) [0,1] (aD true xs l [quS n.s] (by simp) (by simp) (by simp only [List.flatten_cons,List.flatten_nil,List.length_append,List.length_nil,List.length_cons];omega)) rfl rfl ⟨by simp only [go_sem],by rw [aa];decide⟩ rfl (by unfold prS;simp only [go_sem]) (by unfold prS;simp only [go_sem]) ?_
    rintro _ _ ⟨rfl,rfl⟩
    simp only [List.flatten_cons,List.flatten_nil,List.append_nil]
    unfold prM prS
    simp only [go_sem]
    refine ⟨_,_,[0,1,2],tau [([2],[32,2])],⟨rfl,rfl⟩,?_⟩
    simp only [go_sem]
   rw [if_neg h4] at hX
   refine ai E (fun h5=>?_) (fun h5=>?_)<;>simp only [go_sem]
   ·subst hX
    refine aA E [38] none ([n.name].map .str) rfl (by simp only [go_sem];rfl) ?_
    simp only [go_sem]
    refine ah E (tau [([1],[1])]) [.bx [0] 0,.d (.sl none ([n.name].map .str))] (prS (av true) xs l) [0,1] (aD true xs l [n.name] (by simp) (by simp) (by simp only [List.flatten_cons,List.flatten_nil,List.length_append,List.length_nil,List.length_cons];omega)) rfl rfl ⟨by simp only [go_sem],by rw [aa];decide⟩ rfl (by unfold prS;simp only [go_sem]) (by unfold prS;simp only [go_sem]) ?_
    rintro _ _ ⟨rfl,rfl⟩
    simp only [List.flatten_cons,List.flatten_nil,List.append_nil]
    unfold prM prS
    simp only [go_sem]
    refine ⟨_,_,[0,1,2],tau [([2],[39,2])],⟨rfl,rfl⟩,?_⟩
    simp only [go_sem]
   omega
end Go.Proofs.YtejpnabbmgpmaaaGreatDoor

namespace Go.Proofs.YtejpnabbmgpmaaaGreatDoor
open Go.Ab
def atX (least tg:Nat) (T:List UInt8):List UInt8:=if least≤tg then T else 40::(T++[41])
theorem KT (least tg:Nat) (T:List UInt8):(atX least tg T).length≤T.length+2∧T.length≤(atX least tg T).length:=by
 unfold atX
 split
 ·omega
 ·simp only [List.length_cons,List.length_append,List.length_nil];omega
theorem J5 {G} {ns:List EN} (_hN:ns.length≤1000000) {i:Nat} (hi:i<ns.length) {T:List UInt8} (hw:Writes G 28 [.d (i64 (i:Int))] (ns.map enD) T) (least:Nat) :
  Writes G 60 [.d (i64 (i:Int)),.d (i64 (least:Int))] (ns.map enD) (atX least (ak (ndE ns i)) T):=by
 intro b l hl
 have hg:=bO hi
 have ht:=xG (G:=G) (ndE ns i)
 rw [dF] at ht
 generalize ndE ns i=n at hg ht hl ⊢
 generalize ak n=tg at ht hl ⊢
 obtain ⟨X,hX⟩:∃ X,atX least tg T=X:=⟨_,rfl⟩
 rw [hX] at hl ⊢
 have hle:=KT least tg T
 rw [hX] at hle
 unfold atX at hX
 unfold prS prM
 cases b with
 | false =>
   refine ao Tryz.func60 rfl (by decide +kernel) (by simp [Tryz.ntmps60]) (veil fun E=>?_)
   simp only [go_sem]
   refine ⟨by omega,?_⟩
   rw [hg]
   simp only [go_sem]
   refine ae E ht rfl rfl (by simp) ?_
   rintro _ rfl
   simp only [go_sem]
   refine ai E (fun h=>?_) (fun h=>?_)<;>simp only [go_sem]
   ·rw [if_pos (by omega)] at hX
    subst hX
    refine ah E (tau [([1],[1])]) [.bx [0] 0,.d (i64 (i:Int))] (prS (av false) (ns.map enD) l) [0,1] (hw false l (by (try simp only [List.length_append,List.length_cons,List.length_nil]);omega)) rfl rfl ⟨by simp only [go_sem],by rw [aa];decide⟩ rfl (by unfold prS;simp only [go_sem]) (by unfold prS;simp only [go_sem]) ?_
    rintro _ _ ⟨rfl,rfl⟩
    unfold prM prS
    simp only [go_sem]
    refine ⟨_,_,[0,1,2],tau [([2],[19,2])],⟨rfl,rfl⟩,?_⟩
    simp only [go_sem]
   ·rw [if_neg (by omega)] at hX
    rw [← hX] at hl
    simp only [List.length_cons,List.length_append,List.length_nil] at hl
    refine aA E [21] none ([[40]].map .str) rfl (by simp only [go_sem];rfl) ?_
    simp only [go_sem]
    refine ah E (tau [([1],[1])]) [.bx [0] 0,.d (.sl none ([[40]].map .str))] (prS (av false) (ns.map enD) l) [0,1] (aD false (ns.map enD) l [[40]] (by simp) (by simp) (by simp only [List.flatten_cons,List.flatten_nil,List.length_append,List.length_nil,List.length_cons];omega)) rfl rfl ⟨by simp only [go_sem],by rw [aa];decide⟩ rfl (by unfold prS;simp only [go_sem]) (by unfold prS;simp only [go_sem]) ?_
    rintro _ _ ⟨rfl,rfl⟩
    simp only [List.flatten_cons,List.flatten_nil,List.append_nil]
    unfold prM prS
    simp only [go_sem]
    refine ah E (tau [([1],[22,2])]) [.bx [0] 0,.d (i64 (i:Int))] (prS (av true) (ns.map enD) (l++[40])) [0,1] (hw true (l++[40]) (by (try simp only [List.length_append,List.length_cons,List.length_nil]);omega)) rfl rfl ⟨by simp only [go_sem],by rw [aa];decide⟩ rfl (by unfold prS;simp only [go_sem]) (by unfold prS;simp only [go_sem]) ?_
    rintro _ _ ⟨rfl,rfl⟩
    unfold prM prS
    simp only [go_sem]
    refine aA E [27] none ([[41]].map .str) rfl (by simp only [go_sem];rfl) ?_
    simp only [go_sem]
    refine ah E (tau [([1],[25,2])]) [.bx [0] 0,.d (.sl none ([[41]].map .str))] (prS (av true) (ns.map enD) (l++[40]++T)) [0,1] (aD true (ns.map enD) (l++[40]++T) [[41]] (by simp) (by simp) (by simp only [List.flatten_cons,List.flatten_nil,List.length_append,List.length_nil,List.length_cons];omega)) rfl rfl ⟨by simp only [go_sem],by rw [aa];decide⟩ rfl (by unfold prS;simp only [go_sem]) (by unfold prS;simp only [go_sem]) ?_
    rintro _ _ ⟨rfl,rfl⟩
    simp only [List.flatten_cons,List.flatten_nil,List.append_nil]
    unfold prM prS
    simp only [go_sem]
    rw [show l++[40]++T++[41]=l++X by rw [← hX];simp]
    refine ⟨_,_,[0,1,2],tau [([2],[28,2])],⟨rfl,rfl⟩,?_⟩
    simp only [go_sem]
 | true =>
   refine ao Tryz.func60 rfl (by decide +kernel) (by simp [Tryz.ntmps60]) (veil fun E=>?_)
   simp only [go_sem]
   refine ⟨by omega,?_⟩
   rw [hg]
   simp only [go_sem]
   refine ae E ht rfl rfl (by simp) ?_
   rintro _ rfl
   simp only [go_sem]
   refine ai E (fun h=>?_) (fun h=>?_)<;>simp only [go_sem]
   ·rw [if_pos (by omega)] at hX
    subst hX
    refine ah E (tau [([1],[1])]) [.bx [0] 0,.d (i64 (i:Int))] (prS (av true) (ns.map enD) l) [0,1] (hw true l (by (try simp only [List.length_append,List.length_cons,List.length_nil]);omega)) rfl rfl ⟨by simp only [go_sem],by rw [aa];decide⟩ rfl (by unfold prS;simp only [go_sem]) (by unfold prS;simp only [go_sem]) ?_
    rintro _ _ ⟨rfl,rfl⟩
    unfold prM prS
    simp only [go_sem]
    refine ⟨_,_,[0,1,2],tau [([2],[19,2])],⟨rfl,rfl⟩,?_⟩
    simp only [go_sem]
   ·rw [if_neg (by omega)] at hX
    rw [← hX] at hl
    simp only [List.length_cons,List.length_append,List.length_nil] at hl
    refine aA E [21] none ([[40]].map .str) rfl (by simp only [go_sem];rfl) ?_
    simp only [go_sem]
    refine ah E (tau [([1],[1])]) [.bx [0] 0,.d (.sl none ([[40]].map .str))] (prS (av true) (ns.map enD) l) [0,1] (aD true (ns.map enD) l [[40]] (by simp) (by simp) (by simp only [List.flatten_cons,List.flatten_nil,List.length_append,List.length_nil,List.length_cons];omega)) rfl rfl ⟨by simp only [go_sem],by rw [aa];decide⟩ rfl (by unfold prS;simp only [go_sem]) (by unfold prS;simp only [go_sem]) ?_
    rintro _ _ ⟨rfl,rfl⟩
    simp only [List.flatten_cons,List.flatten_nil,List.append_nil]
    unfold prM prS
    simp only [go_sem]
    refine ah E (tau [([1],[22,2])]) [.bx [0] 0,.d (i64 (i:Int))] (prS (av true) (ns.map enD) (l++[40])) [0,1] (hw true (l++[40]) (by (try simp only [List.length_append,List.length_cons,List.length_nil]);omega)) rfl rfl ⟨by simp only [go_sem],by rw [aa];decide⟩ rfl (by unfold prS;simp only [go_sem]) (by unfold prS;simp only [go_sem]) ?_
    rintro _ _ ⟨rfl,rfl⟩
    unfold prM prS
    simp only [go_sem]
    refine aA E [27] none ([[41]].map .str) rfl (by simp only [go_sem];rfl) ?_
    simp only [go_sem]
    refine ah E (tau [([1],[25,2])]) [.bx [0] 0,.d (.sl none ([[41]].map .str))] (prS (av true) (ns.map enD) (l++[40]++T)) [0,1] (aD true (ns.map enD) (l++[40]++T) [[41]] (by simp) (by simp) (by simp only [List.flatten_cons,List.flatten_nil,List.length_append,List.length_nil,List.length_cons];omega)) rfl rfl ⟨by simp only [go_sem],by rw [aa];decide⟩ rfl (by unfold prS;simp only [go_sem]) (by unfold prS;simp only [go_sem]) ?_
    rintro _ _ ⟨rfl,rfl⟩
    simp only [List.flatten_cons,List.flatten_nil,List.append_nil]
    unfold prM prS
    simp only [go_sem]
    rw [show l++[40]++T++[41]=l++X by rw [← hX];simp]
    refine ⟨_,_,[0,1,2],tau [([2],[28,2])],⟨rfl,rfl⟩,?_⟩
    simp only [go_sem]
theorem rS {G} {ns:List EN} (n:EN) (word:List UInt8) {T1 T2:List UInt8} (h1:Writes G 60 [.d (i64 n.a),.d (i64 0)] (ns.map enD) T1) (h2:Writes G 60 [.d (i64 n.b),.d (i64 0)] (ns.map enD) T2) :
  Writes G 61 [.d (enD n),.d (.str word)] (ns.map enD) (word++(n.name++([32,61,32]++(T1++([32,105,110,32]++T2))))):=by
 intro b l hl
 obtain ⟨X,hX⟩:∃ X,X=word++(n.name++([32,61,32]++(T1++([32,105,110,32]++T2)))):=⟨_,rfl⟩
 rw [← hX]
 simp only [List.length_cons,List.length_append,List.length_nil] at hl
 rw [dF]
 unfold prS prM
 cases b with
 | false =>
   refine ao Tryz.func61 rfl (by decide +kernel) (by simp [Tryz.ntmps61]) (veil fun E=>?_)
   simp only [go_sem]
   refine aA E [10] none ([word,n.name,[32,61,32]].map .str) rfl (by simp only [go_sem];rfl) ?_
   simp only [go_sem]
   refine ah E (tau [([1],[1])]) [.bx [0] 0,.d (.sl none ([word,n.name,[32,61,32]].map .str))] (prS (av false) (ns.map enD) l) [0,1] (aD false (ns.map enD) l [word,n.name,[32,61,32]] (by simp) (by simp) (by simp only [List.flatten_cons,List.flatten_nil,List.length_append,List.length_nil,List.length_cons];omega)) rfl rfl ⟨by simp only [go_sem],by rw [aa];decide⟩ rfl (by unfold prS;simp only [go_sem]) (by unfold prS;simp only [go_sem]) ?_
   rintro _ _ ⟨rfl,rfl⟩
   simp only [List.flatten_cons,List.flatten_nil,List.append_nil]
   unfold prM prS
   simp only [go_sem]
   refine ah E (tau [([1],[11,2])]) [.bx [0] 0,.d (i64 n.a),.d (i64 0)] (prS (av true) (ns.map enD) (l++(word++(n.name++[32,61,32])))) [0,1] (h1 true (l++(word++(n.name++[32,61,32]))) (by (try simp only [List.length_append,List.length_cons,List.length_nil]);omega)) rfl rfl ⟨by simp only [go_sem],by rw [aa];decide⟩ rfl (by unfold prS;simp only [go_sem]) (by unfold prS;simp only [go_sem]) ?_
   rintro _ _ ⟨rfl,rfl⟩
   unfold prM prS
   simp only [go_sem]
   refine aA E [17] none ([[32,105,110,32]].map .str) rfl (by simp only [go_sem];rfl) ?_
   simp only [go_sem]
   refine ah E (tau [([1],[15,2])]) [.bx [0] 0,.d (.sl none ([[32,105,110,32]].map .str))] (prS (av true) (ns.map enD) (l++(word++(n.name++[32,61,32]))++T1)) [0,1] (aD true (ns.map enD) (l++(word++(n.name++[32,61,32]))++T1) [[32,105,110,32]] (by simp) (by simp) (by simp only [List.flatten_cons,List.flatten_nil,List.length_append,List.length_nil,List.length_cons];omega)) rfl rfl ⟨by simp only [go_sem],by rw [aa];decide⟩ rfl (by unfold prS;simp only [go_sem]) (by unfold prS;simp only [go_sem]) ?_
   rintro _ _ ⟨rfl,rfl⟩
   simp only [List.flatten_cons,List.flatten_nil,List.append_nil]
   unfold prM prS
   simp only [go_sem]
   refine ah E (tau [([1],[18,2])]) [.bx [0] 0,.d (i64 n.b),.d (i64 0)] (prS (av true) (ns.map enD) (l++(word++(n.name++[32,61,32]))++T1++[32,105,110,32])) [0,1] (h2 true (l++(word++(n.name++[32,61,32]))++T1++[32,105,110,32]) (by (try simp only [List.length_append,List.length_cons,List.length_nil]);omega)) rfl rfl ⟨by simp only [go_sem],by rw [aa];decide⟩ rfl (by unfold prS;simp only [go_sem]) (by unfold prS;simp only [go_sem]) ?_
   rintro _ _ ⟨rfl,rfl⟩
   unfold prM prS
   simp only [go_sem]
   rw [show l++(word++(n.name++[32,61,32]))++T1++[32,105,110,32]++T2=l++X by rw [hX];simp]
   refine ⟨_,_,[0,1,2],tau [([2],[22,2])],⟨rfl,rfl⟩,?_⟩
   simp only [go_sem]
 | true =>
   refine ao Tryz.func61 rfl (by decide +kernel) (by simp [Tryz.ntmps61]) (veil fun E=>?_)
   simp only [go_sem]
   refine aA E [10] none ([word,n.name,[32,61,32]].map .str) rfl (by simp only [go_sem];rfl) ?_
   simp only [go_sem]
   refine ah E (tau [([1],[1])]) [.bx [0] 0,.d (.sl none ([word,n.name,[32,61,32]].map .str))] (prS (av true) (ns.map enD) l) [0,1] (aD true (ns.map enD) l [word,n.name,[32,61,32]] (by simp) (by simp) (by simp only [List.flatten_cons,List.flatten_nil,List.length_append,List.length_nil,List.length_cons];omega)) rfl rfl ⟨by simp only [go_sem],by rw [aa];decide⟩ rfl (by unfold prS;simp only [go_sem]) (by unfold prS;simp only [go_sem]) ?_
   rintro _ _ ⟨rfl,rfl⟩
   simp only [List.flatten_cons,List.flatten_nil,List.append_nil]
   unfold prM prS
   simp only [go_sem]
   refine ah E (tau [([1],[11,2])]) [.bx [0] 0,.d (i64 n.a),.d (i64 0)] (prS (av true) (ns.map enD) (l++(word++(n.name++[32,61,32])))) [0,1] (h1 true (l++(word++(n.name++[32,61,32]))) (by (try simp only [List.length_append,List.length_cons,List.length_nil]);omega)) rfl rfl ⟨by simp only [go_sem],by rw [aa];decide⟩ rfl (by unfold prS;simp only [go_sem]) (by unfold prS;simp only [go_sem]) ?_
   rintro _ _ ⟨rfl,rfl⟩
   unfold prM prS
   simp only [go_sem]
   refine aA E [17] none ([[32,105,110,32]].map .str) rfl (by simp only [go_sem];rfl) ?_
   simp only [go_sem]
   refine ah E (tau [([1],[15,2])]) [.bx [0] 0,.d (.sl none ([[32,105,110,32]].map .str))] (prS (av true) (ns.map enD) (l++(word++(n.name++[32,61,32]))++T1)) [0,1] (aD true (ns.map enD) (l++(word++(n.name++[32,61,32]))++T1) [[32,105,110,32]] (by simp) (by simp) (by simp only [List.flatten_cons,List.flatten_nil,List.length_append,List.length_nil,List.length_cons];omega)) rfl rfl ⟨by simp only [go_sem],by rw [aa];decide⟩ rfl (by unfold prS;simp only [go_sem]) (by unfold prS;simp only [go_sem]) ?_
   rintro _ _ ⟨rfl,rfl⟩
   simp only [List.flatten_cons,List.flatten_nil,List.append_nil]
   unfold prM prS
   simp only [go_sem]
   refine ah E (tau [([1],[18,2])]) [.bx [0] 0,.d (i64 n.b),.d (i64 0)] (prS (av true) (ns.map enD) (l++(word++(n.name++[32,61,32]))++T1++[32,105,110,32])) [0,1] (h2 true (l++(word++(n.name++[32,61,32]))++T1++[32,105,110,32]) (by (try simp only [List.length_append,List.length_cons,List.length_nil]);omega)) rfl rfl ⟨by simp only [go_sem],by rw [aa];decide⟩ rfl (by unfold prS;simp only [go_sem]) (by unfold prS;simp only [go_sem]) ?_
   rintro _ _ ⟨rfl,rfl⟩
   unfold prM prS
   simp only [go_sem]
   rw [show l++(word++(n.name++[32,61,32]))++T1++[32,105,110,32]++T2=l++X by rw [hX];simp]
   refine ⟨_,_,[0,1,2],tau [([2],[22,2])],⟨rfl,rfl⟩,?_⟩
   simp only [go_sem]
theorem CG {G} {ns:List EN} (n:EN) {T1 T2:List UInt8} (h1:Writes G 60 [.d (i64 n.a),.d (i64 ((max (ak n) 2:Nat):Int))] (ns.map enD) T1) (h2:Writes G 60 [.d (i64 n.b),.d (i64 ((ak n+1:Nat):Int))] (ns.map enD) T2) :
  Writes G 62 [.d (enD n)] (ns.map enD) (T1++([32]++(eZ n.n++([32]++T2)))):=by
 intro b l hl
 have ht:=xG (G:=G) n
 have hsg:=Di (G:=G) n.n
 rw [dF] at ht ⊢
 have htl:ak n≤7:=by unfold ak;(repeat' split)<;>omega
 generalize ak n=tg at ht h1 h2 htl
 generalize eZ n.n=sg at hsg hl ⊢
 have hmx:(if (tg:Int)<2 then 2 else (tg:Int))=((max tg 2:Nat):Int):=by split<;>omega
 obtain ⟨X,hX⟩:∃ X,X=T1++([32]++(sg++([32]++T2))):=⟨_,rfl⟩
 rw [← hX]
 simp only [List.length_cons,List.length_append,List.length_nil] at hl
 unfold prS prM
 cases b with
 | false =>
   refine ao Tryz.func62 rfl (by decide +kernel) (by simp [Tryz.ntmps62]) (veil fun E=>?_)
   simp only [go_sem]
   refine ae E ht rfl rfl (by simp) ?_
   rintro _ rfl
   simp only [go_sem]
   rw [hmx]
   refine ah E (tau [([1],[1])]) [.bx [0] 0,.d (i64 n.a),.d (i64 ((max tg 2:Nat):Int))] (prS (av false) (ns.map enD) l) [0,1] (h1 false l (by (try simp only [List.length_append,List.length_cons,List.length_nil]);omega)) rfl rfl ⟨by simp only [go_sem],by rw [aa];decide⟩ rfl (by unfold prS;simp only [go_sem]) (by unfold prS;simp only [go_sem]) ?_
   rintro _ _ ⟨rfl,rfl⟩
   unfold prM prS
   simp only [go_sem]
   refine ae E hsg rfl rfl (by simp) ?_
   rintro _ rfl
   simp only [go_sem]
   refine aA E [17] none ([[32],sg,[32]].map .str) rfl (by simp only [go_sem];rfl) ?_
   simp only [go_sem]
   refine ah E (tau [([1],[12,2])]) [.bx [0] 0,.d (.sl none ([[32],sg,[32]].map .str))] (prS (av true) (ns.map enD) (l++T1)) [0,1] (aD true (ns.map enD) (l++T1) [[32],sg,[32]] (by simp) (by simp) (by simp only [List.flatten_cons,List.flatten_nil,List.length_append,List.length_nil,List.length_cons];omega)) rfl rfl ⟨by simp only [go_sem],by rw [aa];decide⟩ rfl (by unfold prS;simp only [go_sem]) (by unfold prS;simp only [go_sem]) ?_
   rintro _ _ ⟨rfl,rfl⟩
   simp only [List.flatten_cons,List.flatten_nil,List.append_nil]
   unfold prM prS
   simp only [go_sem]
   rw [al (n:=(tg:Int)+1) ⟨by omega,by omega⟩,show (tg:Int)+1=((tg+1:Nat):Int) by omega]
   refine ah E (tau [([1],[18,2])]) [.bx [0] 0,.d (i64 n.b),.d (i64 ((tg+1:Nat):Int))] (prS (av true) (ns.map enD) (l++T1++32::(sg++[32]))) [0,1] (h2 true (l++T1++32::(sg++[32])) (by (try simp only [List.length_append,List.length_cons,List.length_nil]);omega)) rfl rfl ⟨by simp only [go_sem],by rw [aa];decide⟩ rfl (by unfold prS;simp only [go_sem]) (by unfold prS;simp only [go_sem]) ?_
   rintro _ _ ⟨rfl,rfl⟩
   unfold prM prS
   simp only [go_sem]
   rw [show l++T1++32::(sg++[32])++T2=l++X by rw [hX];simp]
   refine ⟨_,_,[0,1,2],tau [([2],[24,2])],⟨rfl,rfl⟩,?_⟩
   simp only [go_sem]
 | true =>
   refine ao Tryz.func62 rfl (by decide +kernel) (by simp [Tryz.ntmps62]) (veil fun E=>?_)
   simp only [go_sem]
   refine ae E ht rfl rfl (by simp) ?_
   rintro _ rfl
   simp only [go_sem]
   rw [hmx]
   refine ah E (tau [([1],[1])]) [.bx [0] 0,.d (i64 n.a),.d (i64 ((max tg 2:Nat):Int))] (prS (av true) (ns.map enD) l) [0,1] (h1 true l (by (try simp only [List.length_append,List.length_cons,List.length_nil]);omega)) rfl rfl ⟨by simp only [go_sem],by rw [aa];decide⟩ rfl (by unfold prS;simp only [go_sem]) (by unfold prS;simp only [go_sem]) ?_
   rintro _ _ ⟨rfl,rfl⟩
   unfold prM prS
   simp only [go_sem]
   refine ae E hsg rfl rfl (by simp) ?_
   rintro _ rfl
   simp only [go_sem]
   refine aA E [17] none ([[32],sg,[32]].map .str) rfl (by simp only [go_sem];rfl) ?_
   simp only [go_sem]
   refine ah E (tau [([1],[12,2])]) [.bx [0] 0,.d (.sl none ([[32],sg,[32]].map .str))] (prS (av true) (ns.map enD) (l++T1)) [0,1] (aD true (ns.map enD) (l++T1) [[32],sg,[32]] (by simp) (by simp) (by simp only [List.flatten_cons,List.flatten_nil,List.length_append,List.length_nil,List.length_cons];omega)) rfl rfl ⟨by simp only [go_sem],by rw [aa];decide⟩ rfl (by unfold prS;simp only [go_sem]) (by unfold prS;simp only [go_sem]) ?_
   rintro _ _ ⟨rfl,rfl⟩
   simp only [List.flatten_cons,List.flatten_nil,List.append_nil]
   unfold prM prS
   simp only [go_sem]
   rw [al (n:=(tg:Int)+1) ⟨by omega,by omega⟩,show (tg:Int)+1=((tg+1:Nat):Int) by omega]
   refine ah E (tau [([1],[18,2])]) [.bx [0] 0,.d (i64 n.b),.d (i64 ((tg+1:Nat):Int))] (prS (av true) (ns.map enD) (l++T1++32::(sg++[32]))) [0,1] (h2 true (l++T1++32::(sg++[32])) (by (try simp only [List.length_append,List.length_cons,List.length_nil]);omega)) rfl rfl ⟨by simp only [go_sem],by rw [aa];decide⟩ rfl (by unfold prS;simp only [go_sem]) (by unfold prS;simp only [go_sem]) ?_
   rintro _ _ ⟨rfl,rfl⟩
   unfold prM prS
   simp only [go_sem]
   rw [show l++T1++32::(sg++[32])++T2=l++X by rw [hX];simp]
   refine ⟨_,_,[0,1,2],tau [([2],[24,2])],⟨rfl,rfl⟩,?_⟩
   simp only [go_sem]
end Go.Proofs.YtejpnabbmgpmaaaGreatDoor

namespace Go.Proofs.YtejpnabbmgpmaaaGreatDoor
open Go.Ab
def VT.cs (v:VT):List D:=[i64 v.k,i64 v.n,.str v.s,.sl (some 5) v.ps]
end Go.Proofs.YtejpnabbmgpmaaaGreatDoor

namespace Go.Proofs.YtejpnabbmgpmaaaGreatDoor
open Go.Ab
mutual
def VT.pl:VT→Bool
 | .mk k _ _ _ vs=>VT.pls vs && decide (k≠4)
def VT.pls:List VT→Bool
 | []=>true
 | v::r=>v.pl && VT.pls r
end
structure Bare (v:VT):Prop where
 k:1≤v.k∧v.k≤6
 leaf:v.k≤4→v.nms=[]∧v.vs=[]
 s:v.k≠3→v.k≠6→v.s=[]
 n:v.k≠1→v.k≠2→v.n=0
 b:v.k=2→v.n=0∨v.n=1
 r:v.k=5→v.nms.all bD=true
 t:v.k=6→dQ v.s=true∧v.nms=[[]]∧∃ u,v.vs=[u]
end Go.Proofs.YtejpnabbmgpmaaaGreatDoor

namespace Go.Proofs.YtejpnabbmgpmaaaGreatDoor
open Go.Ab
end Go.Proofs.YtejpnabbmgpmaaaGreatDoor

namespace Go.Proofs.YtejpnabbmgpmaaaGreatDoor
open Go.Ab
mutual
def VT.fine:VT→Prop
 | .mk _ n s _ vs=>(inR n∧s.length≤200000)∧VT.fines vs
def VT.fines:List VT→Prop
 | []=>True
 | v::r=>v.fine∧VT.fines r
end
theorem kM (sep:List UInt8):∀ (l:List (List UInt8)) (i:Nat),((l.take i).flatMap (sep++·)).length≤(l.flatMap (sep++·)).length
 | [],i=>by rw [List.take_nil];exact Nat.le_refl _
 | a::l,0=>by rw [List.take_zero];exact Nat.zero_le _
 | a::l,i+1=>by
   rw [List.take_succ_cons,List.flatMap_cons,List.flatMap_cons]
   simp only [List.length_append]
   have:=kM sep l i
   omega
theorem rW (sep:List UInt8) (l:List (List UInt8)) (i:Nat):(bW sep (l.take i)).length≤(bW sep l).length:=by
 cases l with
 | nil=>rw [List.take_nil];exact Nat.le_refl _
 | cons a l =>
   cases i with
   | zero=>rw [List.take_zero];exact Nat.zero_le _
   | succ i =>
     rw [List.take_succ_cons,bW,bW,List.length_append,List.length_append]
     have:=kM sep l i
     omega
theorem Ah (sep:List UInt8) {l:List (List UInt8)} {i:Nat} {x:List UInt8} (hx:l[i]?=some x):bW sep (l.take (i+1))=if i=0 then x else bW sep (l.take i)++sep++x:=by
 obtain ⟨hi,hx⟩:=List.getElem?_eq_some_iff.1 hx
 cases l with
 | nil=>simp at hi
 | cons a l =>
   cases i with
   | zero =>
     simp only [List.getElem_cons_zero] at hx
     simp [bW,hx]
   | succ i =>
     simp only [List.getElem_cons_succ,List.length_cons] at hx hi
     rw [List.take_succ_cons,List.take_succ_cons,bW,bW,List.take_succ_eq_append_getElem (by omega),List.flatMap_append,if_neg (by omega),hx]
     simp [List.append_assoc]
end Go.Proofs.YtejpnabbmgpmaaaGreatDoor

namespace Go.Proofs.YtejpnabbmgpmaaaGreatDoor
open Go.Ab
def prC (a:AV) (xs:List D) (l:List UInt8):List (Name × Ob):=([105],.box [.bx [0] 0])::prS a xs l
def lM (xs:List D) (l:List UInt8):List (Name × Ob):=([105],.box [.bx [0] 0])::prM xs l
def Heads (G:List (Nat × Obj)) (f:Nat) (hd:EF→List UInt8) (xs:List D):Prop :=
 ∀ (q:EF) (l:List UInt8),l.length+(hd q).length≤800000000→HCall Tryz.prog G f [.d (fD q),.bx [105] 0] (prC (av true) xs l) [0,1,105] (fun r hp'=>r=.tup []∧hp'=lM xs (l++hd q))
def hdR (q:EF):List UInt8:=q.nm++[32,61,32]
def hdB (q:EF):List UInt8:=q.nm++([32]++(q.var++[32,45,62,32]))
theorem A8 {G} (xs:List D):Heads G 64 hdR xs:=by
 intro q l hl
 unfold hdR at *
 simp only [List.length_append,List.length_cons,List.length_nil] at hl
 unfold prC lM prS prM fD
 refine ao Tryz.func64 rfl (by decide +kernel) (by simp [Tryz.ntmps64]) (veil fun E=>?_)
 simp only [go_sem]
 refine aA E [6] none ([q.nm,[32,61,32]].map .str) rfl (by simp only [go_sem];rfl) ?_
 simp only [go_sem]
 refine ah E (tau [([1],[1])]) [.bx [0] 0,.d (.sl none ([q.nm,[32,61,32]].map .str))] (prS (av true) xs l) [0,1] (aD true xs l [q.nm,[32,61,32]] (by simp) (by simp) (by simp only [List.flatten_cons,List.flatten_nil,List.length_append,List.length_nil,List.length_cons];omega)) rfl rfl ⟨by simp only [go_sem],by rw [aa];decide⟩ rfl (by unfold prS;simp only [go_sem]) (by unfold prS;simp only [go_sem]) ?_
 rintro _ _ ⟨rfl,rfl⟩
 simp only [List.flatten_cons,List.flatten_nil,List.append_nil]
 unfold prM prS
 simp only [go_sem]
 refine ⟨_,_,[0,1,2,105],tau [([2],[7,2])],⟨rfl,rfl⟩,?_⟩
 simp only [go_sem]
theorem Eo {G} (xs:List D):Heads G 65 hdB xs:=by
 intro q l hl
 unfold hdB at *
 simp only [List.length_append,List.length_cons,List.length_nil] at hl
 unfold prC lM prS prM fD
 refine ao Tryz.func65 rfl (by decide +kernel) (by simp [Tryz.ntmps65]) (veil fun E=>?_)
 simp only [go_sem]
 refine aA E [8] none ([q.nm,[32],q.var,[32,45,62,32]].map .str) rfl (by simp only [go_sem];rfl) ?_
 simp only [go_sem]
 refine ah E (tau [([1],[1])]) [.bx [0] 0,.d (.sl none ([q.nm,[32],q.var,[32,45,62,32]].map .str))] (prS (av true) xs l) [0,1] (aD true xs l [q.nm,[32],q.var,[32,45,62,32]] (by simp) (by simp) (by simp only [List.flatten_cons,List.flatten_nil,List.length_append,List.length_nil,List.length_cons];omega)) rfl rfl ⟨by simp only [go_sem],by rw [aa];decide⟩ rfl (by unfold prS;simp only [go_sem]) (by unfold prS;simp only [go_sem]) ?_
 rintro _ _ ⟨rfl,rfl⟩
 simp only [List.flatten_cons,List.flatten_nil,List.append_nil]
 unfold prM prS
 simp only [go_sem]
 refine ⟨_,_,[0,1,2,105],tau [([2],[9,2])],⟨rfl,rfl⟩,?_⟩
 simp only [go_sem]
def iK (hd:EF→List UInt8) (L:List EF) (Ts:List (List UInt8)):List (List UInt8):=List.zipWith (fun q T=>hd q++T) L Ts
theorem Hq {hd:EF→List UInt8} {L:List EF} {Ts:List (List UInt8)} (hl:L.length=Ts.length) {i:Nat} (hi:i<L.length):(iK hd L Ts)[i]?=some (hd (fdE L i)++Ts.getD i []):=by
 have hfq:L[i]=fdE L i:=by simp [fdE,hi]
 unfold iK
 rw [List.getElem?_zipWith,List.getElem?_eq_getElem hi,List.getElem?_eq_getElem (by omega),hfq,List.getD_eq_getElem?_getD,List.getElem?_eq_getElem (show i<Ts.length by omega)]
 rfl
theorem G2 {hd:EF→List UInt8} {L:List EF} {Ts:List (List UInt8)} (hl:L.length=Ts.length):(iK hd L Ts).length=L.length:=by
 unfold iK
 rw [List.length_zipWith,← hl,Nat.min_self]
theorem sD {G} {f:Nat} {hd:EF→List UInt8} (xs:List D) (hC:Heads G f hd xs) (sep:List UInt8) (L:List EF) (Ts:List (List UInt8)) (hl:L.length=Ts.length) (hn:L.length≤1000) (_hs:sep.length≤100)
  (hW:∀ i,i<L.length→Writes G 60 [.d (i64 (fdE L i).to),.d (i64 0)] xs (Ts.getD i [])) (l:List UInt8) (hB:l.length+(bW sep (iK hd L Ts)).length≤800000000) :
  HCall Tryz.prog G 63 [.bx [0] 0,.d (.sl (some 3) (L.map fD)),.d (.str sep),.clo f [.bx [105] 0]] (prC (av true) xs l) [0,1,105] (fun r hp'=>r=.tup []∧hp'=lM xs (l++bW sep (iK hd L Ts))):=by
 have hil:=G2 (hd:=hd) hl
 have hig:=fun i (hi:i<L.length)=>Hq (hd:=hd) hl hi
 have hst:=fun i (hi:i<L.length)=>Ah sep (hig i hi)
 have hle:=rW sep (iK hd L Ts)
 have hfull:(iK hd L Ts).take L.length=iK hd L Ts:=by rw [← hil,List.take_length]
 generalize iK hd L Ts=I at *
 unfold prC lM prS prM
 refine ao Tryz.func63 rfl (by decide +kernel) (by simp [Tryz.ntmps63]) (veil fun E=>?_)
 simp only [go_sem]
 refine aU E (X:={ i:Nat // i≤L.length }) (fun x=>[(0,.bx [0] 0),(2,.d (.str sep)),(3,.clo f [.bx [105] 0]),(10,.d (.sl (some 3) (L.map fD))),(11,.d (i64 (L.length:Nat))),(12,.d (i64 x.1))])
  (fun x=>[([105],.box [.bx [0] 0]),([0],.boxT (some 55) [.d (.sl (some 9) xs),.bx [0] 1,.vw [98] 0 (l++bW sep (I.take x.1)).length]),([98],.arrT (some 5) none ((l++bW sep (I.take x.1)).map byD))]) [0,1,98,105] (fun x=>L.length-x.1) ⟨0,Nat.zero_le _⟩ (tau [([98],[1])]) ?_ ?_
 ·rw [List.take_zero,show bW sep []=[] from rfl,List.append_nil]
  simp only [go_sem]
  all_goals ((repeat' apply And.intro)<;>first | rfl | trivial)
 rintro ⟨i,hi⟩ E0
 refine bk E0 fun Q' hQ E'=>?_
 simp only at hi ⊢
 have hle0:=hle i
 have hle1:=hle (i+1)
 have hst0:=hst i
 generalize hacc:l++bW sep (I.take i)=acc
 have hal:acc.length=l.length+(bW sep (I.take i)).length:=by rw [← hacc,List.length_append]
 simp only [go_sem]
 refine ai E' (fun g=>?_) (fun g=>?_)<;>simp only [go_sem]
 ·have hi':i<L.length:=by omega
  have hst1:=hst0 hi'
  have hW:=hW i hi'
  have hgq:=mH hi'
  refine ⟨by omega,?_⟩
  rw [hgq]
  generalize fdE L i=q at hst1 hW hgq
  generalize Ts.getD i []=T at hst1 hW
  have efd:fD q=.agg [.str q.nm,.str q.var,i64 q.to]:=rfl
  simp only [go_sem]
  refine ai E' (fun g0=>?_) (fun g0=>?_)<;>simp only [go_sem]
  ·rw [if_neg (by omega)] at hst1
   have hnx:l++bW sep (I.take (i+1))=acc++sep++hd q++T:=by rw [hst1,← hacc];simp only [List.append_assoc]
   rw [hst1] at hle1
   simp only [List.length_append] at hle1
   refine aA E' [21] none ([sep].map .str) rfl (by simp only [go_sem];rfl) ?_
   simp only [go_sem]
   refine ah E' (tau [([1],[98])]) [.bx [0] 0,.d (.sl none ([sep].map .str))] (prS (av true) xs acc) [0,1] (aD true xs acc [sep] (by simp) (by simp) (by simp only [List.flatten_cons,List.flatten_nil,List.length_append,List.length_nil,List.length_cons];omega)) rfl rfl ⟨by simp only [go_sem],by rw [aa];decide⟩ rfl (by unfold prS;simp only [go_sem]) (by unfold prS;simp only [go_sem]) ?_
   rintro _ _ ⟨rfl,rfl⟩
   simp only [List.flatten_cons,List.flatten_nil,List.append_nil]
   unfold prM prS
   simp only [go_sem]
   rw [← efd]
   refine ah E' (tau [([1],[22,2])]) [.d (fD q),.bx [105] 0] (prC (av true) xs (acc++sep)) [0,1,105] (hC q (acc++sep) (by (try simp only [List.length_append,List.length_cons,List.length_nil]);omega)) rfl rfl ⟨by simp only [go_sem],by rw [aa];decide⟩ rfl (by simp only [prC,prS];simp only [go_sem]) (by simp only [prC,prS];simp only [go_sem]) ?_
   rintro _ _ ⟨rfl,rfl⟩
   simp only [lM,prC,prM,prS]
   simp only [go_sem]
   refine ah E' (tau [([1],[25,2])]) [.bx [0] 0,.d (i64 q.to),.d (i64 0)] (prS (av true) xs ((acc++sep)++hd q)) [0,1] (hW true ((acc++sep)++hd q) (by (try simp only [List.length_append,List.length_cons,List.length_nil]);omega)) rfl rfl ⟨by simp only [go_sem],by rw [aa];decide⟩ rfl (by simp only [prC,prS];simp only [go_sem]) (by simp only [prC,prS];simp only [go_sem]) ?_
   rintro _ _ ⟨rfl,rfl⟩
   simp only [lM,prC,prM,prS]
   simp only [go_sem]
   rw [al ⟨by omega,by omega⟩,hQ]
   simp only [go_sem]
   refine ⟨⟨i+1,by omega⟩,by show L.length-(i+1)<L.length-i;omega,tau [([98],[29,2])],?_⟩
   simp only [hnx]
   simp only [go_sem]
   all_goals ((repeat' apply And.intro)<;>first | rfl | trivial)
  ·have hi0:i=0:=by omega
   rw [if_pos hi0] at hst1
   have hj0:(bW sep (I.take i)).length=0:=by rw [hi0];rfl
   have hnx:l++bW sep (I.take (i+1))=acc++hd q++T:=by rw [hst1,← hacc,hi0,List.take_zero,show bW sep []=[] from rfl];simp only [List.append_nil,List.append_assoc]
   rw [hst1] at hle1
   simp only [List.length_append] at hle1
   rw [← efd]
   refine ah E' (tau [([1],[98])]) [.d (fD q),.bx [105] 0] (prC (av true) xs acc) [0,1,105] (hC q acc (by (try simp only [List.length_append,List.length_cons,List.length_nil]);omega)) rfl rfl ⟨by simp only [go_sem],by rw [aa];decide⟩ rfl (by simp only [prC,prS];simp only [go_sem]) (by simp only [prC,prS];simp only [go_sem]) ?_
   rintro _ _ ⟨rfl,rfl⟩
   simp only [lM,prC,prM,prS]
   simp only [go_sem]
   refine ah E' (tau [([1],[25,2])]) [.bx [0] 0,.d (i64 q.to),.d (i64 0)] (prS (av true) xs (acc++hd q)) [0,1] (hW true (acc++hd q) (by (try simp only [List.length_append,List.length_cons,List.length_nil]);omega)) rfl rfl ⟨by simp only [go_sem],by rw [aa];decide⟩ rfl (by simp only [prC,prS];simp only [go_sem]) (by simp only [prC,prS];simp only [go_sem]) ?_
   rintro _ _ ⟨rfl,rfl⟩
   simp only [lM,prC,prM,prS]
   simp only [go_sem]
   rw [al ⟨by omega,by omega⟩,hQ]
   simp only [go_sem]
   refine ⟨⟨i+1,by omega⟩,by show L.length-(i+1)<L.length-i;omega,tau [([98],[29,2])],?_⟩
   simp only [hnx]
   simp only [go_sem]
   all_goals ((repeat' apply And.intro)<;>first | rfl | trivial)
 ·have hi':i=L.length:=by omega
  subst hi'
  rw [hfull] at hacc
  rw [hQ]
  simp only [go_sem]
  rw [← hacc]
  refine ⟨_,_,[0,1,2,105],tau [([2],[98])],⟨rfl,rfl⟩,?_⟩
  simp only [go_sem]
end Go.Proofs.YtejpnabbmgpmaaaGreatDoor

namespace Go.Proofs.YtejpnabbmgpmaaaGreatDoor
open Go.Ab
def TX (ns:List EN) (k:Int) (least:Nat):List UInt8:=atX least (ak (ndE ns k.toNat)) (txP (trE ns k.toNat).pcs)
def iF (ns:List EN) (n:EN):List UInt8 :=
 if n.k=5 then [102,117,110,32]++(n.name++([32,45,62,32]++TX ns n.a 0))
 else if n.k=6 then TX ns n.a 5++([32]++TX ns n.b 6)
 else if n.k=7 then [108,101,116,32]++(n.name++([32,61,32]++(TX ns n.a 0++([32,105,110,32]++TX ns n.b 0))))
 else if n.k=8 then [108,101,116,32,114,101,99,32]++(n.name++([32,61,32]++(TX ns n.a 0++([32,105,110,32]++TX ns n.b 0))))
 else if n.k=9 then [105,102,32]++(TX ns n.a 0++([32,116,104,101,110,32]++(TX ns n.b 0++([32,101,108,115,101,32]++TX ns n.c 0))))
 else if n.k=10 then TX ns n.a (max (ak n) 2)++([32]++(eZ n.n++([32]++TX ns n.b (ak n+1))))
 else if n.k=11 then [123]++(bW [44,32] (iK hdR n.l (n.l.map fun f=>TX ns f.to 0))++[125])
 else if n.k=12 then TX ns n.a 6++([46]++n.name)
 else if n.k=13 then n.name++([32]++TX ns n.a 6)
 else if n.k=14 then [99,97,115,101,32]++(TX ns n.a 0++([32,111,102,32]++(bW [32,124,32] (iK hdB n.l (n.l.map fun f=>TX ns f.to 0))++[32,101,110,100])))
 else jS n
theorem HY (w:List UInt8) (r:List Pc):txP (sgP w::r)=w++txP r:=rfl
theorem KE (least:Nat) (q:Nat × List Pc):txP (atP least q)=atX least q.1 (txP q.2):=by
 unfold atP atX
 split
 ·rfl
 ·rw [HY,aP,HY]
  rfl
theorem zk (sep:List Pc):∀ L:List (List Pc),txP (fU sep L)=bW (txP sep) (L.map txP)
 | []=>rfl
 | a::L=>by
   have flat:∀ L:List (List Pc),txP (L.flatMap (sep++·))=(L.map txP).flatMap (txP sep++·):=fun L=>by
    induction L with
    | nil=>rfl
    | cons b L ih=>rw [List.flatMap_cons,aP,aP,ih,List.map_cons,List.flatMap_cons]
   rw [fU,aP,flat,List.map_cons,bW]
def KS (ns:List EN) (n:EN):List (Nat × List Pc):=(aj n).map fun k=>(ak (ndE ns k.toNat),(trE ns k.toNat).pcs)
theorem IY {ns:List EN} (ht:bx ns) {i:Nat} (hi:i<ns.length):(trE ns i).pcs=pcN (can (ndE ns i)) (KS ns (ndE ns i)):=by
 rw [Es (aN ht) hi,RT.pcs,nh,List.map_map]
 congr 1
 refine List.map_congr_left fun k hk=>?_
 obtain ⟨a,rfl,ha⟩:=yG ht hi hk
 show (ak (trE ns (a:Int).toNat).lab,_)=_
 rw [Int.toNat_natCast,Jm (by omega)]
 rfl
theorem dx {ns:List EN} {n:EN} {j least:Nat} {k:Int} (h:(aj n)[j]?=some k):txP (cP (KS ns n) j least)=TX ns k least:=by
 unfold cP KS TX
 rw [KE,List.getD_eq_getElem?_getD,List.getElem?_map,h]
 rfl
theorem pM {α β γ δ:Type} (f:α→β→γ) (g:α→δ→γ) (u:α→δ) (v:α→β):∀ l:List α,(∀ a,f a (v a)=g a (u a))→List.zipWith f l (l.map v)=List.zipWith g l (l.map u)
 | [],_=>rfl
 | a::l,h=>by
   rw [List.map_cons,List.map_cons,List.zipWith_cons_cons,List.zipWith_cons_cons,h a,pM f g u v l h]
theorem uS {ns:List EN} (l:List EF) (g:EF→Nat × List Pc→List Pc) (hd:EF→List UInt8) (hg:∀ f q,txP (g f q)=hd f++txP q.2) :
  (List.zipWith g l (l.map fun f=>(ak (ndE ns f.to.toNat),(trE ns f.to.toNat).pcs))).map txP=iK hd l (l.map fun f=>TX ns f.to 0):=by
 unfold iK
 rw [List.map_zipWith]
 exact pM _ _ _ _ l fun f=>by
  rw [hg]
  unfold TX atX
  rw [if_pos (Nat.zero_le _)]
theorem Hh {n:EN} (h:aw n.k=true):∀ {α:Type} (g:EF→α),(∀ (f:EF) (v:Int),g { f with to:=v }=g f)→(can n).l.map g=n.l.map g:=fun g hg=>by
 show (if aw n.k then aT _ _ n.l 0 else []).map g=_
 rw [if_pos h]
 exact jK g hg _ _ _ _
theorem y3 {n:EN} (h:aw n.k=true) (g:EF→Nat × List Pc→List Pc) (hg:∀ (f:EF) (v:Int) q,g { f with to:=v } q=g f q) (ks:List (Nat × List Pc)):List.zipWith g (can n).l ks=List.zipWith g n.l ks:=by
 have h1:=Hh h (fun f=>g f) (fun f v=>by funext q;exact hg f v q)
 have e:∀ l:List EF,List.zipWith g l ks=List.zipWith (fun (x:Nat × List Pc→List Pc) q=>x q) (l.map fun f=>g f) ks:=fun l=>by rw [List.zipWith_map_left]
 rw [e,e,h1]
theorem yL {ns:List EN} (ht:bx ns) {i:Nat} (hi:i<ns.length):txP (trE ns i).pcs=iF ns (ndE ns i):=by
 have hr:=ht.right i hi
 obtain ⟨k1,k2⟩:=fW hr
 rw [IY ht hi]
 generalize ndE ns i=n at *
 unfold iF
 have e0:∀ {k:Int},n.k=k→(can n).k=k:=fun h=>h
 have nm:(can n).name=n.name:=rfl
 unfold pcN
 rcases (by omega:n.k=1∨n.k=2∨n.k=3∨n.k=4∨n.k=5∨n.k=6∨n.k=7∨n.k=8∨n.k=9∨n.k=10∨n.k=11∨n.k=12∨n.k=13∨n.k=14) with h | h | h | h | h | h | h | h | h | h | h | h | h | h
 all_goals simp only [BZ,BS,KH,LQ,h,if_true,if_false,Int.reduceEq,reduceIte]
 ·show bB n.n++[]=_
  unfold jS
  rw [if_pos h,List.append_nil]
 ·unfold jS
  rw [if_neg (by omega),if_pos h]
  show (if n.n=1 then cC else bF)++[]=_
  rw [List.append_nil]
 ·unfold jS
  rw [if_neg (by omega),if_neg (by omega),if_pos h]
  show quS n.s++[]=_
  rw [List.append_nil]
 ·unfold jS
  rw [if_neg (by omega),if_neg (by omega),if_neg (by omega)]
  show n.name++[]=_
  rw [List.append_nil]
 ·rw [aP,dx (k:=n.a) (by rw [kI (.inl h)];rfl)]
  simp [txP,ttxt,kwP,nmP,sgP,oC,bTo]
 ·rw [aP,aP,dx (k:=n.a) (by rw [cJ (.inl h)];rfl),dx (k:=n.b) (by rw [cJ (.inl h)];rfl)]
  simp [txP]
 ·rw [aP,aP,aP,dx (k:=n.a) (by rw [cJ (.inr (.inl h))];rfl),dx (k:=n.b) (by rw [cJ (.inr (.inl h))];rfl)]
  simp [txP,ttxt,kwP,nmP,sgP,kS,bIn]
 ·rw [aP,aP,aP,dx (k:=n.a) (by rw [cJ (.inr (.inr (.inl h)))];rfl),dx (k:=n.b) (by rw [cJ (.inr (.inr (.inl h)))];rfl)]
  simp [txP,ttxt,kwP,nmP,sgP,kS,gh,bIn]
 ·rw [aP,aP,aP,aP,aP,dx (k:=n.a) (by rw [kJ h];rfl),dx (k:=n.b) (by rw [kJ h];rfl),dx (k:=n.c) (by rw [kJ h];rfl)]
  simp [txP,ttxt,kwP,bIf,jQ,jU]
 ·rw [aP,aP,dx (k:=n.a) (by rw [cJ (.inr (.inr (.inr h)))];rfl),dx (k:=n.b) (by rw [cJ (.inr (.inr (.inr h)))];rfl)]
  simp [txP,ttxt,sgP,show ak (can n)=ak n from rfl]
 ·have hp:aw n.k=true:=by unfold aw;rw [h];rfl
  have hks:KS ns n=n.l.map fun f=>(ak (ndE ns f.to.toNat),(trE ns f.to.toNat).pcs):=by unfold KS;rw [Bo h,List.map_map];rfl
  rw [aP,aP,zk,y3 hp _ (fun _ _ _=>rfl),hks,uS n.l oK hdR (fun f q=>by simp [oK,hdR,txP,aP,ttxt,nmP,sgP])]
  simp [txP,ttxt,sgP]
 ·rw [aP,dx (k:=n.a) (by rw [kI (.inr (.inl h))];rfl)]
  simp [txP,ttxt,nmP,sgP]
 ·rw [aP,dx (k:=n.a) (by rw [kI (.inr (.inr h))];rfl)]
  simp [txP,ttxt,tgP]
 ·have hp:aw n.k=true:=by unfold aw;rw [h];rfl
  have hkl:aj n=n.a::n.l.map (·.to):=by simp [aj,h,aG,aw]
  have hks:(KS ns n).drop 1=n.l.map fun f=>(ak (ndE ns f.to.toNat),(trE ns f.to.toNat).pcs):=by unfold KS;rw [hkl,List.map_cons,List.drop_succ_cons,List.drop_zero,List.map_map];rfl
  rw [aP,aP,aP,aP,dx (k:=n.a) (by rw [hkl];rfl),zk,y3 hp _ (fun _ _ _=>rfl),hks,uS n.l nI hdB (fun f q=>by simp [nI,hdB,txP,aP,ttxt,nmP,sgP,tgP,bTo])]
  simp [txP,ttxt,kwP,sgP,fV,bOf,sW]
end Go.Proofs.YtejpnabbmgpmaaaGreatDoor

namespace Go.Proofs.YtejpnabbmgpmaaaGreatDoor
open Go.Ab
theorem LP {tt:TypeId} {fz:Nat × Nat} {ns:List EN} (ht:bx ns) (hr:∀ n∈ns,inR n.n) {i:Nat} (hi:i<ns.length) (hk:∀ k∈aj (ndE ns i),∀ least:Nat,Writes (GT tt fz) 60 [.d (i64 k),.d (i64 (least:Int))] (ns.map enD) (TX ns k least)) (l:List UInt8) (hl:l.length+(iF ns (ndE ns i)).length≤800000000) :
  HCall Tryz.prog (GT tt fz) 28 [.bx [0] 0,.d (i64 (i:Int))] (prS (av false) (ns.map enD) l) [0,1] (fun r hp'=>r=.tup []∧hp'=prM (ns.map enD) (l++iF ns (ndE ns i))):=by
 have hg:=bO hi
 have hN:=ht.few
 have hrt:=ht.right i hi
 have hin:=hr _ (by rw [bh hi];exact List.getElem_mem hi:ndE ns i∈ns)
 have hlf:=Ey (tt:=tt) (fz:=fz) (ndE ns i) (ns.map enD)
 generalize ndE ns i=n at *
 obtain ⟨X,hX⟩:∃ X,X=iF ns n:=⟨_,rfl⟩
 rw [← hX] at hl ⊢
 obtain ⟨k1,k2⟩:=fW hrt
 have hs:=mS hrt
 have hl30:=ju hrt
 rw [hX] at hl
 unfold iF at hX hl
 unfold prS prM
 refine ao Tryz.func28 rfl (by decide +kernel) (by simp [Tryz.ntmps28]) (veil fun E=>?_)
 simp only [go_sem]
 refine ⟨by omega,?_⟩
 rw [hg]
 simp only [go_sem]
 refine ai E (fun hh=>?_) (fun hh=>?_)<;>simp only [go_sem]
 ·rw [if_pos hh] at hX hl
  simp only [List.length_append,List.length_cons,List.length_nil] at hl
  have w1:=hk n.a (by rw [kI (.inl hh)];simp) 0
  generalize TX ns n.a 0=T1 at hX hl w1
  refine aA E [23] none ([[102,117,110,32],n.name,[32,45,62,32]].map .str) rfl (by simp only [go_sem];rfl) ?_
  simp only [go_sem]
  refine ah E (tau [([1],[1])]) [.bx [0] 0,.d (.sl none ([[102,117,110,32],n.name,[32,45,62,32]].map .str))] (prS (av false) (ns.map enD) l) [0,1] (aD false (ns.map enD) l [[102,117,110,32],n.name,[32,45,62,32]] (by simp) (by simp) (by simp only [List.flatten_cons,List.flatten_nil,List.length_append,List.length_nil,List.length_cons];omega)) rfl rfl ⟨by simp only [go_sem],by rw [aa];decide⟩ rfl (by unfold prS;simp only [go_sem]) (by unfold prS;simp only [go_sem]) ?_
  rintro _ _ ⟨rfl,rfl⟩
  simp only [List.flatten_cons,List.flatten_nil,List.append_nil]
  unfold prM prS
  simp only [go_sem]
  refine ah E (tau [([1],[24,2])]) [.bx [0] 0,.d (i64 n.a),.d (i64 0)] (prS (av true) (ns.map enD) (l++(102::117::110::32::(n.name++[32,45,62,32])))) [0,1] (w1 true (l++(102::117::110::32::(n.name++[32,45,62,32]))) (by (try simp only [List.length_append,List.length_cons,List.length_nil]);omega)) rfl rfl ⟨by simp only [go_sem],by rw [aa];decide⟩ rfl (by unfold prS;simp only [go_sem]) (by unfold prS;simp only [go_sem]) ?_
  rintro _ _ ⟨rfl,rfl⟩
  unfold prM prS
  simp only [go_sem]
  rw [show (l++(102::117::110::32::(n.name++[32,45,62,32]))++T1)=l++X by rw [hX];simp]
  refine ⟨_,_,[0,1,2],tau [([2],[28,2])],⟨rfl,rfl⟩,?_⟩
  simp only [go_sem]
 rw [if_neg hh] at hX hl
 refine ai E (fun hh=>?_) (fun hh=>?_)<;>simp only [go_sem]
 ·rw [if_pos hh] at hX hl
  simp only [List.length_append,List.length_cons,List.length_nil] at hl
  have w1:=hk n.a (by rw [cJ (.inl hh)];simp) 5
  generalize TX ns n.a 5=T1 at hX hl w1
  have w2:=hk n.b (by rw [cJ (.inl hh)];simp) 6
  generalize TX ns n.b 6=T2 at hX hl w2
  refine ah E (tau [([1],[1])]) [.bx [0] 0,.d (i64 n.a),.d (i64 5)] (prS (av false) (ns.map enD) l) [0,1] (w1 false l (by (try simp only [List.length_append,List.length_cons,List.length_nil]);omega)) rfl rfl ⟨by simp only [go_sem],by rw [aa];decide⟩ rfl (by unfold prS;simp only [go_sem]) (by unfold prS;simp only [go_sem]) ?_
  rintro _ _ ⟨rfl,rfl⟩
  unfold prM prS
  simp only [go_sem]
  refine aA E [36] none ([[32]].map .str) rfl (by simp only [go_sem];rfl) ?_
  simp only [go_sem]
  refine ah E (tau [([1],[34,2])]) [.bx [0] 0,.d (.sl none ([[32]].map .str))] (prS (av true) (ns.map enD) (l++T1)) [0,1] (aD true (ns.map enD) (l++T1) [[32]] (by simp) (by simp) (by simp only [List.flatten_cons,List.flatten_nil,List.length_append,List.length_nil,List.length_cons];omega)) rfl rfl ⟨by simp only [go_sem],by rw [aa];decide⟩ rfl (by unfold prS;simp only [go_sem]) (by unfold prS;simp only [go_sem]) ?_
  rintro _ _ ⟨rfl,rfl⟩
  simp only [List.flatten_cons,List.flatten_nil,List.append_nil]
  unfold prM prS
  simp only [go_sem]
  refine ah E (tau [([1],[37,2])]) [.bx [0] 0,.d (i64 n.b),.d (i64 6)] (prS (av true) (ns.map enD) (l++T1++[32])) [0,1] (w2 true (l++T1++[32]) (by (try simp only [List.length_append,List.length_cons,List.length_nil]);omega)) rfl rfl ⟨by simp only [go_sem],by rw [aa];decide⟩ rfl (by unfold prS;simp only [go_sem]) (by unfold prS;simp only [go_sem]) ?_
  rintro _ _ ⟨rfl,rfl⟩
  unfold prM prS
  simp only [go_sem]
  rw [show (l++T1++[32]++T2)=l++X by rw [hX];simp]
  refine ⟨_,_,[0,1,2],tau [([2],[41,2])],⟨rfl,rfl⟩,?_⟩
  simp only [go_sem]
 rw [if_neg hh] at hX hl
 refine ai E (fun hh=>?_) (fun hh=>?_)<;>simp only [go_sem]
 ·rw [if_pos hh] at hX hl

  have w1:=rS (G:=GT tt fz) n [108,101,116,32] (hk n.a (by rw [cJ (.inr (.inl hh))];simp) 0) (hk n.b (by rw [cJ (.inr (.inl hh))];simp) 0)
  simp only [List.cons_append,List.nil_append] at w1 hX hl
  rw [← hX] at hl
  rw [← hX,dF] at w1
  refine ah E (tau [([1],[1])]) _ (prS (av false) (ns.map enD) l) [0,1] (w1 false l (by omega)) rfl rfl ⟨by simp only [go_sem],by rw [aa];decide⟩ rfl (by unfold prS;simp only [go_sem]) (by unfold prS;simp only [go_sem]) ?_
  rintro _ _ ⟨rfl,rfl⟩
  unfold prM prS
  simp only [go_sem]
  refine ⟨_,_,[0,1,2],tau [([2],[46,2])],⟨rfl,rfl⟩,?_⟩
  simp only [go_sem]
 rw [if_neg hh] at hX hl
 refine ai E (fun hh=>?_) (fun hh=>?_)<;>simp only [go_sem]
 ·rw [if_pos hh] at hX hl

  have w1:=rS (G:=GT tt fz) n [108,101,116,32,114,101,99,32] (hk n.a (by rw [cJ (.inr (.inr (.inl hh)))];simp) 0) (hk n.b (by rw [cJ (.inr (.inr (.inl hh)))];simp) 0)
  simp only [List.cons_append,List.nil_append] at w1 hX hl
  rw [← hX] at hl
  rw [← hX,dF] at w1
  refine ah E (tau [([1],[1])]) _ (prS (av false) (ns.map enD) l) [0,1] (w1 false l (by omega)) rfl rfl ⟨by simp only [go_sem],by rw [aa];decide⟩ rfl (by unfold prS;simp only [go_sem]) (by unfold prS;simp only [go_sem]) ?_
  rintro _ _ ⟨rfl,rfl⟩
  unfold prM prS
  simp only [go_sem]
  refine ⟨_,_,[0,1,2],tau [([2],[51,2])],⟨rfl,rfl⟩,?_⟩
  simp only [go_sem]
 rw [if_neg hh] at hX hl
 refine ai E (fun hh=>?_) (fun hh=>?_)<;>simp only [go_sem]
 ·rw [if_pos hh] at hX hl
  simp only [List.length_append,List.length_cons,List.length_nil] at hl
  have w1:=hk n.a (by rw [kJ hh];simp) 0
  generalize TX ns n.a 0=T1 at hX hl w1
  have w2:=hk n.b (by rw [kJ hh];simp) 0
  generalize TX ns n.b 0=T2 at hX hl w2
  have w3:=hk n.c (by rw [kJ hh];simp) 0
  generalize TX ns n.c 0=T3 at hX hl w3
  refine aA E [55] none ([[105,102,32]].map .str) rfl (by simp only [go_sem];rfl) ?_
  simp only [go_sem]
  refine ah E (tau [([1],[1])]) [.bx [0] 0,.d (.sl none ([[105,102,32]].map .str))] (prS (av false) (ns.map enD) l) [0,1] (aD false (ns.map enD) l [[105,102,32]] (by simp) (by simp) (by simp only [List.flatten_cons,List.flatten_nil,List.length_append,List.length_nil,List.length_cons];omega)) rfl rfl ⟨by simp only [go_sem],by rw [aa];decide⟩ rfl (by unfold prS;simp only [go_sem]) (by unfold prS;simp only [go_sem]) ?_
  rintro _ _ ⟨rfl,rfl⟩
  simp only [List.flatten_cons,List.flatten_nil,List.append_nil]
  unfold prM prS
  simp only [go_sem]
  refine ah E (tau [([1],[56,2])]) [.bx [0] 0,.d (i64 n.a),.d (i64 0)] (prS (av true) (ns.map enD) (l++([105,102,32]))) [0,1] (w1 true (l++([105,102,32])) (by (try simp only [List.length_append,List.length_cons,List.length_nil]);omega)) rfl rfl ⟨by simp only [go_sem],by rw [aa];decide⟩ rfl (by unfold prS;simp only [go_sem]) (by unfold prS;simp only [go_sem]) ?_
  rintro _ _ ⟨rfl,rfl⟩
  unfold prM prS
  simp only [go_sem]
  refine aA E [62] none ([[32,116,104,101,110,32]].map .str) rfl (by simp only [go_sem];rfl) ?_
  simp only [go_sem]
  refine ah E (tau [([1],[60,2])]) [.bx [0] 0,.d (.sl none ([[32,116,104,101,110,32]].map .str))] (prS (av true) (ns.map enD) (l++([105,102,32])++T1)) [0,1] (aD true (ns.map enD) (l++([105,102,32])++T1) [[32,116,104,101,110,32]] (by simp) (by simp) (by simp only [List.flatten_cons,List.flatten_nil,List.length_append,List.length_nil,List.length_cons];omega)) rfl rfl ⟨by simp only [go_sem],by rw [aa];decide⟩ rfl (by unfold prS;simp only [go_sem]) (by unfold prS;simp only [go_sem]) ?_
  rintro _ _ ⟨rfl,rfl⟩
  simp only [List.flatten_cons,List.flatten_nil,List.append_nil]
  unfold prM prS
  simp only [go_sem]
  refine ah E (tau [([1],[63,2])]) [.bx [0] 0,.d (i64 n.b),.d (i64 0)] (prS (av true) (ns.map enD) (l++([105,102,32])++T1++([32,116,104,101,110,32]))) [0,1] (w2 true (l++([105,102,32])++T1++([32,116,104,101,110,32])) (by (try simp only [List.length_append,List.length_cons,List.length_nil]);omega)) rfl rfl ⟨by simp only [go_sem],by rw [aa];decide⟩ rfl (by unfold prS;simp only [go_sem]) (by unfold prS;simp only [go_sem]) ?_
  rintro _ _ ⟨rfl,rfl⟩
  unfold prM prS
  simp only [go_sem]
  refine aA E [69] none ([[32,101,108,115,101,32]].map .str) rfl (by simp only [go_sem];rfl) ?_
  simp only [go_sem]
  refine ah E (tau [([1],[67,2])]) [.bx [0] 0,.d (.sl none ([[32,101,108,115,101,32]].map .str))] (prS (av true) (ns.map enD) (l++([105,102,32])++T1++([32,116,104,101,110,32])++T2)) [0,1] (aD true (ns.map enD) (l++([105,102,32])++T1++([32,116,104,101,110,32])++T2) [[32,101,108,115,101,32]] (by simp) (by simp) (by simp only [List.flatten_cons,List.flatten_nil,List.length_append,List.length_nil,List.length_cons];omega)) rfl rfl ⟨by simp only [go_sem],by rw [aa];decide⟩ rfl (by unfold prS;simp only [go_sem]) (by unfold prS;simp only [go_sem]) ?_
  rintro _ _ ⟨rfl,rfl⟩
  simp only [List.flatten_cons,List.flatten_nil,List.append_nil]
  unfold prM prS
  simp only [go_sem]
  refine ah E (tau [([1],[70,2])]) [.bx [0] 0,.d (i64 n.c),.d (i64 0)] (prS (av true) (ns.map enD) (l++([105,102,32])++T1++([32,116,104,101,110,32])++T2++([32,101,108,115,101,32]))) [0,1] (w3 true (l++([105,102,32])++T1++([32,116,104,101,110,32])++T2++([32,101,108,115,101,32])) (by (try simp only [List.length_append,List.length_cons,List.length_nil]);omega)) rfl rfl ⟨by simp only [go_sem],by rw [aa];decide⟩ rfl (by unfold prS;simp only [go_sem]) (by unfold prS;simp only [go_sem]) ?_
  rintro _ _ ⟨rfl,rfl⟩
  unfold prM prS
  simp only [go_sem]
  rw [show (l++([105,102,32])++T1++([32,116,104,101,110,32])++T2++([32,101,108,115,101,32])++T3)=l++X by rw [hX];simp]
  refine ⟨_,_,[0,1,2],tau [([2],[74,2])],⟨rfl,rfl⟩,?_⟩
  simp only [go_sem]
 rw [if_neg hh] at hX hl
 refine ai E (fun hh=>?_) (fun hh=>?_)<;>simp only [go_sem]
 ·rw [if_pos hh] at hX hl

  have w1:=CG (G:=GT tt fz) n (hk n.a (by rw [cJ (.inr (.inr (.inr hh)))];simp) (max (ak n) 2)) (hk n.b (by rw [cJ (.inr (.inr (.inr hh)))];simp) (ak n+1))
  simp only [List.cons_append,List.nil_append] at w1 hX hl
  rw [← hX] at hl
  rw [← hX,dF] at w1
  refine ah E (tau [([1],[1])]) _ (prS (av false) (ns.map enD) l) [0,1] (w1 false l (by omega)) rfl rfl ⟨by simp only [go_sem],by rw [aa];decide⟩ rfl (by unfold prS;simp only [go_sem]) (by unfold prS;simp only [go_sem]) ?_
  rintro _ _ ⟨rfl,rfl⟩
  unfold prM prS
  simp only [go_sem]
  refine ⟨_,_,[0,1,2],tau [([2],[79,2])],⟨rfl,rfl⟩,?_⟩
  simp only [go_sem]
 rw [if_neg hh] at hX hl
 refine ai E (fun hh=>?_) (fun hh=>?_)<;>simp only [go_sem]
 ·rw [if_pos hh] at hX hl
  simp only [List.length_append,List.length_cons,List.length_nil] at hl
  have w1:=sD (G:=GT tt fz) (ns.map enD) (A8 _) [44,32] n.l (n.l.map fun f=>TX ns f.to 0) (by simp) (by omega) (by decide) (fun j hj=>by rw [List.getD_eq_getElem?_getD,List.getElem?_map,List.getElem?_eq_getElem hj];rw [show fdE n.l j=n.l[j] by simp [fdE,hj]];exact hk n.l[j].to (by rw [Bo hh];exact List.mem_map_of_mem (List.getElem_mem hj)) 0)
  generalize bW [44,32] (iK hdR n.l (n.l.map fun f=>TX ns f.to 0))=T1 at hX hl w1
  refine aA E [83] none ([[123]].map .str) rfl (by simp only [go_sem];rfl) ?_
  simp only [go_sem]
  refine ah E (tau [([1],[1])]) [.bx [0] 0,.d (.sl none ([[123]].map .str))] (prS (av false) (ns.map enD) l) [0,1] (aD false (ns.map enD) l [[123]] (by simp) (by simp) (by simp only [List.flatten_cons,List.flatten_nil,List.length_append,List.length_nil,List.length_cons];omega)) rfl rfl ⟨by simp only [go_sem],by rw [aa];decide⟩ rfl (by unfold prS;simp only [go_sem]) (by unfold prS;simp only [go_sem]) ?_
  rintro _ _ ⟨rfl,rfl⟩
  simp only [List.flatten_cons,List.flatten_nil,List.append_nil]
  unfold prM prS
  simp only [go_sem]
  refine ah E (tau [([105],[2]),([1],[84,2])]) [.bx [0] 0,.d (.sl (some 3) (n.l.map fD)),.d (.str [44,32]),.clo 64 [.bx [105] 0]] (prC (av true) (ns.map enD) (l++[123])) [0,1,105] (w1 (l++[123]) (by (try simp only [List.length_append,List.length_cons,List.length_nil]);omega)) rfl rfl ⟨by simp only [go_sem],by rw [aa];decide⟩ rfl (by unfold prC prS;simp only [go_sem]) (by unfold prC prS;simp only [go_sem]) ?_
  rintro _ _ ⟨rfl,rfl⟩
  unfold lM prM prC prS
  simp only [go_sem]
  refine aA E [91] none ([[125]].map .str) rfl (by simp only [go_sem];rfl) ?_
  simp only [go_sem]
  refine ah E (tau [([1],[89,2])]) [.bx [0] 0,.d (.sl none ([[125]].map .str))] (prS (av true) (ns.map enD) (l++[123]++T1)) [0,1] (aD true (ns.map enD) (l++[123]++T1) [[125]] (by simp) (by simp) (by simp only [List.flatten_cons,List.flatten_nil,List.length_append,List.length_nil,List.length_cons];omega)) rfl rfl ⟨by simp only [go_sem],by rw [aa];decide⟩ rfl (by unfold prS;simp only [go_sem]) (by unfold prS;simp only [go_sem]) ?_
  rintro _ _ ⟨rfl,rfl⟩
  simp only [List.flatten_cons,List.flatten_nil,List.append_nil]
  unfold prM prS
  simp only [go_sem]
  rw [show (l++[123]++T1++[125])=l++X by rw [hX];simp]
  refine ⟨_,_,[0,1,2],tau [([2],[92,2])],⟨rfl,rfl⟩,?_⟩
  simp only [go_sem]
 rw [if_neg hh] at hX hl
 refine ai E (fun hh=>?_) (fun hh=>?_)<;>simp only [go_sem]
 ·rw [if_pos hh] at hX hl
  simp only [List.length_append,List.length_cons,List.length_nil] at hl
  have w1:=hk n.a (by rw [kI (.inr (.inl hh))];simp) 6
  generalize TX ns n.a 6=T1 at hX hl w1
  refine ah E (tau [([1],[1])]) [.bx [0] 0,.d (i64 n.a),.d (i64 6)] (prS (av false) (ns.map enD) l) [0,1] (w1 false l (by (try simp only [List.length_append,List.length_cons,List.length_nil]);omega)) rfl rfl ⟨by simp only [go_sem],by rw [aa];decide⟩ rfl (by unfold prS;simp only [go_sem]) (by unfold prS;simp only [go_sem]) ?_
  rintro _ _ ⟨rfl,rfl⟩
  unfold prM prS
  simp only [go_sem]
  refine aA E [102] none ([[46],n.name].map .str) rfl (by simp only [go_sem];rfl) ?_
  simp only [go_sem]
  refine ah E (tau [([1],[98,2])]) [.bx [0] 0,.d (.sl none ([[46],n.name].map .str))] (prS (av true) (ns.map enD) (l++T1)) [0,1] (aD true (ns.map enD) (l++T1) [[46],n.name] (by simp) (by simp) (by simp only [List.flatten_cons,List.flatten_nil,List.length_append,List.length_nil,List.length_cons];omega)) rfl rfl ⟨by simp only [go_sem],by rw [aa];decide⟩ rfl (by unfold prS;simp only [go_sem]) (by unfold prS;simp only [go_sem]) ?_
  rintro _ _ ⟨rfl,rfl⟩
  simp only [List.flatten_cons,List.flatten_nil,List.append_nil]
  unfold prM prS
  simp only [go_sem]
  rw [show (l++T1++(46::n.name))=l++X by rw [hX];simp]
  refine ⟨_,_,[0,1,2],tau [([2],[103,2])],⟨rfl,rfl⟩,?_⟩
  simp only [go_sem]
 rw [if_neg hh] at hX hl
 refine ai E (fun hh=>?_) (fun hh=>?_)<;>simp only [go_sem]
 ·rw [if_pos hh] at hX hl
  simp only [List.length_append,List.length_cons,List.length_nil] at hl
  have w1:=hk n.a (by rw [kI (.inr (.inr hh))];simp) 6
  generalize TX ns n.a 6=T1 at hX hl w1
  refine aA E [109] none ([n.name,[32]].map .str) rfl (by simp only [go_sem];rfl) ?_
  simp only [go_sem]
  refine ah E (tau [([1],[1])]) [.bx [0] 0,.d (.sl none ([n.name,[32]].map .str))] (prS (av false) (ns.map enD) l) [0,1] (aD false (ns.map enD) l [n.name,[32]] (by simp) (by simp) (by simp only [List.flatten_cons,List.flatten_nil,List.length_append,List.length_nil,List.length_cons];omega)) rfl rfl ⟨by simp only [go_sem],by rw [aa];decide⟩ rfl (by unfold prS;simp only [go_sem]) (by unfold prS;simp only [go_sem]) ?_
  rintro _ _ ⟨rfl,rfl⟩
  simp only [List.flatten_cons,List.flatten_nil,List.append_nil]
  unfold prM prS
  simp only [go_sem]
  refine ah E (tau [([1],[110,2])]) [.bx [0] 0,.d (i64 n.a),.d (i64 6)] (prS (av true) (ns.map enD) (l++(n.name++[32]))) [0,1] (w1 true (l++(n.name++[32])) (by (try simp only [List.length_append,List.length_cons,List.length_nil]);omega)) rfl rfl ⟨by simp only [go_sem],by rw [aa];decide⟩ rfl (by unfold prS;simp only [go_sem]) (by unfold prS;simp only [go_sem]) ?_
  rintro _ _ ⟨rfl,rfl⟩
  unfold prM prS
  simp only [go_sem]
  rw [show (l++(n.name++[32])++T1)=l++X by rw [hX];simp]
  refine ⟨_,_,[0,1,2],tau [([2],[114,2])],⟨rfl,rfl⟩,?_⟩
  simp only [go_sem]
 rw [if_neg hh] at hX hl
 refine ai E (fun hh=>?_) (fun hh=>?_)<;>simp only [go_sem]
 ·rw [if_pos hh] at hX hl
  simp only [List.length_append,List.length_cons,List.length_nil] at hl
  have hkl:aj n=n.a::n.l.map (·.to):=by simp [aj,hh,aG,aw]
  have w1:=hk n.a (by rw [hkl];simp) 0
  generalize TX ns n.a 0=T1 at hX hl w1
  have w2:=sD (G:=GT tt fz) (ns.map enD) (Eo _) [32,124,32] n.l (n.l.map fun f=>TX ns f.to 0) (by simp) (by omega) (by decide) (fun j hj=>by rw [List.getD_eq_getElem?_getD,List.getElem?_map,List.getElem?_eq_getElem hj];rw [show fdE n.l j=n.l[j] by simp [fdE,hj]];exact hk n.l[j].to (by rw [hkl];exact List.mem_cons_of_mem _ (List.mem_map_of_mem (List.getElem_mem hj))) 0)
  generalize bW [32,124,32] (iK hdB n.l (n.l.map fun f=>TX ns f.to 0))=T2 at hX hl w2
  refine aA E [118] none ([[99,97,115,101,32]].map .str) rfl (by simp only [go_sem];rfl) ?_
  simp only [go_sem]
  refine ah E (tau [([1],[1])]) [.bx [0] 0,.d (.sl none ([[99,97,115,101,32]].map .str))] (prS (av false) (ns.map enD) l) [0,1] (aD false (ns.map enD) l [[99,97,115,101,32]] (by simp) (by simp) (by simp only [List.flatten_cons,List.flatten_nil,List.length_append,List.length_nil,List.length_cons];omega)) rfl rfl ⟨by simp only [go_sem],by rw [aa];decide⟩ rfl (by unfold prS;simp only [go_sem]) (by unfold prS;simp only [go_sem]) ?_
  rintro _ _ ⟨rfl,rfl⟩
  simp only [List.flatten_cons,List.flatten_nil,List.append_nil]
  unfold prM prS
  simp only [go_sem]
  refine ah E (tau [([1],[119,2])]) [.bx [0] 0,.d (i64 n.a),.d (i64 0)] (prS (av true) (ns.map enD) (l++([99,97,115,101,32]))) [0,1] (w1 true (l++([99,97,115,101,32])) (by (try simp only [List.length_append,List.length_cons,List.length_nil]);omega)) rfl rfl ⟨by simp only [go_sem],by rw [aa];decide⟩ rfl (by unfold prS;simp only [go_sem]) (by unfold prS;simp only [go_sem]) ?_
  rintro _ _ ⟨rfl,rfl⟩
  unfold prM prS
  simp only [go_sem]
  refine aA E [125] none ([[32,111,102,32]].map .str) rfl (by simp only [go_sem];rfl) ?_
  simp only [go_sem]
  refine ah E (tau [([1],[123,2])]) [.bx [0] 0,.d (.sl none ([[32,111,102,32]].map .str))] (prS (av true) (ns.map enD) (l++([99,97,115,101,32])++T1)) [0,1] (aD true (ns.map enD) (l++([99,97,115,101,32])++T1) [[32,111,102,32]] (by simp) (by simp) (by simp only [List.flatten_cons,List.flatten_nil,List.length_append,List.length_nil,List.length_cons];omega)) rfl rfl ⟨by simp only [go_sem],by rw [aa];decide⟩ rfl (by unfold prS;simp only [go_sem]) (by unfold prS;simp only [go_sem]) ?_
  rintro _ _ ⟨rfl,rfl⟩
  simp only [List.flatten_cons,List.flatten_nil,List.append_nil]
  unfold prM prS
  simp only [go_sem]
  refine ah E (tau [([105],[2]),([1],[126,2])]) [.bx [0] 0,.d (.sl (some 3) (n.l.map fD)),.d (.str [32,124,32]),.clo 65 [.bx [105] 0]] (prC (av true) (ns.map enD) (l++([99,97,115,101,32])++T1++([32,111,102,32]))) [0,1,105] (w2 (l++([99,97,115,101,32])++T1++([32,111,102,32])) (by (try simp only [List.length_append,List.length_cons,List.length_nil]);omega)) rfl rfl ⟨by simp only [go_sem],by rw [aa];decide⟩ rfl (by unfold prC prS;simp only [go_sem]) (by unfold prC prS;simp only [go_sem]) ?_
  rintro _ _ ⟨rfl,rfl⟩
  unfold lM prM prC prS
  simp only [go_sem]
  refine aA E [133] none ([[32,101,110,100]].map .str) rfl (by simp only [go_sem];rfl) ?_
  simp only [go_sem]
  refine ah E (tau [([1],[131,2])]) [.bx [0] 0,.d (.sl none ([[32,101,110,100]].map .str))] (prS (av true) (ns.map enD) (l++([99,97,115,101,32])++T1++([32,111,102,32])++T2)) [0,1] (aD true (ns.map enD) (l++([99,97,115,101,32])++T1++([32,111,102,32])++T2) [[32,101,110,100]] (by simp) (by simp) (by simp only [List.flatten_cons,List.flatten_nil,List.length_append,List.length_nil,List.length_cons];omega)) rfl rfl ⟨by simp only [go_sem],by rw [aa];decide⟩ rfl (by unfold prS;simp only [go_sem]) (by unfold prS;simp only [go_sem]) ?_
  rintro _ _ ⟨rfl,rfl⟩
  simp only [List.flatten_cons,List.flatten_nil,List.append_nil]
  unfold prM prS
  simp only [go_sem]
  rw [show (l++([99,97,115,101,32])++T1++([32,111,102,32])++T2++([32,101,110,100]))=l++X by rw [hX];simp]
  refine ⟨_,_,[0,1,2],tau [([2],[134,2])],⟨rfl,rfl⟩,?_⟩
  simp only [go_sem]
 rw [if_neg hh] at hX hl
 have w1:=hlf ⟨k1,by omega⟩ hin hs
 rw [← hX] at hl
 rw [← hX,dF] at w1
 refine ah E (tau [([1],[1])]) _ (prS (av false) (ns.map enD) l) [0,1] (w1 false l (by omega)) rfl rfl ⟨by simp only [go_sem],by rw [aa];decide⟩ rfl (by unfold prS;simp only [go_sem]) (by unfold prS;simp only [go_sem]) ?_
 rintro _ _ ⟨rfl,rfl⟩
 unfold prM prS
 simp only [go_sem]
 refine ⟨_,_,[0,1,2],tau [([2],[17,2])],⟨rfl,rfl⟩,?_⟩
 simp only [go_sem]
theorem Ko {tt:TypeId} {fz:Nat × Nat} {ns:List EN} (ht:bx ns) (hr:∀ n∈ns,inR n.n) {i:Nat} (hi:i<ns.length) (hk:∀ k∈aj (ndE ns i),∀ least:Nat,Writes (GT tt fz) 60 [.d (i64 k),.d (i64 (least:Int))] (ns.map enD) (TX ns k least)) (l:List UInt8) (hl:l.length+(iF ns (ndE ns i)).length≤800000000) :
  HCall Tryz.prog (GT tt fz) 28 [.bx [0] 0,.d (i64 (i:Int))] (prS (av true) (ns.map enD) l) [0,1] (fun r hp'=>r=.tup []∧hp'=prM (ns.map enD) (l++iF ns (ndE ns i))):=by
 have hg:=bO hi
 have hN:=ht.few
 have hrt:=ht.right i hi
 have hin:=hr _ (by rw [bh hi];exact List.getElem_mem hi:ndE ns i∈ns)
 have hlf:=Ey (tt:=tt) (fz:=fz) (ndE ns i) (ns.map enD)
 generalize ndE ns i=n at *
 obtain ⟨X,hX⟩:∃ X,X=iF ns n:=⟨_,rfl⟩
 rw [← hX] at hl ⊢
 obtain ⟨k1,k2⟩:=fW hrt
 have hs:=mS hrt
 have hl30:=ju hrt
 rw [hX] at hl
 unfold iF at hX hl
 unfold prS prM
 refine ao Tryz.func28 rfl (by decide +kernel) (by simp [Tryz.ntmps28]) (veil fun E=>?_)
 simp only [go_sem]
 refine ⟨by omega,?_⟩
 rw [hg]
 simp only [go_sem]
 refine ai E (fun hh=>?_) (fun hh=>?_)<;>simp only [go_sem]
 ·rw [if_pos hh] at hX hl
  simp only [List.length_append,List.length_cons,List.length_nil] at hl
  have w1:=hk n.a (by rw [kI (.inl hh)];simp) 0
  generalize TX ns n.a 0=T1 at hX hl w1
  refine aA E [23] none ([[102,117,110,32],n.name,[32,45,62,32]].map .str) rfl (by simp only [go_sem];rfl) ?_
  simp only [go_sem]
  refine ah E (tau [([1],[1])]) [.bx [0] 0,.d (.sl none ([[102,117,110,32],n.name,[32,45,62,32]].map .str))] (prS (av true) (ns.map enD) l) [0,1] (aD true (ns.map enD) l [[102,117,110,32],n.name,[32,45,62,32]] (by simp) (by simp) (by simp only [List.flatten_cons,List.flatten_nil,List.length_append,List.length_nil,List.length_cons];omega)) rfl rfl ⟨by simp only [go_sem],by rw [aa];decide⟩ rfl (by unfold prS;simp only [go_sem]) (by unfold prS;simp only [go_sem]) ?_
  rintro _ _ ⟨rfl,rfl⟩
  simp only [List.flatten_cons,List.flatten_nil,List.append_nil]
  unfold prM prS
  simp only [go_sem]
  refine ah E (tau [([1],[24,2])]) [.bx [0] 0,.d (i64 n.a),.d (i64 0)] (prS (av true) (ns.map enD) (l++(102::117::110::32::(n.name++[32,45,62,32])))) [0,1] (w1 true (l++(102::117::110::32::(n.name++[32,45,62,32]))) (by (try simp only [List.length_append,List.length_cons,List.length_nil]);omega)) rfl rfl ⟨by simp only [go_sem],by rw [aa];decide⟩ rfl (by unfold prS;simp only [go_sem]) (by unfold prS;simp only [go_sem]) ?_
  rintro _ _ ⟨rfl,rfl⟩
  unfold prM prS
  simp only [go_sem]
  rw [show (l++(102::117::110::32::(n.name++[32,45,62,32]))++T1)=l++X by rw [hX];simp]
  refine ⟨_,_,[0,1,2],tau [([2],[28,2])],⟨rfl,rfl⟩,?_⟩
  simp only [go_sem]
 rw [if_neg hh] at hX hl
 refine ai E (fun hh=>?_) (fun hh=>?_)<;>simp only [go_sem]
 ·rw [if_pos hh] at hX hl
  simp only [List.length_append,List.length_cons,List.length_nil] at hl
  have w1:=hk n.a (by rw [cJ (.inl hh)];simp) 5
  generalize TX ns n.a 5=T1 at hX hl w1
  have w2:=hk n.b (by rw [cJ (.inl hh)];simp) 6
  generalize TX ns n.b 6=T2 at hX hl w2
  refine ah E (tau [([1],[1])]) [.bx [0] 0,.d (i64 n.a),.d (i64 5)] (prS (av true) (ns.map enD) l) [0,1] (w1 true l (by (try simp only [List.length_append,List.length_cons,List.length_nil]);omega)) rfl rfl ⟨by simp only [go_sem],by rw [aa];decide⟩ rfl (by unfold prS;simp only [go_sem]) (by unfold prS;simp only [go_sem]) ?_
  rintro _ _ ⟨rfl,rfl⟩
  unfold prM prS
  simp only [go_sem]
  refine aA E [36] none ([[32]].map .str) rfl (by simp only [go_sem];rfl) ?_
  simp only [go_sem]
  refine ah E (tau [([1],[34,2])]) [.bx [0] 0,.d (.sl none ([[32]].map .str))] (prS (av true) (ns.map enD) (l++T1)) [0,1] (aD true (ns.map enD) (l++T1) [[32]] (by simp) (by simp) (by simp only [List.flatten_cons,List.flatten_nil,List.length_append,List.length_nil,List.length_cons];omega)) rfl rfl ⟨by simp only [go_sem],by rw [aa];decide⟩ rfl (by unfold prS;simp only [go_sem]) (by unfold prS;simp only [go_sem]) ?_
  rintro _ _ ⟨rfl,rfl⟩
  simp only [List.flatten_cons,List.flatten_nil,List.append_nil]
  unfold prM prS
  simp only [go_sem]
  refine ah E (tau [([1],[37,2])]) [.bx [0] 0,.d (i64 n.b),.d (i64 6)] (prS (av true) (ns.map enD) (l++T1++[32])) [0,1] (w2 true (l++T1++[32]) (by (try simp only [List.length_append,List.length_cons,List.length_nil]);omega)) rfl rfl ⟨by simp only [go_sem],by rw [aa];decide⟩ rfl (by unfold prS;simp only [go_sem]) (by unfold prS;simp only [go_sem]) ?_
  rintro _ _ ⟨rfl,rfl⟩
  unfold prM prS
  simp only [go_sem]
  rw [show (l++T1++[32]++T2)=l++X by rw [hX];simp]
  refine ⟨_,_,[0,1,2],tau [([2],[41,2])],⟨rfl,rfl⟩,?_⟩
  simp only [go_sem]
 rw [if_neg hh] at hX hl
 refine ai E (fun hh=>?_) (fun hh=>?_)<;>simp only [go_sem]
 ·rw [if_pos hh] at hX hl

  have w1:=rS (G:=GT tt fz) n [108,101,116,32] (hk n.a (by rw [cJ (.inr (.inl hh))];simp) 0) (hk n.b (by rw [cJ (.inr (.inl hh))];simp) 0)
  simp only [List.cons_append,List.nil_append] at w1 hX hl
  rw [← hX] at hl
  rw [← hX,dF] at w1
  refine ah E (tau [([1],[1])]) _ (prS (av true) (ns.map enD) l) [0,1] (w1 true l (by omega)) rfl rfl ⟨by simp only [go_sem],by rw [aa];decide⟩ rfl (by unfold prS;simp only [go_sem]) (by unfold prS;simp only [go_sem]) ?_
  rintro _ _ ⟨rfl,rfl⟩
  unfold prM prS
  simp only [go_sem]
  refine ⟨_,_,[0,1,2],tau [([2],[46,2])],⟨rfl,rfl⟩,?_⟩
  simp only [go_sem]
 rw [if_neg hh] at hX hl
 refine ai E (fun hh=>?_) (fun hh=>?_)<;>simp only [go_sem]
 ·rw [if_pos hh] at hX hl

  have w1:=rS (G:=GT tt fz) n [108,101,116,32,114,101,99,32] (hk n.a (by rw [cJ (.inr (.inr (.inl hh)))];simp) 0) (hk n.b (by rw [cJ (.inr (.inr (.inl hh)))];simp) 0)
  simp only [List.cons_append,List.nil_append] at w1 hX hl
  rw [← hX] at hl
  rw [← hX,dF] at w1
  refine ah E (tau [([1],[1])]) _ (prS (av true) (ns.map enD) l) [0,1] (w1 true l (by omega)) rfl rfl ⟨by simp only [go_sem],by rw [aa];decide⟩ rfl (by unfold prS;simp only [go_sem]) (by unfold prS;simp only [go_sem]) ?_
  rintro _ _ ⟨rfl,rfl⟩
  unfold prM prS
  simp only [go_sem]
  refine ⟨_,_,[0,1,2],tau [([2],[51,2])],⟨rfl,rfl⟩,?_⟩
  simp only [go_sem]
 rw [if_neg hh] at hX hl
 refine ai E (fun hh=>?_) (fun hh=>?_)<;>simp only [go_sem]
 ·rw [if_pos hh] at hX hl
  simp only [List.length_append,List.length_cons,List.length_nil] at hl
  have w1:=hk n.a (by rw [kJ hh];simp) 0
  generalize TX ns n.a 0=T1 at hX hl w1
  have w2:=hk n.b (by rw [kJ hh];simp) 0
  generalize TX ns n.b 0=T2 at hX hl w2
  have w3:=hk n.c (by rw [kJ hh];simp) 0
  generalize TX ns n.c 0=T3 at hX hl w3
  refine aA E [55] none ([[105,102,32]].map .str) rfl (by simp only [go_sem];rfl) ?_
  simp only [go_sem]
  refine ah E (tau [([1],[1])]) [.bx [0] 0,.d (.sl none ([[105,102,32]].map .str))] (prS (av true) (ns.map enD) l) [0,1] (aD true (ns.map enD) l [[105,102,32]] (by simp) (by simp) (by simp only [List.flatten_cons,List.flatten_nil,List.length_append,List.length_nil,List.length_cons];omega)) rfl rfl ⟨by simp only [go_sem],by rw [aa];decide⟩ rfl (by unfold prS;simp only [go_sem]) (by unfold prS;simp only [go_sem]) ?_
  rintro _ _ ⟨rfl,rfl⟩
  simp only [List.flatten_cons,List.flatten_nil,List.append_nil]
  unfold prM prS
  simp only [go_sem]
  refine ah E (tau [([1],[56,2])]) [.bx [0] 0,.d (i64 n.a),.d (i64 0)] (prS (av true) (ns.map enD) (l++([105,102,32]))) [0,1] (w1 true (l++([105,102,32])) (by (try simp only [List.length_append,List.length_cons,List.length_nil]);omega)) rfl rfl ⟨by simp only [go_sem],by rw [aa];decide⟩ rfl (by unfold prS;simp only [go_sem]) (by unfold prS;simp only [go_sem]) ?_
  rintro _ _ ⟨rfl,rfl⟩
  unfold prM prS
  simp only [go_sem]
  refine aA E [62] none ([[32,116,104,101,110,32]].map .str) rfl (by simp only [go_sem];rfl) ?_
  simp only [go_sem]
  refine ah E (tau [([1],[60,2])]) [.bx [0] 0,.d (.sl none ([[32,116,104,101,110,32]].map .str))] (prS (av true) (ns.map enD) (l++([105,102,32])++T1)) [0,1] (aD true (ns.map enD) (l++([105,102,32])++T1) [[32,116,104,101,110,32]] (by simp) (by simp) (by simp only [List.flatten_cons,List.flatten_nil,List.length_append,List.length_nil,List.length_cons];omega)) rfl rfl ⟨by simp only [go_sem],by rw [aa];decide⟩ rfl (by unfold prS;simp only [go_sem]) (by unfold prS;simp only [go_sem]) ?_
  rintro _ _ ⟨rfl,rfl⟩
  simp only [List.flatten_cons,List.flatten_nil,List.append_nil]
  unfold prM prS
  simp only [go_sem]
  refine ah E (tau [([1],[63,2])]) [.bx [0] 0,.d (i64 n.b),.d (i64 0)] (prS (av true) (ns.map enD) (l++([105,102,32])++T1++([32,116,104,101,110,32]))) [0,1] (w2 true (l++([105,102,32])++T1++([32,116,104,101,110,32])) (by (try simp only [List.length_append,List.length_cons,List.length_nil]);omega)) rfl rfl ⟨by simp only [go_sem],by rw [aa];decide⟩ rfl (by unfold prS;simp only [go_sem]) (by unfold prS;simp only [go_sem]) ?_
  rintro _ _ ⟨rfl,rfl⟩
  unfold prM prS
  simp only [go_sem]
  refine aA E [69] none ([[32,101,108,115,101,32]].map .str) rfl (by simp only [go_sem];rfl) ?_
  simp only [go_sem]
  refine ah E (tau [([1],[67,2])]) [.bx [0] 0,.d (.sl none ([[32,101,108,115,101,32]].map .str))] (prS (av true) (ns.map enD) (l++([105,102,32])++T1++([32,116,104,101,110,32])++T2)) [0,1] (aD true (ns.map enD) (l++([105,102,32])++T1++([32,116,104,101,110,32])++T2) [[32,101,108,115,101,32]] (by simp) (by simp) (by simp only [List.flatten_cons,List.flatten_nil,List.length_append,List.length_nil,List.length_cons];omega)) rfl rfl ⟨by simp only [go_sem],by rw [aa];decide⟩ rfl (by unfold prS;simp only [go_sem]) (by unfold prS;simp only [go_sem]) ?_
  rintro _ _ ⟨rfl,rfl⟩
  simp only [List.flatten_cons,List.flatten_nil,List.append_nil]
  unfold prM prS
  simp only [go_sem]
  refine ah E (tau [([1],[70,2])]) [.bx [0] 0,.d (i64 n.c),.d (i64 0)] (prS (av true) (ns.map enD) (l++([105,102,32])++T1++([32,116,104,101,110,32])++T2++([32,101,108,115,101,32]))) [0,1] (w3 true (l++([105,102,32])++T1++([32,116,104,101,110,32])++T2++([32,101,108,115,101,32])) (by (try simp only [List.length_append,List.length_cons,List.length_nil]);omega)) rfl rfl ⟨by simp only [go_sem],by rw [aa];decide⟩ rfl (by unfold prS;simp only [go_sem]) (by unfold prS;simp only [go_sem]) ?_
  rintro _ _ ⟨rfl,rfl⟩
  unfold prM prS
  simp only [go_sem]
  rw [show (l++([105,102,32])++T1++([32,116,104,101,110,32])++T2++([32,101,108,115,101,32])++T3)=l++X by rw [hX];simp]
  refine ⟨_,_,[0,1,2],tau [([2],[74,2])],⟨rfl,rfl⟩,?_⟩
  simp only [go_sem]
 rw [if_neg hh] at hX hl
 refine ai E (fun hh=>?_) (fun hh=>?_)<;>simp only [go_sem]
 ·rw [if_pos hh] at hX hl

  have w1:=CG (G:=GT tt fz) n (hk n.a (by rw [cJ (.inr (.inr (.inr hh)))];simp) (max (ak n) 2)) (hk n.b (by rw [cJ (.inr (.inr (.inr hh)))];simp) (ak n+1))
  simp only [List.cons_append,List.nil_append] at w1 hX hl
  rw [← hX] at hl
  rw [← hX,dF] at w1
  refine ah E (tau [([1],[1])]) _ (prS (av true) (ns.map enD) l) [0,1] (w1 true l (by omega)) rfl rfl ⟨by simp only [go_sem],by rw [aa];decide⟩ rfl (by unfold prS;simp only [go_sem]) (by unfold prS;simp only [go_sem]) ?_
  rintro _ _ ⟨rfl,rfl⟩
  unfold prM prS
  simp only [go_sem]
  refine ⟨_,_,[0,1,2],tau [([2],[79,2])],⟨rfl,rfl⟩,?_⟩
  simp only [go_sem]
 rw [if_neg hh] at hX hl
 refine ai E (fun hh=>?_) (fun hh=>?_)<;>simp only [go_sem]
 ·rw [if_pos hh] at hX hl
  simp only [List.length_append,List.length_cons,List.length_nil] at hl
  have w1:=sD (G:=GT tt fz) (ns.map enD) (A8 _) [44,32] n.l (n.l.map fun f=>TX ns f.to 0) (by simp) (by omega) (by decide) (fun j hj=>by rw [List.getD_eq_getElem?_getD,List.getElem?_map,List.getElem?_eq_getElem hj];rw [show fdE n.l j=n.l[j] by simp [fdE,hj]];exact hk n.l[j].to (by rw [Bo hh];exact List.mem_map_of_mem (List.getElem_mem hj)) 0)
  generalize bW [44,32] (iK hdR n.l (n.l.map fun f=>TX ns f.to 0))=T1 at hX hl w1
  refine aA E [83] none ([[123]].map .str) rfl (by simp only [go_sem];rfl) ?_
  simp only [go_sem]
  refine ah E (tau [([1],[1])]) [.bx [0] 0,.d (.sl none ([[123]].map .str))] (prS (av true) (ns.map enD) l) [0,1] (aD true (ns.map enD) l [[123]] (by simp) (by simp) (by simp only [List.flatten_cons,List.flatten_nil,List.length_append,List.length_nil,List.length_cons];omega)) rfl rfl ⟨by simp only [go_sem],by rw [aa];decide⟩ rfl (by unfold prS;simp only [go_sem]) (by unfold prS;simp only [go_sem]) ?_
  rintro _ _ ⟨rfl,rfl⟩
  simp only [List.flatten_cons,List.flatten_nil,List.append_nil]
  unfold prM prS
  simp only [go_sem]
  refine ah E (tau [([105],[2]),([1],[84,2])]) [.bx [0] 0,.d (.sl (some 3) (n.l.map fD)),.d (.str [44,32]),.clo 64 [.bx [105] 0]] (prC (av true) (ns.map enD) (l++[123])) [0,1,105] (w1 (l++[123]) (by (try simp only [List.length_append,List.length_cons,List.length_nil]);omega)) rfl rfl ⟨by simp only [go_sem],by rw [aa];decide⟩ rfl (by unfold prC prS;simp only [go_sem]) (by unfold prC prS;simp only [go_sem]) ?_
  rintro _ _ ⟨rfl,rfl⟩
  unfold lM prM prC prS
  simp only [go_sem]
  refine aA E [91] none ([[125]].map .str) rfl (by simp only [go_sem];rfl) ?_
  simp only [go_sem]
  refine ah E (tau [([1],[89,2])]) [.bx [0] 0,.d (.sl none ([[125]].map .str))] (prS (av true) (ns.map enD) (l++[123]++T1)) [0,1] (aD true (ns.map enD) (l++[123]++T1) [[125]] (by simp) (by simp) (by simp only [List.flatten_cons,List.flatten_nil,List.length_append,List.length_nil,List.length_cons];omega)) rfl rfl ⟨by simp only [go_sem],by rw [aa];decide⟩ rfl (by unfold prS;simp only [go_sem]) (by unfold prS;simp only [go_sem]) ?_
  rintro _ _ ⟨rfl,rfl⟩
  simp only [List.flatten_cons,List.flatten_nil,List.append_nil]
  unfold prM prS
  simp only [go_sem]
  rw [show (l++[123]++T1++[125])=l++X by rw [hX];simp]
  refine ⟨_,_,[0,1,2],tau [([2],[92,2])],⟨rfl,rfl⟩,?_⟩
  simp only [go_sem]
 rw [if_neg hh] at hX hl
 refine ai E (fun hh=>?_) (fun hh=>?_)<;>simp only [go_sem]
 ·rw [if_pos hh] at hX hl
  simp only [List.length_append,List.length_cons,List.length_nil] at hl
  have w1:=hk n.a (by rw [kI (.inr (.inl hh))];simp) 6
  generalize TX ns n.a 6=T1 at hX hl w1
  refine ah E (tau [([1],[1])]) [.bx [0] 0,.d (i64 n.a),.d (i64 6)] (prS (av true) (ns.map enD) l) [0,1] (w1 true l (by (try simp only [List.length_append,List.length_cons,List.length_nil]);omega)) rfl rfl ⟨by simp only [go_sem],by rw [aa];decide⟩ rfl (by unfold prS;simp only [go_sem]) (by unfold prS;simp only [go_sem]) ?_
  rintro _ _ ⟨rfl,rfl⟩
  unfold prM prS
  simp only [go_sem]
  refine aA E [102] none ([[46],n.name].map .str) rfl (by simp only [go_sem];rfl) ?_
  simp only [go_sem]
  refine ah E (tau [([1],[98,2])]) [.bx [0] 0,.d (.sl none ([[46],n.name].map .str))] (prS (av true) (ns.map enD) (l++T1)) [0,1] (aD true (ns.map enD) (l++T1) [[46],n.name] (by simp) (by simp) (by simp only [List.flatten_cons,List.flatten_nil,List.length_append,List.length_nil,List.length_cons];omega)) rfl rfl ⟨by simp only [go_sem],by rw [aa];decide⟩ rfl (by unfold prS;simp only [go_sem]) (by unfold prS;simp only [go_sem]) ?_
  rintro _ _ ⟨rfl,rfl⟩
  simp only [List.flatten_cons,List.flatten_nil,List.append_nil]
  unfold prM prS
  simp only [go_sem]
  rw [show (l++T1++(46::n.name))=l++X by rw [hX];simp]
  refine ⟨_,_,[0,1,2],tau [([2],[103,2])],⟨rfl,rfl⟩,?_⟩
  simp only [go_sem]
 rw [if_neg hh] at hX hl
 refine ai E (fun hh=>?_) (fun hh=>?_)<;>simp only [go_sem]
 ·rw [if_pos hh] at hX hl
  simp only [List.length_append,List.length_cons,List.length_nil] at hl
  have w1:=hk n.a (by rw [kI (.inr (.inr hh))];simp) 6
  generalize TX ns n.a 6=T1 at hX hl w1
  refine aA E [109] none ([n.name,[32]].map .str) rfl (by simp only [go_sem];rfl) ?_
  simp only [go_sem]
  refine ah E (tau [([1],[1])]) [.bx [0] 0,.d (.sl none ([n.name,[32]].map .str))] (prS (av true) (ns.map enD) l) [0,1] (aD true (ns.map enD) l [n.name,[32]] (by simp) (by simp) (by simp only [List.flatten_cons,List.flatten_nil,List.length_append,List.length_nil,List.length_cons];omega)) rfl rfl ⟨by simp only [go_sem],by rw [aa];decide⟩ rfl (by unfold prS;simp only [go_sem]) (by unfold prS;simp only [go_sem]) ?_
  rintro _ _ ⟨rfl,rfl⟩
  simp only [List.flatten_cons,List.flatten_nil,List.append_nil]
  unfold prM prS
  simp only [go_sem]
  refine ah E (tau [([1],[110,2])]) [.bx [0] 0,.d (i64 n.a),.d (i64 6)] (prS (av true) (ns.map enD) (l++(n.name++[32]))) [0,1] (w1 true (l++(n.name++[32])) (by (try simp only [List.length_append,List.length_cons,List.length_nil]);omega)) rfl rfl ⟨by simp only [go_sem],by rw [aa];decide⟩ rfl (by unfold prS;simp only [go_sem]) (by unfold prS;simp only [go_sem]) ?_
  rintro _ _ ⟨rfl,rfl⟩
  unfold prM prS
  simp only [go_sem]
  rw [show (l++(n.name++[32])++T1)=l++X by rw [hX];simp]
  refine ⟨_,_,[0,1,2],tau [([2],[114,2])],⟨rfl,rfl⟩,?_⟩
  simp only [go_sem]
 rw [if_neg hh] at hX hl
 refine ai E (fun hh=>?_) (fun hh=>?_)<;>simp only [go_sem]
 ·rw [if_pos hh] at hX hl
  simp only [List.length_append,List.length_cons,List.length_nil] at hl
  have hkl:aj n=n.a::n.l.map (·.to):=by simp [aj,hh,aG,aw]
  have w1:=hk n.a (by rw [hkl];simp) 0
  generalize TX ns n.a 0=T1 at hX hl w1
  have w2:=sD (G:=GT tt fz) (ns.map enD) (Eo _) [32,124,32] n.l (n.l.map fun f=>TX ns f.to 0) (by simp) (by omega) (by decide) (fun j hj=>by rw [List.getD_eq_getElem?_getD,List.getElem?_map,List.getElem?_eq_getElem hj];rw [show fdE n.l j=n.l[j] by simp [fdE,hj]];exact hk n.l[j].to (by rw [hkl];exact List.mem_cons_of_mem _ (List.mem_map_of_mem (List.getElem_mem hj))) 0)
  generalize bW [32,124,32] (iK hdB n.l (n.l.map fun f=>TX ns f.to 0))=T2 at hX hl w2
  refine aA E [118] none ([[99,97,115,101,32]].map .str) rfl (by simp only [go_sem];rfl) ?_
  simp only [go_sem]
  refine ah E (tau [([1],[1])]) [.bx [0] 0,.d (.sl none ([[99,97,115,101,32]].map .str))] (prS (av true) (ns.map enD) l) [0,1] (aD true (ns.map enD) l [[99,97,115,101,32]] (by simp) (by simp) (by simp only [List.flatten_cons,List.flatten_nil,List.length_append,List.length_nil,List.length_cons];omega)) rfl rfl ⟨by simp only [go_sem],by rw [aa];decide⟩ rfl (by unfold prS;simp only [go_sem]) (by unfold prS;simp only [go_sem]) ?_
  rintro _ _ ⟨rfl,rfl⟩
  simp only [List.flatten_cons,List.flatten_nil,List.append_nil]
  unfold prM prS
  simp only [go_sem]
  refine ah E (tau [([1],[119,2])]) [.bx [0] 0,.d (i64 n.a),.d (i64 0)] (prS (av true) (ns.map enD) (l++([99,97,115,101,32]))) [0,1] (w1 true (l++([99,97,115,101,32])) (by (try simp only [List.length_append,List.length_cons,List.length_nil]);omega)) rfl rfl ⟨by simp only [go_sem],by rw [aa];decide⟩ rfl (by unfold prS;simp only [go_sem]) (by unfold prS;simp only [go_sem]) ?_
  rintro _ _ ⟨rfl,rfl⟩
  unfold prM prS
  simp only [go_sem]
  refine aA E [125] none ([[32,111,102,32]].map .str) rfl (by simp only [go_sem];rfl) ?_
  simp only [go_sem]
  refine ah E (tau [([1],[123,2])]) [.bx [0] 0,.d (.sl none ([[32,111,102,32]].map .str))] (prS (av true) (ns.map enD) (l++([99,97,115,101,32])++T1)) [0,1] (aD true (ns.map enD) (l++([99,97,115,101,32])++T1) [[32,111,102,32]] (by simp) (by simp) (by simp only [List.flatten_cons,List.flatten_nil,List.length_append,List.length_nil,List.length_cons];omega)) rfl rfl ⟨by simp only [go_sem],by rw [aa];decide⟩ rfl (by unfold prS;simp only [go_sem]) (by unfold prS;simp only [go_sem]) ?_
  rintro _ _ ⟨rfl,rfl⟩
  simp only [List.flatten_cons,List.flatten_nil,List.append_nil]
  unfold prM prS
  simp only [go_sem]
  refine ah E (tau [([105],[2]),([1],[126,2])]) [.bx [0] 0,.d (.sl (some 3) (n.l.map fD)),.d (.str [32,124,32]),.clo 65 [.bx [105] 0]] (prC (av true) (ns.map enD) (l++([99,97,115,101,32])++T1++([32,111,102,32]))) [0,1,105] (w2 (l++([99,97,115,101,32])++T1++([32,111,102,32])) (by (try simp only [List.length_append,List.length_cons,List.length_nil]);omega)) rfl rfl ⟨by simp only [go_sem],by rw [aa];decide⟩ rfl (by unfold prC prS;simp only [go_sem]) (by unfold prC prS;simp only [go_sem]) ?_
  rintro _ _ ⟨rfl,rfl⟩
  unfold lM prM prC prS
  simp only [go_sem]
  refine aA E [133] none ([[32,101,110,100]].map .str) rfl (by simp only [go_sem];rfl) ?_
  simp only [go_sem]
  refine ah E (tau [([1],[131,2])]) [.bx [0] 0,.d (.sl none ([[32,101,110,100]].map .str))] (prS (av true) (ns.map enD) (l++([99,97,115,101,32])++T1++([32,111,102,32])++T2)) [0,1] (aD true (ns.map enD) (l++([99,97,115,101,32])++T1++([32,111,102,32])++T2) [[32,101,110,100]] (by simp) (by simp) (by simp only [List.flatten_cons,List.flatten_nil,List.length_append,List.length_nil,List.length_cons];omega)) rfl rfl ⟨by simp only [go_sem],by rw [aa];decide⟩ rfl (by unfold prS;simp only [go_sem]) (by unfold prS;simp only [go_sem]) ?_
  rintro _ _ ⟨rfl,rfl⟩
  simp only [List.flatten_cons,List.flatten_nil,List.append_nil]
  unfold prM prS
  simp only [go_sem]
  rw [show (l++([99,97,115,101,32])++T1++([32,111,102,32])++T2++([32,101,110,100]))=l++X by rw [hX];simp]
  refine ⟨_,_,[0,1,2],tau [([2],[134,2])],⟨rfl,rfl⟩,?_⟩
  simp only [go_sem]
 rw [if_neg hh] at hX hl
 have w1:=hlf ⟨k1,by omega⟩ hin hs
 rw [← hX] at hl
 rw [← hX,dF] at w1
 refine ah E (tau [([1],[1])]) _ (prS (av true) (ns.map enD) l) [0,1] (w1 true l (by omega)) rfl rfl ⟨by simp only [go_sem],by rw [aa];decide⟩ rfl (by unfold prS;simp only [go_sem]) (by unfold prS;simp only [go_sem]) ?_
 rintro _ _ ⟨rfl,rfl⟩
 unfold prM prS
 simp only [go_sem]
 refine ⟨_,_,[0,1,2],tau [([2],[17,2])],⟨rfl,rfl⟩,?_⟩
 simp only [go_sem]
theorem Fl {tt:TypeId} {fz:Nat × Nat} {ns:List EN} (ht:bx ns) (hr:∀ n∈ns,inR n.n) {i:Nat} (hi:i<ns.length) (hk:∀ k∈aj (ndE ns i),∀ least:Nat,Writes (GT tt fz) 60 [.d (i64 k),.d (i64 (least:Int))] (ns.map enD) (TX ns k least)) :
  Writes (GT tt fz) 28 [.d (i64 (i:Int))] (ns.map enD) (iF ns (ndE ns i)):=fun b l hl=>match b with
 | false=>LP ht hr hi hk l hl
 | true=>Ko ht hr hi hk l hl
end Go.Proofs.YtejpnabbmgpmaaaGreatDoor

namespace Go.Proofs.YtejpnabbmgpmaaaGreatDoor
open Go.Ab
mutual
def VT.inn:VT→Prop
 | .mk _ n s nms vs=>(inR n∧s.length≤maxLen∧nms.length=vs.length∧vs.length≤maxLen∧∀ x∈nms,x.length≤maxLen)∧VT.inns vs
def VT.inns:List VT→Prop
 | []=>True
 | v::r=>v.inn∧VT.inns r
end
theorem tK:∀ l:List VT,VT.inns l↔∀ v∈l,v.inn
 | []=>by simp [VT.inns]
 | v::r=>by rw [VT.inns,tK r];simp
section
variable {H:Type} {enc:TypeId × Value→H} {w:World} {spare:Nat→Bool} {held:Bool}
end
structure VT.In (v:VT):Prop where
 n:inR v.n
 s:v.s.length≤maxLen
 len:v.nms.length=v.vs.length
 few:v.vs.length≤maxLen
 nl:∀ x∈v.nms,x.length≤maxLen
 kids:∀ u∈v.vs,u.inn
theorem VT.inn.of {v:VT} (h:v.inn):v.In:=by
 cases v with
 | mk k n s nms vs =>
   rw [VT.inn,tK] at h
   exact ⟨h.1.1,h.1.2.1,h.1.2.2.1,h.1.2.2.2.1,h.1.2.2.2.2,h.2⟩
end Go.Proofs.YtejpnabbmgpmaaaGreatDoor

namespace Go.Proofs.YtejpnabbmgpmaaaGreatDoor
open Go.Ab
end Go.Proofs.YtejpnabbmgpmaaaGreatDoor

namespace Go.Proofs.YtejpnabbmgpmaaaGreatDoor
open Go.Ab
theorem Dk (acc:List EN) (rs:List Int):∀ (ls:List (List EN)) (X:List EN) (Y:List Int),br ls (acc++X.map (ax acc.length)) (rs++Y.map fun x:Int=>x+acc.length)=(acc++(br ls X Y).1.map (ax acc.length),rs++(br ls X Y).2.map fun x:Int=>x+acc.length)
 | [],_,_=>rfl
 | l::r,X,Y=>by
   rw [br,br,← Dk acc rs r]
   congr 1
   ·rw [List.length_append,List.length_map,List.append_assoc,List.map_append,List.map_map]
    congr 2
    refine List.map_congr_left fun x _=>?_
    show _=ax acc.length (ax X.length x)
    rw [fQ]
   ·rw [List.map_append,← List.append_assoc]
    congr 1
    simp only [List.map_cons,List.map_nil,List.length_append,List.length_map]
    congr 1
    omega
theorem GG {n:EN} {ls:List (List EN)} (hw:aF n=ls.length) (acc:List EN):(br ls acc []).1++[aM n (br ls acc []).2]=acc++(az n ls).map (ax acc.length):=by
 have:=Dk acc [] ls [] []
 simp only [List.map_nil,List.append_nil,List.nil_append] at this
 rw [this]
 unfold az
 rw [List.map_append,List.append_assoc]
 simp only [List.map_cons,List.map_nil]
 rw [oL acc.length (by rw [uO,hw])]
def cpE (ns:List EN) (K:List Int) (out:List EN) (q:Nat):List EN × List Int:=br ((K.take q).map fun k=>(trE ns k.toNat).enc) out []
theorem xq {ns:List EN} {K:List Int} {out:List EN} {q k:Nat} (h:q<K.length) (hk:K.getD q 0=(k:Int)) :
  cpE ns K out (q+1)=((cpE ns K out q).1++(trE ns k).enc.map (ax (cpE ns K out q).1.length),(cpE ns K out q).2++[(((cpE ns K out q).1.length+(trE ns k).enc.length:Nat):Int)-1]):=by
 have hk:K[q]=(k:Int):=by simpa [h] using hk
 unfold cpE
 rw [List.take_succ_eq_append_getElem h,List.map_append,List.map_cons,List.map_nil,nO,hk,Int.toNat_natCast]
theorem rR (ns:List EN) (K:List Int) (out:List EN) (q:Nat):(cpE ns K out q).1.length=out.length+szs ((K.take q).map fun k=>trE ns k.toNat):=by
 unfold cpE
 rw [kj]
 congr 1
 unfold bA szs
 rw [List.map_map,List.map_map]
 rfl
theorem Eh {α:Type} (f:α→RT) (K:List α) {q:Nat} (h:q<K.length):szs ((K.take q).map f)+(f K[q]).sz≤szs (K.map f):=by
 conv=>rhs;rw [← List.take_append_drop q K,List.map_append,List.drop_eq_getElem_cons h]
 unfold szs
 simp only [List.map_append,List.map_cons,List.sum_append,List.sum_cons]
 omega
theorem yn (ns:List EN) (K:List Int) (out:List EN) (q:Nat) (h:q≤K.length):(cpE ns K out q).2.length=q:=by
 unfold cpE
 rw [sv]
 simp
 omega
structure Low (ns:List EN):Prop where
 len:ns.length≤1000000
 l:∀ n∈ns,n.l.length≤900000
 k:∀ i,i<ns.length→(aj (ndE ns i)).all (inB i)=true
theorem Ew {ns:List EN} (h:Low ns) {i:Nat} (hi:i<ns.length) (out:List EN):(cpE ns (aj (ndE ns i)) out (aj (ndE ns i)).length).1++[aM (ndE ns i) (cpE ns (aj (ndE ns i)) out (aj (ndE ns i)).length).2]=out++(trE ns i).enc.map (ax out.length):=by
 unfold cpE
 rw [List.take_length,GG (by rw [List.length_map,bd]),Es h.k hi,RT.enc,gK,List.map_map,oV (by rw [List.length_map,bd];exact Nat.le_refl _)]
 rfl
theorem HE {ns:List EN} (h:Low ns) {i:Nat} (hi:i<ns.length):(trE ns i).sz=szs ((aj (ndE ns i)).map fun k=>trE ns k.toNat)+1:=by rw [Es h.k hi,Bl]
set_option maxHeartbeats 1000000 in
theorem xK {G} {ns:List EN} (h:Low ns):∀ (m i:Nat) (out:List EN),i<m→i<ns.length→out.length+(trE ns i).sz≤900000 →
  HCall Tryz.prog G 119 [.d (exD ns),.d (i64 (i:Int)),.vw [100] 0 out.length] [([100],.arr (some 9) (out.map enD))] [100] (fun r hp'=>r=.vw [0] 0 (out.length+(trE ns i).sz)∧hp'=[([0],.arr (some 9) ((out++(trE ns i).enc.map (ax out.length)).map enD))])
 | 0,_,_,h,_,_=>absurd h (Nat.not_lt_zero _)
 | m+1,i,out,him,hi,hS=>by
   have ih:=xK (G:=G) h m
   have hg:=bO hi
   have hsi:=h.l _ (by rw [bh hi];exact List.getElem_mem hi:ndE ns i∈ns)
   have hlen:=h.len
   have hkn:∀ q,q<(aj (ndE ns i)).length→∃ k:Nat,(aj (ndE ns i)).getD q 0=(k:Int)∧k<i:=fun q hq=>by
    obtain ⟨h1,h2⟩:=aE h.k hi _ (List.getElem_mem hq)
    exact ⟨((aj (ndE ns i))[q]).toNat,by simp [hq];omega,by omega⟩
   have hend:=Ew h hi out
   have hTl:=HE h hi
   have hTl:(trE ns i).enc.length=szs ((aj (ndE ns i)).map fun k=>trE ns k.toNat)+1:=hTl
   have hSz:(trE ns i).sz=(trE ns i).enc.length:=rfl
   rw [hSz] at hS ⊢
   have hkc:=vI (G:=G) (ndE ns i) (by omega)
   obtain ⟨n,hne⟩:∃ n,n=ndE ns i:=⟨_,rfl⟩
   rw [← hne] at hg hsi hkn hend hTl hkc
   obtain ⟨K,hK⟩:∃ K,K=aj n:=⟨_,rfl⟩
   have hKw:K.length=aF n:=by rw [hK,bd]
   have hKl:K.length≤900003:=by rw [hKw];unfold aF;have:=cI n.k;split<;>omega
   rw [← hK] at hkn hend hTl hkc
   rw [dF n] at hkc
   generalize (trE ns i).enc=T at *
   unfold exD at *
   refine ao Tryz.func119 rfl (by decide +kernel) (by simp [Tryz.ntmps119]) (veil fun E=>?_)
   simp only [go_sem]
   refine ⟨by omega,?_⟩
   rw [hg]
   simp only [go_sem]
   refine ae E (hkc) rfl rfl (by simp) ?_
   rintro _ rfl
   simp only [go_sem]
   refine aU E (X:={ q:Nat // q≤K.length }) (fun y=>[(1,.d (i64 i)),(2,.vw [98] 0 (cpE ns K out y.1).1.length),(3,.bx [3] 0),(7,.d (.sl none (K.map i64))),(8,.vw [97] 0 (cpE ns K out y.1).2.length),(9,.d (i64 y.1))])
    (fun y=>[([3],.box [.d (.sl (some 9) (ns.map enD))]),([98],.arr (some 9) ((cpE ns K out y.1).1.map enD)),([97],.arr none ((cpE ns K out y.1).2.map i64))]) [3,97,98,100] (fun y=>K.length-y.1) ⟨0,Nat.zero_le _⟩ (tau [([98],[100]),([97],[16])]) ?_ ?_
   ·simp only [go_sem]
    skip
    all_goals ((repeat' apply And.intro)<;>first | rfl | trivial)
   rintro ⟨q,hq⟩ E0
   refine bk E0 fun Q' hQ E'=>?_
   simp only at hq ⊢
   simp only [go_sem]
   refine ai E' (fun f1=>?_) (fun f1=>?_)<;>simp only [go_sem]
   ·have hq':q<K.length:=by omega
    obtain ⟨k,hk,hki⟩:=hkn q hq'
    have hst:=xq (ns:=ns) (out:=out) hq' hk
    have hl1:=rR ns K out q
    have hr1:=yn ns K out q hq
    have hz:=Eh (fun k:Int=>trE ns k.toNat) K hq'
    rw [show K[q]=(k:Int) by simpa [hq'] using hk,Int.toNat_natCast] at hz
    have c:=ih k (cpE ns K out q).1 (by omega) (by omega) (by omega)
    obtain ⟨acc,hacc⟩:∃ acc,acc=(cpE ns K out q).1:=⟨_,rfl⟩
    obtain ⟨rs,hrs⟩:∃ rs,rs=(cpE ns K out q).2:=⟨_,rfl⟩
    have hz2:(trE ns k).sz=(trE ns k).enc.length:=rfl
    rw [← hacc,← hrs] at hst
    rw [← hacc] at hl1 c
    rw [← hrs] at hr1
    rw [← hacc,← hrs]
    rw [hz2] at c hz
    generalize (trE ns k).enc=T at *
    refine au mixed E' fun X=>?_
    simp only [go_sem]
    refine ⟨by omega,?_⟩
    rw [aR hq',hk]
    simp only [go_sem]
    refine yg X (tau [([100],[98])]) _ _ _ _ _ c rfl rfl ⟨by simp only [go_sem],by first | (rw [aa];decide) | (simp only [go_sem]<;>(try rw [aa])<;>decide)⟩ (by simp only [go_sem]) (by simp only [go_sem]) (by simp only [go_sem]) (by simp only [go_sem];try omega) ?_
    simp only [go_sem]
    refine ⟨by decide +kernel,?_⟩
    refine ⟨by omega,?_⟩
    rw [al (n:=((acc.length+T.length:Nat):Int)-1) ⟨by omega,by omega⟩]
    rw [show List.map i64 rs++[i64 (((acc.length+T.length:Nat):Int)-1)]=(rs++[((acc.length+T.length:Nat):Int)-1]).map i64 by rw [List.map_append];rfl]
    rw [al (n:=(q:Int)+1) ⟨by omega,by omega⟩,hQ]
    simp only [go_sem]
    refine ⟨⟨q+1,by omega⟩,by show K.length-(q+1)<_;omega,tau [([98],[29,0]),([97],[35])],?_⟩
    simp only [hst]
    simp only [go_sem]
    simp only [List.length_append,List.length_map,List.length_singleton]
    all_goals ((repeat' apply And.intro)<;>first | rfl | trivial)
   ·have h3:q=K.length:=by omega
    subst h3
    have hl1:=rR ns K out K.length
    have hr1:=yn ns K out K.length hq
    rw [List.take_length] at hl1
    obtain ⟨acc,hacc⟩:∃ acc,acc=(cpE ns K out K.length).1:=⟨_,rfl⟩
    obtain ⟨rs,hrs⟩:∃ rs,rs=(cpE ns K out K.length).2:=⟨_,rfl⟩
    rw [← hacc,← hrs] at hend
    rw [← hacc] at hl1
    rw [← hrs] at hr1
    rw [← hacc,← hrs,hQ]
    simp only [go_sem]
    refine ⟨by omega,?_⟩
    rw [hg]
    simp only [go_sem]
    refine aA E [97] none (rs.map i64) rfl (by simp only [go_sem];rfl) ?_
    simp only [go_sem]
    try rw [List.take_of_length_le (by rw [List.length_map];exact Nat.le_refl _)]
    have cw:=yr (G:=G) n rs (by omega) (by rw [hr1,hKw])
    rw [dF n] at cw
    obtain ⟨M,hM⟩:∃ M,M=aM n rs:=⟨_,rfl⟩
    rw [← hM] at cw hend
    rw [dF M] at cw
    refine ae E cw rfl rfl (by simp) ?_
    rintro _ rfl
    simp only [go_sem]
    refine ⟨by omega,?_⟩
    try rw [List.take_of_length_le (by rw [List.length_map];exact Nat.le_refl _)]
    rw [show List.map enD acc++[.agg [i64 M.k,i64 M.a,i64 M.b,i64 M.c,i64 M.n,.str M.name,.str M.s,.sl (some 3) (M.l.map fD),i64 M.pos]]=(out++T.map (ax out.length)).map enD by
     rw [← hend,List.map_append];rfl]
    rw [show acc.length+1=out.length+T.length by rw [hTl,hl1];omega]
    refine ⟨_,_,[100,0],tau [([0],[45])],⟨rfl,rfl⟩,?_⟩
    simp only [go_sem]
theorem Bm {G} {ns:List EN} (h:Low ns) {i:Nat} (hi:i<ns.length) (hS:(trE ns i).sz≤900000) :
  HCall Tryz.prog G 119 [.d (exD ns),.d (i64 (i:Int)),.d .nils] [] [] (fun r hp'=>r=.vw [0] 0 (([]:List EN).length+(trE ns i).sz)∧hp'=[([0],.arr (some 9) ((([]:List EN)++(trE ns i).enc.map (ax ([]:List EN).length)).map enD))]):=by
 have ih:=xK (G:=G) h (i+1)
 obtain ⟨out,ho⟩:∃ out:List EN,out=[]:=⟨_,rfl⟩
 rw [← ho]
 have hS:out.length+(trE ns i).sz≤900000:=by rw [ho];simpa using hS
 have hg:=bO hi
 have hsi:=h.l _ (by rw [bh hi];exact List.getElem_mem hi:ndE ns i∈ns)
 have hlen:=h.len
 have hkn:∀ q,q<(aj (ndE ns i)).length→∃ k:Nat,(aj (ndE ns i)).getD q 0=(k:Int)∧k<i:=fun q hq=>by
  obtain ⟨h1,h2⟩:=aE h.k hi _ (List.getElem_mem hq)
  exact ⟨((aj (ndE ns i))[q]).toNat,by simp [hq];omega,by omega⟩
 have hend:=Ew h hi out
 have hTl:=HE h hi
 have hTl:(trE ns i).enc.length=szs ((aj (ndE ns i)).map fun k=>trE ns k.toNat)+1:=hTl
 have hSz:(trE ns i).sz=(trE ns i).enc.length:=rfl
 rw [hSz] at hS ⊢
 have hkc:=vI (G:=G) (ndE ns i) (by omega)
 obtain ⟨n,hne⟩:∃ n,n=ndE ns i:=⟨_,rfl⟩
 rw [← hne] at hg hsi hkn hend hTl hkc
 obtain ⟨K,hK⟩:∃ K,K=aj n:=⟨_,rfl⟩
 have hKw:K.length=aF n:=by rw [hK,bd]
 have hKl:K.length≤900003:=by rw [hKw];unfold aF;have:=cI n.k;split<;>omega
 rw [← hK] at hkn hend hTl hkc
 rw [dF n] at hkc
 generalize (trE ns i).enc=T at *
 unfold exD at *
 refine ao Tryz.func119 rfl (by decide +kernel) (by simp [Tryz.ntmps119]) (veil fun E=>?_)
 simp only [go_sem]
 refine ⟨by omega,?_⟩
 rw [hg]
 simp only [go_sem]
 refine I5 E 2 99 (some 9) rfl (by rw [aa];decide) ?_
 simp only [go_sem]
 refine ae E (hkc) rfl rfl (by simp) ?_
 rintro _ rfl
 simp only [go_sem]
 refine aU E (X:={ q:Nat // q≤K.length }) (fun y=>[(1,.d (i64 i)),(2,.vw [98] 0 (cpE ns K out y.1).1.length),(3,.bx [3] 0),(7,.d (.sl none (K.map i64))),(8,.vw [97] 0 (cpE ns K out y.1).2.length),(9,.d (i64 y.1))])
  (fun y=>[([3],.box [.d (.sl (some 9) (ns.map enD))]),([98],.arr (some 9) ((cpE ns K out y.1).1.map enD)),([97],.arr none ((cpE ns K out y.1).2.map i64))]) [3,97,98,99] (fun y=>K.length-y.1) ⟨0,Nat.zero_le _⟩ (tau [([98],[99]),([97],[16])]) ?_ ?_
 ·simp only [go_sem]
  subst ho
  all_goals ((repeat' apply And.intro)<;>first | rfl | trivial)
 rintro ⟨q,hq⟩ E0
 refine bk E0 fun Q' hQ E'=>?_
 simp only at hq ⊢
 simp only [go_sem]
 refine ai E' (fun f1=>?_) (fun f1=>?_)<;>simp only [go_sem]
 ·have hq':q<K.length:=by omega
  obtain ⟨k,hk,hki⟩:=hkn q hq'
  have hst:=xq (ns:=ns) (out:=out) hq' hk
  have hl1:=rR ns K out q
  have hr1:=yn ns K out q hq
  have hz:=Eh (fun k:Int=>trE ns k.toNat) K hq'
  rw [show K[q]=(k:Int) by simpa [hq'] using hk,Int.toNat_natCast] at hz
  have c:=ih k (cpE ns K out q).1 (by omega) (by omega) (by omega)
  obtain ⟨acc,hacc⟩:∃ acc,acc=(cpE ns K out q).1:=⟨_,rfl⟩
  obtain ⟨rs,hrs⟩:∃ rs,rs=(cpE ns K out q).2:=⟨_,rfl⟩
  have hz2:(trE ns k).sz=(trE ns k).enc.length:=rfl
  rw [← hacc,← hrs] at hst
  rw [← hacc] at hl1 c
  rw [← hrs] at hr1
  rw [← hacc,← hrs]
  rw [hz2] at c hz
  generalize (trE ns k).enc=T at *
  refine au mixed E' fun X=>?_
  simp only [go_sem]
  refine ⟨by omega,?_⟩
  rw [aR hq',hk]
  simp only [go_sem]
  refine yg X (tau [([100],[98])]) _ _ _ _ _ c rfl rfl ⟨by simp only [go_sem],by first | (rw [aa];decide) | (simp only [go_sem]<;>(try rw [aa])<;>decide)⟩ (by simp only [go_sem]) (by simp only [go_sem]) (by simp only [go_sem]) (by simp only [go_sem];try omega) ?_
  simp only [go_sem]
  refine ⟨by decide +kernel,?_⟩
  refine ⟨by omega,?_⟩
  rw [al (n:=((acc.length+T.length:Nat):Int)-1) ⟨by omega,by omega⟩]
  rw [show List.map i64 rs++[i64 (((acc.length+T.length:Nat):Int)-1)]=(rs++[((acc.length+T.length:Nat):Int)-1]).map i64 by rw [List.map_append];rfl]
  rw [al (n:=(q:Int)+1) ⟨by omega,by omega⟩,hQ]
  simp only [go_sem]
  refine ⟨⟨q+1,by omega⟩,by show K.length-(q+1)<_;omega,tau [([98],[29,0]),([97],[35])],?_⟩
  simp only [hst]
  simp only [go_sem]
  simp only [List.length_append,List.length_map,List.length_singleton]
  all_goals ((repeat' apply And.intro)<;>first | rfl | trivial)
 ·have h3:q=K.length:=by omega
  subst h3
  have hl1:=rR ns K out K.length
  have hr1:=yn ns K out K.length hq
  rw [List.take_length] at hl1
  obtain ⟨acc,hacc⟩:∃ acc,acc=(cpE ns K out K.length).1:=⟨_,rfl⟩
  obtain ⟨rs,hrs⟩:∃ rs,rs=(cpE ns K out K.length).2:=⟨_,rfl⟩
  rw [← hacc,← hrs] at hend
  rw [← hacc] at hl1
  rw [← hrs] at hr1
  rw [← hacc,← hrs,hQ]
  simp only [go_sem]
  refine ⟨by omega,?_⟩
  rw [hg]
  simp only [go_sem]
  refine aA E [97] none (rs.map i64) rfl (by simp only [go_sem];rfl) ?_
  simp only [go_sem]
  try rw [List.take_of_length_le (by rw [List.length_map];exact Nat.le_refl _)]
  have cw:=yr (G:=G) n rs (by omega) (by rw [hr1,hKw])
  rw [dF n] at cw
  obtain ⟨M,hM⟩:∃ M,M=aM n rs:=⟨_,rfl⟩
  rw [← hM] at cw hend
  rw [dF M] at cw
  refine ae E cw rfl rfl (by simp) ?_
  rintro _ rfl
  simp only [go_sem]
  refine ⟨by omega,?_⟩
  try rw [List.take_of_length_le (by rw [List.length_map];exact Nat.le_refl _)]
  rw [show List.map enD acc++[.agg [i64 M.k,i64 M.a,i64 M.b,i64 M.c,i64 M.n,.str M.name,.str M.s,.sl (some 3) (M.l.map fD),i64 M.pos]]=(out++T.map (ax out.length)).map enD by
   rw [← hend,List.map_append];rfl]
  rw [show acc.length+1=out.length+T.length by rw [hTl,hl1];omega]
  refine ⟨_,_,[99,0],tau [([0],[45])],⟨rfl,rfl⟩,?_⟩
  simp only [go_sem]
end Go.Proofs.YtejpnabbmgpmaaaGreatDoor

namespace Go.Proofs.YtejpnabbmgpmaaaGreatDoor
open Go.Ab
theorem EX {ns:List EN} (h:Low ns) {i:Nat} (hi:i<ns.length):(trE ns i).enc.map (ax 0)=(trE ns i).enc:=by
 have:=(vY _ (HF h.k hi)).self
 exact (List.map_congr_left this).trans (List.map_id _)
theorem Je {G} {ns:List EN} (h:Low ns) {i:Nat} (hi:i<ns.length) (hS:(trE ns i).sz≤900000):HP Tryz.prog G 84 [exD ns,i64 (i:Int)] (fun r=>r=.d (exD (trE ns i).enc)):=by
 have c:=Bm (G:=G) h hi hS
 rw [show ([]:List EN).length+(trE ns i).sz=(trE ns i).enc.length from Nat.zero_add _,List.nil_append,show ([]:List EN).length=0 from rfl,EX h hi] at c
 generalize (trE ns i).enc=T at *
 unfold exD at *
 refine bR Tryz.func84 rfl (by decide +kernel) (by simp [Tryz.ntmps84]) (veil fun E=>?_)
 simp only [go_sem]
 refine ab E _ [] [] c rfl rfl ⟨by simp only [go_sem],by rw [aa];decide⟩ rfl (by simp only [go_sem]) (by simp only [go_sem]) ?_
 rintro _ _ ⟨rfl,rfl⟩
 simp only [go_sem]
 refine ⟨[([7,0],some 9,T.map enD)],?_⟩
 simp only [go_sem]
 first | done | (rw [List.take_of_length_le (by rw [List.length_map];exact Nat.le_refl _)]) | (rw [List.take_of_length_le (by rw [List.length_map];exact Nat.le_refl _)];rfl)
theorem Ek {G} {ns:List EN} (h:Low ns) (hp:1≤ns.length) (hS:(trE ns (ns.length-1)).sz≤900000):HP Tryz.prog G 39 [exD ns] (fun r=>r=.d (exD (trE ns (ns.length-1)).enc)):=by
 have hl:=h.len
 have c:=Je (G:=G) h (i:=ns.length-1) (by omega) hS
 rw [show ((ns.length-1:Nat):Int)=(ns.length:Int)-1 by omega] at c
 generalize (trE ns (ns.length-1)).enc=T at *
 unfold exD at *
 refine bR Tryz.func39 rfl (by decide +kernel) (by simp [Tryz.ntmps39]) (veil fun E=>?_)
 simp only [go_sem]
 rw [al ⟨by omega,by omega⟩]
 refine ae E (c) rfl rfl (by simp) ?_
 rintro _ rfl
 simp only [go_sem]
 refine ⟨[],?_⟩
 simp only [go_sem]
end Go.Proofs.YtejpnabbmgpmaaaGreatDoor

namespace Go.Proofs.YtejpnabbmgpmaaaGreatDoor
open Go.Ab
theorem xJ {ns:List EN} (ht:bx ns):Low ns:=⟨by have:=ht.few;omega,Lm ht,aN ht⟩
end Go.Proofs.YtejpnabbmgpmaaaGreatDoor

namespace Go.Proofs.YtejpnabbmgpmaaaGreatDoor
open Go.Ab
def vtN (n:EN) (vs:List VT):VT :=
 if n.k=1 then .mk 1 n.n [] [] [] else if n.k=2 then .mk 2 n.n [] [] [] else if n.k=3 then .mk 3 0 n.s [] [] else if n.k=5 then .mk 4 0 [] [] [] else if n.k=13 then .mk 6 0 n.name [[]] vs else .mk 5 0 [] (n.l.map (·.nm)) vs
mutual
def vtT:RT→VT
 | .mk n ts=>vtN n (LO ts)
def LO:List RT→List VT
 | []=>[]
 | t::r=>vtT t::LO r
end
end Go.Proofs.YtejpnabbmgpmaaaGreatDoor

namespace Go.Proofs.YtejpnabbmgpmaaaGreatDoor
open Go.Ab
def BR (v:VT) (i:Nat):Prop:=i≤v.vs.length∧(v.vs.take i).all VT.may=true∧(v.k=5→(v.nms.take i).all bD=true)
theorem BR.zero (v:VT):BR v 0:=⟨Nat.zero_le _,rfl,fun _=>rfl⟩
theorem BR.step {v:VT} (ok:v.Ok) {i:Nat} (h:BR v i) (hi:i<v.vs.length) (h1:(v.kid i).may=true) (h2:v.k=5→bD (v.nm i)=true):BR v (i+1):=by
 obtain ⟨_,g1,g2⟩:=h
 refine ⟨hi,?_,fun h5=>?_⟩
 ·rw [List.take_succ_eq_append_getElem hi,List.all_append,g1]
  unfold VT.kid at h1
  rw [List.getD_eq_getElem?_getD,List.getElem?_eq_getElem hi] at h1
  simpa using h1
 ·have hn:i<v.nms.length:=by rw [ok.len];exact hi
  have h2:=h2 h5
  rw [List.take_succ_eq_append_getElem hn,List.all_append,g2 h5]
  unfold VT.nm at h2
  rw [List.getD_eq_getElem?_getD,List.getElem?_eq_getElem hn] at h2
  simpa using h2
end Go.Proofs.YtejpnabbmgpmaaaGreatDoor

namespace Go.Proofs.YtejpnabbmgpmaaaGreatDoor
open Go.Ab
end Go.Proofs.YtejpnabbmgpmaaaGreatDoor

namespace Go.Proofs.YtejpnabbmgpmaaaGreatDoor
open Go.Ab
end Go.Proofs.YtejpnabbmgpmaaaGreatDoor

namespace Go.Proofs.YtejpnabbmgpmaaaGreatDoor
open Go.Ab
def FO (s:PS) (l:List EF):List (Name × Ob):=([103],.arr (some 3) (l.map fD))::RO s
theorem yX {G} (s:PS) (t:Tok) (n:EN) (l:List EF) (hl:l.length≤100000):HCall Tryz.prog G 185 [.bx [100] 0,.d (.agg [i64 t.k,.str t.s,i64 t.n,i64 t.pos]),.agg [.d (i64 n.k),.d (i64 n.a),.d (i64 n.b),.d (i64 n.c),.d (i64 n.n),.d (.str n.name),.d (.str n.s),.vw [103] 0 l.length,.d (i64 n.pos)]] (FO s l) [100,101,103] (fun r hp'=>r=.tup []∧hp'=FO (s.parted t l) l):=by
 generalize hR:s.parted t l=R
 unfold PS.parted at hR
 have c8:=nX (G:=G) s 8 t.pos
 have c5:=nX (G:=G) s 5 t.pos
 unfold FO RO TO ag
 refine ao Tryz.func185 rfl (by decide +kernel) (by simp [Tryz.ntmps185]) (veil fun E=>?_)
 simp only [go_sem]
 refine ab E [.bx [100] 0] (RO s) [100,101] (fC s) rfl rfl ⟨by simp only [go_sem],by first | (rw [aa];decide) | (simp only [go_sem]<;>(try rw [aa])<;>decide)⟩ rfl (by unfold RO TO ag;simp only [go_sem]) (by unfold RO TO;simp only [go_sem]) ?_
 rintro _ _ ⟨rfl,rfl⟩
 unfold RO TO ag
 simp only [go_sem]
 refine aV E (fun h1=>?_) (fun h1=>?_)<;>simp only [go_sem]
 ·rw [if_pos (by simpa using h1)] at hR
  rw [← hR]
  refine ⟨_,_,[100,101,103],id,⟨rfl,rfl⟩,?_⟩
  simp only [go_sem]
 rw [if_neg (by simpa using h1)] at hR
 refine ai E (fun h2=>?_) (fun h2=>?_)<;>simp only [go_sem]
 ·rw [if_pos (by omega)] at hR
  refine ab E [.bx [100] 0,.d (i64 8),.d (i64 t.pos)] (RO s) [100,101] (c8) rfl rfl ⟨by simp only [go_sem],by first | (rw [aa];decide) | (simp only [go_sem]<;>(try rw [aa])<;>decide)⟩ rfl (by unfold RO TO ag;simp only [go_sem]) (by unfold RO TO;simp only [go_sem]) ?_
  rintro _ _ ⟨rfl,rfl⟩
  unfold RO TO ag
  simp only [go_sem]
  rw [← hR]
  refine ⟨_,_,[100,101,103],id,⟨rfl,rfl⟩,?_⟩
  simp only [go_sem]
 ·rw [if_neg (by omega)] at hR
  refine K6 E [4] (.agg [i64 t.k,.str t.s,i64 t.n,i64 t.pos]) rfl rfl ?_
  simp only [go_sem]
  refine mI E [([103],some 3,l.map fD)] (FJ l (fun x=>decide (x.nm=t.s)) 187 [.ptr (.agg [i64 t.k,.str t.s,i64 t.n,i64 t.pos])] (by omega) (fun x _=>G4 x t)) (by rintro _ rfl;rfl) (by simp only [go_sem]) rfl (by simp only [go_sem]) (by simp) ?_
  rintro _ rfl
  simp only [go_sem]
  refine aV E (fun h3=>?_) (fun h3=>?_)<;>simp only [go_sem]
  ·rw [if_pos h3] at hR
   refine ab E [.bx [100] 0,.d (i64 5),.d (i64 t.pos)] (RO s) [100,101] (c5) rfl rfl ⟨by simp only [go_sem],by first | (rw [aa];decide) | (simp only [go_sem]<;>(try rw [aa])<;>decide)⟩ rfl (by unfold RO TO ag;simp only [go_sem]) (by unfold RO TO;simp only [go_sem]) ?_
   rintro _ _ ⟨rfl,rfl⟩
   unfold RO TO ag
   simp only [go_sem]
   rw [← hR]
   refine ⟨_,_,[100,101,103],id,⟨rfl,rfl⟩,?_⟩
   simp only [go_sem]
  ·rw [if_neg (by rw [h3];decide)] at hR
   rw [← hR]
   refine ⟨_,_,[100,101,103],id,⟨rfl,rfl⟩,?_⟩
   simp only [go_sem]
end Go.Proofs.YtejpnabbmgpmaaaGreatDoor

