/-
  A text's writing is taken. (with the parts that follow it)
-/
import Derived.Test.YtejpnabbmgpmaaaGreatDoorWSG
import Derived.Test.YtejpnabbmgpmaaaGreatDoorWSC
import Derived.Test.YtejpnabbmgpmaaaGreatDoorWSD
import Derived.Test.YtejpnabbmgpmaaaGreatDoorWSE
import Derived.Test.YtejpnabbmgpmaaaGreatDoorWSF
set_option linter.all false
namespace Go.Proofs.YtejpnabbmgpmaaaGreatDoor
open Go.Ab
def CJ:List UInt8→List (Name × Ob)
 | []=>dy
 | c::r=>aH (c::r)
theorem js (l:List UInt8) (c:UInt8):CJ (l++[c])=aH (l++[c]):=by cases l<;>rfl
structure TkI (s:List UInt8) (i:Nat) (acc:List UInt8) (m:Nat):Prop where
 h1:1≤i
 hi:i≤s.length
 ha:acc.length≤i
 hm:(s.drop i).length<m
 he:de m (s.drop i) i acc=cX s
theorem TkI.init {c:UInt8} {r:List UInt8} (hc:c=34):TkI (c::r) 1 [] r.length.succ :=
 ⟨Nat.le_refl _,by simp,by simp,by simp,by simp only [List.drop_succ_cons,List.drop_zero,cX,if_pos hc]⟩
theorem TkI.fin {s:List UInt8} {i m:Nat} {acc:List UInt8} (h:TkI s i acc m) (hi:s.length≤i):cX s=([],0,5):=by
 rw [← h.he,List.drop_eq_nil_of_le hi]
 cases m<;>rfl
theorem TkI.cases {s:List UInt8} {i m:Nat} {acc:List UInt8} (h:TkI s i acc m) (hi:i<s.length):∃ m',m=m'+1∧s.drop i=s.getD i 0::s.drop (i+1):=by
 obtain ⟨m',rfl⟩:∃ m',m=m'+1:=⟨m-1,by have:=h.hm;omega⟩
 exact ⟨m',rfl,by rw [List.drop_eq_getElem_cons hi];simp [hi]⟩
theorem TkI.mark {s:List UInt8} {i m:Nat} {acc:List UInt8} (h:TkI s i acc m) (hi:i<s.length) (hc:s.getD i 0=34):cX s=if 200<acc.length then ([],0,7) else (acc,i+1,0):=by
 obtain ⟨m',rfl,hd⟩:=h.cases hi
 rw [← h.he,hd,de,if_pos hc]
theorem TkI.bad {s:List UInt8} {i m:Nat} {acc:List UInt8} (h:TkI s i acc m) (hi:i<s.length) (hc:¬ s.getD i 0=34) (hs:s.getD i 0=92) (he:(fK (s.drop (i+1))).2=0):cX s=([],0,5):=by
 obtain ⟨m',rfl,hd⟩:=h.cases hi
 rw [← h.he,hd,de,if_neg hc,if_pos hs,if_pos he]
theorem TkI.odd {s:List UInt8} {i m:Nat} {acc:List UInt8} (h:TkI s i acc m) (hi:i<s.length) (hc:¬ s.getD i 0=34) (hs:¬ s.getD i 0=92) (hp:fZ (s.getD i 0)=false):cX s=([],0,5):=by
 obtain ⟨m',rfl,hd⟩:=h.cases hi
 rw [← h.he,hd,de,if_neg hc,if_neg hs,if_neg (by rw [hp];simp)]
theorem TkI.esc {s:List UInt8} {i m:Nat} {acc:List UInt8} (h:TkI s i acc m) (hi:i<s.length) (hc:¬ s.getD i 0=34) (hs:s.getD i 0=92) (he:¬ (fK (s.drop (i+1))).2=0) :
  TkI s (i+(fK (s.drop (i+1))).2+1) (acc++[(fK (s.drop (i+1))).1]) (m-1):=by
 obtain ⟨m',rfl,hd⟩:=h.cases hi
 have hl:=se (s.drop (i+1))
 rw [List.length_drop] at hl
 have hm:=h.hm
 have ha:=h.ha
 rw [List.length_drop] at hm
 refine ⟨by omega,by omega,by simp;omega,by rw [List.length_drop];omega,?_⟩
 rw [← h.he,hd,de,if_neg hc,if_pos hs,if_neg he,List.drop_drop,Nat.add_sub_cancel]
 congr 2
 omega
theorem TkI.plain {s:List UInt8} {i m:Nat} {acc:List UInt8} (h:TkI s i acc m) (hi:i<s.length) (hc:¬ s.getD i 0=34) (hs:¬ s.getD i 0=92) (hp:fZ (s.getD i 0)=true):TkI s (i+1) (acc++[s.getD i 0]) (m-1):=by
 obtain ⟨m',rfl,hd⟩:=h.cases hi
 have hm:=h.hm
 have ha:=h.ha
 rw [List.length_drop] at hm
 refine ⟨by omega,by omega,by simp;omega,by rw [List.length_drop];omega,?_⟩
 rw [← h.he,hd,de,if_neg hc,if_neg hs,if_pos hp,Nat.add_sub_cancel]
set_option maxHeartbeats 1000000 in
theorem Hi {G} (s:List UInt8) (hl:s.length≤1000000):HP Tryz.prog G 157 [.str s] (fun r=>r=.tup [.d (.str (cX s).1),.d (i64 (cX s).2.1),.d (i64 (cX s).2.2)]):=by
 refine an Tryz.func157 rfl (by decide +kernel) (by simp [Tryz.ntmps157]) (veil fun E=>?_)
 simp only [go_sem]
 cases s with
 | nil =>
   simp only [go_sem]
   rfl
 | cons c r =>
 refine ct E (fun h=>absurd h (by simp)) (fun h=>?_)<;>simp only [go_sem]
 refine ⟨by simp,?_⟩
 refine ai E (fun h1=>?_) (fun h1=>?_)<;>simp only [go_sem]
 ·have h2:cX (c::r)=([],0,5):=by
   unfold cX
   simp only
   rw [if_neg (bz 34 h1)]
  rw [h2];rfl
 have hc:c=34:=Classical.byContradiction fun h=>h1 (fun e=>h (dV 34 e))
 obtain ⟨s,hs⟩:∃ s,s=c::r:=⟨_,rfl⟩
 have hI0:=TkI.init (r:=r) hc
 rw [← hs] at hl hI0
 simp only [← hs]
 refine aU E (X:={ x:Nat × List UInt8 × Nat // TkI s x.1 x.2.1 x.2.2 }) (fun x=>[(0,.d (.str s)),(5,.bx [0] 0),(6,.d (i64 x.1.1))]) (fun x=>CJ x.1.2.1) [0,1] (fun x=>s.length-x.1.1) ⟨(1,[],r.length.succ),hI0⟩ (tau [([0],[5])]) ?_ ?_
 ·unfold CJ dy
  simp only [go_sem]
 rintro ⟨⟨i,acc,m⟩,hI⟩ E0
 refine bk E0 fun Q' hQ E'=>?_
 simp only at hI ⊢
 have hi:=hI.hi
 have ha:=hI.ha
 cases acc with
 | nil =>
   simp only [CJ]
   unfold dy
   simp only [go_sem]
   refine ai E' (fun h1=>?_) (fun h1=>?_)<;>simp only [go_sem]
   rotate_left
   ·rw [hQ]
    simp only [go_sem]
    rw [← hs,hI.fin (by omega)]
    rfl
   have h1':i<s.length:=by omega
   refine ⟨by omega,?_⟩
   refine ai E' (fun h2=>?_) (fun h2=>?_)<;>simp only [go_sem]
   ·have hmk:=hI.mark h1' (dV 34 h2)
    refine ab E' [.bx [0] 0] dy [0] A5 rfl rfl ⟨by simp only [go_sem],by rw [aa];decide⟩ rfl (by unfold dy;simp only [go_sem]) (by unfold dy;simp only [go_sem]) ?_
    rintro _ _ ⟨rfl,rfl⟩
    unfold dy
    simp only [go_sem]
    refine ab E' [.bx [0] 0] dy [0] FP rfl rfl ⟨by simp only [go_sem],by rw [aa];decide⟩ rfl (by unfold dy;simp only [go_sem]) (by unfold dy;simp only [go_sem]) ?_
    rintro _ _ ⟨rfl,rfl⟩
    unfold dy
    simp only [go_sem]
    rw [al ⟨by omega,by omega⟩,hQ]
    simp only [go_sem]
    rw [← hs,hmk]
    rfl
   refine ai E' (fun h3=>?_) (fun h3=>?_)<;>simp only [go_sem]
   ·have h2n:=bz 34 h2
    have h3y:=dV 92 h3
    rw [al (n:=(i:Int)+1) ⟨by omega,by omega⟩]
    refine ⟨by omega,?_⟩
    rw [show ((i:Int)+1).toNat=i+1 by omega,List.take_of_length_le (l:=s.drop (i+1)) (by rw [List.length_drop];omega)]
    have hel:=se (s.drop (i+1))
    have hbad:=hI.bad h1' h2n h3y
    have hesc:=hI.esc h1' h2n h3y
    rw [List.length_drop] at hel
    refine ae E' (yP (s.drop (i+1)) (by rw [List.length_drop];omega)) rfl rfl (by simp) ?_
    rintro _ rfl
    obtain ⟨y,n,hyn⟩:∃ y n,fK (s.drop (i+1))=(y,n):=⟨_,_,rfl⟩
    rw [hyn] at hel hbad hesc ⊢
    simp only at hel hbad hesc
    simp only [go_sem]
    refine ai E' (fun h4=>?_) (fun h4=>?_)<;>simp only [go_sem]
    ·rw [hQ]
     simp only [go_sem]
     rw [← hs,hbad (by omega)]
     rfl
    ·have hI2:=hesc (by omega)
     refine ab E' [.bx [0] 0,.d (byD y)] dy [0] (nz y ) rfl rfl ⟨by simp only [go_sem],by rw [aa];decide⟩ rfl (by (unfold dy);simp only [go_sem]) (by (unfold dy);simp only [go_sem]) ?_
     rintro _ _ ⟨rfl,rfl⟩
     unfold fL
     (unfold dy)
     simp only [go_sem]
     rw [al (n:=(n:Int)+1) ⟨by omega,by omega⟩,al ⟨by omega,by omega⟩,hQ]
     simp only [go_sem]
     refine ⟨⟨(i+n+1,[]++[y],m-1),hI2⟩,by show s.length-(i+n+1)<_;omega,tau [([1],[46,2])],?_⟩
     rw [show (⟨(i+n+1,[]++[y],m-1),hI2⟩:{ x:Nat × List UInt8 × Nat // TkI s x.1 x.2.1 x.2.2 }).1.2.1=[]++[y] from rfl,js]
     unfold aH
     simp only [go_sem]
     rw [show ((i+n+1:Nat):Int)=(i:Int)+((n:Int)+1) by omega]
   ·have h2n:=bz 34 h2
    have h3n:=bz 92 h3
    refine ae E' (rb (s.getD i 0)) rfl rfl (by simp) ?_
    rintro _ rfl
    simp only [go_sem]
    refine aV E' (fun h4=>?_) (fun h4=>?_)<;>simp only [go_sem]
    ·have hI2:=hI.plain h1' h2n h3n h4
     refine ab E' [.bx [0] 0,.d (byD (s.getD i 0))] dy [0] (nz (s.getD i 0) ) rfl rfl ⟨by simp only [go_sem],by rw [aa];decide⟩ rfl (by (unfold dy);simp only [go_sem]) (by (unfold dy);simp only [go_sem]) ?_
     rintro _ _ ⟨rfl,rfl⟩
     unfold fL
     (unfold dy)
     simp only [go_sem]
     rw [al ⟨by omega,by omega⟩,hQ]
     simp only [go_sem]
     refine ⟨⟨(i+1,[]++[s.getD i 0],m-1),hI2⟩,by show s.length-(i+1)<_;omega,tau [([1],[55,2])],?_⟩
     rw [show (⟨(i+1,[]++[s.getD i 0],m-1),hI2⟩:{ x:Nat × List UInt8 × Nat // TkI s x.1 x.2.1 x.2.2 }).1.2.1=[]++[s.getD i 0] from rfl,js]
     unfold aH
     simp only [go_sem]
     all_goals rfl
    ·rw [hQ]
     simp only [go_sem]
     rw [← hs,hI.odd h1' h2n h3n h4]
     rfl
 | cons a0 acc0 =>
   simp only [CJ]
   obtain ⟨acc,hacc⟩:∃ acc,acc=a0::acc0:=⟨_,rfl⟩
   have hne:acc≠[]:=by rw [hacc];simp
   rw [← hacc] at hI ha
   simp only [← hacc]
   unfold aH
   simp only [go_sem]
   refine ai E' (fun h1=>?_) (fun h1=>?_)<;>simp only [go_sem]
   rotate_left
   ·rw [hQ]
    simp only [go_sem]
    rw [← hs,hI.fin (by omega)]
    rfl
   have h1':i<s.length:=by omega
   refine ⟨by omega,?_⟩
   refine ai E' (fun h2=>?_) (fun h2=>?_)<;>simp only [go_sem]
   ·have hmk:=hI.mark h1' (dV 34 h2)
    refine ab E' [.bx [0] 0] (aH acc) [0,1] (D9 acc) rfl rfl ⟨by simp only [go_sem],by rw [aa];decide⟩ rfl (by unfold aH;simp only [go_sem]) (by unfold aH;simp only [go_sem]) ?_
    rintro _ _ ⟨rfl,rfl⟩
    unfold aH
    simp only [go_sem]
    refine ⟨Nat.le_refl _,?_⟩
    refine ai E' (fun h5=>?_) (fun h5=>?_)<;>simp only [go_sem]
    ·rw [hQ]
     simp only [go_sem]
     rw [← hs,hmk,if_pos (by omega)]
     rfl
    refine ab E' [.bx [0] 0] (aH acc) [0,1] (yM acc hne (by omega)) rfl rfl ⟨by simp only [go_sem],by rw [aa];decide⟩ rfl (by unfold aH;simp only [go_sem]) (by unfold aH;simp only [go_sem]) ?_
    rintro _ _ ⟨rfl,rfl⟩
    unfold aH
    simp only [go_sem]
    rw [al ⟨by omega,by omega⟩,hQ]
    simp only [go_sem]
    rw [← hs,hmk,if_neg (by omega)]
    rfl
   refine ai E' (fun h3=>?_) (fun h3=>?_)<;>simp only [go_sem]
   ·have h2n:=bz 34 h2
    have h3y:=dV 92 h3
    rw [al (n:=(i:Int)+1) ⟨by omega,by omega⟩]
    refine ⟨by omega,?_⟩
    rw [show ((i:Int)+1).toNat=i+1 by omega,List.take_of_length_le (l:=s.drop (i+1)) (by rw [List.length_drop];omega)]
    have hel:=se (s.drop (i+1))
    have hbad:=hI.bad h1' h2n h3y
    have hesc:=hI.esc h1' h2n h3y
    rw [List.length_drop] at hel
    refine ae E' (yP (s.drop (i+1)) (by rw [List.length_drop];omega)) rfl rfl (by simp) ?_
    rintro _ rfl
    obtain ⟨y,n,hyn⟩:∃ y n,fK (s.drop (i+1))=(y,n):=⟨_,_,rfl⟩
    rw [hyn] at hel hbad hesc ⊢
    simp only at hel hbad hesc
    simp only [go_sem]
    refine ai E' (fun h4=>?_) (fun h4=>?_)<;>simp only [go_sem]
    ·rw [hQ]
     simp only [go_sem]
     rw [← hs,hbad (by omega)]
     rfl
    ·have hI2:=hesc (by omega)
     refine ab E' [.bx [0] 0,.d (byD y)] (aH acc) [0,1] (dh acc y (by omega)) rfl rfl ⟨by simp only [go_sem],by rw [aa];decide⟩ rfl (by (unfold aH);simp only [go_sem]) (by (unfold aH);simp only [go_sem]) ?_
     rintro _ _ ⟨rfl,rfl⟩
     unfold fL
     (unfold aH)
     simp only [go_sem]
     rw [al (n:=(n:Int)+1) ⟨by omega,by omega⟩,al ⟨by omega,by omega⟩,hQ]
     simp only [go_sem]
     refine ⟨⟨(i+n+1,acc++[y],m-1),hI2⟩,by show s.length-(i+n+1)<_;omega,tau [([1],[46,2])],?_⟩
     rw [show (⟨(i+n+1,acc++[y],m-1),hI2⟩:{ x:Nat × List UInt8 × Nat // TkI s x.1 x.2.1 x.2.2 }).1.2.1=acc++[y] from rfl,js]
     unfold aH
     simp only [go_sem]
     rw [show ((i+n+1:Nat):Int)=(i:Int)+((n:Int)+1) by omega]
   ·have h2n:=bz 34 h2
    have h3n:=bz 92 h3
    refine ae E' (rb (s.getD i 0)) rfl rfl (by simp) ?_
    rintro _ rfl
    simp only [go_sem]
    refine aV E' (fun h4=>?_) (fun h4=>?_)<;>simp only [go_sem]
    ·have hI2:=hI.plain h1' h2n h3n h4
     refine ab E' [.bx [0] 0,.d (byD (s.getD i 0))] (aH acc) [0,1] (dh acc (s.getD i 0) (by omega)) rfl rfl ⟨by simp only [go_sem],by rw [aa];decide⟩ rfl (by (unfold aH);simp only [go_sem]) (by (unfold aH);simp only [go_sem]) ?_
     rintro _ _ ⟨rfl,rfl⟩
     unfold fL
     (unfold aH)
     simp only [go_sem]
     rw [al ⟨by omega,by omega⟩,hQ]
     simp only [go_sem]
     refine ⟨⟨(i+1,acc++[s.getD i 0],m-1),hI2⟩,by show s.length-(i+1)<_;omega,tau [([1],[55,2])],?_⟩
     rw [show (⟨(i+1,acc++[s.getD i 0],m-1),hI2⟩:{ x:Nat × List UInt8 × Nat // TkI s x.1 x.2.1 x.2.2 }).1.2.1=acc++[s.getD i 0] from rfl,js]
     unfold aH
     simp only [go_sem]
     all_goals rfl
    ·rw [hQ]
     simp only [go_sem]
     rw [← hs,hI.odd h1' h2n h3n h4]
     rfl
end Go.Proofs.YtejpnabbmgpmaaaGreatDoor

namespace Go.Proofs.YtejpnabbmgpmaaaGreatDoor
open Go.Ab
theorem Cn {c:UInt8} {n:Nat} (hn:n<256):((c.toNat:Nat):Int)=(n:Int)↔c=UInt8.ofNat n:=by
 constructor
 ·intro h
  apply UInt8.toNat_inj.1
  rw [UInt8.toNat_ofNat']
  omega
 ·rintro rfl
  rw [UInt8.toNat_ofNat']
  omega
theorem uo {c:UInt8} (h:((c.toNat:Nat):Int)<48):a8 c=false:=by
 unfold a8;rw [decide_eq_false (by omega)];rfl
theorem oa {c:UInt8} (h:57<((c.toNat:Nat):Int)):a8 c=false:=by
 unfold a8;rw [decide_eq_false (p:=c.toNat≤57) (by omega),Bool.and_false]
theorem uU {c:UInt8} (h1:¬ ((c.toNat:Nat):Int)<48) (h2:¬ 57<((c.toNat:Nat):Int)):a8 c=true:=by
 unfold a8;rw [decide_eq_true (by omega),decide_eq_true (by omega)];rfl
theorem lK {l:List UInt8} (h:1≤l.length):l.head?=some (l.getD 0 0):=by
 cases l with
 | nil=>simp at h
 | cons c r=>rfl
end Go.Proofs.YtejpnabbmgpmaaaGreatDoor

namespace Go.Proofs.YtejpnabbmgpmaaaGreatDoor
open Go.Ab
theorem zQ (s:ByteArray) (pos:Nat) (hb:128≤(s.get! (pos+0)).toNat):58≤(Utf8.decode s pos).1:=by
 unfold Utf8.decode
 simp only [Utf8.runeError]
 repeat' split
 all_goals (try simp only [Bool.and_eq_true,decide_eq_true_eq] at *)
 all_goals omega
theorem oR {l:List UInt8} {pos:Nat} (h:pos<l.length):(Utf8.decode ⟨l.toArray⟩ pos=(l[pos].toNat,1))∨(58≤(Utf8.decode ⟨l.toArray⟩ pos).1∧a8 l[pos]=false):=by
 have hs:pos<(⟨l.toArray⟩:ByteArray).size:=by simpa [ByteArray.size] using h
 have e:(⟨l.toArray⟩:ByteArray)[pos]'hs=l[pos]:=by rfl
 have e2:(⟨l.toArray⟩:ByteArray).get! (pos+0)=l[pos]:=by
  show (⟨l.toArray⟩:ByteArray).get! pos=_
  simp [ByteArray.get!,getElem!_pos,h]
 by_cases ha:l[pos].toNat<128
 ·have:=decode_ascii ⟨l.toArray⟩ pos hs (by rw [e];exact ha)
  rw [e] at this
  exact .inl this
 ·refine .inr ⟨zQ _ _ (by rw [e2];omega),oa (by omega)⟩
def wN (l:List UInt8):AV:=.tup [.d (i64 (if cR l then -(b6 l:Int) else 0)),.d (i64 (if cR l then 0 else 5))]
theorem fa {l:List UInt8} (h:cR l=false):wN l=.tup [.d (i64 0),.d (i64 5)]:=by simp [wN,h]
theorem HA {c:UInt8} (h:a8 c=true):w64 (IntKind.i32.wrap (((c.toNat:Nat):Int)-48))=((c.toNat-48:Nat):Int):=by
 simp only [a8,Bool.and_eq_true,decide_eq_true_eq] at h
 have e:IntKind.i32.wrap (((c.toNat:Nat):Int)-48)=((c.toNat-48:Nat):Int):=by
  simp only [IntKind.wrap,IntKind.bits,IntKind.signed]
  simp
  split<;>omega
 rw [e,al ⟨by omega,by omega⟩]
theorem CS {d:Nat} (h:d≤9):w64 ((w64 (-9223372036854775808+((d:Nat):Int))).tdiv 10) = -(((9223372036854775808-d) / 10:Nat):Int):=by
 have h1:w64 (-9223372036854775808+((d:Nat):Int)) = -9223372036854775808+((d:Nat):Int):=al ⟨by omega,by omega⟩
 rw [h1]
 have h2:=JH (-9223372036854775808+((d:Nat):Int))
 rw [if_pos (by omega)] at h2
 rw [h2,al ⟨by omega,by omega⟩]
 omega
theorem y4 {G} (l:List UInt8):HP Tryz.prog G 168 [.str l] (fun r=>r=wN l):=by
 refine an Tryz.func168 rfl (by decide +kernel) (by simp [Tryz.ntmps168]) (veil fun E=>?_)
 simp only [go_sem]
 refine ct E (fun h0=>?_) (fun h0=>?_)<;>simp only [go_sem]
 ·have:l=[]:=by simpa using h0
  subst this;rfl
 have h0:1≤l.length:=by
  cases l with
  | nil=>simp at h0
  | cons c r=>simp
 refine aK E (fun h1=>?_) (fun h1=>?_)<;>simp only [go_sem]
 ·refine ⟨by omega,?_⟩
  refine ai E (fun h4=>?_) (fun h4=>?_)<;>simp only [go_sem]
  ·have:cR l=false:=v7 (by omega) (by rw [lK (by omega)];congr 1;exact (Cn (n:=48) (by omega)).1 h4)
   rw [fa this]
  ·refine ux E l (by rw [ti9]) rfl (by simp) (by simp [aa]) ?_
   simp only [go_sem]
   refine dN E (X:={ i:Nat // i≤l.length∧(l.take i).all a8=true∧b6 (l.take i)≤9223372036854775808 }) (fun x=>[(0,.d (.str l)),(4,.d (i64 (-(b6 (l.take x.1):Nat)))),(21,.it [21])]) (fun x=>[([21],.siter l x.1)]) [21] (fun x=>l.length-x.1) ⟨0,by simp,by simp,by simp [b6]⟩ ?_ ?_
   ·simp only [go_sem]
    simp [b6]
   rintro ⟨i,hi,hall,hvi⟩ E0
   refine bk E0 fun Q' hQ E'=>?_
   simp only at hi hall hvi ⊢
   simp only [go_sem]
   refine xz E' [21] l i rfl rfl (by simp) (fun hi'=>?_) (fun hi'=>?_)<;>simp only [go_sem]
   ·rcases oR hi' with e | ⟨e1,e2⟩
    ·rw [e]
     refine aK E' (fun h7=>?_) (fun h7=>?_)<;>simp only [go_sem]
     ·rw [hQ]
      simp only [go_sem]
      rw [fa (gM hi' (uo h7))]
     refine ai E' (fun h8=>?_) (fun h8=>?_)<;>simp only [go_sem]
     ·rw [hQ]
      simp only [go_sem]
      rw [fa (gM hi' (oa h8))]
     have hd:=uU h7 h8
     have hdv:l[i].toNat-48≤9:=by
      simp only [a8,Bool.and_eq_true,decide_eq_true_eq] at hd
      omega
     rw [HA hd,CS hdv]
     refine ai E' (fun h9=>?_) (fun h9=>?_)<;>simp only [go_sem]
     ·rw [hQ]
      simp only [go_sem]
      rw [fa (pX (i:=i+1) (by rw [ec hi'];omega))]
     ·rw [hQ]
      simp only [go_sem]
      have hle:10*b6 (l.take i)+(l[i].toNat-48)≤9223372036854775808:=by omega
      refine ⟨⟨i+1,by omega,vl hi' hall hd,by rw [ec hi'];exact hle⟩,by show l.length-(i+1)<_;omega,?_,rfl⟩
      show AV.d (D.int IntKind.i64 _)=AV.d (i64 (-((b6 (l.take (i+1)):Nat):Int)))
      rw [ec hi']
      congr 2
      simp only [qH]
      repeat' split
      all_goals omega
    ·refine aK E' (fun h7=>?_) (fun h7=>?_)<;>simp only [go_sem]
     ·omega
     refine ai E' (fun h8=>?_) (fun h8=>?_)<;>simp only [go_sem]
     ·rw [hQ]
      simp only [go_sem]
      rw [fa (gM hi' e2)]
     ·omega
   ·rw [hQ]
    simp only [go_sem]
    have hil:i=l.length:=by omega
    subst hil
    rw [List.take_length] at hall hvi ⊢
    have hlead:¬ (1<l.length∧l.head?=some 48):=by
     rintro ⟨g1,g2⟩
     first
      | exact h4 ((Cn (n:=48) (by omega)).2 (by rw [lK (by omega)] at g2;exact Option.some.inj g2))
      | omega
    have hok:=lT h0 hlead hall hvi
    simp [wN,hok]
 ·refine ux E l (by rw [ti9]) rfl (by simp) (by simp [aa]) ?_
  simp only [go_sem]
  refine dN E (X:={ i:Nat // i≤l.length∧(l.take i).all a8=true∧b6 (l.take i)≤9223372036854775808 }) (fun x=>[(0,.d (.str l)),(4,.d (i64 (-(b6 (l.take x.1):Nat)))),(21,.it [21])]) (fun x=>[([21],.siter l x.1)]) [21] (fun x=>l.length-x.1) ⟨0,by simp,by simp,by simp [b6]⟩ ?_ ?_
  ·simp only [go_sem]
   simp [b6]
  rintro ⟨i,hi,hall,hvi⟩ E0
  refine bk E0 fun Q' hQ E'=>?_
  simp only at hi hall hvi ⊢
  simp only [go_sem]
  refine xz E' [21] l i rfl rfl (by simp) (fun hi'=>?_) (fun hi'=>?_)<;>simp only [go_sem]
  ·rcases oR hi' with e | ⟨e1,e2⟩
   ·rw [e]
    refine aK E' (fun h7=>?_) (fun h7=>?_)<;>simp only [go_sem]
    ·rw [hQ]
     simp only [go_sem]
     rw [fa (gM hi' (uo h7))]
    refine ai E' (fun h8=>?_) (fun h8=>?_)<;>simp only [go_sem]
    ·rw [hQ]
     simp only [go_sem]
     rw [fa (gM hi' (oa h8))]
    have hd:=uU h7 h8
    have hdv:l[i].toNat-48≤9:=by
     simp only [a8,Bool.and_eq_true,decide_eq_true_eq] at hd
     omega
    rw [HA hd,CS hdv]
    refine ai E' (fun h9=>?_) (fun h9=>?_)<;>simp only [go_sem]
    ·rw [hQ]
     simp only [go_sem]
     rw [fa (pX (i:=i+1) (by rw [ec hi'];omega))]
    ·rw [hQ]
     simp only [go_sem]
     have hle:10*b6 (l.take i)+(l[i].toNat-48)≤9223372036854775808:=by omega
     refine ⟨⟨i+1,by omega,vl hi' hall hd,by rw [ec hi'];exact hle⟩,by show l.length-(i+1)<_;omega,?_,rfl⟩
     show AV.d (D.int IntKind.i64 _)=AV.d (i64 (-((b6 (l.take (i+1)):Nat):Int)))
     rw [ec hi']
     congr 2
     simp only [qH]
     repeat' split
     all_goals omega
   ·refine aK E' (fun h7=>?_) (fun h7=>?_)<;>simp only [go_sem]
    ·omega
    refine ai E' (fun h8=>?_) (fun h8=>?_)<;>simp only [go_sem]
    ·rw [hQ]
     simp only [go_sem]
     rw [fa (gM hi' e2)]
    ·omega
  ·rw [hQ]
   simp only [go_sem]
   have hil:i=l.length:=by omega
   subst hil
   rw [List.take_length] at hall hvi ⊢
   have hlead:¬ (1<l.length∧l.head?=some 48):=by
    rintro ⟨g1,g2⟩
    first
     | exact h4 ((Cn (n:=48) (by omega)).2 (by rw [lK (by omega)] at g2;exact Option.some.inj g2))
     | omega
   have hok:=lT h0 hlead hall hvi
   simp [wN,hok]
end Go.Proofs.YtejpnabbmgpmaaaGreatDoor

namespace Go.Proofs.YtejpnabbmgpmaaaGreatDoor
open Go.Ab
theorem u6 {l:List UInt8} (h:cR l=true):b6 l≤9223372036854775808:=by
 simp only [cR,Bool.and_eq_true,decide_eq_true_eq] at h
 exact h.2
theorem neg_zero {l:List UInt8} (h:b6 l=0):cz true l=.tup [.d (i64 0),.d (i64 5)]:=iC (by simp [bP,h])
theorem A3 {l:List UInt8} (hd:cR l=true) (h:b6 l≠0):cz true l=.tup [.d (i64 (-(b6 l:Int))),.d (i64 0)]:=by
 have:bP true l=true:=by simp [bP,hd,h]
 simp [cz,this]
theorem I8 {G} (s:List UInt8) (hp:aS s [126]=true):HP Tryz.prog G 156 [.str s] (fun r=>r=cz true (s.drop 1)):=by
 refine an Tryz.func156 rfl (by decide +kernel) (by simp [Tryz.ntmps156]) (veil fun E=>?_)
 simp only [go_sem]
 refine ae E (rV s [126]) rfl rfl (by simp) ?_
 rintro _ rfl
 simp only [hp,List.length_cons,List.length_nil]
 simp only [go_sem]
 refine ae E (y4 (s.drop 1)) rfl rfl (by simp) ?_
 rintro _ rfl
 simp only [wN]
 by_cases hd:cR (s.drop 1)=true
 ·have hle:=u6 hd
  simp only [hd,if_true]
  simp only [go_sem]
  refine aK E (fun h1=>?_) (fun h1=>?_)<;>simp only [go_sem]
  ·rw [neg_zero (by omega)]
  ·rw [A3 hd (by omega)]
 ·simp only [hd,if_false]
  simp only [go_sem]
  rw [iC (oN (by simpa using hd))]
theorem Jf {G} (s:List UInt8) (hp:aS s [126]=false):HP Tryz.prog G 156 [.str s] (fun r=>r=cz false s):=by
 refine an Tryz.func156 rfl (by decide +kernel) (by simp [Tryz.ntmps156]) (veil fun E=>?_)
 simp only [go_sem]
 refine ae E (rV s [126]) rfl rfl (by simp) ?_
 rintro _ rfl
 simp only [hp,List.length_cons,List.length_nil]
 simp only [go_sem]
 refine ae E (y4 s) rfl rfl (by simp) ?_
 rintro _ rfl
 simp only [wN]
 by_cases hd:cR s=true
 ·have hle:=u6 hd
  simp only [hd,if_true]
  simp only [go_sem]
  refine ai E (fun h1=>?_) (fun h1=>?_)<;>simp only [go_sem]
  ·have:bP false s=false:=by simp [bP];intro _;omega
   rw [iC this]
  ·have:bP false s=true:=by simp [bP,hd];omega
   simp [cz,this]
   rw [al ⟨by omega,by omega⟩]
 ·simp only [hd,if_false]
  simp only [go_sem]
  rw [iC (oN (by simpa using hd))]
theorem zi {G} (s:List UInt8):HP Tryz.prog G 156 [.str s] (fun r=>r=jl s):=by
 unfold jl
 cases hp:aS s [126] with
 | true=>exact I8 s hp
 | false=>exact Jf s hp
theorem u1 (u:Nat) (h:¬ u<10):Lib.decDigits u=Lib.decDigits (u / 10)++[UInt8.ofNat (48+u % 10)]:=by
 rw [Lib.decDigits,dif_neg h]
theorem rF (u:Nat) (h:u<10):Lib.decDigits u=[UInt8.ofNat (48+u)]:=by
 rw [Lib.decDigits,dif_pos h]
theorem BB {d:Nat} (h:d<10):a8 (UInt8.ofNat (48+d))=true∧(UInt8.ofNat (48+d)).toNat=48+d:=by
 have e:(UInt8.ofNat (48+d)).toNat=48+d:=by rw [UInt8.toNat_ofNat'];omega
 refine ⟨?_,e⟩
 unfold a8
 rw [e,decide_eq_true (by omega),decide_eq_true (by omega)];rfl
theorem mJ (u:Nat):b6 (Lib.decDigits u)=u∧(Lib.decDigits u).all a8=true∧(u≠0→¬ (Lib.decDigits u).head?=some 48):=by
 induction u using Nat.strongRecOn with
 | ind u ih =>
   by_cases h:u<10
   ·rw [rF u h]
    obtain ⟨h1,h2⟩:=BB h
    generalize UInt8.ofNat (48+u)=c at *
    refine ⟨by simp [b6,h2],by simp [h1],fun h0 e=>?_⟩
    simp only [List.head?_cons,Option.some.injEq] at e
    rw [e] at h2
    have:(48:UInt8).toNat=48:=rfl
    omega
   ·rw [u1 u h]
    obtain ⟨h1,h2⟩:=BB (d:=u % 10) (by omega)
    generalize UInt8.ofNat (48+u % 10)=c at *
    obtain ⟨g1,g2,g3⟩:=ih (u / 10) (by omega)
    refine ⟨by rw [kX,g1,h2];omega,by simp [g2,h1],fun h0=>?_⟩
    obtain ⟨c,r,hc,_⟩:=iT (u / 10)
    have:=g3 (by omega)
    rw [hc] at this ⊢
    simpa using this
theorem sA (u:Nat) (h:u≤9223372036854775808):cR (Lib.decDigits u)=true:=by
 obtain ⟨g1,g2,g3⟩:=mJ u
 obtain ⟨c,r,hc,_⟩:=iT u
 refine lT (by rw [hc];simp) ?_ g2 (by rw [g1];exact h)
 rintro ⟨h1,h2⟩
 by_cases h0:u=0
 ·subst h0;rw [rF 0 (by omega)] at h1;simp at h1
 ·exact g3 h0 h2
theorem uh {n:Int} (hn:inR n):jl (bB n)=.tup [.d (i64 n),.d (i64 0)]:=by
 obtain ⟨h1,h2⟩:=hn
 unfold bB
 by_cases h:n<0
 ·rw [if_pos h]
  have hv:=(mJ n.natAbs).1
  have hok:=sA n.natAbs (by omega)
  have:bP true (Lib.decDigits n.natAbs)=true:=by simp [bP,hok,hv];omega
  simp [jl,aS,cz,this,hv]
  omega
 ·rw [if_neg h]
  have hv:=(mJ n.toNat).1
  have hok:=sA n.toNat (by omega)
  have:bP false (Lib.decDigits n.toNat)=true:=by simp [bP,hok,hv];omega
  have hp:aS (Lib.decDigits n.toNat) [126]=false:=by
   obtain ⟨c,r,hc,g1,g2⟩:=iT n.toNat
   rw [hc]
   simp [aS]
   rintro rfl
   revert g2;decide
  simp [jl,hp,cz,this,hv]
  omega
end Go.Proofs.YtejpnabbmgpmaaaGreatDoor

namespace Go.Proofs.YtejpnabbmgpmaaaGreatDoor
open Go.Ab
theorem Cj {c:UInt8} (h1:65≤((c.toNat:Nat):Int)) (h2:((c.toNat:Nat):Int)≤90):gr c=true:=by
 show (decide (65≤((c.toNat:Nat):Int)) && decide (((c.toNat:Nat):Int)≤90))=true
 simp [h1,h2]
theorem Bq {c:UInt8} (h1:¬ 65≤((c.toNat:Nat):Int)):¬ gr c=true:=by
 show ¬ (decide (65≤((c.toNat:Nat):Int)) && decide (((c.toNat:Nat):Int)≤90))=true
 simp [h1]
theorem Dp {c:UInt8} (h2:¬ ((c.toNat:Nat):Int)≤90):¬ gr c=true:=by
 show ¬ (decide (65≤((c.toNat:Nat):Int)) && decide (((c.toNat:Nat):Int)≤90))=true
 simp [h2]
theorem FL {G} (s:List UInt8) (n:Nat) (_hl:s.length≤1000000) (h1:1≤n) (hn:n≤s.length):HP Tryz.prog G 137 [.str s,i64 n] (fun r=>r=.d (sr (ji s n))):=by
 refine an Tryz.func137 rfl (by decide +kernel) (by simp [Tryz.ntmps137]) (veil fun E=>?_)
 simp only [go_sem]
 refine ⟨by omega,?_⟩
 rw [Nat.sub_zero]
 have hw:(s.take n).length=n:=by rw [List.length_take];omega
 obtain ⟨w,hwd⟩:∃ w,w=s.take n:=⟨_,rfl⟩
 rw [← hwd] at hw
 have hdef:ji s n=if 20<n then eB 7 else if ph w then ⟨⟨1,w,0,0⟩,n,0⟩ else if gr (w.getD 0 0) then ⟨⟨3,w,0,0⟩,n,0⟩ else ⟨⟨2,w,0,0⟩,n,0⟩:=by rw [hwd];rfl
 rw [← hwd]
 refine ai E (fun h2=>?_) (fun h2=>?_)<;>simp only [go_sem]
 ·rw [hdef,if_pos (by omega)];rfl
 rw [if_neg (by omega)] at hdef
 refine ae E (BN w) rfl rfl (by simp) ?_
 rintro _ rfl
 simp only [go_sem]
 refine aV E (fun h3=>?_) (fun h3=>?_)<;>simp only [go_sem]
 ·rw [hdef,if_pos h3];rfl
 rw [if_neg (by rw [h3];simp)] at hdef
 refine ⟨by omega,?_⟩
 refine aK E (fun h4=>?_) (fun h4=>?_)<;>simp only [go_sem]
 ·refine ⟨by omega,?_⟩
  refine ai E (fun h5=>?_) (fun h5=>?_)<;>simp only [go_sem]
  ·rw [hdef,if_pos (Cj h4 h5)];rfl
  ·rw [hdef,if_neg (Dp h5)];rfl
 ·rw [hdef,if_neg (Bq h4)];rfl
theorem w8 {G} (c:UInt8):HP Tryz.prog G 139 [u8 c] (fun r=>r=.d (.bool (a8 c))):=by
 unfold u8
 refine an Tryz.func139 rfl (by decide +kernel) (by simp [Tryz.ntmps139]) (veil fun E=>?_)
 simp only [go_sem]
 repeat (first
  | (apply cq E;(· simp only [go_sem]);(· intro h;(try simp only [bq] at h);simp only [↓h,go_sem];rfl);simp only [go_sem])
  | (apply bl E;(· simp only [go_sem]);(· intro h;(try simp only [bq] at h);simp only [↓h,go_sem];rfl);(· intro h;(try simp only [bq] at h);simp only [↓h,go_sem];rfl);simp only [go_sem])
  | (apply bj E;(· simp only [go_sem]);(· rfl);(· intro h h';(try simp only [bq] at h h');simp only [↓h,↓h',go_sem];rfl);simp only [go_sem])
  | (apply aQ E;(· simp only [go_sem]);(· rfl);(· intro h h';(try simp only [bq] at h h');simp only [↓h,↓h',go_sem];rfl);(· intro h h';(try simp only [bq] at h h');simp only [↓h,↓h',go_sem];rfl);simp only [go_sem])
  | (apply b9 E;(· decide);simp only [go_sem]))
 have hp:(decide (48≤((c.toNat:Nat):Int)) && decide (((c.toNat:Nat):Int)≤57))=a8 c:=by
  unfold a8
  rw [Bool.eq_iff_iff];simp;omega
 rw [hp]
theorem FC {G} (s:List UInt8) (hl:s.length≤1000000):HP Tryz.prog G 141 [.str s] (fun r=>r=.d (sr (pL s))):=by
 refine an Tryz.func141 rfl (by decide +kernel) (by simp [Tryz.ntmps141]) (veil fun E=>?_)
 simp only [go_sem]
 refine ae E (Hi s hl) rfl rfl (by simp) ?_
 rintro _ rfl
 simp only [go_sem]
 rfl
theorem xT (s:List UInt8):jl s=.tup [.d (i64 (wg s).1),.d (i64 (wg s).2)]:=by
 unfold jl wg
 have key:∀ (b:Bool) (l:List UInt8),cz b l=.tup [.d (i64 (ql b l).1),.d (i64 (ql b l).2)]:=fun b l=>by
  unfold cz ql
  cases bP b l<;>rfl
 split<;>exact key _ _
theorem AH {s:List UInt8} {n:Nat} (h:n<s.length):je (s.drop n)=if a8 (s.getD n 0) then je (s.drop (n+1))+1 else 0:=by
 rw [List.drop_eq_getElem_cons h,je]
 simp [h]
theorem FX {G} (s:List UInt8) (hl:s.length≤1000000) (h0:1≤s.length):HP Tryz.prog G 140 [.str s] (fun r=>r=.d (sr (Ax s))):=by
 refine an Tryz.func140 rfl (by decide +kernel) (by simp [Tryz.ntmps140]) (veil fun E=>?_)
 simp only [go_sem]
 have hle:=qA (s.drop 1)
 rw [List.length_drop] at hle
 refine aU E (X:={ n:Nat // 1≤n∧n≤s.length∧n+je (s.drop n)=je (s.drop 1)+1 }) (fun x=>[(0,.d (.str s)),(2,.bx [2] 0),(3,.d (i64 x.1))]) (fun x=>[([2],.box [.d (i64 0),.d (.str []),.d (i64 0),.d (i64 0),.d (i64 0),.d (i64 0)])]) [2] (fun x=>s.length-x.1) ⟨1,by omega,by omega,by omega⟩ id ?_ ?_
 ·simp only [go_sem]
  all_goals rfl
 rintro ⟨n,hn1,hn2,hn3⟩ E0
 refine bk E0 fun Q' hQ E'=>?_
 simp only at hn1 hn2 hn3 ⊢
 simp only [go_sem]
 refine aK E' (fun h1=>?_) (fun h1=>?_)<;>simp only [go_sem]
 ·have h1':n<s.length:=by omega
  refine ⟨by omega,?_⟩
  refine ae E' (w8 (s.getD n 0)) rfl rfl (by simp) ?_
  rintro _ rfl
  simp only [go_sem]
  have hd:=AH h1'
  refine aV E' (fun h2=>?_) (fun h2=>?_)<;>simp only [go_sem]
  ·rw [al ⟨by omega,by omega⟩,hQ]
   simp only [go_sem]
   rw [h2,if_pos rfl] at hd
   refine ⟨⟨n+1,by omega,by omega,by omega⟩,by show s.length-(n+1)<_;omega,id,?_⟩
   simp only [go_sem]
   rfl
  ·rw [h2] at hd
   have hn4:n=je (s.drop 1)+1:=by simp at hd;omega
   rw [hQ]
   simp only [go_sem]
   refine ⟨by omega,?_⟩
   rw [Nat.sub_zero]
   refine ae E (zi (s.take n)) rfl rfl (by simp) ?_
   rintro _ rfl
   rw [xT]
   simp only [go_sem]
   rw [hn4]
   rfl
 ·have hn4:n=je (s.drop 1)+1:=by
   have:n=s.length:=by omega
   rw [this,List.drop_length] at hn3
   simp [je] at hn3
   omega
  rw [hQ]
  simp only [go_sem]
  refine ⟨by omega,?_⟩
  rw [Nat.sub_zero]
  refine ae E (zi (s.take n)) rfl rfl (by simp) ?_
  rintro _ rfl
  rw [xT]
  simp only [go_sem]
  rw [hn4]
  rfl
theorem Fg {G} (s:List UInt8) (hl:s.length≤1000000) (h0:1≤s.length):HP Tryz.prog G 138 [.str s] (fun r=>r=.d (sr (tq s))):=by
 have hwl:=kB (s.drop 1)
 rw [List.length_drop] at hwl
 refine an Tryz.func138 rfl (by decide +kernel) (by simp [Tryz.ntmps138]) (veil fun E=>?_)
 simp only [go_sem]
 refine ⟨by omega,?_⟩
 rw [List.take_of_length_le (l:=s.drop 1) (by rw [List.length_drop];omega)]
 refine ae E (qU (s.drop 1) (by rw [List.length_drop];omega)) rfl rfl (by simp) ?_
 rintro _ rfl
 simp only [go_sem]
 have hdef:tq s=if bo (s.drop 1)=0∨gr (s.getD 1 0) then eB 5 else if 20<bo (s.drop 1) then eB 7 else ⟨⟨6,(s.drop 1).take (bo (s.drop 1)),0,0⟩,bo (s.drop 1)+1,0⟩:=rfl
 generalize bo (s.drop 1)=n at hdef hwl
 refine aK E (fun h1=>?_) (fun h1=>?_)<;>simp only [go_sem]
 ·rw [hdef,if_pos (.inl (by omega))];rfl
 refine ⟨by omega,?_⟩
 have more:∀ h:¬ gr (s.getD 1 0)=true,tq s=if 20<n then eB 7 else ⟨⟨6,(s.drop 1).take n,0,0⟩,n+1,0⟩:=fun h=>by rw [hdef,if_neg (fun e=>e.elim (by omega) h)]
 refine aK E (fun h2=>?_) (fun h2=>?_)<;>simp only [go_sem]
 ·refine ⟨by omega,?_⟩
  refine ai E (fun h3=>?_) (fun h3=>?_)<;>simp only [go_sem]
  ·rw [hdef,if_pos (.inr (Cj h2 h3))];rfl
  have hm:=more (Dp h3)
  refine ai E (fun h4=>?_) (fun h4=>?_)<;>simp only [go_sem]
  ·rw [hm,if_pos (by omega)];rfl
  rw [al ⟨by omega,by omega⟩]
  refine ⟨by omega,?_⟩
  rw [hm,if_neg (by omega),show ((n:Int)+1).toNat-1=n by omega]
  rfl
 ·have hm:=more (Bq h2)
  refine ai E (fun h4=>?_) (fun h4=>?_)<;>simp only [go_sem]
  ·rw [hm,if_pos (by omega)];rfl
  rw [al ⟨by omega,by omega⟩]
  refine ⟨by omega,?_⟩
  rw [hm,if_neg (by omega),show ((n:Int)+1).toNat-1=n by omega]
  rfl
theorem ER {G} (s:List UInt8) (hl:s.length≤1000000) (h0:1≤s.length):HP Tryz.prog G 142 [.str s] (fun r=>r=.d (sr (iZ s))):=by
 refine an Tryz.func142 rfl (by decide +kernel) (by simp [Tryz.ntmps142]) (veil fun E=>?_)
 simp only [go_sem]
 refine ae E (yF s [45,62]) rfl rfl (by simp) ?_
 rintro _ rfl
 simp only [go_sem]
 have hdef:iZ s=if aS s [45,62] || aS s [61,61] then ⟨⟨7,s.take 2,0,0⟩,2,0⟩ else if Lib.indexByte xh (s.getD 0 0)<0 then eB 5 else ⟨⟨7,s.take 1,0,0⟩,1,0⟩:=rfl
 refine ct E (fun h1=>?_) (fun h1=>?_)<;>simp only [go_sem]
 ·have:=ik h1
  simp only [List.length_cons,List.length_nil] at this
  refine ⟨by omega,?_⟩
  rw [hdef,h1];rfl
 refine ae E (yF s [61,61]) rfl rfl (by simp) ?_
 rintro _ rfl
 simp only [go_sem]
 refine aV E (fun h2=>?_) (fun h2=>?_)<;>simp only [go_sem]
 ·have:=ik h2
  simp only [List.length_cons,List.length_nil] at this
  refine ⟨by omega,?_⟩
  rw [hdef,h2,Bool.or_true];rfl
 rw [h1,h2,Bool.or_false,if_neg (by simp)] at hdef
 refine ⟨by omega,?_⟩
 refine ae E (kr xh (s.getD 0 0)) rfl rfl (by simp) ?_
 rintro _ rfl
 simp only [go_sem]
 refine ai E (fun h3=>?_) (fun h3=>?_)<;>simp only [go_sem]
 ·rw [hdef,if_pos h3];rfl
 refine ⟨by omega,?_⟩
 rw [hdef,if_neg h3];rfl
end Go.Proofs.YtejpnabbmgpmaaaGreatDoor

namespace Go.Proofs.YtejpnabbmgpmaaaGreatDoor
open Go.Ab
theorem jj (f:Fnd):sr f=.agg [i64 f.t.k,.str f.t.s,i64 f.t.n,i64 f.t.pos,i64 f.n,i64 f.e]:=rfl
theorem G1 {G} (s:List UInt8) (hl:s.length≤1000000) (h0:1≤s.length):HP Tryz.prog G 112 [.str s] (fun r=>r=.d (sr (bL s))):=by
 have hwl:=kB s
 refine an Tryz.func112 rfl (by decide +kernel) (by simp [Tryz.ntmps112]) (veil fun E=>?_)
 simp only [go_sem]
 refine ae E (qU s (by omega)) rfl rfl (by simp) ?_
 rintro _ rfl
 simp only [go_sem]
 have hdef:bL s=if 0<bo s then ji s (bo s) else if s.getD 0 0=39 then tq s else if a8 (s.getD 0 0) || decide (s.getD 0 0=126) then Ax s else if s.getD 0 0=34 then pL s else iZ s:=rfl
 generalize bo s=n at hdef hwl
 generalize hc:s.getD 0 0=c at hdef
 refine ai E (fun h1=>?_) (fun h1=>?_)<;>simp only [go_sem]
 ·refine ae E (FL s n hl (by omega) hwl) rfl rfl (by simp) ?_
  rintro _ rfl
  rw [jj (ji s n)]
  simp only [go_sem]
  rw [hdef,if_pos (by omega)];rfl
 rw [if_neg (by omega)] at hdef
 refine ⟨by omega,?_⟩
 rw [hc]
 refine ai E (fun h2=>?_) (fun h2=>?_)<;>simp only [go_sem]
 ·refine ae E (Fg s hl h0) rfl rfl (by simp) ?_
  rintro _ rfl
  rw [jj (tq s)]
  simp only [go_sem]
  rw [hdef,if_pos (dV 39 h2)];rfl
 rw [if_neg (bz 39 h2)] at hdef
 refine ae E (w8 c) rfl rfl (by simp) ?_
 rintro _ rfl
 simp only [go_sem]
 repeat (first
  | (apply cq E;(· simp only [go_sem]);(· intro h;(try simp only [bq] at h);simp only [↓h,go_sem];rfl);simp only [go_sem])
  | (apply bl E;(· simp only [go_sem]);(· intro h;(try simp only [bq] at h);simp only [↓h,go_sem];rfl);(· intro h;(try simp only [bq] at h);simp only [↓h,go_sem];rfl);simp only [go_sem])
  | (apply bj E;(· simp only [go_sem]);(· rfl);(· intro h h';(try simp only [bq] at h h');simp only [↓h,↓h',go_sem];rfl);simp only [go_sem])
  | (apply aQ E;(· simp only [go_sem]);(· rfl);(· intro h h';(try simp only [bq] at h h');simp only [↓h,↓h',go_sem];rfl);(· intro h h';(try simp only [bq] at h h');simp only [↓h,↓h',go_sem];rfl);simp only [go_sem])
  | (apply b9 E;(· decide);simp only [go_sem]))
 refine aV E (fun h3=>?_) (fun h3=>?_)<;>simp only [go_sem]
 ·refine ae E (FX s hl h0) rfl rfl (by simp) ?_
  rintro _ rfl
  rw [jj (Ax s)]
  simp only [go_sem]
  have h4:(a8 c || decide (c=126))=true:=by
   simp only [Bool.or_eq_true,decide_eq_true_eq] at h3 ⊢
   rcases h3 with h3 | h3
   ·exact .inl h3
   ·exact .inr (dV 126 h3)
  rw [hdef,if_pos h4];rfl
 have h4:¬ (a8 c || decide (c=126))=true:=by
  simp only [Bool.or_eq_false_iff,decide_eq_false_iff_not] at h3
  simp only [Bool.or_eq_true,decide_eq_true_eq,not_or]
  exact ⟨by rw [h3.1];simp,bz 126 h3.2⟩
 rw [if_neg h4] at hdef
 refine ai E (fun h5=>?_) (fun h5=>?_)<;>simp only [go_sem]
 ·refine ae E (FC s hl) rfl rfl (by simp) ?_
  rintro _ rfl
  rw [jj (pL s)]
  simp only [go_sem]
  rw [hdef,if_pos (dV 34 h5)];rfl
 rw [if_neg (bz 34 h5)] at hdef
 refine ae E (ER s hl h0) rfl rfl (by simp) ?_
 rintro _ rfl
 rw [jj (iZ s)]
 simp only [go_sem]
 rw [hdef];rfl
theorem xx:∀ l:List UInt8,Lib.indexByte l 10=match dJ l with
  | none=>-1
  | some k=>(k:Int)
 | []=>rfl
 | c::r=>by
   unfold Lib.indexByte dJ
   by_cases h:c=10
   ·simp [h]
   ·rw [if_neg (by simpa using h),if_neg h,xx r]
    cases dJ r with
    | none=>rfl
    | some k =>
      simp only [Option.map_some]
      rw [if_neg (by simp)]
      show (k:Int)+1=((k+1:Nat):Int)
      omega
theorem sM:∀ {l:List UInt8} {k:Nat},dJ l=some k→k<l.length
 | [],_,h=>by cases h
 | c::r,k,h=>by
   unfold dJ at h
   split at h
   ·cases h;simp
   ·obtain ⟨j,hj,rfl⟩:=Option.map_eq_some_iff.1 h
    have:=sM hj
    simp only [List.length_cons];omega
theorem nA {c:UInt8} {r:List UInt8} {k:Nat} (hc:¬ c=10) (h:dJ (c::r)=some k):1≤k:=by
 unfold dJ at h
 rw [if_neg hc] at h
 obtain ⟨j,_,rfl⟩:=Option.map_eq_some_iff.1 h
 omega
theorem tj (c:UInt8):0≤Lib.indexByte vE c↔c=32∨c=9∨c=10:=by
 unfold vE
 by_cases h1:c=32
 ·subst h1;decide
 by_cases h2:c=9
 ·subst h2;decide
 by_cases h3:c=10
 ·subst h3;decide
 simp [Lib.indexByte,Ne.symm h1,Ne.symm h2,Ne.symm h3,h1,h2,h3]
structure PaI (s:List UInt8) (n m:Nat):Prop where
 hn:n≤s.length
 hm:(s.drop n).length<m
 he:n+eN m (s.drop n)=aW s
theorem PaI.init (s:List UInt8):PaI s 0 s.length.succ:=⟨Nat.zero_le _,by simp,by simp [aW]⟩
theorem PaI.fin {s:List UInt8} {n m:Nat} (h:PaI s n m) (hn:s.length≤n):aW s=n:=by
 rw [← h.he,List.drop_eq_nil_of_le hn]
 cases m<;>rfl
theorem PaI.cases {s:List UInt8} {n m:Nat} (h:PaI s n m) (hi:n<s.length):∃ m',m=m'+1∧s.drop n=s.getD n 0::s.drop (n+1):=by
 obtain ⟨m',rfl⟩:∃ m',m=m'+1:=⟨m-1,by have:=h.hm;omega⟩
 exact ⟨m',rfl,by rw [List.drop_eq_getElem_cons hi];simp [hi]⟩
theorem PaI.blank {s:List UInt8} {n m:Nat} (h:PaI s n m) (hi:n<s.length) (hb:s.getD n 0=32∨s.getD n 0=9∨s.getD n 0=10):PaI s (n+1) (m-1):=by
 obtain ⟨m',rfl,hd⟩:=h.cases hi
 have hm:=h.hm
 rw [List.length_drop] at hm
 refine ⟨by omega,by rw [List.length_drop];omega,?_⟩
 rw [← h.he,hd,eN,if_pos hb,Nat.add_sub_cancel]
 omega
theorem PaI.stop {s:List UInt8} {n m:Nat} (h:PaI s n m) (hi:n<s.length) (hb:¬ (s.getD n 0=32∨s.getD n 0=9∨s.getD n 0=10)) (hr:¬ s.getD n 0=35):aW s=n:=by
 obtain ⟨m',rfl,hd⟩:=h.cases hi
 rw [← h.he,hd,eN,if_neg hb,if_neg hr]
 omega
theorem PaI.none {s:List UInt8} {n m:Nat} (h:PaI s n m) (hi:n<s.length) (hb:¬ (s.getD n 0=32∨s.getD n 0=9∨s.getD n 0=10)) (hr:s.getD n 0=35) (hf:dJ (s.drop n)=none):aW s=s.length:=by
 obtain ⟨m',rfl,hd⟩:=h.cases hi
 rw [hd] at hf
 rw [← h.he,hd,eN,if_neg hb,if_pos hr,hf,← hd]
 simp only [List.length_drop]
 omega
theorem PaI.some {s:List UInt8} {n m k:Nat} (h:PaI s n m) (hi:n<s.length) (hb:¬ (s.getD n 0=32∨s.getD n 0=9∨s.getD n 0=10)) (hr:s.getD n 0=35) (hf:dJ (s.drop n)=some k):PaI s (n+k) (m-1)∧1≤k:=by
 obtain ⟨m',rfl,hd⟩:=h.cases hi
 have hk:=sM hf
 have h1:1≤k:=by
  rw [hd] at hf
  exact nA (by rw [hr];decide) hf
 have hm:=h.hm
 rw [List.length_drop] at hm hk
 refine ⟨⟨by omega,by rw [List.length_drop];omega,?_⟩,h1⟩
 rw [hd] at hf
 rw [← h.he,hd,eN,if_neg hb,if_pos hr,hf,← hd]
 simp only [List.drop_drop,Nat.add_sub_cancel]
 omega
theorem yf {G} (s:List UInt8) (hl:s.length≤1000000):HP Tryz.prog G 111 [.str s] (fun r=>r=.d (i64 (aW s))):=by
 refine an Tryz.func111 rfl (by decide +kernel) (by simp [Tryz.ntmps111]) (veil fun E=>?_)
 simp only [go_sem]
 refine aU E (X:={ x:Nat × Nat // PaI s x.1 x.2 }) (fun x=>[(0,.d (.str s)),(3,.d (i64 x.1.1))]) (fun _=>[]) [] (fun x=>s.length-x.1.1) ⟨(0,_),PaI.init s⟩ id ?_ ?_
 ·simp only [go_sem]
  all_goals rfl
 rintro ⟨⟨n,m⟩,hI⟩ E0
 refine bk E0 fun Q' hQ E'=>?_
 simp only at hI ⊢
 have hn:=hI.hn
 simp only [go_sem]
 refine ai E' (fun h1=>?_) (fun h1=>?_)<;>simp only [go_sem]
 rotate_left
 ·rw [hQ]
  simp only [go_sem]
  rw [hI.fin (by omega)]
 have h1':n<s.length:=by omega
 refine ⟨by omega,?_⟩
 refine ae E' (kr vE (s.getD n 0)) rfl rfl (by simp) ?_
 rintro _ rfl
 simp only [go_sem]
 refine ai E' (fun h2=>?_) (fun h2=>?_)<;>simp only [go_sem]
 ·have hI2:=hI.blank h1' ((tj _).1 h2)
  rw [al ⟨by omega,by omega⟩,hQ]
  simp only [go_sem]
  refine ⟨⟨(n+1,m-1),hI2⟩,by show s.length-(n+1)<_;omega,id,?_⟩
  simp only [go_sem]
  rfl
 have h2n:¬ (s.getD n 0=32∨s.getD n 0=9∨s.getD n 0=10):=fun h=>h2 ((tj _).2 h)
 refine ⟨by omega,?_⟩
 refine ai E' (fun h3=>?_) (fun h3=>?_)<;>simp only [go_sem]
 rotate_left
 ·rw [hQ]
  simp only [go_sem]
  rw [hI.stop h1' h2n (bz 35 h3)]
 have h3y:=dV 35 h3
 refine ⟨by omega,?_⟩
 rw [List.take_of_length_le (l:=s.drop n) (by rw [List.length_drop];omega)]
 refine ae E' (kr (s.drop n) 10) rfl rfl (by simp) ?_
 rintro _ rfl
 rw [xx]
 cases hf:dJ (s.drop n) with
 | none =>
   simp only [go_sem]
   rw [hQ]
   simp only [go_sem]
   rw [hI.none h1' h2n h3y hf]
 | some k =>
   have ⟨hI2,hk⟩:=hI.some h1' h2n h3y hf
   have hn2:=hI2.hn
   simp only [go_sem]
   refine ai E' (fun h4=>?_) (fun h4=>?_)<;>simp only [go_sem]
   ·omega
   rw [al ⟨by omega,by omega⟩,hQ]
   simp only [go_sem]
   refine ⟨⟨(n+k,m-1),hI2⟩,by show s.length-(n+k)<_;omega,id,?_⟩
   simp only [go_sem]
   rfl
end Go.Proofs.YtejpnabbmgpmaaaGreatDoor

namespace Go.Proofs.YtejpnabbmgpmaaaGreatDoor
open Go.Ab
theorem Bk {G} (s:List UInt8):HP Tryz.prog G 68 [.str s] (fun r=>r=.d (.clo 110 [.ptr (.str s)])):=by
 have h:HCall Tryz.prog G 68 [.d (.str s)] [] [] (fun r hp'=>r=.clo 110 [.bx [1] 0]∧hp'=[([1],.box [.d (.str s)])]):=by
  refine ao Tryz.func68 rfl (by decide +kernel) (by simp [Tryz.ntmps68]) (veil fun E=>?_)
  simp only [go_sem]
  refine ⟨_,_,[1],id,⟨rfl,rfl⟩,?_⟩
  simp only [go_sem]
 have h2:=HCall.fB (Q':=fun r hp'=>r=.d (.clo 110 [.ptr (.str s)])∧hp'=[]) h [1] (.str s) (by
  rintro r hp' ⟨rfl,rfl⟩
  refine ⟨rfl,rfl,?_,?_⟩
  ·simp only [go_sem]
  ·simp only [go_sem])
 exact h2.mono fun r hp' ⟨h1,h3⟩=>⟨h1,by rw [h1];rfl,h3⟩
theorem nL:∀ (m:Nat) (s:List UInt8),eN m s≤s.length
 | 0,_=>Nat.zero_le _
 | _+1,[]=>Nat.le_refl _
 | m+1,c::r=>by
   unfold eN
   split
   ·have:=nL m r
    simp only [List.length_cons];omega
   split
   ·split
    ·exact Nat.le_refl _
    ·rename_i k hk
     have:=sM hk
     have h2:=nL m ((c::r).drop k)
     rw [List.length_drop] at h2
     omega
   ·exact Nat.zero_le _
theorem ye (s:List UInt8):aW s≤s.length:=nL _ _
structure TI (s:List UInt8) (j p:Nat):Prop where
 hj:j≤(aL s).length
 hp:p≤s.length
 he:∃ m q,q≤s.length∧(s.drop q).length<m∧p=q+aW (s.drop q)∧(aL s).drop j=b8 m (s.drop q) q
theorem TI.init (s:List UInt8):TI s 0 (aW s):=⟨Nat.zero_le _,ye s,s.length.succ,0,Nat.zero_le _,by simp,by simp,by simp [aL]⟩
theorem TI.next {s:List UInt8} {j p:Nat} (h:TI s j p):(s.length≤p∧(aL s).drop j=[]) ∨
  (p<s.length∧(aL s)[j]?=some (p,bL (s.drop p))∧(((bL (s.drop p)).e≠0∧(aL s).length=j+1) ∨
   ((bL (s.drop p)).e=0∧p+(bL (s.drop p)).n≤s.length∧1≤(bL (s.drop p)).n∧TI s (j+1) (p+(bL (s.drop p)).n+aW (s.drop (p+(bL (s.drop p)).n)))))):=by
 obtain ⟨m,q,hq,hm,rfl,he⟩:=h.he
 have hpl:=h.hp
 cases m with
 | zero=>omega
 | succ m =>
   have hdd:(s.drop q).drop (aW (s.drop q))=s.drop (q+aW (s.drop q)):=by rw [List.drop_drop]
   unfold b8 at he
   rw [hdd] at he
   obtain ⟨p,hp⟩:∃ p,p=q+aW (s.drop q):=⟨_,rfl⟩
   rw [← hp] at he hpl ⊢
   by_cases h0:s.drop p=[]
   ·rw [if_pos h0] at he
    refine .inl ⟨?_,he⟩
    exact List.drop_eq_nil_iff.1 h0
   rw [if_neg h0] at he
   have hlt:p<s.length:=by
    rcases Nat.lt_or_ge p s.length with h1 | h1
    ·exact h1
    ·exact absurd (List.drop_eq_nil_of_le h1) h0
   refine .inr ⟨hlt,?_⟩
   have hget:∀ x r,(aL s).drop j=x::r→(aL s)[j]?=some x:=fun x r h=>by
    have:((aL s).drop j)[0]?=some x:=by rw [h];rfl
    simpa using this
   by_cases h1:(bL (s.drop p)).e=0
   ·rw [if_neg (by simpa using h1)] at he
    have hn:=BG h0 h1
    rw [List.length_drop] at hn hm
    refine ⟨hget _ _ he,.inr ⟨h1,by omega,hn.1,?_⟩⟩
    have hpq:=ye (s.drop (p+(bL (s.drop p)).n))
    rw [List.length_drop] at hpq
    have hj1:=(List.getElem?_eq_some_iff.1 (hget _ _ he)).1
    refine ⟨by omega,by omega,m,p+(bL (s.drop p)).n,by omega,by rw [List.length_drop];omega,rfl,?_⟩
    have h2:(aL s).drop (j+1)=((aL s).drop j).drop 1:=by rw [List.drop_drop]
    rw [h2,he,List.drop_succ_cons,List.drop_zero,List.drop_drop]
   ·rw [if_pos h1] at he
    refine ⟨hget _ _ he,.inl ⟨h1,?_⟩⟩
    have h2:=congrArg List.length he
    rw [List.length_drop] at h2
    simp at h2
    omega
def Br (s:List UInt8) (n:Nat):List D:=[i64 ((aL s).getD n (0,eB 0)).1,sr ((aL s).getD n (0,eB 0)).2]
set_option maxHeartbeats 1000000 in
theorem xm {G} (s:List UInt8) (hl:s.length≤1000000):ItC Tryz.prog G 110 [.ptr (.str s)] (aL s).length (Br s):=by
 refine EP Tryz.func110 rfl (by decide +kernel) (by simp [Tryz.ntmps110]) rfl fun z hz=>?_
 refine aZ (aC fun E=>?_)
 simp only [go_sem]
 refine ae E (yf s hl) rfl rfl (by simp) ?_
 rintro _ rfl
 simp only [go_sem]
 refine mw (Ib (X:={ x:Nat × Nat // TI s x.1 x.2 }) (fun x=>mk [(0,.d (.yl z.l)),(1,.d (.ptr (.str s))),(3,.d (i64 x.1.2))] [] []) (fun x=>II z x.1.1) (fun x=>s.length-x.1.2) ⟨(0,aW s),.init s⟩ ⟨id,LeL.le ?_⟩ (fun _ _ h=>h) ?_)
 ·simp only [go_sem]
  all_goals rfl
 rintro ⟨⟨j,p⟩,hT⟩
 have hpl:=hT.hp
 simp only at hT hpl ⊢
 generalize hΦ:lpY _ _ _ _ _ _ _ _=Φ'
 refine aZ (aC fun E=>?_)
 simp only [go_sem]
 refine ai E (fun h1=>?_) (fun h1=>?_)<;>simp only [go_sem]
 ·obtain ⟨hlt,hget,hcase⟩:=hT.next.resolve_left (fun h=>by omega)
  have hj:j<(aL s).length:=(List.getElem?_eq_some_iff.1 hget).1
  have hgd:(aL s).getD j (0,eB 0)=(p,bL (s.drop p)):=by rw [List.getD_eq_getElem?_getD,hget];rfl
  generalize hF:bL (s.drop p)=F at hget hcase hgd
  refine aZ (mw (aZ (aC fun E=>?_)))
  simp only [go_sem]
  refine ⟨by omega,?_⟩
  rw [List.take_of_length_le (l:=s.drop p) (by rw [List.length_drop];omega)]
  refine ae E (G1 (s.drop p) (by rw [List.length_drop];omega) (by rw [List.length_drop];omega)) rfl rfl (by simp) ?_
  rintro _ rfl
  rw [hF,jj F]
  simp only [go_sem]
  refine aZ (aZ (vf (FN rfl ?_)))
  simp only [go_sem]
  refine FN rfl ?_
  simp only [go_sem]
  refine FN rfl ?_
  simp only [go_sem]
  refine GV hz hj (by simp) rfl (by simp only [go_sem];rw [show Br s j=[i64 p,sr F] by unfold Br;rw [hgd]];rfl) ?_ ?_
  ·refine Ep fun E=>?_
   simp only [go_sem]
   refine aC fun E=>?_
   simp only [go_sem]
   refine ai E (fun h2=>?_) (fun h2=>?_)<;>simp only [go_sem]
   ·rcases hcase with ⟨_,h3⟩ | ⟨h3,_⟩
    ·rw [← h3]
     subst hΦ
     exact nW (Bp hz (.inr rfl))
    ·exact absurd h3 h2
   ·rcases hcase with ⟨h3,_⟩ | ⟨h3,h4,h5,h6⟩
    ·exact absurd h3 h2
    refine aC fun E=>?_
    simp only [go_sem]
    rw [al ⟨by omega,by omega⟩]
    refine HW (aC fun E=>?_)
    simp only [go_sem]
    have hpo:=h6.hp
    refine ⟨by omega,?_⟩
    rw [show ((p:Int)+(F.n:Nat)).toNat=p+F.n by omega,List.take_of_length_le (l:=s.drop (p+F.n)) (by rw [List.length_drop];omega)]
    refine ae E (yf (s.drop (p+F.n)) (by rw [List.length_drop];omega)) rfl rfl (by simp) ?_
    rintro _ rfl
    simp only [go_sem]
    rw [al ⟨by omega,by omega⟩]
    subst hΦ
    refine ui (show { x:Nat × Nat // TI s x.1 x.2 } from ⟨(j+1,p+F.n+aW (s.drop (p+F.n))),h6⟩) ?_ id (LeL.le ?_) (fun _ _ h=>h)
    ·show s.length-(p+F.n+aW (s.drop (p+F.n)))<s.length-p
     omega
    ·simp only [go_sem]
     rfl
  ·refine Ep fun E=>?_
   simp only [go_sem]
   refine aC fun E=>?_
   simp only [go_sem]
   subst hΦ
   exact nW (JC hz (.inr rfl))
 ·subst hΦ
  refine tQ ?_
  simp only [go_sem]
  refine Km ?_
  have hj:=hT.hj
  rcases hT.next with ⟨_,h2⟩ | ⟨h2,_⟩
  ·have h3:=List.drop_eq_nil_iff.1 h2
   have:j=(aL s).length:=by omega
   subst this
   exact Bp hz (.inl rfl)
  ·omega
end Go.Proofs.YtejpnabbmgpmaaaGreatDoor

namespace Go.Proofs.YtejpnabbmgpmaaaGreatDoor
open Go.Ab
theorem qz:∀ (m:Nat) (s:List UInt8) (at' i:Nat),i+1<(b8 m s at').length→((b8 m s at').getD i (0,eB 0)).2.e=0
 | 0,_,_,_,h=>by simp [b8] at h
 | m+1,s,at',i,h=>by
   unfold b8 at h ⊢
   split at h
   ·simp at h
   rename_i h0
   rw [if_neg h0]
   split at h
   ·simp at h
   rename_i h1
   rw [if_neg h1]
   cases i with
   | zero=>simpa using h1
   | succ i =>
     simp only [List.length_cons] at h
     rw [List.getD_cons_succ]
     exact qz m _ _ i (by omega)
theorem pY:∀ {l:List (Nat × Fnd)},fO l=none→∀ q∈l,q.2.e=0
 | [],_,q,h=>by cases h
 | a::r,hb,q,h=>by
   unfold fO at hb
   split at hb
   ·cases hb
   rename_i h1
   rcases List.mem_cons.1 h with rfl | h
   ·simpa using h1
   ·exact pY hb q h
theorem pR:∀ {l:List (Nat × Fnd)} {i:Nat} {e:Int},(∀ k,k+1<l.length→(l.getD k (0,eB 0)).2.e=0)→fO l=some (i,e)→0<l.length∧(l.getD (l.length-1) (0,eB 0)).1=i∧(l.getD (l.length-1) (0,eB 0)).2.e=e∧e≠0
 | [],_,_,_,h=>by cases h
 | [a],i,e,_,h=>by
   unfold fO at h
   split at h
   ·rename_i h1;cases h;exact ⟨by simp,rfl,rfl,h1⟩
   ·cases h
 | a::b::r,i,e,hk,h=>by
   have ha:a.2.e=0:=hk 0 (by simp)
   unfold fO at h
   rw [if_neg (by simpa using ha)] at h
   obtain ⟨_,h2,h3,h4⟩:=pR (l:=b::r) (fun k hk'=>by
    have:=hk (k+1) (by simp only [List.length_cons] at hk' ⊢;omega)
    simpa using this) h
   refine ⟨by simp,?_,?_,h4⟩
   ·simpa using h2
   ·simpa using h3
def K3:St:=mk [] [([0],.map [])] []
theorem Gy {P:Program} {cf:Cf} {Φ:Exit→Act→World→Prop} {I:Base→List Deferred→Prop} {k:List It}:ARY P cf Φ I k K3:=by
 intro B hB ds β a w hds hI hs
 obtain ⟨⟨_,_,_,h⟩,_⟩:=hs.objs [0] _ rfl
 cases h
def tv (s:List UInt8) (n:Nat):St:=mk [(0,.d (.str s)),(2,.bx [2] 0),(3,.bx [3] 0),(4,.bx [4] 0),(5,.bx [5] 0)] [([2],.box [.d .nils]),([3],.box [.d (i64 0)]),([4],.box [.d (i64 0)]),([5],.box [.vw [99] 0 n]),([99],.arr (some 4) (((aL s).take n).map fun q=>gR (ni q)))] [2,3,4,5,99]
theorem uu (s:List UInt8) {n:Nat} (hn:n<(aL s).length) {q:Nat × Fnd} (hq:q=(aL s).getD n (0,eB 0)) :
  List.take n (List.map (fun q=>gR (ni q)) (List.take n (aL s)))++[.agg [i64 q.2.t.k,.str q.2.t.s,i64 q.2.t.n,.int .i64 (q.1:Nat)]]=List.map (fun q=>gR (ni q)) (List.take (n+1) (aL s)):=by
 have hq2:q=(aL s)[n]:=by rw [hq];simp [hn]
 rw [List.take_of_length_le (by simp;omega),List.take_succ_eq_append_getElem hn,List.map_append,← hq2]
 rfl
set_option maxHeartbeats 1000000 in
theorem Ju {G} (s:List UInt8) (hl:s.length≤1000000) (hb:fO (aL s)=none):HP Tryz.prog G 32 [.str s] (fun r=>r=.tup [.d (.sl (some 4) ((bS s).1.map gR)),.d (i64 (bS s).2.1),.d (i64 (bS s).2.2)]):=by
 have hok:=pY hb
 have hfew:(aL s).length≤s.length:=kR s.length.succ s 0
 have hlex:bS s=((aL s).map ni,s.length,0):=by unfold bS;rw [hb]
 refine mN Tryz.func32 rfl (by decide +kernel) (by simp [Tryz.ntmps32]) fun B0 hB0=>?_
 refine aZ (aC fun E=>?_)
 simp only [go_sem]
 refine aZ (aC fun E=>?_)
 simp only [go_sem]
 refine aZ (aZ (aC fun E=>?_))
 simp only [go_sem]
 refine ae E (Bk s) rfl rfl (by simp) ?_
 rintro _ rfl
 simp only [go_sem]
 refine rm [5] 0 99 (some 4) [.d .nils] rfl rfl (by rw [aa];decide) ?_
 simp only [go_sem]
 refine mw (x9 rfl (xm s hl) rfl (X:=Unit) (fun n _=>tv s n) (by simp) (fun n hn=>rfl) ⟨(),id,LeL.le ?_⟩ ?_ ?_)
 ·simp only [go_sem]
  all_goals rfl
 ·rintro n ⟨⟩ hn lb
  unfold tv Br
  obtain ⟨q,hq⟩:∃ q,q=(aL s).getD n (0,eB 0):=⟨_,rfl⟩
  have hqm:q∈aL s:=by rw [hq];simp [hn]
  have hqe:=hok q hqm
  rw [← hq,jj]
  refine veil fun E=>?_
  simp only [go_sem]
  refine KI fun E=>?_
  simp only [go_sem]
  refine ai E (fun h1=>absurd hqe h1) (fun h1=>?_)<;>simp only [go_sem]
  rw [uu s hn hq]
  refine ⟨by omega,?_⟩
  refine HM ?_ () (tau [([99],[25])]) rfl ?_
  ·simp only [go_sem]
  ·simp only [go_sem]
 ·rintro ⟨⟩
  refine HW ?_
  unfold tv
  rw [List.take_length]
  refine aC fun E=>?_
  simp only [go_sem]
  refine iA (.inl rfl) hB0 ?_
  simp only [go_sem]
  refine ⟨[([99],some 4,(aL s).map fun q=>gR (ni q))],?_⟩
  simp only [go_sem]
  rw [hlex,List.map_map]
  rfl
set_option maxHeartbeats 1000000 in
theorem EL {G} (s:List UInt8) (hl:s.length≤1000000) {i:Nat} {e:Int} (hb:fO (aL s)=some (i,e)):HP Tryz.prog G 32 [.str s] (fun r=>r=.tup [.d .nils,.d (i64 i),.d (i64 e)]):=by
 obtain ⟨h0,hi,he,hne⟩:=pR (qz _ _ _) hb
 have hok:∀ n,n+1<(aL s).length→((aL s).getD n (0,eB 0)).2.e=0:=qz _ _ _
 have hfew:(aL s).length≤s.length:=kR s.length.succ s 0
 change 0<(aL s).length at h0
 change ((aL s).getD ((aL s).length-1) (0,eB 0)).1=i at hi
 change ((aL s).getD ((aL s).length-1) (0,eB 0)).2.e=e at he
 refine mN Tryz.func32 rfl (by decide +kernel) (by simp [Tryz.ntmps32]) fun B0 hB0=>?_
 refine aZ (aC fun E=>?_)
 simp only [go_sem]
 refine aZ (aC fun E=>?_)
 simp only [go_sem]
 refine aZ (aZ (aC fun E=>?_))
 simp only [go_sem]
 refine ae E (Bk s) rfl rfl (by simp) ?_
 rintro _ rfl
 simp only [go_sem]
 refine rm [5] 0 99 (some 4) [.d .nils] rfl rfl (by rw [aa];decide) ?_
 simp only [go_sem]
 refine mw (x9 rfl (xm s hl) rfl (X:=Unit) (fun n _=>if n<(aL s).length then tv s n else K3) (by simp) (fun n hn=>rfl) ⟨(),id,?_⟩ ?_ ?_)
 ·rw [if_pos h0]
  refine LeL.le ?_
  simp only [go_sem]
  all_goals rfl
 ·rintro n ⟨⟩ hn lb
  simp only [if_pos hn]
  have hlast:n+1<(aL s).length∨n=(aL s).length-1:=by omega
  obtain ⟨q,hq⟩:∃ q,q=(aL s).getD n (0,eB 0):=⟨_,rfl⟩
  have hcase:(q.2.e=0∧n+1<(aL s).length)∨(q.1=i∧q.2.e=e):=by
   rcases hlast with h | h
   ·exact .inl ⟨by rw [hq];exact hok n h,h⟩
   ·refine .inr ⟨?_,?_⟩
    ·rw [hq,h];exact hi
    ·rw [hq,h];exact he
  unfold Br
  rw [← hq,jj]
  unfold tv
  refine veil fun E=>?_
  simp only [go_sem]
  refine KI fun E=>?_
  simp only [go_sem]
  refine ai E (fun h1=>?_) (fun h1=>?_)<;>simp only [go_sem]
  ·obtain ⟨hq1,hq2⟩:=hcase.resolve_left (fun h=>h1 h.1)
   refine au mixed E fun X=>?_
   simp only [go_sem]
   refine ⟨by decide +kernel,?_⟩
   refine ID ?_ (iA (.inl rfl) hB0 ?_)
   ·simp only [go_sem]
    exact Nat.le_refl _
   ·simp only [go_sem]
    refine ⟨[],?_⟩
    simp only [go_sem]
    rw [hq1,hq2]
  ·rcases hcase with ⟨_,h2⟩ | ⟨_,h2⟩
   ·rw [uu s hn hq]
    refine ⟨by omega,?_⟩
    simp only [if_pos h2]
    refine HM ?_ () (tau [([99],[25])]) rfl ?_
    ·simp only [go_sem]
    ·simp only [go_sem]
   ·exact absurd h2 (fun h=>by omega)
 ·rintro ⟨⟩
  rw [if_neg (Nat.lt_irrefl _)]
  exact Gy
end Go.Proofs.YtejpnabbmgpmaaaGreatDoor

namespace Go.Proofs.YtejpnabbmgpmaaaGreatDoor
open Go.Ab
theorem SS.parted (s:PS) (t:Tok) (l:List EF) (h:∀ N,PSo N s→0≤t.pos∧t.pos≤N):SS s (s.parted t l):=by
 unfold PS.parted
 split
 ·exact SS.refl s
 split
 ·exact SS.fail s _ _ h
 split
 ·exact SS.fail s _ _ h
 ·exact SS.refl s
theorem SS.withp {s r:PS} (h:SS s r) (e p:Int) (hp:∀ N,PSo N s→0≤p∧p≤N):SS s (r.fail e p):=by
 unfold PS.fail
 split
 ·exact ⟨h.suf,h.fin,h.nest,hp⟩
 ·exact h
theorem SS.partp {s r:PS} (h:SS s r) (t:Tok) (l:List EF) (hp:∀ N,PSo N s→0≤t.pos∧t.pos≤N):SS s (r.parted t l):=by
 unfold PS.parted
 split
 ·exact h
 split
 ·exact SS.withp h _ _ hp
 split
 ·exact SS.withp h _ _ hp
 ·exact h
theorem SS.field (s:PS) (l:List EF):SS s (dM s l).2 :=
 (SS.partp (SS.of s 2) s.peek l fun _ h=>dq h).trans (SS.must _ _ _)
theorem SS.branch (s:PS) (l:List EF):SS s (cH s l).2 :=
 ((SS.partp (SS.of s 3) s.peek l fun _ h=>dq h).trans (SS.of _ _)).trans (SS.must _ _ _)
structure PGood (s:PS) (l:List EF) (ks:List (List EN)) (R:List EF × List (List EN) × PS):Prop where
 ss:SS s R.2.2
 eq:R.1.length=R.2.1.length
 tr:∀ k∈R.2.1,Tr k
 sz:bA R.2.1+4*R.2.2.l.length+3*R.1.length≤bA ks+4*s.l.length+3*l.length+4
 ln:R.1.length+R.2.2.l.length≤l.length+s.l.length+1
 wd:∀ b,(∀ k∈ks,gQ b k)→s.l.length+1≤b+R.2.2.l.length→∀ k∈R.2.1,gQ b k
theorem pV (ks:List (List EN)) (k:List EN):bA (ks++[k])=bA ks+k.length:=by simp [bA]
theorem qe (ex:PS→PR) (b:List UInt8) (part:PS→List EF→EF × PS):∀ (m:Nat) (s:PS) (l:List EF) (ks:List (List EN)),1≤(bu ex b part (m+1) s l ks).1.length
 | 0,s,l,ks=>by
   unfold bu;simp only
   split
   ·simp [bu]
   ·simp
 | m+1,s,l,ks=>by
   unfold bu;simp only
   split
   ·exact qe ex b part m _ _ _
   ·simp
section
variable {ex:PS→PR} (hex:∀ s,GP 1 s (ex s))
include hex
theorem fH (between:List UInt8) (part:PS→List EF→EF × PS) (hp:∀ s l,SS s (part s l).2):∀ (m:Nat) (s:PS) (l:List EF) (ks:List (List EN)),l.length=ks.length→(∀ k∈ks,Tr k) →
  PGood s l ks (bu ex between part m s l ks)
 | 0,s,l,ks,hl,ht=>⟨SS.refl s,hl,ht,by show bA ks+4*s.l.length+3*l.length≤_;omega,by show l.length+s.l.length≤_;omega,fun b h _=>h⟩
 | m+1,s,l,ks,hl,ht=>by
   have hf:=hp s l
   have he:=hex (part s l).2
   have h1:=he.sz
   have h2:=hf.len
   have h3:=he.ss.len
   have hks:∀ k∈ks++[(ex (part s l).2).1],Tr k:=fun k hk=>by
    rcases List.mem_append.1 hk with hk | hk
    ·exact ht k hk
    ·rw [List.mem_singleton.1 hk];exact he.tr
   unfold bu
   simp only
   split
   ·rename_i hs
    have h4:=bn hs
    have ih:=fH between part hp m (ex (part s l).2).2.next (l++[(part s l).1]) (ks++[(ex (part s l).2).1]) (by simp [hl]) hks
    have h5:=ih.ss.len
    have h6:=ih.sz
    have h7:=ih.ln
    rw [pV] at h6
    simp only [List.length_append,List.length_singleton] at h6 h7
    refine ⟨((hf.trans he.ss).trans (SS.next _)).trans ih.ss,ih.eq,ih.tr,by omega,by omega,fun b hb hle=>ih.wd b (fun k hk=>?_) (by omega)⟩
    rcases List.mem_append.1 hk with hk | hk
    ·exact hb k hk
    ·rw [List.mem_singleton.1 hk];exact he.wd.mono (by omega)
   ·refine ⟨hf.trans he.ss,by simp [hl],hks,?_,?_,fun b hb hle k hk=>?_⟩
    ·rw [pV];simp only [List.length_append,List.length_singleton];omega
    ·simp only [List.length_append,List.length_singleton];omega
    ·simp only at hle
     rcases List.mem_append.1 hk with hk | hk
     ·exact hb k hk
     ·rw [List.mem_singleton.1 hk];exact he.wd.mono (by omega)
theorem lU (s:PS) (pos:Int):GP 2 s (cK ex s pos):=by
 unfold cK
 split
 ·exact GP.leaf rfl rfl (SS.next s) (by rename_i h;have:=bn h;omega)
 ·have h:=fH hex [44] dM SS.field s.l.length.succ s [] [] rfl (fun _ h=>by cases h)
  generalize bu ex [44] dM s.l.length.succ s [] []=R at h
  have h1:=h.sz
  have h2:=h.ln
  have h3:=h.ss.len
  have h4:=(SS.must R.2.2 7 [125]).len
  simp only [bA,List.map_nil,List.sum_nil,List.length_nil] at h1 h2
  refine ⟨h.ss.trans (SS.must _ _ _),.join _ _ (by show 0+R.1.length=_;rw [h.eq];omega) h.tr,?_,dE (by show R.1.length≤_;simp only;omega) (h.wd _ (fun _ h=>by cases h) (by simp only;omega))⟩
  rw [db]
  simp only [bA]
  have h5:R.1=[]∨1≤R.1.length:=by cases R.1<;>simp
  rcases h5 with h5 | h5
  ·have:R.2.1=[]:=List.length_eq_zero_iff.1 (by rw [← h.eq,h5];rfl)
   rw [this];simp only [List.map_nil,List.sum_nil];omega
  ·omega
theorem oI (s:PS) (pos:Int):GP 3 s (dY ex s pos):=by
 unfold dY
 have he:=hex s
 have hm:=SS.must (ex s).2 1 bOf
 simp only
 generalize (ex s).2.must 1 bOf=s1 at hm
 have h:=fH hex [124] cH SS.branch s1.l.length.succ s1 [] [] rfl (fun _ h=>by cases h)
 generalize hR:bu ex [124] cH s1.l.length.succ s1 [] []=R at h
 have h1:=h.sz
 have h2:=h.ln
 have h3:=h.ss.len
 have h4:=(SS.must R.2.2 1 sW).len
 have h5:=he.sz
 have h6:=he.ss.len
 have h7:=hm.len
 have h8:1≤R.1.length:=by
  rw [← hR]
  exact qe _ _ _ _ _ _ _
 simp only [bA,List.map_nil,List.sum_nil,List.length_nil] at h1 h2
 refine ⟨((he.ss.trans hm).trans h.ss).trans (SS.must _ _ _),.join _ _ (by show 1+R.1.length=_;rw [h.eq,List.length_cons];omega) (fun l hl=>?_),?_,dE (by show R.1.length≤_;simp only;omega) fun l hl=>?_⟩
 ·rcases List.mem_cons.1 hl with rfl | hl
  ·exact he.tr
  ·exact h.tr l hl
 ·rw [db]
  simp only [bA,List.map_cons,List.sum_cons]
  omega
 ·rcases List.mem_cons.1 hl with rfl | hl
  ·exact he.wd.mono (by simp only;omega)
  ·exact h.wd _ (fun _ h=>by cases h) (by simp only;omega) l hl
def GQ (s:PS) (r:PR):Prop:=GP 1 s r∧(r.2.l.length<s.l.length→r.1.length+4*r.2.l.length+1≤4*s.l.length)
theorem jI (s:PS):GQ s (bG ex s):=by
 have lf:∀ n:EN,aF n=0→n.l=[]→s.next.l.length+1=s.l.length→GQ s (cA n,s.next):=fun n h1 h2 h3 =>
  ⟨GP.leaf h1 h2 (SS.next s) (by omega),fun _=>by show (az n []).length+_+1≤_;rw [db];simp only [bA,List.map_nil,List.sum_nil];omega⟩
 have no:GQ s (noE,s.wrong):=⟨GP.leaf rfl rfl (SS.wrong s) (by have:=(SS.wrong s).len;omega),fun h=>absurd h (by show ¬ s.wrong.l.length<_;unfold PS.wrong PS.fail;split<;>simp)⟩
 unfold bG
 simp only
 split
 ·exact no
 split
 ·rename_i h;exact lf _ rfl rfl (gG h (by decide))
 split
 ·rename_i h;exact lf _ rfl rfl (gG h (by decide))
 split
 ·rename_i h;exact lf _ rfl rfl (gG h (by decide))
 split
 ·rename_i h;exact lf _ rfl rfl (bn h)
 split
 ·rename_i h;exact lf _ rfl rfl (bn h)
 split
 ·rename_i h
  have h1:=bn h
  have he:=hex s.next
  have h2:=he.sz
  have h3:=(SS.must (ex s.next).2 7 [41]).len
  exact ⟨(GP.pre (e:=1) (r:=((ex s.next).1,(ex s.next).2)) he (SS.next s) (by omega)).post (SS.must _ _ _),fun _=>by simp only;omega⟩
 split
 ·rename_i h
  have h1:=bn h
  have he:=lU hex s.next s.peek.pos
  have h2:=he.sz
  exact ⟨he.pre (SS.next s) (by omega),fun _=>by omega⟩
 split
 ·rename_i h
  have h1:=bn h
  have he:=oI hex s.next s.peek.pos
  have h2:=he.sz
  exact ⟨he.pre (SS.next s) (by omega),fun _=>by omega⟩
 ·exact no
omit hex in
theorem lF (s0:PS):∀ (m:Nat) (a:List EN) (s:PS),GQ s0 (a,s)→GQ s0 (dA m a s)
 | 0,_,_,h=>h
 | m+1,a,s,h=>by
   unfold dA
   split
   ·rename_i hs
    refine lF s0 m _ _ ?_
    have h1:=bn hs
    have h2:=(SS.of s.next 2).len
    have h3:=h.1.sz
    have h4:=h.1.ss.len
    simp only at h3 h4
    have hj:(az { nd0 12 s.peek.pos with name:=(s.next.of 2).1 } [a]).length=a.length+1:=by rw [db];simp [bA]
    refine ⟨⟨(h.1.ss.trans (SS.next s)).trans (SS.of _ _),.join _ _ rfl (fun l hl=>by rw [List.mem_singleton.1 hl];exact h.1.tr),by rw [hj];simp only;omega,dE (Nat.zero_le _) fun l hl=>by rw [List.mem_singleton.1 hl];exact h.1.wd.mono (by simp only;omega)⟩,fun _=>by rw [hj];simp only;omega⟩
   ·exact h
theorem dH (s:PS):GQ s (cB ex s):=lF s _ _ _ (jI hex s)
omit hex in
theorem vh:∀ (m:Nat) (a:List EN) (s:PS),(dA m a s).2.l.length≤s.l.length
 | 0,_,_=>Nat.le_refl _
 | m+1,a,s=>by
   unfold dA
   split
   ·have:=vh m (az { nd0 12 s.peek.pos with name:=(s.next.of 2).1 } [a]) (s.next.of 2).2
    have:=(SS.of s.next 2).len
    have:=(SS.next s).len
    omega
   ·exact Nat.le_refl _
theorem lR {s:PS} (he:s.err=0) (hb:s.begins=true):(cB ex s).2.l.length<s.l.length:=by
 have h1:=vh (bG ex s).2.l.length.succ (bG ex s).1 (bG ex s).2
 have key:(bG ex s).2.l.length<s.l.length:=by
  unfold PS.begins at hb
  simp only [Bool.or_eq_true,Bool.and_eq_true,decide_eq_true_eq] at hb
  unfold bG
  simp only [he,ne_eq,not_true_eq_false,if_false]
  have hk:∀ k:Int,s.peek.k=k→k≠0→s.next.l.length<s.l.length:=fun k h h0=>by have:=gG h h0;omega
  have hne:∀ k:Int,s.peek.k=k→k≠0→s.l.isEmpty=false:=fun k h h0=>by
   have:=gG h h0
   cases hl:s.l with
   | nil=>rw [hl] at this;simp at this
   | cons _ _=>rfl
  split
  ·rename_i h;exact hk 4 h (by decide)
  split
  ·rename_i h;exact hk 5 h (by decide)
  split
  ·rename_i h;exact hk 2 h (by decide)
  rename_i g4 g5 g2
  split
  ·rename_i h;have:=bn h;simp only;omega
  rename_i g1
  split
  ·rename_i h;have:=bn h;simp only;omega
  rename_i g3
  split
  ·rename_i h
   have:=bn h
   have:=(hex s.next).ss.len
   have:=(SS.must (ex s.next).2 7 [41]).len
   simp only;omega
  rename_i g6
  split
  ·rename_i h
   have:=bn h
   have:=(lU hex s.next s.peek.pos).ss.len
   omega
  rename_i g7
  split
  ·rename_i h
   have:=bn h
   have:=(oI hex s.next s.peek.pos).ss.len
   omega
  rename_i g8
  exfalso
  have see:∀ k t,k≠0→s.peek.k=k→s.peek.s=t→s.sees k t=true:=fun k t h0 h h'=>by
   simp [PS.sees,PS.is,he,h,h',hne k h h0]
  rcases hb with (((h | h) | h) | ⟨h,h'⟩) | ⟨h,h'⟩
  ·exact g4 h
  ·exact g5 h
  ·exact g2 h
  ·rcases h' with (h' | h') | h'
   ·exact g1 (see 1 _ (by decide) h h')
   ·exact g3 (see 1 _ (by decide) h h')
   ·exact g8 (see 1 _ (by decide) h h')
  ·rcases h' with h' | h'
   ·exact g6 (see 7 _ (by decide) h h')
   ·exact g7 (see 7 _ (by decide) h h')
 exact Nat.lt_of_le_of_lt h1 key
theorem jG (s0:PS):∀ (m:Nat) (a:List EN) (s:PS),GP 1 s0 (a,s)→GP 1 s0 (dO ex m a s)
 | 0,_,_,h=>h
 | m+1,a,s,h=>by
   unfold dO
   split
   ·rename_i hs
    simp only [Bool.and_eq_true,decide_eq_true_eq] at hs
    have hp:=dH hex s
    have hl:=lR hex hs.1 hs.2
    have h2:=hp.2 hl
    have h3:=h.sz
    have h4:=h.ss.len
    simp only at h3 h4
    refine jG s0 m _ _ ⟨h.ss.trans hp.1.ss,.join _ _ rfl (fun l hl=>?_),?_,dE (Nat.zero_le _) fun l hl=>?_⟩
    ·rcases List.mem_cons.1 hl with rfl | hl
     ·exact h.tr
     ·rw [List.mem_singleton.1 hl];exact hp.1.tr
    ·rw [db]
     simp only [bA,List.map_cons,List.map_nil,List.sum_cons,List.sum_nil]
     omega
    ·rcases List.mem_cons.1 hl with rfl | hl
     ·exact h.wd.mono (by simp only;omega)
     ·rw [List.mem_singleton.1 hl];exact hp.1.wd.mono (by simp only;omega)
   ·exact h
theorem fu (s:PS):GP 1 s (fM ex s):=by
 unfold fM
 simp only
 split
 ·rename_i h
  have h1:=Ga h (by decide)
  exact GP.HI (dH hex s.next).1 (SS.next s) rfl rfl (by omega)
 ·exact jG hex s _ _ _ (dH hex s).1
omit hex in
theorem gS {s:PS}:∀ {ops:List (List UInt8 × Int)} {n:Int},opS s ops=some n→s.next.l.length+1=s.l.length
 | [],_,h=>by cases h
 | q::r,n,h=>by
   unfold opS at h
   split at h
   ·rename_i hs;exact bn hs
   ·exact gS h
omit hex in
theorem nr (ops:List (List UInt8 × Int)) (sub:PS→PR) (hsub:∀ s,GP 1 s (sub s)) (s0:PS):∀ (m:Nat) (a:List EN) (s:PS),GP 1 s0 (a,s)→GP 1 s0 (eV ops sub m a s)
 | 0,_,_,h=>h
 | m+1,a,s,h=>by
   unfold eV
   split
   ·rename_i n ho
    have h1:=gS ho
    exact nr ops sub hsub s0 m _ _ (GP.uI (s1:=s0) (a:=(a,s)) h (hsub s.next) (SS.refl s0) (SS.next s) rfl rfl (by simp only;omega))
   ·exact h
theorem eg (s:PS):GP 1 s (eM ex s):=nr _ _ (fu hex) s _ _ _ (fu hex s)
theorem gj (s:PS):GP 1 s (j2 ex s):=nr _ _ (eg hex) s _ _ _ (eg hex s)
theorem tZ (s:PS):GP 1 s (lP ex s):=by
 unfold lP
 simp only
 split
 ·rename_i n ho
  have h1:=gS ho
  exact GP.uI (gj hex s) (gj hex _) (SS.refl s) (SS.next _) rfl rfl (by omega)
 ·exact gj hex s
omit hex in
theorem nE (s:PS) (e p:Int):(s.fail e p).l=s.l:=by unfold PS.fail;split<;>rfl
theorem va (s:PS) (pos:Int):GP 3 s (jY ex s pos):=by
 unfold jY
 simp only
 obtain ⟨k,hk⟩:∃ k:Int,k=if s.sees 1 gh=true then 8 else 7:=⟨_,rfl⟩
 rw [← hk]
 have h0:=(SS.may s 1 gh).trans ((SS.of (s.may 1 gh) 2).trans (SS.must ((s.may 1 gh).of 2).2 7 [61]))
 generalize (((s.may 1 gh).of 2).2.must 7 [61])=s2 at h0
 have ha:=hex s2
 obtain ⟨s3,hq⟩:∃ s3,s3=if k=8∧(dU (ex s2).1).k≠5 then (ex s2).2.fail 5 s2.peek.pos else (ex s2).2:=⟨_,rfl⟩
 rw [← hq]
 have hb:=hex (s3.must 1 bIn)
 have hss:SS s2 s3:=by
  by_cases c:k=8∧(dU (ex s2).1).k≠5
  ·rw [if_pos c] at hq;rw [hq];exact SS.withp ha.ss _ _ fun _ h=>dq h
  ·rw [if_neg c] at hq;rw [hq];exact ha.ss
 have hl:s3.l=(ex s2).2.l:=by
  by_cases c:k=8∧(dU (ex s2).1).k≠5
  ·rw [if_pos c] at hq;rw [hq];exact nE _ _ _
  ·rw [if_neg c] at hq;rw [hq]
 have ha':GP 1 s2 ((ex s2).1,s3):=⟨hss,ha.tr,by simp only [hl];exact ha.sz,by simp only [hl];exact ha.wd⟩
 have h3:=(SS.must s3 1 bIn).len
 have h4:=h0.len
 refine GP.uI (a:=((ex s2).1,s3)) ha' hb h0 (SS.must _ _ _) ?_ rfl (by simp only;omega)
 rw [hk]
 split<;>rfl
theorem yu (s:PS) (pos:Int):GP 4 s (ifS ex s pos):=by
 unfold ifS
 simp only
 exact GP.Ky (hex s) (hex _) (hex _) (SS.refl s) (SS.must _ _ _) (SS.must _ _ _) rfl rfl (by omega)
theorem Ar (s:PS):GP 1 s (dS ex s):=by
 unfold dS
 simp only
 split
 ·rename_i h
  have h1:=bn h
  have h2:=(SS.of s.next 2).len
  have h3:=(SS.must (s.next.of 2).2 7 bTo).len
  exact GP.HI (hex _) ((SS.next s).trans ((SS.of _ _).trans (SS.must _ _ _))) rfl rfl (by omega)
 split
 ·rename_i h
  have h1:=bn h
  exact (va hex s.next _).pre (SS.next s) (by omega)
 split
 ·rename_i h
  have h1:=bn h
  exact (yu hex s.next _).pre (SS.next s) (by omega)
 ·exact tZ hex s
end
theorem gA:∀ (m:Nat) (s:PS),GP 1 s (cZ m s)
 | 0,s=>GP.leaf rfl rfl (SS.failp s 6) (by have:=(SS.failp s 6).len;omega)
 | m+1,s=>by
   unfold cZ
   split
   ·exact GP.leaf rfl rfl (SS.refl s) (by omega)
   ·have h:=Ar (gA m) { s with nest:=s.nest+1 }
    refine ⟨⟨h.ss.suf,h.ss.fin,rfl,fun N hN=>h.ss.pos N hN⟩,h.tr,h.sz,h.wd⟩
end Go.Proofs.YtejpnabbmgpmaaaGreatDoor

namespace Go.Proofs.YtejpnabbmgpmaaaGreatDoor
open Go.Ab
def ag (l:List Tok):D:=.sl (some 4) (l.map gR)
def TO (l:List Tok) (fin:Int):List (Name × Ob):=[([101],.box [.d (ag l),.d (i64 fin)])]
def cy (l:List Tok) (fin:Int):Tok:=match l with
 | []=>⟨0,[],0,fin⟩
 | t::_=>t
theorem vF {G} (l:List Tok) (fin:Int):HCall Tryz.prog G 35 [.bx [101] 0] (TO l fin) [101] (fun r hp'=>r=.d (.bool l.isEmpty)∧hp'=TO l fin):=by
 unfold TO ag
 refine ao Tryz.func35 rfl (by decide +kernel) (by simp [Tryz.ntmps35]) (veil fun E=>?_)
 simp only [go_sem]
 refine lz E (e:=99) false (by rw [JN]) (by simp only [go_sem]) rfl ?_
 simp only [go_sem]
 refine ⟨_,_,[101],id,⟨rfl,rfl⟩,?_⟩
 simp only [go_sem]
 cases l with
 | nil=>rfl
 | cons t r=>simp only [List.length_cons,List.length_map,List.isEmpty_cons,decide_eq_false (show ¬ ((r.length+1:Nat):Int)=0 by omega),and_self]
theorem ee {G} (l:List Tok) (fin:Int) (hl:l.length≤1000000):HCall Tryz.prog G 69 [.bx [101] 0] (TO l fin) [101] (fun r hp'=>r=.d (.agg [i64 (cy l fin).k,.str (cy l fin).s,i64 (cy l fin).n,i64 (cy l fin).pos])∧hp'=TO l fin):=by
 unfold TO ag
 refine ao Tryz.func69 rfl (by decide +kernel) (by simp [Tryz.ntmps69]) (veil fun E=>?_)
 simp only [go_sem]
 refine lz E (e:=99) false (by rw [JN]) (by simp only [go_sem]) rfl ?_
 simp only [go_sem]
 refine ai E (fun h=>?_) (fun h=>?_)<;>simp only [go_sem]
 ·cases l with
  | nil =>
    refine ⟨_,_,[101],id,⟨rfl,rfl⟩,?_⟩
    simp only [go_sem]
    rfl
  | cons t r=>simp at h;omega
 ·cases l with
  | nil=>exact absurd (by simp) h
  | cons t r =>
    refine ⟨by simp,?_⟩
    rw [show (List.map gR (t::r)).getD 0 .nilp=.agg [i64 t.k,.str t.s,i64 t.n,i64 t.pos] from rfl]
    simp only [go_sem]
    refine ⟨_,_,[101],id,⟨rfl,rfl⟩,?_⟩
    simp only [go_sem]
    rfl
theorem jx {G} (l:List Tok) (fin:Int) (hl:l.length≤1000000):HCall Tryz.prog G 114 [.bx [101] 0] (TO l fin) [101] (fun r hp'=>r=.d (.agg [i64 (cy l fin).k,.str (cy l fin).s,i64 (cy l fin).n,i64 (cy l fin).pos])∧hp'=TO l.tail fin):=by
 unfold TO ag
 refine ao Tryz.func114 rfl (by decide +kernel) (by simp [Tryz.ntmps114]) (veil fun E=>?_)
 simp only [go_sem]
 refine ab E [.bx [101] 0] (TO l fin) [101] (ee l fin hl) rfl rfl ⟨by simp only [go_sem],by rw [aa];decide⟩ rfl (by unfold TO ag;simp only [go_sem]) (by unfold TO;simp only [go_sem]) ?_
 rintro _ _ ⟨rfl,rfl⟩
 unfold TO ag
 simp only [go_sem]
 refine ab E [.bx [101] 0] (TO l fin) [101] (vF l fin) rfl rfl ⟨by simp only [go_sem],by rw [aa];decide⟩ rfl (by unfold TO ag;simp only [go_sem]) (by unfold TO;simp only [go_sem]) ?_
 rintro _ _ ⟨rfl,rfl⟩
 unfold TO ag
 simp only [go_sem]
 refine aV E (fun h=>?_) (fun h=>?_)<;>simp only [go_sem]
 ·cases l with
  | nil=>exact absurd h (by simp)
  | cons t r =>
    refine ⟨by simp only [List.length_cons];omega,_,_,[101],id,⟨rfl,rfl⟩,?_⟩
    simp only [go_sem]
    rfl
 ·cases l with
  | nil =>
    refine ⟨_,_,[101],id,⟨rfl,rfl⟩,?_⟩
    simp only [go_sem]
    rfl
  | cons t r=>exact absurd h (by simp)
def isT (l:List Tok) (fin k:Int) (t:List UInt8):Bool:=!l.isEmpty && decide ((cy l fin).k=k) && decide ((cy l fin).s=t)
theorem GO {G} (l:List Tok) (fin k:Int) (t:List UInt8) (hl:l.length≤1000000) (hk:k≠0∧k≠4):HCall Tryz.prog G 159 [.bx [101] 0,.d (i64 k),.d (.str t)] (TO l fin) [101] (fun r hp'=>r=.d (.bool (isT l fin k t))∧hp'=TO l fin):=by
 unfold isT
 unfold TO ag
 refine ao Tryz.func159 rfl (by decide +kernel) (by simp [Tryz.ntmps159]) (veil fun E=>?_)
 simp only [go_sem]
 refine ab E [.bx [101] 0] (TO l fin) [101] (ee l fin hl) rfl rfl ⟨by simp only [go_sem],by rw [aa];decide⟩ rfl (by unfold TO ag;simp only [go_sem]) (by unfold TO;simp only [go_sem]) ?_
 rintro _ _ ⟨rfl,rfl⟩
 unfold TO ag
 simp only [go_sem]
 refine ab E [.bx [101] 0] (TO l fin) [101] (vF l fin) rfl rfl ⟨by simp only [go_sem],by rw [aa];decide⟩ rfl (by unfold TO ag;simp only [go_sem]) (by unfold TO;simp only [go_sem]) ?_
 rintro _ _ ⟨rfl,rfl⟩
 unfold TO ag
 simp only [go_sem]
 refine ct E (fun h1=>?_) (fun h1=>?_)<;>simp only [go_sem]
 ·refine aK E (fun h2=>?_) (fun h2=>?_)<;>simp only [go_sem]
  ·refine aK E (fun h3=>?_) (fun h3=>absurd hk.1 h3)
   simp only [go_sem]
   refine ct E (fun h4=>?_) (fun h4=>?_)<;>simp only [go_sem]
   ·refine ⟨_,_,[101],id,⟨rfl,rfl⟩,?_⟩
    simp only [go_sem]
    rw [h1,decide_eq_true h2,decide_eq_true (show (cy l fin).s=t by simpa using h4)]
    rfl
   ·refine ⟨_,_,[101],id,⟨rfl,rfl⟩,?_⟩
    simp only [go_sem]
    rw [h1,decide_eq_true h2,decide_eq_false (show ¬ (cy l fin).s=t by simpa using h4),decide_eq_false hk.2]
    rfl
  ·refine ⟨_,_,[101],id,⟨rfl,rfl⟩,?_⟩
   simp only [go_sem]
   rw [decide_eq_false h2,Bool.and_false,Bool.false_and]
 ·refine ⟨_,_,[101],id,⟨rfl,rfl⟩,?_⟩
  simp only [go_sem]
  rw [h1,Bool.false_and,Bool.false_and]
theorem Hf {G} (l:List Tok) (fin k:Int) (t:List UInt8) (hl:l.length≤1000000) (hk:k≠0∧k≠4):HCall Tryz.prog G 143 [.bx [101] 0,.d (i64 k),.d (.str t)] (TO l fin) [101] (fun r hp'=>r=.d (.bool (isT l fin k t))∧hp'=TO (if isT l fin k t then l.tail else l) fin):=by
 obtain ⟨b,hb⟩:∃ b,b=isT l fin k t:=⟨_,rfl⟩
 have h0:=GO (G:=G) l fin k t hl hk
 have h1:=jx (G:=G) l fin hl
 rw [← hb] at h0 ⊢
 generalize hX:(if b then l.tail else l)=X
 unfold TO ag at *
 refine ao Tryz.func143 rfl (by decide +kernel) (by simp [Tryz.ntmps143]) (veil fun E=>?_)
 simp only [go_sem]
 refine ab E [.bx [101] 0,.d (i64 k),.d (.str t)] (TO l fin) [101] (h0) rfl rfl ⟨by simp only [go_sem],by rw [aa];decide⟩ rfl (by unfold TO ag;simp only [go_sem]) (by unfold TO;simp only [go_sem]) ?_
 rintro _ _ ⟨rfl,rfl⟩
 unfold TO ag
 simp only [go_sem]
 refine aV E (fun h=>?_) (fun h=>?_)<;>simp only [go_sem]
 ·refine ab E [.bx [101] 0] (TO l fin) [101] (h1) rfl rfl ⟨by simp only [go_sem],by rw [aa];decide⟩ rfl (by unfold TO ag;simp only [go_sem]) (by unfold TO;simp only [go_sem]) ?_
  rintro _ _ ⟨rfl,rfl⟩
  unfold TO ag
  simp only [go_sem]
  refine ⟨_,_,[101],id,⟨rfl,rfl⟩,?_⟩
  simp only [go_sem]
  rw [← hX,h]
  rfl
 ·refine ⟨_,_,[101],id,⟨rfl,rfl⟩,?_⟩
  simp only [go_sem]
  rw [← hX,h]
  rfl
def RO (s:PS):List (Name × Ob):=([100],.box [.bx [101] 0,.d (i64 s.err),.d (i64 s.pos),.d (i64 s.nest)])::TO s.l s.fin
theorem fC {G} (s:PS):HCall Tryz.prog G 71 [.bx [100] 0] (RO s) [100,101] (fun r hp'=>r=.d (.bool (decide (s.err=0)))∧hp'=RO s):=by
 unfold RO TO ag
 refine ao Tryz.func71 rfl (by decide +kernel) (by simp [Tryz.ntmps71]) (veil fun E=>?_)
 simp only [go_sem]
 refine ⟨_,_,[100,101],id,⟨rfl,rfl⟩,?_⟩
 simp only [go_sem]
theorem nX {G} (s:PS) (e p:Int):HCall Tryz.prog G 70 [.bx [100] 0,.d (i64 e),.d (i64 p)] (RO s) [100,101] (fun r hp'=>r=.tup []∧hp'=RO (s.fail e p)):=by
 generalize hX:s.fail e p=X
 unfold PS.fail at hX
 unfold RO TO ag
 refine ao Tryz.func70 rfl (by decide +kernel) (by simp [Tryz.ntmps70]) (veil fun E=>?_)
 simp only [go_sem]
 refine ab E [.bx [100] 0] (RO s) [100,101] (fC s) rfl rfl ⟨by simp only [go_sem],by rw [aa];decide⟩ rfl (by unfold RO TO ag;simp only [go_sem]) (by unfold RO TO;simp only [go_sem]) ?_
 rintro _ _ ⟨rfl,rfl⟩
 unfold RO TO ag
 simp only [go_sem]
 refine ai E (fun h=>?_) (fun h=>?_)<;>simp only [go_sem]
 ·refine ⟨_,_,[100,101],id,⟨rfl,rfl⟩,?_⟩
  rw [← hX,if_pos h]
  simp only [go_sem]
 ·refine ⟨_,_,[100,101],id,⟨rfl,rfl⟩,?_⟩
  rw [← hX,if_neg h]
  simp only [go_sem]
theorem jD (s:PS):s.peek=cy s.l s.fin:=rfl
theorem o9 {G} (s:PS) (hl:s.l.length≤1000000):HCall Tryz.prog G 36 [.bx [100] 0] (RO s) [100,101] (fun r hp'=>r=.tup []∧hp'=RO s.wrong):=by
 generalize hX:s.wrong=X
 unfold PS.wrong at hX
 rw [jD] at hX
 unfold RO TO ag
 refine ao Tryz.func36 rfl (by decide +kernel) (by simp [Tryz.ntmps36]) (veil fun E=>?_)
 simp only [go_sem]
 refine ab E [.bx [101] 0] (TO s.l s.fin) [101] (ee s.l s.fin hl) rfl rfl ⟨by simp only [go_sem],by rw [aa];decide⟩ rfl (by unfold TO ag;simp only [go_sem]) (by unfold TO;simp only [go_sem]) ?_
 rintro _ _ ⟨rfl,rfl⟩
 unfold TO ag
 simp only [go_sem]
 refine ab E [.bx [100] 0,.d (i64 5),.d (i64 (cy s.l s.fin).pos)] (RO s) [100,101] (nX s 5 (cy s.l s.fin).pos) rfl rfl ⟨by simp only [go_sem],by rw [aa];decide⟩ rfl (by unfold RO TO ag;simp only [go_sem]) (by unfold RO TO;simp only [go_sem]) ?_
 rintro _ _ ⟨rfl,rfl⟩
 unfold RO TO ag
 simp only [go_sem]
 refine ⟨_,_,[100,101],id,⟨rfl,rfl⟩,?_⟩
 rw [← hX]
 simp only [go_sem]
end Go.Proofs.YtejpnabbmgpmaaaGreatDoor

namespace Go.Proofs.YtejpnabbmgpmaaaGreatDoor
open Go.Ab
theorem sP {G} (s:PS) (k:Int) (t:List UInt8) (hl:s.l.length≤1000000) (hk:k≠0∧k≠4):HCall Tryz.prog G 113 [.bx [100] 0,.d (i64 k),.d (.str t)] (RO s) [100,101] (fun r hp'=>r=.d (.bool (s.sees k t))∧hp'=RO (s.may k t)):=by
 have h0:=Hf (G:=G) s.l s.fin k t hl hk
 generalize hb:isT s.l s.fin k t=b at h0
 obtain ⟨c,hc⟩:∃ c,c=s.sees k t:=⟨_,rfl⟩
 generalize hX:s.may k t=X
 rw [← hc]
 have hc':c=(decide (s.err=0) && b):=by rw [hc,← hb];rfl
 have hX':X=if c then s.next else s:=by rw [hc,← hX];rfl
 unfold PS.next at hX'
 generalize hY:(if b then s.l.tail else s.l)=Y at h0
 unfold RO TO ag
 refine ao Tryz.func113 rfl (by decide +kernel) (by simp [Tryz.ntmps113]) (veil fun E=>?_)
 simp only [go_sem]
 refine ab E [.bx [100] 0] (RO s) [100,101] (fC s) rfl rfl ⟨by simp only [go_sem],by first | (rw [aa];decide) | (simp only [go_sem]<;>(try rw [aa])<;>decide)⟩ rfl (by unfold RO TO ag;simp only [go_sem]) (by unfold RO TO;simp only [go_sem]) ?_
 rintro _ _ ⟨rfl,rfl⟩
 unfold RO TO ag
 simp only [go_sem]
 refine aK E (fun h=>?_) (fun h=>?_)<;>simp only [go_sem]
 ·refine ab E [.bx [101] 0,.d (i64 k),.d (.str t)] (TO s.l s.fin) [101] (h0) rfl rfl ⟨by simp only [go_sem],by first | (rw [aa];decide) | (simp only [go_sem]<;>(try rw [aa])<;>decide)⟩ rfl (by unfold TO ag;simp only [go_sem]) (by unfold TO;simp only [go_sem]) ?_
  rintro _ _ ⟨rfl,rfl⟩
  unfold TO ag
  simp only [go_sem]
  refine ⟨_,_,[100,101],id,⟨rfl,rfl⟩,?_⟩
  simp only [go_sem]
  rw [decide_eq_true h,Bool.true_and] at hc'
  rw [hc'] at hX'
  rw [hc']
  subst hX' hY
  cases b<;>exact ⟨rfl,rfl,rfl⟩
 ·refine ⟨_,_,[100,101],id,⟨rfl,rfl⟩,?_⟩
  simp only [go_sem]
  rw [decide_eq_false h,Bool.false_and] at hc'
  rw [hc'] at hX'
  subst hX'
  rw [hc']
  exact ⟨rfl,rfl,rfl⟩
theorem j1 {G} (s:PS) (t:List UInt8) (hl:s.l.length≤1000000):HCall Tryz.prog G 74 [.bx [100] 0,.d (.str t)] (RO s) [100,101] (fun r hp'=>r=.d (.bool (s.sees 1 t))∧hp'=RO (s.may 1 t)):=by
 have h0:=sP (G:=G) s 1 t hl (by decide)
 generalize s.sees 1 t=c at h0 ⊢
 generalize s.may 1 t=X at h0 ⊢
 unfold RO TO ag
 refine ao Tryz.func74 rfl (by decide +kernel) (by simp [Tryz.ntmps74]) (veil fun E=>?_)
 simp only [go_sem]
 refine ab E [.bx [100] 0,.d (i64 1),.d (.str t)] (RO s) [100,101] (h0) rfl rfl ⟨by simp only [go_sem],by first | (rw [aa];decide) | (simp only [go_sem]<;>(try rw [aa])<;>decide)⟩ rfl (by unfold RO TO ag;simp only [go_sem]) (by unfold RO TO;simp only [go_sem]) ?_
 rintro _ _ ⟨rfl,rfl⟩
 unfold RO TO ag
 simp only [go_sem]
 refine ⟨_,_,[100,101],id,⟨rfl,rfl⟩,?_⟩
 simp only [go_sem]
theorem jE {G} (s:PS) (t:List UInt8) (hl:s.l.length≤1000000):HCall Tryz.prog G 146 [.bx [100] 0,.d (.str t)] (RO s) [100,101] (fun r hp'=>r=.d (.bool (s.sees 7 t))∧hp'=RO (s.may 7 t)):=by
 have h0:=sP (G:=G) s 7 t hl (by decide)
 generalize s.sees 7 t=c at h0 ⊢
 generalize s.may 7 t=X at h0 ⊢
 unfold RO TO ag
 refine ao Tryz.func146 rfl (by decide +kernel) (by simp [Tryz.ntmps146]) (veil fun E=>?_)
 simp only [go_sem]
 refine ab E [.bx [100] 0,.d (i64 7),.d (.str t)] (RO s) [100,101] (h0) rfl rfl ⟨by simp only [go_sem],by first | (rw [aa];decide) | (simp only [go_sem]<;>(try rw [aa])<;>decide)⟩ rfl (by unfold RO TO ag;simp only [go_sem]) (by unfold RO TO;simp only [go_sem]) ?_
 rintro _ _ ⟨rfl,rfl⟩
 unfold RO TO ag
 simp only [go_sem]
 refine ⟨_,_,[100,101],id,⟨rfl,rfl⟩,?_⟩
 simp only [go_sem]
theorem fG {G} (s:PS) (k:Int) (t:List UInt8) (hl:s.l.length≤1000000) (hk:k≠0∧k≠4):HCall Tryz.prog G 76 [.bx [100] 0,.d (i64 k),.d (.str t)] (RO s) [100,101] (fun r hp'=>r=.tup []∧hp'=RO (s.must k t)):=by
 have h0:=sP (G:=G) s k t hl hk
 have h1:=o9 (G:=G) s hl
 generalize hX:s.must k t=X
 generalize hY:s.may k t=Y at h0
 generalize hZ:s.wrong=Z at h1
 generalize hb:s.sees k t=b at h0
 have hX':X=if b then Y else Z:=by rw [← hX,← hY,← hZ,← hb];unfold PS.must PS.may;cases s.sees k t<;>rfl
 have hYs:b=false→Y=s:=by rw [← hY,← hb];unfold PS.may;intro h;rw [h];rfl
 unfold RO TO ag
 refine ao Tryz.func76 rfl (by decide +kernel) (by simp [Tryz.ntmps76]) (veil fun E=>?_)
 simp only [go_sem]
 refine ab E [.bx [100] 0,.d (i64 k),.d (.str t)] (RO s) [100,101] (h0) rfl rfl ⟨by simp only [go_sem],by first | (rw [aa];decide) | (simp only [go_sem]<;>(try rw [aa])<;>decide)⟩ rfl (by unfold RO TO ag;simp only [go_sem]) (by unfold RO TO;simp only [go_sem]) ?_
 rintro _ _ ⟨rfl,rfl⟩
 unfold RO TO ag
 simp only [go_sem]
 refine aV E (fun h=>?_) (fun h=>?_)<;>simp only [go_sem]
 ·have h':b=false:=by simpa using h
  rw [hYs h']
  refine ab E [.bx [100] 0] (RO s) [100,101] (h1) rfl rfl ⟨by simp only [go_sem],by first | (rw [aa];decide) | (simp only [go_sem]<;>(try rw [aa])<;>decide)⟩ rfl (by unfold RO TO ag;simp only [go_sem]) (by unfold RO TO;simp only [go_sem]) ?_
  rintro _ _ ⟨rfl,rfl⟩
  unfold RO TO ag
  simp only [go_sem]
  refine ⟨_,_,[100,101],id,⟨rfl,rfl⟩,?_⟩
  simp only [go_sem]
  rw [hX',h']
  exact ⟨rfl,rfl⟩
 ·have h':b=true:=by simpa using h
  refine ⟨_,_,[100,101],id,⟨rfl,rfl⟩,?_⟩
  simp only [go_sem]
  rw [hX',h']
  exact ⟨rfl,rfl⟩
theorem lx {G} (s:PS) (k:Int) (hl:s.l.length≤1000000):HCall Tryz.prog G 75 [.bx [100] 0,.d (i64 k)] (RO s) [100,101] (fun r hp'=>r=.d (.str (s.of k).1)∧hp'=RO (s.of k).2):=by
 have h0:=o9 (G:=G) s hl
 have h1:=jx (G:=G) s.l s.fin hl
 generalize hX:s.of k=X
 unfold PS.of PS.has at hX
 rw [jD] at hX
 unfold RO TO ag
 refine ao Tryz.func75 rfl (by decide +kernel) (by simp [Tryz.ntmps75]) (veil fun E=>?_)
 simp only [go_sem]
 refine ab E [.bx [100] 0] (RO s) [100,101] (fC s) rfl rfl ⟨by simp only [go_sem],by first | (rw [aa];decide) | (simp only [go_sem]<;>(try rw [aa])<;>decide)⟩ rfl (by unfold RO TO ag;simp only [go_sem]) (by unfold RO TO;simp only [go_sem]) ?_
 rintro _ _ ⟨rfl,rfl⟩
 unfold RO TO ag
 simp only [go_sem]
 refine ct E (fun h=>?_) (fun h=>?_)<;>simp only [go_sem]
 ·have h':¬ s.err=0:=by simpa using h
  refine ab E [.bx [100] 0] (RO s) [100,101] (h0) rfl rfl ⟨by simp only [go_sem],by first | (rw [aa];decide) | (simp only [go_sem]<;>(try rw [aa])<;>decide)⟩ rfl (by unfold RO TO ag;simp only [go_sem]) (by unfold RO TO;simp only [go_sem]) ?_
  rintro _ _ ⟨rfl,rfl⟩
  unfold RO TO ag
  simp only [go_sem]
  refine ⟨_,_,[100,101],id,⟨rfl,rfl⟩,?_⟩
  simp only [go_sem]
  rw [← hX,decide_eq_false h']
  exact ⟨rfl,rfl,rfl⟩
 ·have h':s.err=0:=by simpa using h
  refine ab E [.bx [101] 0] (TO s.l s.fin) [101] (ee s.l s.fin hl) rfl rfl ⟨by simp only [go_sem],by first | (rw [aa];decide) | (simp only [go_sem]<;>(try rw [aa])<;>decide)⟩ rfl (by unfold TO ag;simp only [go_sem]) (by unfold TO;simp only [go_sem]) ?_
  rintro _ _ ⟨rfl,rfl⟩
  unfold TO ag
  simp only [go_sem]
  refine ai E (fun h2=>?_) (fun h2=>?_)<;>simp only [go_sem]
  ·refine ab E [.bx [100] 0] (RO s) [100,101] (h0) rfl rfl ⟨by simp only [go_sem],by first | (rw [aa];decide) | (simp only [go_sem]<;>(try rw [aa])<;>decide)⟩ rfl (by unfold RO TO ag;simp only [go_sem]) (by unfold RO TO;simp only [go_sem]) ?_
   rintro _ _ ⟨rfl,rfl⟩
   unfold RO TO ag
   simp only [go_sem]
   refine ⟨_,_,[100,101],id,⟨rfl,rfl⟩,?_⟩
   simp only [go_sem]
   rw [← hX,decide_eq_true h',decide_eq_false h2]
   exact ⟨rfl,rfl,rfl⟩
  ·have h2':(cy s.l s.fin).k=k:=by simpa using h2
   refine ab E [.bx [101] 0] (TO s.l s.fin) [101] (h1) rfl rfl ⟨by simp only [go_sem],by first | (rw [aa];decide) | (simp only [go_sem]<;>(try rw [aa])<;>decide)⟩ rfl (by unfold TO ag;simp only [go_sem]) (by unfold TO;simp only [go_sem]) ?_
   rintro _ _ ⟨rfl,rfl⟩
   unfold TO ag
   simp only [go_sem]
   refine ⟨_,_,[100,101],id,⟨rfl,rfl⟩,?_⟩
   simp only [go_sem]
   rw [← hX,decide_eq_true h',decide_eq_true h2']
   exact ⟨rfl,rfl,rfl⟩
inductive DLe:D→D→Prop
 | refl (x):DLe x x
 | nil (w):DLe .nils (.sl w [])
 | agg (cs ds:List D) (hl:cs.length=ds.length) (hc:∀ d∈ds,d.scal=true) (h:∀ (i:Nat) x y,cs[i]?=some x→ds[i]?=some y→x=y∨∃ w,x=.nils∧y=.sl w []):DLe (.agg cs) (.agg ds)
theorem DLe.rep {x y:D} (h:DLe x y) {H own v} (hr:Rep H own v x):Rep H own v y:=by
 cases h with
 | refl=>exact hr
 | nil w=>cases hr;exact .sl0 _ _ _
 | agg cs ds hl hc h =>
   cases hr with
   | agg vs _ hs _ h' =>
     refine .agg vs ds (hs.trans hl) hc fun i d hd=>?_
     have hlt:=(List.getElem?_eq_some_iff.1 hd).1
     have hx:cs[i]?=some (cs[i]'(by omega)):=List.getElem?_eq_getElem _
     have hr:=h' i _ hx
     rcases h i _ _ hx hd with e | ⟨w,e1,e2⟩
     ·rw [← e];exact hr
     ·rw [e1] at hr
      rw [e2]
      generalize vs.getD i undef=v at hr ⊢
      cases hr
      exact .sl0 _ _ _
theorem HP.le {P:Program} {G:List (Nat × Obj)} {f:FuncId} {args args':List D} {Q:AV→Prop} (hl:args.length=args'.length)
  (hr:∀ (i:Nat) x y,args[i]?=some x→args'[i]?=some y→DLe x y) (h:HP P G f args' Q):HP P G f args Q:=by
 refine ⟨h.1,fun B β vs w h1 h2 h3 h4 h5=>h.2 B β vs w (h1.trans (by simpa using hl)) h2 h3 h4 { tms:=h5.tms,io:=h5.io,size:=h5.size,frame:=h5.frame,slots:=fun t=>?_,objs:=h5.objs,blocks:=h5.blocks,inj:=h5.inj,us:=h5.us,stay:=h5.stay }⟩
 have hv:=h5.slots t
 rw [eC,aY,if_pos (Nat.zero_le _),Nat.sub_zero] at hv ⊢
 show VR w.heap ((mk (aJ 0 (args.map .d)) [] []).own B.A β) [] _ β _ _
 rw [List.getElem?_map] at hv ⊢
 cases hx:args[t]? with
 | none => 
   rw [List.getElem?_eq_none (by rw [← hl];exact List.getElem?_eq_none_iff.1 hx)]
   exact .un _
 | some x =>
   have hlt:=(List.getElem?_eq_some_iff.1 hx).1
   have hy:args'[t]?=some args'[t]:=List.getElem?_eq_getElem (by omega)
   rw [hx] at hv
   rw [hy]
   simp only [Option.map_some] at hv ⊢
   generalize vs.getD t undef=v at hv ⊢
   cases hv with
   | d _ _ hv=>exact .d _ _ ((hr t _ _ hx hy).rep hv)
def ndN (n:EN):D:=.agg [i64 n.k,i64 n.a,i64 n.b,i64 n.c,i64 n.n,.str n.name,.str n.s,.nils,i64 n.pos]
theorem D7 {n:EN} (h:n.l=[]):DLe (ndN n) (enD n):=by
 unfold ndN enD efD
 rw [h]
 refine .agg _ _ rfl (by simp [D.scal]) fun i x y hx hy=>?_
 by_cases hi:i=7
 ·subst hi
  cases hx;cases hy
  exact .inr ⟨_,rfl,rfl⟩
 ·left
  have:i<9:=by have:=(List.getElem?_eq_some_iff.1 hx).1;simpa using this
  rcases i with _ | _ | _ | _ | _ | _ | _ | _ | _ | i<;>first | omega | (cases hx;cases hy;rfl)
theorem jT {G} (n:EN) (ls:List (List EN)) (hn:n.l=[]) (hL:ls.length≤1000000) (hS:bA ls≤1000000) (hk:∀ l∈ls,∀ m∈l,il l.length m) (hw:∀ l∈ls,gQ 900000 l) :
  HP Tryz.prog G 77 [ndN n,.sl (some 1) (ls.map exD)] (fun r=>r=.d (exD (az n ls))) :=
 HP.le (args':=[enD n,.sl (some 1) (ls.map exD)]) rfl (h:=qW n ls (by rw [hn];exact Nat.zero_le _) hL hS hk hw) fun i x y hx hy=>by
  rcases i with _ | _ | i
  ·cases hx;cases hy;exact D7 hn
  ·cases hx;cases hy;exact .refl _
  ·cases hx
theorem Li {G} (n:EN) (hn:n.l=[]):HP Tryz.prog G 77 [ndN n,.nils] (fun r=>r=.d (exD (cA n))) :=
 HP.le (args':=[enD n,.sl (some 1) ([].map exD)]) rfl (h:=qW n [] (by rw [hn];exact Nat.zero_le _) (Nat.zero_le _) (Nat.zero_le _) (fun l h=>by cases h) (fun l h=>by cases h)) fun i x y hx hy=>by
  rcases i with _ | _ | i
  ·cases hx;cases hy;exact D7 hn
  ·cases hx;cases hy;exact .nil _
  ·cases hx
theorem gf {G} (n:EN) (hn:n.l=[]):HP Tryz.prog G 72 [ndN n] (fun r=>r=.d (exD (cA n))):=by
 have h0:=Li (G:=G) n hn
 generalize cA n=X at h0 ⊢
 unfold ndN at *
 refine bR Tryz.func72 rfl (by decide +kernel) (by simp [Tryz.ntmps72]) (veil fun E=>?_)
 simp only [go_sem]
 refine ae E h0 rfl rfl (by simp) ?_
 rintro _ rfl
 unfold exD
 simp only [go_sem]
 refine ⟨[],?_⟩
 simp only [go_sem]
 rfl
end Go.Proofs.YtejpnabbmgpmaaaGreatDoor

namespace Go.Proofs.YtejpnabbmgpmaaaGreatDoor
open Go.Ab
abbrev OPS:=List (List UInt8 × Int)
def opL (l:OPS):D:=.sl (some 2) (l.map fun q=>.agg [.str q.1,i64 q.2])
def opN (s:PS) (l:OPS):EN:=match opS s l with | some n=>{ nd0 10 s.peek.pos with n:=n } | none=>nd0 0 0
def opR (s:PS) (l:OPS):PS:=match opS s l with | some _=>s.next | none=>s
theorem Bf {s:PS} {l:OPS} {i:Nat} (h:i<l.length):opS s (l.drop i)=if s.sees 7 l[i].1 then some l[i].2 else opS s (l.drop (i+1)):=by
 rw [List.drop_eq_getElem_cons h,opS]
theorem qX {G} (s:PS) (l:OPS) (hl:s.l.length≤1000000) (hn:l.length≤1000):HCall Tryz.prog G 117 [.bx [100] 0,.d (opL l)] (RO s) [100,101] (fun r hp'=>r=.tup [.d (ndN (opN s l)),.d (.bool (opS s l).isSome)]∧hp'=RO (opR s l)):=by
 generalize hO:opS s l=o
 generalize hN:opN s l=N
 generalize hR:opR s l=R
 unfold RO TO ag opL
 refine ao Tryz.func117 rfl (by decide +kernel) (by simp [Tryz.ntmps117]) (veil fun E=>?_)
 simp only [go_sem]
 refine ab E [.bx [101] 0] (TO s.l s.fin) [101] (ee s.l s.fin hl) rfl rfl ⟨by simp only [go_sem],by first | (rw [aa];decide) | (simp only [go_sem]<;>(try rw [aa])<;>decide)⟩ rfl (by unfold TO ag;simp only [go_sem]) (by unfold TO;simp only [go_sem]) ?_
 rintro _ _ ⟨rfl,rfl⟩
 unfold TO ag
 simp only [go_sem]
 refine aU E (X:={ i:Nat // i≤l.length∧opS s (l.drop i)=o }) (fun x=>[(0,.bx [100] 0),(4,.bx [4] 0),(5,.d (.bool false)),(6,.d (i64 (cy s.l s.fin).pos)),(15,.d (.sl (some 2) (l.map fun q=>.agg [.str q.1,i64 q.2]))),(16,.d (i64 l.length)),(17,.d (i64 x.1))])
  (fun x=>[([4],.box [.d (i64 0),.d (i64 0),.d (i64 0),.d (i64 0),.d (i64 0),.d (.str []),.d (.str []),.d .nils,.d (i64 0)]),([100],.box [.bx [101] 0,.d (i64 s.err),.d (i64 s.pos),.d (i64 s.nest)]),([101],.box [.d (.sl (some 4) (s.l.map gR)),.d (i64 s.fin)])]) [4,100,101] (fun x=>l.length-x.1) ⟨0,Nat.zero_le _,by rw [List.drop_zero];exact hO⟩ id ?_ ?_
 ·simp only [go_sem]
  all_goals rfl
 rintro ⟨i,hi,ho⟩ E0
 refine bk E0 fun Q' hQ E'=>?_
 simp only at hi ⊢
 simp only [go_sem]
 refine ai E' (fun h1=>?_) (fun h1=>?_)<;>simp only [go_sem]
 ·have h1':i<l.length:=by omega
  rw [Bf h1'] at ho
  refine ⟨by omega,?_⟩
  rw [show (l.map fun q=>D.agg [.str q.1,i64 q.2]).getD i .nilp=.agg [.str l[i].1,i64 l[i].2] by simp [h1']]
  simp only [go_sem]
  have h0:=jE (G:=G) s l[i].1 hl
  generalize hb:s.sees 7 l[i].1=b at h0 ho
  generalize hM:s.may 7 l[i].1=M at h0
  refine ab E' [.bx [100] 0,.d (.str l[i].1)] (RO s) [100,101] (h0) rfl rfl ⟨by simp only [go_sem],by first | (rw [aa];decide) | (simp only [go_sem]<;>(try rw [aa])<;>decide)⟩ rfl (by unfold RO TO ag;simp only [go_sem]) (by unfold RO TO;simp only [go_sem]) ?_
  rintro _ _ ⟨rfl,rfl⟩
  unfold RO TO ag
  simp only [go_sem]
  refine aV E' (fun h=>?_) (fun h=>?_)<;>simp only [go_sem]
  ·rw [hQ]
   simp only [go_sem]
   rw [if_pos h] at ho
   refine ⟨_,_,[100,101],id,⟨rfl,rfl⟩,?_⟩
   simp only [go_sem]
   have hM':M=s.next:=by rw [← hM];unfold PS.may;rw [hb,h];rfl
   rw [← hN,← hR,hM',← ho]
   unfold opN opR
   rw [hO,← ho]
   exact ⟨rfl,rfl,rfl⟩
  ·rw [hQ]
   simp only [go_sem]
   rw [if_neg (by simpa using h)] at ho
   have hM':M=s:=by rw [← hM];unfold PS.may;rw [hb,h];rfl
   rw [hM',al ⟨by omega,by omega⟩]
   refine ⟨⟨i+1,by omega,ho⟩,by show l.length-(i+1)<_;omega,id,?_⟩
   simp only [go_sem]
   all_goals rfl
 ·rw [hQ]
  have hi2:i=l.length:=by omega
  rw [hi2,List.drop_length] at ho
  simp only [go_sem]
  refine ⟨_,_,[100,101],id,⟨rfl,rfl⟩,?_⟩
  simp only [go_sem]
  rw [← hN,← hR]
  unfold opN opR
  rw [hO,← ho]
  exact ⟨rfl,rfl,rfl⟩
end Go.Proofs.YtejpnabbmgpmaaaGreatDoor

namespace Go.Proofs.YtejpnabbmgpmaaaGreatDoor
open Go.Ab
def Reads (f:Nat) (G:List (Nat × Obj)) (N:Nat) (sub:PS→PR):Prop:=∀ s:PS,s.l.length≤100000→s.nest=N→HCall Tryz.prog G f [.bx [100] 0] (RO s) [100,101] (fun r hp'=>r=.d (exD (sub s).1)∧hp'=RO (sub s).2)
theorem Ft {G} {N:Nat} {ex:PS→PR} (hex:∀ s,GP 1 s (ex s)) (hc:Reads 160 G N (fM ex)):Reads 145 G N (eM ex):=by
 intro s hl hN
 have hsg:=fu hex
 obtain ⟨sub,hsub⟩:∃ sub,sub=fM ex:=⟨_,rfl⟩
 have hF:eM ex s=eV dk sub (sub s).2.l.length.succ (sub s).1 (sub s).2:=by rw [hsub];rfl
 rw [hF]
 rw [← hsub] at hc hsg
 generalize hR:eV dk sub (sub s).2.l.length.succ (sub s).1 (sub s).2=R
 have h0:=hsg s
 obtain ⟨a0,s0,hs0⟩:∃ a0 s0,sub s=(a0,s0):=⟨_,_,rfl⟩
 have hc0:=hc s hl hN
 rw [hs0] at hR h0 hc0
 simp only at hR hc0
 unfold RO TO ag
 refine ao Tryz.func145 rfl (by decide +kernel) (by simp [Tryz.ntmps145]) (veil fun E=>?_)
 simp only [go_sem]
 refine ab E [.bx [100] 0] (RO s) [100,101] (hc0) rfl rfl ⟨by simp only [go_sem],by first | (rw [aa];decide) | (simp only [go_sem]<;>(try rw [aa])<;>decide)⟩ rfl (by unfold RO TO ag;simp only [go_sem]) (by unfold RO TO;simp only [go_sem]) ?_
 rintro _ _ ⟨rfl,rfl⟩
 unfold RO TO ag
 simp only [go_sem]
 unfold exD
 simp only [go_sem]
 refine aU E (X:={ x:Nat × List EN × PS // eV dk sub x.1 x.2.1 x.2.2=R∧GP 1 s x.2∧x.2.2.l.length<x.1 }) (fun x=>[(0,.bx [100] 0),(2,.bx [2] 0),(3,.bx [3] 0)])
  (fun x=>[([2],.box [.d .nils]),([3],.box [.d (.sl (some 9) (x.1.2.1.map enD))]),([100],.box [.bx [101] 0,.d (i64 x.1.2.2.err),.d (i64 x.1.2.2.pos),.d (i64 x.1.2.2.nest)]),([101],.box [.d (.sl (some 4) (x.1.2.2.l.map gR)),.d (i64 x.1.2.2.fin)])]) [2,3,100,101] (fun x=>x.1.2.2.l.length) ⟨(s0.l.length.succ,a0,s0),hR,h0,Nat.lt_succ_self _⟩ id ?_ ?_
 ·simp only [go_sem]
  all_goals rfl
 rintro ⟨⟨m,a,q⟩,hb,hg,hm⟩ E0
 refine bk E0 fun Q' hQ E'=>?_
 simp only at hb hg hm ⊢
 have hql:q.l.length≤s.l.length:=hg.ss.len
 obtain ⟨m,rfl⟩:∃ k,m=k+1:=⟨m-1,by omega⟩
 rw [eV] at hb
 simp only [go_sem]
 refine Dw E' [12] (some 2) [.agg [.str [42],i64 3],.agg [.str [47],i64 4]] rfl ?_
 rw [qI]
 simp only [go_sem]
 have h1:=qX (G:=G) q dk (by omega) (by decide)
 unfold opR opN at h1
 cases ho:opS q dk with
 | none =>
   rw [ho] at h1 hb
   simp only at h1 hb
   subst hb
   unfold ndN at h1
   refine ab E' [.bx [100] 0,.d (opL dk)] (RO q) [100,101] (h1) rfl rfl ⟨by simp only [go_sem],by first | (rw [aa];decide) | (simp only [go_sem]<;>(try rw [aa])<;>decide)⟩ rfl (by unfold RO TO ag;simp only [go_sem]) (by unfold RO TO;simp only [go_sem]) ?_
   rintro _ _ ⟨rfl,rfl⟩
   unfold RO TO ag
   simp only [go_sem]
   rw [hQ]
   simp only [go_sem]
   refine ⟨_,_,[100,101],id,⟨rfl,rfl⟩,?_⟩
   simp only [go_sem]
   rfl
 | some n =>
   rw [ho] at h1 hb
   simp only at h1 hb
   unfold ndN at h1
   refine ab E' [.bx [100] 0,.d (opL dk)] (RO q) [100,101] (h1) rfl rfl ⟨by simp only [go_sem],by first | (rw [aa];decide) | (simp only [go_sem]<;>(try rw [aa])<;>decide)⟩ rfl (by unfold RO TO ag;simp only [go_sem]) (by unfold RO TO;simp only [go_sem]) ?_
   rintro _ _ ⟨rfl,rfl⟩
   unfold RO TO ag
   simp only [go_sem]
   refine au mixed E' fun X=>?_
   simp only [go_sem]
   obtain ⟨b0,q1,hq1⟩:∃ b0 q1,sub q.next=(b0,q1):=⟨_,_,rfl⟩
   have h2:=hc q.next (by have:=(SS.next q).len;omega) ((SS.next q).nest.trans (hg.ss.nest.trans hN))
   have h3:=hsg q.next
   rw [hq1] at h2 h3 hb
   unfold exD at h2
   refine dr X [.bx [100] 0] (RO q.next) [100,101] _ _ h2 rfl rfl ⟨by simp only [go_sem],by rw [aa];decide⟩ rfl (by unfold RO TO ag;simp only [go_sem]) (by unfold RO TO;simp only [go_sem]) (by unfold RO TO;simp only [go_sem]) ?_
   unfold RO TO ag
   simp only [go_sem]
   have ht2:=h3.tr
   have hz1:=hg.sz
   have hz2:=h3.sz
   have hn2:=(SS.next q).len
   simp only at ht2 hz1 hz2
   have h4:=jT (G:=G) { nd0 10 q.peek.pos with n:=n } [a,b0] rfl (by simp) (by simp only [bA,List.map_cons,List.map_nil,List.sum_cons,List.sum_nil];omega)
    (fun l h=>by
     rcases List.mem_cons.1 h with rfl | h
     ·exact hg.tr.kids.2
     ·rw [List.mem_singleton.1 h];exact ht2.kids.2)
    (fun l h=>by
     rcases List.mem_cons.1 h with rfl | h
     ·exact hg.wd.mono (by omega)
     ·rw [List.mem_singleton.1 h];exact h3.wd.mono (by omega))
   have h5:=GP.uI (e:=1) (n:={ nd0 10 q.peek.pos with n:=n }) (s1:=s) (a:=(a,q)) (b:=(b0,q1)) hg h3 (SS.refl s) (SS.next q) rfl rfl (by have:=gS ho;simp only;omega)
   simp only at h5
   generalize az { nd0 10 q.peek.pos with n:=n } [a,b0]=J at h4 h5 hb
   unfold exD at h4
   refine cU X 23 [23] (some 1) [.agg [.sl (some 9) (a.map enD)],.agg [.sl (some 9) (b0.map enD)]] h4 (fun _=>rfl) rfl rfl rfl (by simp) rfl (by simp only [go_sem]) ?_
   simp only [go_sem]
   refine ⟨by decide +kernel,?_⟩
   rw [hQ]
   simp only [go_sem]
   refine ⟨⟨(m,J,q1),hb,h5,by have:=gS ho;have:=h3.ss.len;show q1.l.length<m;simp only at this;omega⟩,by have:=gS ho;have:=h3.ss.len;show q1.l.length<q.l.length;simp only at this;omega,id,?_⟩
   simp only [go_sem]
   all_goals rfl
theorem EZ {G} {N:Nat} {ex:PS→PR} (hex:∀ s,GP 1 s (ex s)) (hc:Reads 145 G N (eM ex)):Reads 116 G N (j2 ex):=by
 intro s hl hN
 have hsg:=eg hex
 obtain ⟨sub,hsub⟩:∃ sub,sub=eM ex:=⟨_,rfl⟩
 have hF:j2 ex s=eV eS sub (sub s).2.l.length.succ (sub s).1 (sub s).2:=by rw [hsub];rfl
 rw [hF]
 rw [← hsub] at hc hsg
 generalize hR:eV eS sub (sub s).2.l.length.succ (sub s).1 (sub s).2=R
 have h0:=hsg s
 obtain ⟨a0,s0,hs0⟩:∃ a0 s0,sub s=(a0,s0):=⟨_,_,rfl⟩
 have hc0:=hc s hl hN
 rw [hs0] at hR h0 hc0
 simp only at hR hc0
 unfold RO TO ag
 refine ao Tryz.func116 rfl (by decide +kernel) (by simp [Tryz.ntmps116]) (veil fun E=>?_)
 simp only [go_sem]
 refine ab E [.bx [100] 0] (RO s) [100,101] (hc0) rfl rfl ⟨by simp only [go_sem],by first | (rw [aa];decide) | (simp only [go_sem]<;>(try rw [aa])<;>decide)⟩ rfl (by unfold RO TO ag;simp only [go_sem]) (by unfold RO TO;simp only [go_sem]) ?_
 rintro _ _ ⟨rfl,rfl⟩
 unfold RO TO ag
 simp only [go_sem]
 unfold exD
 simp only [go_sem]
 refine aU E (X:={ x:Nat × List EN × PS // eV eS sub x.1 x.2.1 x.2.2=R∧GP 1 s x.2∧x.2.2.l.length<x.1 }) (fun x=>[(0,.bx [100] 0),(2,.bx [2] 0),(3,.bx [3] 0)])
  (fun x=>[([2],.box [.d .nils]),([3],.box [.d (.sl (some 9) (x.1.2.1.map enD))]),([100],.box [.bx [101] 0,.d (i64 x.1.2.2.err),.d (i64 x.1.2.2.pos),.d (i64 x.1.2.2.nest)]),([101],.box [.d (.sl (some 4) (x.1.2.2.l.map gR)),.d (i64 x.1.2.2.fin)])]) [2,3,100,101] (fun x=>x.1.2.2.l.length) ⟨(s0.l.length.succ,a0,s0),hR,h0,Nat.lt_succ_self _⟩ id ?_ ?_
 ·simp only [go_sem]
  all_goals rfl
 rintro ⟨⟨m,a,q⟩,hb,hg,hm⟩ E0
 refine bk E0 fun Q' hQ E'=>?_
 simp only at hb hg hm ⊢
 have hql:q.l.length≤s.l.length:=hg.ss.len
 obtain ⟨m,rfl⟩:∃ k,m=k+1:=⟨m-1,by omega⟩
 rw [eV] at hb
 simp only [go_sem]
 refine Dw E' [13] (some 2) [.agg [.str [43],i64 1],.agg [.str [45],i64 2],.agg [.str [94],i64 7]] rfl ?_
 rw [qI]
 simp only [go_sem]
 have h1:=qX (G:=G) q eS (by omega) (by decide)
 unfold opR opN at h1
 cases ho:opS q eS with
 | none =>
   rw [ho] at h1 hb
   simp only at h1 hb
   subst hb
   unfold ndN at h1
   refine ab E' [.bx [100] 0,.d (opL eS)] (RO q) [100,101] (h1) rfl rfl ⟨by simp only [go_sem],by first | (rw [aa];decide) | (simp only [go_sem]<;>(try rw [aa])<;>decide)⟩ rfl (by unfold RO TO ag;simp only [go_sem]) (by unfold RO TO;simp only [go_sem]) ?_
   rintro _ _ ⟨rfl,rfl⟩
   unfold RO TO ag
   simp only [go_sem]
   rw [hQ]
   simp only [go_sem]
   refine ⟨_,_,[100,101],id,⟨rfl,rfl⟩,?_⟩
   simp only [go_sem]
   rfl
 | some n =>
   rw [ho] at h1 hb
   simp only at h1 hb
   unfold ndN at h1
   refine ab E' [.bx [100] 0,.d (opL eS)] (RO q) [100,101] (h1) rfl rfl ⟨by simp only [go_sem],by first | (rw [aa];decide) | (simp only [go_sem]<;>(try rw [aa])<;>decide)⟩ rfl (by unfold RO TO ag;simp only [go_sem]) (by unfold RO TO;simp only [go_sem]) ?_
   rintro _ _ ⟨rfl,rfl⟩
   unfold RO TO ag
   simp only [go_sem]
   refine au mixed E' fun X=>?_
   simp only [go_sem]
   obtain ⟨b0,q1,hq1⟩:∃ b0 q1,sub q.next=(b0,q1):=⟨_,_,rfl⟩
   have h2:=hc q.next (by have:=(SS.next q).len;omega) ((SS.next q).nest.trans (hg.ss.nest.trans hN))
   have h3:=hsg q.next
   rw [hq1] at h2 h3 hb
   unfold exD at h2
   refine dr X [.bx [100] 0] (RO q.next) [100,101] _ _ h2 rfl rfl ⟨by simp only [go_sem],by rw [aa];decide⟩ rfl (by unfold RO TO ag;simp only [go_sem]) (by unfold RO TO;simp only [go_sem]) (by unfold RO TO;simp only [go_sem]) ?_
   unfold RO TO ag
   simp only [go_sem]
   have ht2:=h3.tr
   have hz1:=hg.sz
   have hz2:=h3.sz
   have hn2:=(SS.next q).len
   simp only at ht2 hz1 hz2
   have h4:=jT (G:=G) { nd0 10 q.peek.pos with n:=n } [a,b0] rfl (by simp) (by simp only [bA,List.map_cons,List.map_nil,List.sum_cons,List.sum_nil];omega)
    (fun l h=>by
     rcases List.mem_cons.1 h with rfl | h
     ·exact hg.tr.kids.2
     ·rw [List.mem_singleton.1 h];exact ht2.kids.2)
    (fun l h=>by
     rcases List.mem_cons.1 h with rfl | h
     ·exact hg.wd.mono (by omega)
     ·rw [List.mem_singleton.1 h];exact h3.wd.mono (by omega))
   have h5:=GP.uI (e:=1) (n:={ nd0 10 q.peek.pos with n:=n }) (s1:=s) (a:=(a,q)) (b:=(b0,q1)) hg h3 (SS.refl s) (SS.next q) rfl rfl (by have:=gS ho;simp only;omega)
   simp only at h5
   generalize az { nd0 10 q.peek.pos with n:=n } [a,b0]=J at h4 h5 hb
   unfold exD at h4
   refine cU X 24 [24] (some 1) [.agg [.sl (some 9) (a.map enD)],.agg [.sl (some 9) (b0.map enD)]] h4 (fun _=>rfl) rfl rfl rfl (by simp) rfl (by simp only [go_sem]) ?_
   simp only [go_sem]
   refine ⟨by decide +kernel,?_⟩
   rw [hQ]
   simp only [go_sem]
   refine ⟨⟨(m,J,q1),hb,h5,by have:=gS ho;have:=h3.ss.len;show q1.l.length<m;simp only at this;omega⟩,by have:=gS ho;have:=h3.ss.len;show q1.l.length<q.l.length;simp only at this;omega,id,?_⟩
   simp only [go_sem]
   all_goals rfl
end Go.Proofs.YtejpnabbmgpmaaaGreatDoor

namespace Go.Proofs.YtejpnabbmgpmaaaGreatDoor
open Go.Ab
theorem Ja {G} {N:Nat} {ex:PS→PR} (hex:∀ s,GP 1 s (ex s)) (hc:Reads 116 G N (j2 ex)):Reads 80 G N (lP ex):=by
 intro s hl hN
 have hsg:=gj hex
 obtain ⟨sub,hsub⟩:∃ sub,sub=j2 ex:=⟨_,rfl⟩
 have hF:lP ex s=match opS (sub s).2 gb with
  | some n=>(az { nd0 10 (sub s).2.peek.pos with n:=n } [(sub s).1,(sub (sub s).2.next).1],(sub (sub s).2.next).2)
  | none=>sub s:=by rw [hsub];rfl
 rw [hF]
 rw [← hsub] at hc hsg
 generalize hR:(match opS (sub s).2 gb with
  | some n=>(az { nd0 10 (sub s).2.peek.pos with n:=n } [(sub s).1,(sub (sub s).2.next).1],(sub (sub s).2.next).2)
  | none=>sub s:PR)=R
 have hg:=hsg s
 obtain ⟨a,q,hs0⟩:∃ a q,sub s=(a,q):=⟨_,_,rfl⟩
 have hc0:=hc s hl hN
 rw [hs0] at hR hg hc0
 simp only at hR hc0
 have hql:q.l.length≤s.l.length:=hg.ss.len
 unfold exD at hc0
 have h1:=qX (G:=G) q gb (by omega) (by decide)
 unfold opR opN at h1
 unfold RO TO ag
 refine ao Tryz.func80 rfl (by decide +kernel) (by simp [Tryz.ntmps80]) (veil fun E=>?_)
 simp only [go_sem]
 refine ab E [.bx [100] 0] (RO s) [100,101] (hc0) rfl rfl ⟨by simp only [go_sem],by first | (rw [aa];decide) | (simp only [go_sem]<;>(try rw [aa])<;>decide)⟩ rfl (by unfold RO TO ag;simp only [go_sem]) (by unfold RO TO;simp only [go_sem]) ?_
 rintro _ _ ⟨rfl,rfl⟩
 unfold RO TO ag
 simp only [go_sem]
 refine Dw E [12] (some 2) [.agg [.str [60],i64 5],.agg [.str [61,61],i64 6]] rfl ?_
 rw [qI]
 simp only [go_sem]
 cases ho:opS q gb with
 | none =>
   rw [ho] at h1 hR
   simp only at h1 hR
   subst hR
   unfold ndN at h1
   refine ab E [.bx [100] 0,.d (opL gb)] (RO q) [100,101] (h1) rfl rfl ⟨by simp only [go_sem],by first | (rw [aa];decide) | (simp only [go_sem]<;>(try rw [aa])<;>decide)⟩ rfl (by unfold RO TO ag;simp only [go_sem]) (by unfold RO TO;simp only [go_sem]) ?_
   rintro _ _ ⟨rfl,rfl⟩
   unfold RO TO ag
   simp only [go_sem]
   refine ⟨_,_,[100,101],id,⟨rfl,rfl⟩,?_⟩
   simp only [go_sem]
   rfl
 | some n =>
   rw [ho] at h1 hR
   simp only at h1 hR
   unfold ndN at h1
   refine ab E [.bx [100] 0,.d (opL gb)] (RO q) [100,101] (h1) rfl rfl ⟨by simp only [go_sem],by first | (rw [aa];decide) | (simp only [go_sem]<;>(try rw [aa])<;>decide)⟩ rfl (by unfold RO TO ag;simp only [go_sem]) (by unfold RO TO;simp only [go_sem]) ?_
   rintro _ _ ⟨rfl,rfl⟩
   unfold RO TO ag
   simp only [go_sem]
   refine au mixed E fun X=>?_
   simp only [go_sem]
   obtain ⟨b0,q1,hq1⟩:∃ b0 q1,sub q.next=(b0,q1):=⟨_,_,rfl⟩
   have h2:=hc q.next (by have:=(SS.next q).len;omega) ((SS.next q).nest.trans (hg.ss.nest.trans hN))
   have h3:=hsg q.next
   rw [hq1] at h2 h3 hR
   unfold exD at h2
   refine dr X [.bx [100] 0] (RO q.next) [100,101] _ _ h2 rfl rfl ⟨by simp only [go_sem],by rw [aa];decide⟩ rfl (by unfold RO TO ag;simp only [go_sem]) (by unfold RO TO;simp only [go_sem]) (by unfold RO TO;simp only [go_sem]) ?_
   unfold RO TO ag
   simp only [go_sem]
   have ht2:=h3.tr
   have hz1:=hg.sz
   have hz2:=h3.sz
   have hn2:=(SS.next q).len
   simp only at ht2 hz1 hz2
   have h4:=jT (G:=G) { nd0 10 q.peek.pos with n:=n } [a,b0] rfl (by simp) (by simp only [bA,List.map_cons,List.map_nil,List.sum_cons,List.sum_nil];omega)
    (fun l h=>by
     rcases List.mem_cons.1 h with rfl | h
     ·exact hg.tr.kids.2
     ·rw [List.mem_singleton.1 h];exact ht2.kids.2)
    (fun l h=>by
     rcases List.mem_cons.1 h with rfl | h
     ·exact hg.wd.mono (by omega)
     ·rw [List.mem_singleton.1 h];exact h3.wd.mono (by omega))
   generalize az { nd0 10 q.peek.pos with n:=n } [a,b0]=J at h4 hR
   unfold exD at h4
   refine cU X 21 [21] (some 1) [.agg [.sl (some 9) (a.map enD)],.agg [.sl (some 9) (b0.map enD)]] h4 (fun _=>rfl) rfl rfl rfl (by simp) rfl (by simp only [go_sem]) ?_
   simp only [go_sem]
   refine ⟨by decide +kernel,?_⟩
   rw [← hR]
   refine ⟨_,_,[100,101],id,⟨rfl,rfl⟩,?_⟩
   simp only [go_sem]
   rfl
end Go.Proofs.YtejpnabbmgpmaaaGreatDoor

namespace Go.Proofs.YtejpnabbmgpmaaaGreatDoor
open Go.Ab
theorem dL {s:PS} {k:Int} {t:List UInt8} (h:s.sees k t=true):s.may k t=s.next:=by unfold PS.may;rw [h];rfl
theorem fh {s:PS} {k:Int} {t:List UInt8} (h:s.sees k t=false):s.may k t=s:=by unfold PS.may;rw [h];rfl
theorem G9 {G} {N:Nat} {ex:PS→PR} (hex:∀ s,GP 1 s (ex s)) (hc:Reads 178 G N (bG ex)):Reads 171 G N (cB ex):=by
 intro s hl hN
 have hg0:=jI hex s
 have hc0:=hc s hl hN
 have hF:cB ex s=dA (bG ex s).2.l.length.succ (bG ex s).1 (bG ex s).2:=rfl
 rw [hF]
 obtain ⟨a0,s0,hs0⟩:∃ a0 s0,bG ex s=(a0,s0):=⟨_,_,rfl⟩
 rw [hs0] at hg0 hc0 ⊢
 simp only at hc0 ⊢
 generalize hR:dA s0.l.length.succ a0 s0=R
 unfold exD at hc0
 unfold RO TO ag
 refine ao Tryz.func171 rfl (by decide +kernel) (by simp [Tryz.ntmps171]) (veil fun E=>?_)
 simp only [go_sem]
 refine ab E [.bx [100] 0] (RO s) [100,101] (hc0) rfl rfl ⟨by simp only [go_sem],by first | (rw [aa];decide) | (simp only [go_sem]<;>(try rw [aa])<;>decide)⟩ rfl (by unfold RO TO ag;simp only [go_sem]) (by unfold RO TO;simp only [go_sem]) ?_
 rintro _ _ ⟨rfl,rfl⟩
 unfold RO TO ag
 simp only [go_sem]
 refine aU E (X:={ x:Nat × List EN × PS // dA x.1 x.2.1 x.2.2=R∧GQ s x.2∧x.2.2.l.length<x.1 }) (fun x=>[(0,.bx [100] 0),(2,.bx [2] 0),(3,.bx [3] 0)])
  (fun x=>[([2],.box [.d .nils]),([3],.box [.d (.sl (some 9) (x.1.2.1.map enD))]),([100],.box [.bx [101] 0,.d (i64 x.1.2.2.err),.d (i64 x.1.2.2.pos),.d (i64 x.1.2.2.nest)]),([101],.box [.d (.sl (some 4) (x.1.2.2.l.map gR)),.d (i64 x.1.2.2.fin)])]) [2,3,100,101] (fun x=>x.1.2.2.l.length) ⟨(s0.l.length.succ,a0,s0),hR,hg0,Nat.lt_succ_self _⟩ id ?_ ?_
 ·simp only [go_sem]
  all_goals rfl
 rintro ⟨⟨m,a,q⟩,hb,hg,hm⟩ E0
 refine bk E0 fun Q' hQ E'=>?_
 simp only at hb hg hm ⊢
 have hql:q.l.length≤s.l.length:=hg.1.ss.len
 obtain ⟨m,rfl⟩:∃ k,m=k+1:=⟨m-1,by omega⟩
 have hgn:=lF s 1 a q hg
 rw [dA] at hb
 rw [show dA 1 a q=if q.sees 7 [46] then (az { nd0 12 q.peek.pos with name:=(q.next.of 2).1 } [a],(q.next.of 2).2) else (a,q) from rfl] at hgn
 simp only [go_sem]
 refine ab E' [.bx [101] 0] (TO q.l q.fin) [101] (ee q.l q.fin (by omega)) rfl rfl ⟨by simp only [go_sem],by first | (rw [aa];decide) | (simp only [go_sem]<;>(try rw [aa])<;>decide)⟩ rfl (by unfold TO ag;simp only [go_sem]) (by unfold TO;simp only [go_sem]) ?_
 rintro _ _ ⟨rfl,rfl⟩
 unfold TO ag
 simp only [go_sem]
 refine ab E' [.bx [100] 0,.d (.str [46])] (RO q) [100,101] (jE q [46] (by omega)) rfl rfl ⟨by simp only [go_sem],by first | (rw [aa];decide) | (simp only [go_sem]<;>(try rw [aa])<;>decide)⟩ rfl (by unfold RO TO ag;simp only [go_sem]) (by unfold RO TO;simp only [go_sem]) ?_
 rintro _ _ ⟨rfl,rfl⟩
 unfold RO TO ag
 simp only [go_sem]
 refine aV E' (fun h=>?_) (fun h=>?_)<;>simp only [go_sem]
 ·have h':q.sees 7 [46]=false:=by simpa using h
  rw [h'] at hb
  rw [fh h',hQ]
  simp only [Bool.false_eq_true,if_false] at hb
  subst hb
  simp only [go_sem]
  refine ⟨_,_,[100,101],id,⟨rfl,rfl⟩,?_⟩
  simp only [go_sem]
  rfl
 ·have h':q.sees 7 [46]=true:=by simpa using h
  have hsl:=bn h'
  rw [h'] at hb hgn
  simp only [if_true] at hb hgn
  rw [dL h']
  refine au mixed E' fun X=>?_
  simp only [go_sem]
  have h2:=lx (G:=G) q.next 2 (by omega)
  obtain ⟨nm,q1,hq1⟩:∃ nm q1,q.next.of 2=(nm,q1):=⟨_,_,rfl⟩
  have hq1l:=(SS.of q.next 2).len
  rw [hq1] at h2 hb hgn hq1l
  simp only at hq1l
  refine dr X [.bx [100] 0,.d (i64 2)] (RO q.next) [100,101] _ _ h2 rfl rfl ⟨by simp only [go_sem],by rw [aa];decide⟩ rfl (by unfold RO TO ag;simp only [go_sem]) (by unfold RO TO;simp only [go_sem]) (by unfold RO TO;simp only [go_sem]) ?_
  unfold RO TO ag
  simp only [go_sem]
  have hz1:=hg.1.sz
  simp only at hz1
  have h4:=jT (G:=G) { nd0 12 q.peek.pos with name:=nm } [a] rfl (by simp) (by simp only [bA,List.map_cons,List.map_nil,List.sum_cons,List.sum_nil];omega)
   (fun l h=>by rw [List.mem_singleton.1 h];exact hg.1.tr.kids.2)
   (fun l h=>by rw [List.mem_singleton.1 h];exact hg.1.wd.mono (by omega))
  simp only at hb hgn
  generalize az { nd0 12 q.peek.pos with name:=nm } [a]=J at h4 hb hgn
  unfold exD at h4
  refine cU X 22 [22] (some 1) [.agg [.sl (some 9) (a.map enD)]] h4 (fun _=>rfl) rfl rfl rfl (by simp) rfl (by simp only [go_sem]) ?_
  simp only [go_sem]
  refine ⟨by decide +kernel,?_⟩
  rw [hQ]
  simp only [go_sem]
  refine ⟨⟨(m,J,q1),hb,hgn,by show q1.l.length<m;omega⟩,by show q1.l.length<q.l.length;omega,id,?_⟩
  simp only [go_sem]
  all_goals rfl
end Go.Proofs.YtejpnabbmgpmaaaGreatDoor

namespace Go.Proofs.YtejpnabbmgpmaaaGreatDoor
open Go.Ab
def JK (k:Int) (t:List UInt8):Bool:=decide (k=4) || decide (k=5) || decide (k=2) || (decide (k=1) && (decide (t=cC) || decide (t=bF) || decide (t=fV))) || (decide (k=7) && (decide (t=[40]) || decide (t=[123])))
theorem y1 {G} (s:PS) (hl:s.l.length≤1000000):HCall Tryz.prog G 172 [.bx [100] 0] (RO s) [100,101] (fun r hp'=>r=.d (.bool s.begins)∧hp'=RO s):=by
 have hB:s.begins=JK (cy s.l s.fin).k (cy s.l s.fin).s:=rfl
 rw [hB]
 have h0:=ee (G:=G) s.l s.fin hl
 generalize cy s.l s.fin=t at h0 ⊢
 generalize hb:JK t.k t.s=b
 unfold JK at hb
 unfold RO TO ag
 refine ao Tryz.func172 rfl (by decide +kernel) (by simp [Tryz.ntmps172]) (veil fun E=>?_)
 simp only [go_sem]
 refine ab E [.bx [101] 0] (TO s.l s.fin) [101] (h0) rfl rfl ⟨by simp only [go_sem],by first | (rw [aa];decide) | (simp only [go_sem]<;>(try rw [aa])<;>decide)⟩ rfl (by unfold TO ag;simp only [go_sem]) (by unfold TO;simp only [go_sem]) ?_
 rintro _ _ ⟨rfl,rfl⟩
 unfold TO ag
 simp only [go_sem]
 refine ai E (fun h1=>?_) (fun h1=>?_)<;>simp only [go_sem]
 ·rw [decide_eq_true h1]
  simp only [go_sem]
  refine ⟨_,_,[100,101],id,⟨rfl,rfl⟩,?_⟩
  simp only [go_sem]
  simp [← hb,h1]
 refine ai E (fun h2=>?_) (fun h2=>?_)<;>simp only [go_sem]
 ·rw [decide_eq_true h2]
  simp only [go_sem]
  refine ⟨_,_,[100,101],id,⟨rfl,rfl⟩,?_⟩
  simp only [go_sem]
  simp [← hb,h2]
 refine ai E (fun h3=>?_) (fun h3=>?_)<;>simp only [go_sem]
 ·refine ⟨_,_,[100,101],id,⟨rfl,rfl⟩,?_⟩
  simp only [go_sem]
  simp [← hb,h3]
 refine ai E (fun h4=>?_) (fun h4=>?_)<;>simp only [go_sem]
 ·refine ct E (fun h6=>?_) (fun h6=>?_)<;>simp only [go_sem]
  ·refine ⟨_,_,[100,101],id,⟨rfl,rfl⟩,?_⟩
   simp only [go_sem]
   have h6':t.s=cC:=by simpa [cC] using h6
   simp [← hb,h4,h6']
  refine ct E (fun h7=>?_) (fun h7=>?_)<;>simp only [go_sem]
  ·refine ⟨_,_,[100,101],id,⟨rfl,rfl⟩,?_⟩
   simp only [go_sem]
   have h7':t.s=bF:=by simpa [bF] using h7
   simp [← hb,h4,h7']
  ·refine ⟨_,_,[100,101],id,⟨rfl,rfl⟩,?_⟩
   simp only [go_sem]
   have h6':¬ t.s=cC:=by simpa [cC] using h6
   have h7':¬ t.s=bF:=by simpa [bF] using h7
   by_cases h8:t.s=fV
   ·simp [← hb,h4,h8,fV]
   ·have h8':=h8;unfold fV at h8';simp [← hb,h4,h6',h7',h8,h8']
 refine ai E (fun h5=>?_) (fun h5=>?_)<;>simp only [go_sem]
 ·refine ct E (fun h6=>?_) (fun h6=>?_)<;>simp only [go_sem]
  ·refine ⟨_,_,[100,101],id,⟨rfl,rfl⟩,?_⟩
   simp only [go_sem]
   have h6':t.s=[40]:=by simpa using h6
   simp [← hb,h5,h6']
  ·refine ⟨_,_,[100,101],id,⟨rfl,rfl⟩,?_⟩
   simp only [go_sem]
   have h6':¬ t.s=[40]:=by simpa using h6
   by_cases h8:t.s=[123]<;>simp [← hb,h5,h6',h8]
 ·refine ⟨_,_,[100,101],id,⟨rfl,rfl⟩,?_⟩
  simp only [go_sem]
  simp [← hb,h1,h2,h3,h4,h5]
theorem FM {G} {N:Nat} {ex:PS→PR} (hex:∀ s,GP 1 s (ex s)) (hc:Reads 171 G N (cB ex)):Reads 160 G N (fM ex):=by
 intro s hl hN
 generalize hR:fM ex s=R
 unfold fM PS.has at hR
 rw [jD] at hR
 have hsg:=dH hex
 have hpk:=ee (G:=G) s.l s.fin (by omega)
 generalize cy s.l s.fin=t at hpk hR
 unfold RO TO ag
 refine ao Tryz.func160 rfl (by decide +kernel) (by simp [Tryz.ntmps160]) (veil fun E=>?_)
 simp only [go_sem]
 refine ab E [.bx [101] 0] (TO s.l s.fin) [101] (hpk) rfl rfl ⟨by simp only [go_sem],by first | (rw [aa];decide) | (simp only [go_sem]<;>(try rw [aa])<;>decide)⟩ rfl (by unfold TO ag;simp only [go_sem]) (by unfold TO;simp only [go_sem]) ?_
 rintro _ _ ⟨rfl,rfl⟩
 unfold TO ag
 simp only [go_sem]
 refine ab E [.bx [100] 0] (RO s) [100,101] (fC s) rfl rfl ⟨by simp only [go_sem],by first | (rw [aa];decide) | (simp only [go_sem]<;>(try rw [aa])<;>decide)⟩ rfl (by unfold RO TO ag;simp only [go_sem]) (by unfold RO TO;simp only [go_sem]) ?_
 rintro _ _ ⟨rfl,rfl⟩
 unfold RO TO ag
 simp only [go_sem]
 obtain ⟨a0,s0,hs0⟩:∃ a0 s0,cB ex s=(a0,s0):=⟨_,_,rfl⟩
 have h0:=(hsg s).1
 have hc0:=hc s hl hN
 rw [hs0] at h0 hc0
 unfold exD at hc0
 simp only [hs0] at hR
 refine aK E (fun h1=>?_) (fun h1=>?_)<;>simp only [go_sem]
 ·refine ai E (fun h2=>?_) (fun h2=>?_)<;>simp only [go_sem]
  ·simp only [decide_eq_true h1,decide_eq_true h2,Bool.and_self,if_true] at hR
   refine ab E [.bx [101] 0] (TO s.l s.fin) [101] (jx s.l s.fin (by omega)) rfl rfl ⟨by simp only [go_sem],by first | (rw [aa];decide) | (simp only [go_sem]<;>(try rw [aa])<;>decide)⟩ rfl (by unfold TO ag;simp only [go_sem]) (by unfold TO;simp only [go_sem]) ?_
   rintro _ _ ⟨rfl,rfl⟩
   unfold TO ag
   simp only [go_sem]
   refine au mixed E fun X=>?_
   simp only [go_sem]
   obtain ⟨b0,q1,hq1⟩:∃ b0 q1,cB ex s.next=(b0,q1):=⟨_,_,rfl⟩
   have hn2:=(SS.next s).len
   have g2:=hc s.next (by omega) ((SS.next s).nest.trans hN)
   have h3:=(hsg s.next).1
   rw [hq1] at g2 h3 hR
   unfold exD at g2
   refine dr X [.bx [100] 0] (RO s.next) [100,101] _ _ g2 rfl rfl ⟨by simp only [go_sem],by rw [aa];decide⟩ rfl (by unfold RO TO ag PS.next;simp only [go_sem]) (by unfold RO TO;simp only [go_sem]) (by unfold RO TO;simp only [go_sem]) ?_
   unfold RO TO ag
   simp only [go_sem]
   have ht2:=h3.tr
   have hz2:=h3.sz
   simp only at ht2 hz2 hR
   have h4:=jT (G:=G) { nd0 13 t.pos with name:=t.s } [b0] rfl (by simp) (by simp only [bA,List.map_cons,List.map_nil,List.sum_cons,List.sum_nil];omega)
    (fun l h=>by rw [List.mem_singleton.1 h];exact ht2.kids.2)
    (fun l h=>by rw [List.mem_singleton.1 h];exact h3.wd.mono (by omega))
   generalize az { nd0 13 t.pos with name:=t.s } [b0]=J at h4 hR
   unfold exD at h4
   refine cU X 29 [29] (some 1) [.agg [.sl (some 9) (b0.map enD)]] h4 (fun _=>rfl) rfl rfl rfl (by simp) rfl (by simp only [go_sem]) ?_
   simp only [go_sem]
   refine ⟨by decide +kernel,?_⟩
   rw [← hR]
   refine ⟨_,_,[100,101],id,⟨rfl,rfl⟩,?_⟩
   simp only [go_sem]
   rfl
  ·simp only [decide_eq_true h1,decide_eq_false h2,Bool.and_false,Bool.false_eq_true,if_false] at hR
   refine ab E [.bx [100] 0] (RO s) [100,101] (hc0) rfl rfl ⟨by simp only [go_sem],by first | (rw [aa];decide) | (simp only [go_sem]<;>(try rw [aa])<;>decide)⟩ rfl (by unfold RO TO ag;simp only [go_sem]) (by unfold RO TO;simp only [go_sem]) ?_
   rintro _ _ ⟨rfl,rfl⟩
   unfold RO TO ag
   simp only [go_sem]
   refine aU E (X:={ x:Nat × List EN × PS // dO ex x.1 x.2.1 x.2.2=R∧GP 1 s x.2∧x.2.2.l.length<x.1 }) (fun x=>[(0,.bx [100] 0),(2,.bx [2] 0),(4,.bx [4] 0)])
    (fun x=>[([2],.box [.d .nils]),([4],.box [.d (.sl (some 9) (x.1.2.1.map enD))]),([100],.box [.bx [101] 0,.d (i64 x.1.2.2.err),.d (i64 x.1.2.2.pos),.d (i64 x.1.2.2.nest)]),([101],.box [.d (.sl (some 4) (x.1.2.2.l.map gR)),.d (i64 x.1.2.2.fin)])]) [2,4,100,101] (fun x=>x.1.2.2.l.length) ⟨(s0.l.length.succ,a0,s0),hR,h0,Nat.lt_succ_self _⟩ id ?_ ?_
   ·simp only [go_sem]
    all_goals rfl
   rintro ⟨⟨m,a,q⟩,hb,hg,hm⟩ E0
   refine bk E0 fun Q' hQ E'=>?_
   simp only at hb hg hm ⊢
   have hql:q.l.length≤s.l.length:=hg.ss.len
   obtain ⟨m,rfl⟩:∃ k,m=k+1:=⟨m-1,by omega⟩
   have hgn:=jG hex s 1 a q hg
   rw [dO] at hb
   rw [show dO ex 1 a q=if decide (q.err=0) && q.begins then (az (nd0 6 (dU a).pos) [a,(cB ex q).1],(cB ex q).2) else (a,q) from rfl] at hgn
   simp only [go_sem]
   refine ab E' [.bx [100] 0] (RO q) [100,101] (fC q) rfl rfl ⟨by simp only [go_sem],by first | (rw [aa];decide) | (simp only [go_sem]<;>(try rw [aa])<;>decide)⟩ rfl (by unfold RO TO ag;simp only [go_sem]) (by unfold RO TO;simp only [go_sem]) ?_
   rintro _ _ ⟨rfl,rfl⟩
   unfold RO TO ag
   simp only [go_sem]
   refine aK E' (fun g1=>?_) (fun g1=>?_)<;>simp only [go_sem]
   ·refine ab E' [.bx [100] 0] (RO q) [100,101] (y1 q (by omega)) rfl rfl ⟨by simp only [go_sem],by first | (rw [aa];decide) | (simp only [go_sem]<;>(try rw [aa])<;>decide)⟩ rfl (by unfold RO TO ag;simp only [go_sem]) (by unfold RO TO;simp only [go_sem]) ?_
    rintro _ _ ⟨rfl,rfl⟩
    unfold RO TO ag
    simp only [go_sem]
    refine aV E' (fun g2=>?_) (fun g2=>?_)<;>simp only [go_sem]
    ·simp only [decide_eq_true g1,g2,Bool.true_and,if_true] at hb hgn
     have hap:=hg.tr.kids.1
     have hz1:=hg.sz
     simp only at hap hz1
     refine au mixed E' fun X=>?_
     simp only [go_sem]
     rw [al (n:=(a.length:Int)-1) ⟨by omega,by omega⟩]
     refine ⟨by omega,?_⟩
     rw [show ((a.length:Int)-1).toNat=a.length-1 by omega,bO (show a.length-1<a.length by omega)]
     have hrt:dU a=ndE a (a.length-1):=rfl
     rw [← hrt]
     generalize dU a=rt at hb hgn ⊢
     simp only [go_sem]
     obtain ⟨b0,q1,hq1⟩:∃ b0 q1,cB ex q=(b0,q1):=⟨_,_,rfl⟩
     have h2:=hc q (by omega) (hg.ss.nest.trans hN)
     have h3:=(hsg q).1
     have hlt:=lR hex g1 g2
     rw [hq1] at h2 h3 hb hgn hlt
     unfold exD at h2
     refine dr X [.bx [100] 0] (RO q) [100,101] _ _ h2 rfl rfl ⟨by simp only [go_sem],by rw [aa];decide⟩ rfl (by unfold RO TO ag;simp only [go_sem]) (by unfold RO TO;simp only [go_sem]) (by unfold RO TO;simp only [go_sem]) ?_
     unfold RO TO ag
     simp only [go_sem]
     have ht2:=h3.tr
     have hz2:=h3.sz
     simp only at ht2 hz2 hlt
     have h4:=jT (G:=G) (nd0 6 rt.pos) [a,b0] rfl (by simp) (by simp only [bA,List.map_cons,List.map_nil,List.sum_cons,List.sum_nil];omega)
      (fun l h=>by
       rcases List.mem_cons.1 h with rfl | h
       ·exact hg.tr.kids.2
       ·rw [List.mem_singleton.1 h];exact ht2.kids.2)
      (fun l h=>by
       rcases List.mem_cons.1 h with rfl | h
       ·exact hg.wd.mono (by omega)
       ·rw [List.mem_singleton.1 h];exact h3.wd.mono (by omega))
     simp only at hb hgn
     generalize az (nd0 6 rt.pos) [a,b0]=J at h4 hb hgn
     unfold exD at h4
     refine cU X 52 [52] (some 1) [.agg [.sl (some 9) (a.map enD)],.agg [.sl (some 9) (b0.map enD)]] h4 (fun _=>rfl) rfl rfl rfl (by simp) rfl (by simp only [go_sem]) ?_
     simp only [go_sem]
     refine ⟨by decide +kernel,?_⟩
     rw [hQ]
     simp only [go_sem]
     refine ⟨⟨(m,J,q1),hb,hgn,by show q1.l.length<m;omega⟩,hlt,id,?_⟩
     simp only [go_sem]
     all_goals rfl
    ·simp only [g2,Bool.and_false,Bool.false_eq_true,if_false] at hb
     subst hb
     rw [hQ]
     simp only [go_sem]
     refine ⟨_,_,[100,101],id,⟨rfl,rfl⟩,?_⟩
     simp only [go_sem]
     rfl
   ·simp only [decide_eq_false g1,Bool.false_and,Bool.false_eq_true,if_false] at hb
    subst hb
    rw [hQ]
    simp only [go_sem]
    refine ⟨_,_,[100,101],id,⟨rfl,rfl⟩,?_⟩
    simp only [go_sem]
    rfl
 ·simp only [decide_eq_false h1,Bool.false_and,Bool.false_eq_true,if_false] at hR
  refine ab E [.bx [100] 0] (RO s) [100,101] (hc0) rfl rfl ⟨by simp only [go_sem],by first | (rw [aa];decide) | (simp only [go_sem]<;>(try rw [aa])<;>decide)⟩ rfl (by unfold RO TO ag;simp only [go_sem]) (by unfold RO TO;simp only [go_sem]) ?_
  rintro _ _ ⟨rfl,rfl⟩
  unfold RO TO ag
  simp only [go_sem]
  refine aU E (X:={ x:Nat × List EN × PS // dO ex x.1 x.2.1 x.2.2=R∧GP 1 s x.2∧x.2.2.l.length<x.1 }) (fun x=>[(0,.bx [100] 0),(2,.bx [2] 0),(4,.bx [4] 0)])
   (fun x=>[([2],.box [.d .nils]),([4],.box [.d (.sl (some 9) (x.1.2.1.map enD))]),([100],.box [.bx [101] 0,.d (i64 x.1.2.2.err),.d (i64 x.1.2.2.pos),.d (i64 x.1.2.2.nest)]),([101],.box [.d (.sl (some 4) (x.1.2.2.l.map gR)),.d (i64 x.1.2.2.fin)])]) [2,4,100,101] (fun x=>x.1.2.2.l.length) ⟨(s0.l.length.succ,a0,s0),hR,h0,Nat.lt_succ_self _⟩ id ?_ ?_
  ·simp only [go_sem]
   all_goals rfl
  rintro ⟨⟨m,a,q⟩,hb,hg,hm⟩ E0
  refine bk E0 fun Q' hQ E'=>?_
  simp only at hb hg hm ⊢
  have hql:q.l.length≤s.l.length:=hg.ss.len
  obtain ⟨m,rfl⟩:∃ k,m=k+1:=⟨m-1,by omega⟩
  have hgn:=jG hex s 1 a q hg
  rw [dO] at hb
  rw [show dO ex 1 a q=if decide (q.err=0) && q.begins then (az (nd0 6 (dU a).pos) [a,(cB ex q).1],(cB ex q).2) else (a,q) from rfl] at hgn
  simp only [go_sem]
  refine ab E' [.bx [100] 0] (RO q) [100,101] (fC q) rfl rfl ⟨by simp only [go_sem],by first | (rw [aa];decide) | (simp only [go_sem]<;>(try rw [aa])<;>decide)⟩ rfl (by unfold RO TO ag;simp only [go_sem]) (by unfold RO TO;simp only [go_sem]) ?_
  rintro _ _ ⟨rfl,rfl⟩
  unfold RO TO ag
  simp only [go_sem]
  refine aK E' (fun g1=>?_) (fun g1=>?_)<;>simp only [go_sem]
  ·refine ab E' [.bx [100] 0] (RO q) [100,101] (y1 q (by omega)) rfl rfl ⟨by simp only [go_sem],by first | (rw [aa];decide) | (simp only [go_sem]<;>(try rw [aa])<;>decide)⟩ rfl (by unfold RO TO ag;simp only [go_sem]) (by unfold RO TO;simp only [go_sem]) ?_
   rintro _ _ ⟨rfl,rfl⟩
   unfold RO TO ag
   simp only [go_sem]
   refine aV E' (fun g2=>?_) (fun g2=>?_)<;>simp only [go_sem]
   ·simp only [decide_eq_true g1,g2,Bool.true_and,if_true] at hb hgn
    have hap:=hg.tr.kids.1
    have hz1:=hg.sz
    simp only at hap hz1
    refine au mixed E' fun X=>?_
    simp only [go_sem]
    rw [al (n:=(a.length:Int)-1) ⟨by omega,by omega⟩]
    refine ⟨by omega,?_⟩
    rw [show ((a.length:Int)-1).toNat=a.length-1 by omega,bO (show a.length-1<a.length by omega)]
    have hrt:dU a=ndE a (a.length-1):=rfl
    rw [← hrt]
    generalize dU a=rt at hb hgn ⊢
    simp only [go_sem]
    obtain ⟨b0,q1,hq1⟩:∃ b0 q1,cB ex q=(b0,q1):=⟨_,_,rfl⟩
    have h2:=hc q (by omega) (hg.ss.nest.trans hN)
    have h3:=(hsg q).1
    have hlt:=lR hex g1 g2
    rw [hq1] at h2 h3 hb hgn hlt
    unfold exD at h2
    refine dr X [.bx [100] 0] (RO q) [100,101] _ _ h2 rfl rfl ⟨by simp only [go_sem],by rw [aa];decide⟩ rfl (by unfold RO TO ag;simp only [go_sem]) (by unfold RO TO;simp only [go_sem]) (by unfold RO TO;simp only [go_sem]) ?_
    unfold RO TO ag
    simp only [go_sem]
    have ht2:=h3.tr
    have hz2:=h3.sz
    simp only at ht2 hz2 hlt
    have h4:=jT (G:=G) (nd0 6 rt.pos) [a,b0] rfl (by simp) (by simp only [bA,List.map_cons,List.map_nil,List.sum_cons,List.sum_nil];omega)
     (fun l h=>by
      rcases List.mem_cons.1 h with rfl | h
      ·exact hg.tr.kids.2
      ·rw [List.mem_singleton.1 h];exact ht2.kids.2)
     (fun l h=>by
      rcases List.mem_cons.1 h with rfl | h
      ·exact hg.wd.mono (by omega)
      ·rw [List.mem_singleton.1 h];exact h3.wd.mono (by omega))
    simp only at hb hgn
    generalize az (nd0 6 rt.pos) [a,b0]=J at h4 hb hgn
    unfold exD at h4
    refine cU X 52 [52] (some 1) [.agg [.sl (some 9) (a.map enD)],.agg [.sl (some 9) (b0.map enD)]] h4 (fun _=>rfl) rfl rfl rfl (by simp) rfl (by simp only [go_sem]) ?_
    simp only [go_sem]
    refine ⟨by decide +kernel,?_⟩
    rw [hQ]
    simp only [go_sem]
    refine ⟨⟨(m,J,q1),hb,hgn,by show q1.l.length<m;omega⟩,hlt,id,?_⟩
    simp only [go_sem]
    all_goals rfl
   ·simp only [g2,Bool.and_false,Bool.false_eq_true,if_false] at hb
    subst hb
    rw [hQ]
    simp only [go_sem]
    refine ⟨_,_,[100,101],id,⟨rfl,rfl⟩,?_⟩
    simp only [go_sem]
    rfl
  ·simp only [decide_eq_false g1,Bool.false_and,Bool.false_eq_true,if_false] at hb
   subst hb
   rw [hQ]
   simp only [go_sem]
   refine ⟨_,_,[100,101],id,⟨rfl,rfl⟩,?_⟩
   simp only [go_sem]
   rfl
end Go.Proofs.YtejpnabbmgpmaaaGreatDoor

