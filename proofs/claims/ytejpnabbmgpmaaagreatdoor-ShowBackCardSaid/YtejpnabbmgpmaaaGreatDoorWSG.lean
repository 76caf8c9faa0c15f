/-
  Names, by the document: the same as the program's. (with the parts that follow it)
-/
import Derived.Test.YtejpnabbmgpmaaaGreatDoorWSF
import Derived.Test.YtejpnabbmgpmaaaGreatDoorWSE
import Derived.Test.YtejpnabbmgpmaaaGreatDoorWSD
import Derived.Test.YtejpnabbmgpmaaaGreatDoorWSC
import Derived.Lib.ItoaLen
import Derived.Lib.Bytealg
set_option linter.all false
namespace Go.Proofs.YtejpnabbmgpmaaaGreatDoor
open Go.Ab
theorem sJ {G} (c:UInt8):HP Tryz.prog G 92 [u8 c] (fun r=>r=.d (.bool (sm c))):=by
 refine an Tryz.func92 rfl (by decide +kernel) (by simp [Tryz.ntmps92]) (veil fun E=>?_)
 unfold u8
 simp only [go_sem]
 refine aK E (fun h1=>?_) (fun h1=>?_)<;>simp only [go_sem]
 ·refine aK E (fun h2=>?_) (fun h2=>?_)<;>simp only [go_sem]
  ·simp [sm,smZ,h1,h2]
  ·simp [sm,smZ,h1,h2]
 ·simp [sm,smZ,h1]
theorem qx {G} (c:UInt8):HP Tryz.prog G 91 [u8 c] (fun r=>r=.d (.bool (gr c))):=by
 refine an Tryz.func91 rfl (by decide +kernel) (by simp [Tryz.ntmps91]) (veil fun E=>?_)
 unfold u8
 simp only [go_sem]
 refine aK E (fun h1=>?_) (fun h1=>?_)<;>simp only [go_sem]
 ·simp [gr,grZ,h1]
 ·simp [gr,grZ,h1]
theorem CA {G} (l:List UInt8) (hl:l.length≤9223372036854775807):HP Tryz.prog G 90 [.str l] (fun r=>r=.d (i64 (bo l))):=by
 refine an Tryz.func90 rfl (by decide +kernel) (by simp [Tryz.ntmps90]) (veil fun E=>?_)
 simp only [go_sem]
 refine aK E (fun h0=>?_) (fun h0=>?_)<;>simp only [go_sem]
 ·have:l=[]:=List.length_eq_zero_iff.1 (by omega)
  subst this;rfl
 have h0:1≤l.length:=by omega
 refine ⟨by omega,?_⟩
 refine ae E (sJ (l.getD 0 0)) rfl rfl (by simp) ?_
 rintro _ rfl
 simp only [go_sem]
 refine ct E (fun h1=>?_) (fun h1=>?_)<;>simp only [go_sem]
 ·have h1:sm (l.getD 0 0)=false:=by simpa using h1
  refine ⟨by omega,?_⟩
  refine ae E (qx (l.getD 0 0)) rfl rfl (by simp) ?_
  rintro _ rfl
  simp only [go_sem]
  refine aV E (fun h2=>?_) (fun h2=>?_)<;>simp only [go_sem]
  ·have h2:gr (l.getD 0 0)=false:=by simpa using h2
   rw [dv h0,h1,h2];rfl
  ·have h2:gr (l.getD 0 0)=true:=by simpa using h2
   have hsg:(sm (l.getD 0 0) || gr (l.getD 0 0))=true:=by rw [h2,Bool.or_true]
   refine dm E (X:={ i:Nat // i≤l.length∧i+wlen (l.drop i)=wlen (l.drop 1)+1 }) (fun x=>[(0,.d (.str l)),(3,.d (i64 x.1))]) (fun x=>l.length-x.1) rfl ⟨1,h0,by omega⟩ ?_ ?_
   ·simp only [go_sem]
    all_goals rfl
   rintro ⟨i,hi,hw⟩ E'
   simp only [go_sem]
   have hn:bo l=wlen (l.drop 1)+1:=by rw [dv h0,hsg,if_pos rfl]
   refine aK E' (fun h3=>?_) (fun h3=>?_)<;>simp only [go_sem]
   ·have hi':i<l.length:=by omega
    have hwd:=jJ hi'
    have yes:mo (l.getD i 0)=true→∃ y:{ i:Nat // i≤l.length∧i+wlen (l.drop i)=wlen (l.drop 1)+1 },l.length-y.1<l.length-i∧AV.d (.int .i64 (w64 ((i:Int)+1)))=AV.d (i64 y.1):=fun h4=>by
     rw [h4,if_pos rfl] at hwd
     refine ⟨⟨i+1,by omega,by omega⟩,by show l.length-(i+1)<_;omega,?_⟩
     rw [al ⟨by omega,by omega⟩];rfl
    have no:mo (l.getD i 0)=false→AV.d (i64 (i:Int))=AV.d (i64 (bo l:Nat)):=fun h4=>by
     rw [h4,if_neg (by simp)] at hwd
     rw [hn]
     exact congrArg (fun n:Nat=>AV.d (i64 (n:Int))) (by omega)
    refine ⟨by omega,?_⟩
    refine ae E' (sJ (l.getD i 0)) rfl rfl (by simp) ?_
    rintro _ rfl
    simp only [go_sem]
    refine ct E' (fun h4=>?_) (fun h4=>?_)<;>simp only [go_sem]
    ·exact yes (by simp only [mo,h4,Bool.true_or])
    refine ⟨by omega,?_⟩
    refine ae E' (qx (l.getD i 0)) rfl rfl (by simp) ?_
    rintro _ rfl
    simp only [go_sem]
    refine ct E' (fun h5=>?_) (fun h5=>?_)<;>simp only [go_sem]
    ·exact yes (by simp only [mo,h5,Bool.or_true,Bool.true_or])
    refine ⟨by omega,?_⟩
    refine aK E' (fun h6=>?_) (fun h6=>?_)<;>simp only [go_sem]
    ·refine ⟨by omega,?_⟩
     refine ai E' (fun h7=>?_) (fun h7=>?_)<;>simp only [go_sem]
     ·exact yes (by simp only [mo,h4,h5,diZ];rw [decide_eq_true h6,decide_eq_true h7];rfl)
     ·exact no (by simp only [mo,h4,h5,diZ];rw [decide_eq_false h7];simp)
    ·exact no (by simp only [mo,h4,h5,diZ];rw [decide_eq_false h6];simp)
   ·have hil:i=l.length:=by omega
    subst hil
    rw [kU] at hw
    rw [hn]
    exact congrArg (fun n:Nat=>AV.d (i64 (n:Int))) (by omega)
 ·have h1:sm (l.getD 0 0)=true:=by simpa using h1
  have hsg:(sm (l.getD 0 0) || gr (l.getD 0 0))=true:=by rw [h1,Bool.true_or]
  refine dm E (X:={ i:Nat // i≤l.length∧i+wlen (l.drop i)=wlen (l.drop 1)+1 }) (fun x=>[(0,.d (.str l)),(3,.d (i64 x.1))]) (fun x=>l.length-x.1) rfl ⟨1,h0,by omega⟩ ?_ ?_
  ·simp only [go_sem]
   all_goals rfl
  rintro ⟨i,hi,hw⟩ E'
  simp only [go_sem]
  have hn:bo l=wlen (l.drop 1)+1:=by rw [dv h0,hsg,if_pos rfl]
  refine aK E' (fun h3=>?_) (fun h3=>?_)<;>simp only [go_sem]
  ·have hi':i<l.length:=by omega
   have hwd:=jJ hi'
   have yes:mo (l.getD i 0)=true→∃ y:{ i:Nat // i≤l.length∧i+wlen (l.drop i)=wlen (l.drop 1)+1 },l.length-y.1<l.length-i∧AV.d (.int .i64 (w64 ((i:Int)+1)))=AV.d (i64 y.1):=fun h4=>by
    rw [h4,if_pos rfl] at hwd
    refine ⟨⟨i+1,by omega,by omega⟩,by show l.length-(i+1)<_;omega,?_⟩
    rw [al ⟨by omega,by omega⟩];rfl
   have no:mo (l.getD i 0)=false→AV.d (i64 (i:Int))=AV.d (i64 (bo l:Nat)):=fun h4=>by
    rw [h4,if_neg (by simp)] at hwd
    rw [hn]
    exact congrArg (fun n:Nat=>AV.d (i64 (n:Int))) (by omega)
   refine ⟨by omega,?_⟩
   refine ae E' (sJ (l.getD i 0)) rfl rfl (by simp) ?_
   rintro _ rfl
   simp only [go_sem]
   refine ct E' (fun h4=>?_) (fun h4=>?_)<;>simp only [go_sem]
   ·exact yes (by simp only [mo,h4,Bool.true_or])
   refine ⟨by omega,?_⟩
   refine ae E' (qx (l.getD i 0)) rfl rfl (by simp) ?_
   rintro _ rfl
   simp only [go_sem]
   refine ct E' (fun h5=>?_) (fun h5=>?_)<;>simp only [go_sem]
   ·exact yes (by simp only [mo,h5,Bool.or_true,Bool.true_or])
   refine ⟨by omega,?_⟩
   refine aK E' (fun h6=>?_) (fun h6=>?_)<;>simp only [go_sem]
   ·refine ⟨by omega,?_⟩
    refine ai E' (fun h7=>?_) (fun h7=>?_)<;>simp only [go_sem]
    ·exact yes (by simp only [mo,h4,h5,diZ];rw [decide_eq_true h6,decide_eq_true h7];rfl)
    ·exact no (by simp only [mo,h4,h5,diZ];rw [decide_eq_false h7];simp)
   ·exact no (by simp only [mo,h4,h5,diZ];rw [decide_eq_false h6];simp)
  ·have hil:i=l.length:=by omega
   subst hil
   rw [kU] at hw
   rw [hn]
   exact congrArg (fun n:Nat=>AV.d (i64 (n:Int))) (by omega)
theorem FW {G}:HP Tryz.prog G 126 [] (fun r=>r=.d (strs kwB)):=by
 refine bR Tryz.func126 rfl (by decide +kernel) (by simp [Tryz.ntmps126]) (veil fun E=>?_)
 simp only [go_sem]
 refine ⟨[([1],none,kwB.map .str)],?_⟩
 simp only [go_sem]
 refine ⟨rfl,?_⟩
 rfl
theorem Ej {G} (s:List UInt8) (l:List (List UInt8)) (hl:l.length≤9223372036854775807):HP Tryz.prog G 94 [.str s,strs l] (fun r=>r=.d (.bool (decide (s∈l)))):=by
 refine an Tryz.func94 rfl (by decide +kernel) (by simp [Tryz.ntmps94]) (veil fun E=>?_)
 unfold strs
 simp only [go_sem]
 refine dm E (X:={ i:Nat // i≤l.length∧s ∉ l.take i }) (fun x=>[(0,.d (.str s)),(1,.d (.sl none (l.map .str))),(5,.d (i64 x.1))]) (fun x=>l.length-x.1) rfl ⟨0,by simp,by simp⟩ ?_ ?_
 ·simp only [go_sem]
  all_goals rfl
 rintro ⟨i,hi,hm⟩ E'
 simp only [go_sem]
 refine ai E' (fun h6=>?_) (fun h6=>?_)<;>simp only [go_sem]
 ·have hi':i<l.length:=by omega
  refine ⟨by omega,?_⟩
  rw [iV hi']
  simp only [go_sem]
  refine aV E' (fun h7=>?_) (fun h7=>?_)<;>simp only [go_sem]
  ·have h7:l.getD i []=s:=by simpa using h7
   have:s∈l:=by
    rw [← h7]
    simp [hi']
   rw [decide_eq_true this]
  ·have h7:l.getD i []≠s:=by simpa using h7
   refine ⟨⟨i+1,by omega,tl hi' hm h7⟩,by show l.length-(i+1)<_;omega,?_⟩
   rw [al ⟨by omega,by omega⟩];rfl
 ·have hil:i=l.length:=by omega
  subst hil
  rw [List.take_length] at hm
  rw [decide_eq_false hm]
theorem Kc {G} (s:List UInt8):HP Tryz.prog G 93 [.str s] (fun r=>r=.d (.bool (ph s))):=by
 refine an Tryz.func93 rfl (by decide +kernel) (by simp [Tryz.ntmps93]) (veil fun E=>?_)
 simp only [go_sem]
 refine ae E FW rfl rfl (by simp) ?_
 rintro _ rfl
 simp only [go_sem]
 refine ae E (Ej s kwB HZ) rfl rfl (by simp) ?_
 rintro _ rfl
 simp only [go_sem]
 rfl
theorem wB {G} (s:List UInt8) (hl:s.length≤9223372036854775807):HP Tryz.prog G 48 [.str s] (fun r=>r=.d (.bool (bD s))):=by
 have hw:¬ (0<s.length∧s.length≤20∧bo s=s.length)→ba s=false:=fun h=>by
  cases hw:ba s with
  | false=>rfl
  | true =>
    refine absurd ?_ h
    simp only [ba,Bool.and_eq_true,decide_eq_true_eq] at hw
    exact ⟨ku (by simp only [ba,Bool.and_eq_true,decide_eq_true_eq];exact hw),hw.1.2,hw.2⟩
 have hwy:0<s.length→s.length≤20→bo s=s.length→ba s=true:=fun h1 h2 h3=>by
  simp only [ba,Bool.and_eq_true,decide_eq_true_eq]
  refine ⟨⟨?_,h2⟩,h3⟩
  cases s with
  | nil=>simp at h1
  | cons c r=>rfl
 refine an Tryz.func48 rfl (by decide +kernel) (by simp [Tryz.ntmps48]) (veil fun E=>?_)
 simp only [go_sem]
 refine aK E (fun h1=>?_) (fun h1=>?_)<;>simp only [go_sem]
 ·refine aK E (fun h2=>?_) (fun h2=>?_)<;>simp only [go_sem]
  ·refine ae E (CA s hl) rfl rfl (by simp) ?_
   rintro _ rfl
   simp only [go_sem]
   refine aK E (fun h3=>?_) (fun h3=>?_)<;>simp only [go_sem]
   ·have hwt:=hwy (by omega) (by omega) (by omega)
    refine ⟨by omega,?_⟩
    refine ae E (sJ (s.getD 0 0)) rfl rfl (by simp) ?_
    rintro _ rfl
    simp only [go_sem]
    refine ct E (fun h4=>?_) (fun h4=>?_)<;>simp only [go_sem]
    ·refine ae E (Kc s) rfl rfl (by simp) ?_
     rintro _ rfl
     simp only [go_sem]
     simp only [bD,hwt,h4,Bool.true_and]
    ·simp only [bD,hwt,h4,Bool.true_and,Bool.false_and]
   ·simp only [bD,hw (by omega),Bool.false_and]
  ·simp only [bD,hw (by omega),Bool.false_and]
 ·simp only [bD,hw (by omega),Bool.false_and]
theorem EJ {G} (s:List UInt8) (hl:s.length≤9223372036854775807):HP Tryz.prog G 47 [.str s] (fun r=>r=.d (.bool (dQ s))):=by
 have hw:¬ (0<s.length∧s.length≤20∧bo s=s.length)→ba s=false:=fun h=>by
  cases hw:ba s with
  | false=>rfl
  | true =>
    refine absurd ?_ h
    simp only [ba,Bool.and_eq_true,decide_eq_true_eq] at hw
    exact ⟨ku (by simp only [ba,Bool.and_eq_true,decide_eq_true_eq];exact hw),hw.1.2,hw.2⟩
 have hwy:0<s.length→s.length≤20→bo s=s.length→ba s=true:=fun h1 h2 h3=>by
  simp only [ba,Bool.and_eq_true,decide_eq_true_eq]
  refine ⟨⟨?_,h2⟩,h3⟩
  cases s with
  | nil=>simp at h1
  | cons c r=>rfl
 refine an Tryz.func47 rfl (by decide +kernel) (by simp [Tryz.ntmps47]) (veil fun E=>?_)
 simp only [go_sem]
 refine aK E (fun h1=>?_) (fun h1=>?_)<;>simp only [go_sem]
 ·refine aK E (fun h2=>?_) (fun h2=>?_)<;>simp only [go_sem]
  ·refine ae E (CA s hl) rfl rfl (by simp) ?_
   rintro _ rfl
   simp only [go_sem]
   refine aK E (fun h3=>?_) (fun h3=>?_)<;>simp only [go_sem]
   ·have hwt:=hwy (by omega) (by omega) (by omega)
    refine ⟨by omega,?_⟩
    refine ae E (qx (s.getD 0 0)) rfl rfl (by simp) ?_
    rintro _ rfl
    simp only [go_sem]
    simp only [dQ,hwt,Bool.true_and]
   ·simp only [dQ,hw (by omega),Bool.false_and]
  ·simp only [dQ,hw (by omega),Bool.false_and]
 ·simp only [dQ,hw (by omega),Bool.false_and]
theorem JW {G} (l:List (List UInt8)) (hl:l.length≤1000000):HP Tryz.prog G 49 [strs l] (fun r=>r=.d (.bool (twice l))):=by
 refine an Tryz.func49 rfl (by decide +kernel) (by simp [Tryz.ntmps49]) (veil fun E=>?_)
 unfold strs
 simp only [go_sem]
 refine dm E (X:={ i:Nat // i≤l.length∧(l.take i).Nodup }) (fun x=>[(0,.d (.sl none (l.map .str))),(3,.d (i64 x.1))]) (fun x=>l.length-x.1) rfl ⟨0,by simp⟩ ?_ ?_
 ·simp only [go_sem]
  all_goals rfl
 rintro ⟨i,hi,hn⟩ E'
 simp only [go_sem]
 refine ai E' (fun h1=>?_) (fun h1=>?_)<;>simp only [go_sem]
 ·have hi':i<l.length:=by omega
  have hc:=Ej (G:=G) (l.getD i []) (l.take i) (by simp only [List.length_take];omega)
  unfold strs at hc
  rw [List.map_take] at hc
  refine au mixed E' fun X=>?_
  simp only [go_sem]
  refine ⟨by omega,?_⟩
  rw [iV hi']
  simp only [go_sem]
  refine ⟨by omega,?_⟩
  refine dX X hc rfl (by first | rfl | (simp only [go_sem];done) | (simp;done)) (by simp) ?_
  simp only [go_sem]
  refine ⟨by decide +kernel,?_⟩
  refine ai E' (fun h2=>?_) (fun h2=>?_)<;>simp only [go_sem]
  ·rw [Bc hi' h2]
  ·refine ⟨⟨i+1,by omega,xY hi' hn h2⟩,by show l.length-(i+1)<_;omega,by rw [al ⟨by omega,by omega⟩];rfl⟩
 ·have hil:i=l.length:=by omega
  subst hil
  rw [List.take_length] at hn
  simp [twice,hn]
end Go.Proofs.YtejpnabbmgpmaaaGreatDoor

namespace Go.Proofs.YtejpnabbmgpmaaaGreatDoor
open Go.Ab
theorem Fi (l:List EF):decide (0<(l.length:Int))=!l.isEmpty:=by cases l<;>simp<;>omega
theorem FD (s:List UInt8):decide (200<(s.length:Int))=!decide (s.length≤200):=by
 by_cases h:s.length≤200
 ·rw [decide_eq_true h,decide_eq_false (by omega)];rfl
 ·rw [decide_eq_false h,decide_eq_true (by omega)];rfl
theorem JF (m:Int):decide (m<1)=!decide (1≤m):=by
 by_cases h:1≤m
 ·rw [decide_eq_true h,decide_eq_false (by omega)];rfl
 ·rw [decide_eq_false h,decide_eq_true (by omega)];rfl
theorem Mq (m:Int):decide (7<m)=!decide (m≤7):=by
 by_cases h:m≤7
 ·rw [decide_eq_true h,decide_eq_false (by omega)];rfl
 ·rw [decide_eq_false h,decide_eq_true (by omega)];rfl
theorem tc (n:EN) (hp:0≤n.pos∧n.pos≤1048576) (hk:1≤n.k∧n.k≤14) :
  ar n=(!(decide (¬n.k=1) && decide (¬n.k=2) && decide (¬n.k=10) && decide (¬n.n=0) || decide (¬n.k=3) && !n.s == [] || decide (¬n.k=11) && decide (¬n.k=14) && decide (0<(n.l.length:Int)))
   && (!(!(decide (n.k=5) || decide (n.k=12) || decide (n.k=13) || decide (n.k=14)) && !(decide (n.k=6) || decide (n.k=7) || decide (n.k=8) || decide (n.k=10)) && decide (¬n.k=9) && decide (¬n.a=0) || !(decide (n.k=6) || decide (n.k=7) || decide (n.k=8) || decide (n.k=10)) && decide (¬n.k=9) && decide (¬n.b=0) || decide (¬n.k=9) && decide (¬n.c=0))
   && (!((decide (n.k=4) || decide (n.k=5) || decide (n.k=7) || decide (n.k=8) || decide (n.k=12)) && !bD n.name || decide (n.k=13) && !dQ n.name || !(decide (n.k=4) || decide (n.k=5) || decide (n.k=7) || decide (n.k=8) || decide (n.k=12)) && decide (¬n.k=13) && !n.name == [])
   && (!(decide (n.k=2) && decide (¬n.n=0) && decide (¬n.n=1) || decide (n.k=10) && (decide (n.n<1) || decide (7<n.n)) || decide (n.k=3) && decide (200<(n.s.length:Int)))
   && (decide (¬n.k=11) && decide (¬n.k=14) || bm n))))):=by
 have hr:ar n=(da n && bH n && bm n && ez n):=by
  unfold ar
  rw [decide_eq_true hk.1,decide_eq_true hk.2,decide_eq_true hp.1,decide_eq_true hp.2]
  simp
 have hk':n.k=1∨n.k=2∨n.k=3∨n.k=4∨n.k=5∨n.k=6∨n.k=7∨n.k=8∨n.k=9∨n.k=10∨n.k=11∨n.k=12∨n.k=13∨n.k=14:=by omega
 rw [hr,Fi,FD,JF,Mq]
 clear hr hk hp
 obtain ⟨k,a,b,c,m,nm,s,l,p⟩:=n
 simp only [kG] at hk' ⊢
 unfold da bH ez
 have hpt:∀ k,aw k=false→bm ⟨k,a,b,c,m,nm,s,l,p⟩=l.isEmpty:=fun k h=>by unfold bm;rw [h];rfl
 rcases hk' with rfl | rfl | rfl | rfl | rfl | rfl | rfl | rfl | rfl | rfl | rfl | rfl | rfl | rfl
 all_goals
  first | rw [hpt _ rfl] | skip
  try generalize bm _=y
  generalize s.isEmpty=b1
  generalize nm.isEmpty=b2
  try generalize l.isEmpty=b3
  try generalize bD nm=b4
  try generalize dQ nm=b5
  simp [aG]
  first | done | ac_rfl | (generalize decide (m=0)=d0;generalize decide (m=1)=d1;cases d0<;>cases d1<;>simp<;>ac_rfl) | (generalize decide (1≤m)=d0;generalize decide (m≤7)=d1;cases d0<;>cases d1<;>simp<;>ac_rfl)
end Go.Proofs.YtejpnabbmgpmaaaGreatDoor

namespace Go.Proofs.YtejpnabbmgpmaaaGreatDoor
open Go.Ab
theorem rM {P:Program} {cf:Cf} {Φ:Exit→Act→World→Prop} {I:Base→List Deferred→Prop} {k:List It} {s:St} (fr:List (Nat × AV)) (hp:List (Name × Ob)) (u:List Nat) (hle:LeL cf.U id s fr hp u) (h:ARY P cf Φ I k (mk fr hp u)):ARY P cf Φ I k s:=by
 intro B hB ds β a w hds hI hs
 obtain ⟨β2,hs2,_⟩:=hs.le (τ:=id) (by rw [hB.2.1];exact hle.le)
 exact h B hB ds β2 a w hds hI hs2
theorem Gj {G} (n:EN) (h:¬ (1≤n.k∧n.k≤14∧0≤n.pos∧n.pos≤1048576)):HP Tryz.prog G 30 [enD n] (fun r=>r=.d (.bool (ar n))):=by
 have:(decide (1≤n.k) && decide (n.k≤14) && decide (0≤n.pos) && decide (n.pos≤1048576))=false:=by
  rw [Bool.eq_false_iff]
  intro hc
  simp only [Bool.and_eq_true,decide_eq_true_eq] at hc
  omega
 have hr:ar n=false:=by rw [ar,this,Bool.false_and]
 rw [hr]
 unfold enD efD
 refine an Tryz.func30 rfl (by decide +kernel) (by simp [Tryz.ntmps30]) (veil fun E=>?_)
 simp only [go_sem]
 repeat (first
  | (apply cq E;(· simp only [go_sem]);(· intro h;(try simp only [bq] at h);simp only [↓h,go_sem];rfl);simp only [go_sem])
  | (apply bl E;(· simp only [go_sem]);(· intro h;(try simp only [bq] at h);simp only [↓h,go_sem];rfl);(· intro h;(try simp only [bq] at h);simp only [↓h,go_sem];rfl);simp only [go_sem])
  | (apply bj E;(· simp only [go_sem]);(· rfl);(· intro h h';(try simp only [bq] at h h');simp only [↓h,↓h',go_sem];rfl);simp only [go_sem])
  | (apply aQ E;(· simp only [go_sem]);(· rfl);(· intro h h';(try simp only [bq] at h h');simp only [↓h,↓h',go_sem];rfl);(· intro h h';(try simp only [bq] at h h');simp only [↓h,↓h',go_sem];rfl);simp only [go_sem])
  | (apply b9 E;(· decide);simp only [go_sem]))
 refine aV E (fun _=>?_) (fun g=>absurd ?_ h)
 ·simp only [go_sem]
 ·simp only [Bool.or_eq_false_iff,decide_eq_false_iff_not] at g
  omega
set_option maxRecDepth 10000 in
set_option maxHeartbeats 4000000 in
theorem IT {G} (n:EN) (h:n.name.length≤BIG) (hp:0≤n.pos∧n.pos≤1048576) (hk:1≤n.k∧n.k≤14) (c3:n.k=11∨n.k=14→HP Tryz.prog G 67 [enD n] (fun r=>r=.d (.bool (bm n)))) :
  HP Tryz.prog G 30 [enD n] (fun r=>r=.d (.bool (ar n))):=by
 have c1:=wB (G:=G) n.name h
 have c2:=EJ (G:=G) n.name h
 have hP:=tc n hp hk
 unfold enD efD at *
 refine mN Tryz.func30 rfl (by decide +kernel) (by simp [Tryz.ntmps30]) fun B0 hB0=>?_
 refine aZ (aC fun E=>?_)
 simp only [go_sem]
 refine aZ (aC fun E=>?_)
 simp only [go_sem]
 repeat (first
  | (apply cq E;(· simp only [go_sem]);(· intro h;(try simp only [bq] at h);simp only [↓h,go_sem];rfl);simp only [go_sem])
  | (apply bl E;(· simp only [go_sem]);(· intro h;(try simp only [bq] at h);simp only [↓h,go_sem];rfl);(· intro h;(try simp only [bq] at h);simp only [↓h,go_sem];rfl);simp only [go_sem])
  | (apply bj E;(· simp only [go_sem]);(· rfl);(· intro h h';(try simp only [bq] at h h');simp only [↓h,↓h',go_sem];rfl);simp only [go_sem])
  | (apply aQ E;(· simp only [go_sem]);(· rfl);(· intro h h';(try simp only [bq] at h h');simp only [↓h,↓h',go_sem];rfl);(· intro h h';(try simp only [bq] at h h');simp only [↓h,↓h',go_sem];rfl);simp only [go_sem])
  | (apply b9 E;(· decide);simp only [go_sem]))
 refine aV E (fun g=>absurd (show n.pos<0∨1048576<n.pos∨n.k<1∨14<n.k by simpa [or_assoc] using g) (by omega)) (fun _=>?_)
 simp only [go_sem]
 refine rM [(1,.bx [1] 0),(2,.d (.bool false))] [([1],.box [.d (i64 n.k),.d (i64 n.a),.d (i64 n.b),.d (i64 n.c),.d (i64 n.n),.d (.str n.name),.d (.str n.s),.d (.sl (some 3) (n.l.map fD)),.d (i64 n.pos)])] [1] (by simp only [go_sem]) ?_
 refine aZ (aC fun E=>?_)
 simp only [go_sem]
 refine rM [(1,.bx [1] 0),(2,.d (.bool false)),(3,.d (i64 n.k))] [([1],.box [.d (i64 n.k),.d (i64 n.a),.d (i64 n.b),.d (i64 n.c),.d (i64 n.n),.d (.str n.name),.d (.str n.s),.d (.sl (some 3) (n.l.map fD)),.d (i64 n.pos)])] [1] (by simp only [go_sem]) ?_
 refine aZ (aC fun E=>?_)
 simp only [go_sem]
 repeat (first
  | (apply cq E;(· simp only [go_sem]);(· intro h;(try simp only [bq] at h);simp only [↓h,go_sem];rfl);simp only [go_sem])
  | (apply bl E;(· simp only [go_sem]);(· intro h;(try simp only [bq] at h);simp only [↓h,go_sem];rfl);(· intro h;(try simp only [bq] at h);simp only [↓h,go_sem];rfl);simp only [go_sem])
  | (apply bj E;(· simp only [go_sem]);(· rfl);(· intro h h';(try simp only [bq] at h h');simp only [↓h,↓h',go_sem];rfl);simp only [go_sem])
  | (apply aQ E;(· simp only [go_sem]);(· rfl);(· intro h h';(try simp only [bq] at h h');simp only [↓h,↓h',go_sem];rfl);(· intro h h';(try simp only [bq] at h h');simp only [↓h,↓h',go_sem];rfl);simp only [go_sem])
  | (apply b9 E;(· decide);simp only [go_sem]))
 refine aV E (fun g=>?_) (fun g=>?_)
 ·simp only [go_sem]
  refine iA (.inl rfl) hB0 ?_
  simp only [go_sem]
  refine ⟨[],?_⟩
  simp only [go_sem]
  rw [hP,g];simp
 simp only [go_sem]
 refine rM [(1,.bx [1] 0),(2,.d (.bool false)),(3,.d (i64 n.k))] [([1],.box [.d (i64 n.k),.d (i64 n.a),.d (i64 n.b),.d (i64 n.c),.d (i64 n.n),.d (.str n.name),.d (.str n.s),.d (.sl (some 3) (n.l.map fD)),.d (i64 n.pos)])] [1] (by simp only [go_sem]) ?_
 refine aZ (aC fun E=>?_)
 simp only [go_sem]
 repeat (first
  | (apply cq E;(· simp only [go_sem]);(· intro h;(try simp only [bq] at h);simp only [↓h,go_sem];rfl);simp only [go_sem])
  | (apply bl E;(· simp only [go_sem]);(· intro h;(try simp only [bq] at h);simp only [↓h,go_sem];rfl);(· intro h;(try simp only [bq] at h);simp only [↓h,go_sem];rfl);simp only [go_sem])
  | (apply bj E;(· simp only [go_sem]);(· rfl);(· intro h h';(try simp only [bq] at h h');simp only [↓h,↓h',go_sem];rfl);simp only [go_sem])
  | (apply aQ E;(· simp only [go_sem]);(· rfl);(· intro h h';(try simp only [bq] at h h');simp only [↓h,↓h',go_sem];rfl);(· intro h h';(try simp only [bq] at h h');simp only [↓h,↓h',go_sem];rfl);simp only [go_sem])
  | (apply b9 E;(· decide);simp only [go_sem]))
 refine rM [(1,.bx [1] 0),(2,.d (.bool false)),(3,.d (i64 n.k)),(4,.d (.bool (decide (n.k=5) || decide (n.k=12) || decide (n.k=13) || decide (n.k=14))))] [([1],.box [.d (i64 n.k),.d (i64 n.a),.d (i64 n.b),.d (i64 n.c),.d (i64 n.n),.d (.str n.name),.d (.str n.s),.d (.sl (some 3) (n.l.map fD)),.d (i64 n.pos)])] [1] (by simp only [go_sem]) ?_
 refine aZ (aC fun E=>?_)
 simp only [go_sem]
 repeat (first
  | (apply cq E;(· simp only [go_sem]);(· intro h;(try simp only [bq] at h);simp only [↓h,go_sem];rfl);simp only [go_sem])
  | (apply bl E;(· simp only [go_sem]);(· intro h;(try simp only [bq] at h);simp only [↓h,go_sem];rfl);(· intro h;(try simp only [bq] at h);simp only [↓h,go_sem];rfl);simp only [go_sem])
  | (apply bj E;(· simp only [go_sem]);(· rfl);(· intro h h';(try simp only [bq] at h h');simp only [↓h,↓h',go_sem];rfl);simp only [go_sem])
  | (apply aQ E;(· simp only [go_sem]);(· rfl);(· intro h h';(try simp only [bq] at h h');simp only [↓h,↓h',go_sem];rfl);(· intro h h';(try simp only [bq] at h h');simp only [↓h,↓h',go_sem];rfl);simp only [go_sem])
  | (apply b9 E;(· decide);simp only [go_sem]))
 obtain ⟨one,h1⟩:∃ b,b=(decide (n.k=5) || decide (n.k=12) || decide (n.k=13) || decide (n.k=14)):=⟨_,rfl⟩
 obtain ⟨two,h2⟩:∃ b,b=(decide (n.k=6) || decide (n.k=7) || decide (n.k=8) || decide (n.k=10)):=⟨_,rfl⟩
 refine rM [(1,.bx [1] 0),(2,.d (.bool false)),(3,.d (i64 n.k)),(4,.d (.bool (decide (n.k=5) || decide (n.k=12) || decide (n.k=13) || decide (n.k=14)))),(5,.d (.bool (decide (n.k=6) || decide (n.k=7) || decide (n.k=8) || decide (n.k=10))))] [([1],.box [.d (i64 n.k),.d (i64 n.a),.d (i64 n.b),.d (i64 n.c),.d (i64 n.n),.d (.str n.name),.d (.str n.s),.d (.sl (some 3) (n.l.map fD)),.d (i64 n.pos)])] [1] (by simp only [go_sem]) ?_
 rw [← h1,← h2]
 refine aZ (aC fun E=>?_)
 simp only [go_sem]
 repeat (first
  | (apply cq E;(· simp only [go_sem]);(· intro h;(try simp only [bq] at h);simp only [↓h,go_sem];rfl);simp only [go_sem])
  | (apply bl E;(· simp only [go_sem]);(· intro h;(try simp only [bq] at h);simp only [↓h,go_sem];rfl);(· intro h;(try simp only [bq] at h);simp only [↓h,go_sem];rfl);simp only [go_sem])
  | (apply bj E;(· simp only [go_sem]);(· rfl);(· intro h h';(try simp only [bq] at h h');simp only [↓h,↓h',go_sem];rfl);simp only [go_sem])
  | (apply aQ E;(· simp only [go_sem]);(· rfl);(· intro h h';(try simp only [bq] at h h');simp only [↓h,↓h',go_sem];rfl);(· intro h h';(try simp only [bq] at h h');simp only [↓h,↓h',go_sem];rfl);simp only [go_sem])
  | (apply b9 E;(· decide);simp only [go_sem]))
 refine aV E (fun g3=>?_) (fun g3=>?_)
 ·simp only [go_sem]
  refine iA (.inl rfl) hB0 ?_
  simp only [go_sem]
  refine ⟨[],?_⟩
  simp only [go_sem]
  rw [hP,← h1,← h2,g3];simp
 simp only [go_sem]
 refine rM [(1,.bx [1] 0),(2,.d (.bool false)),(3,.d (i64 n.k))] [([1],.box [.d (i64 n.k),.d (i64 n.a),.d (i64 n.b),.d (i64 n.c),.d (i64 n.n),.d (.str n.name),.d (.str n.s),.d (.sl (some 3) (n.l.map fD)),.d (i64 n.pos)])] [1] (by simp only [go_sem]) ?_
 refine aZ (aC fun E=>?_)
 simp only [go_sem]
 repeat (first
  | (apply cq E;(· simp only [go_sem]);(· intro h;(try simp only [bq] at h);simp only [↓h,go_sem];rfl);simp only [go_sem])
  | (apply bl E;(· simp only [go_sem]);(· intro h;(try simp only [bq] at h);simp only [↓h,go_sem];rfl);(· intro h;(try simp only [bq] at h);simp only [↓h,go_sem];rfl);simp only [go_sem])
  | (apply bj E;(· simp only [go_sem]);(· rfl);(· intro h h';(try simp only [bq] at h h');simp only [↓h,↓h',go_sem];rfl);simp only [go_sem])
  | (apply aQ E;(· simp only [go_sem]);(· rfl);(· intro h h';(try simp only [bq] at h h');simp only [↓h,↓h',go_sem];rfl);(· intro h h';(try simp only [bq] at h h');simp only [↓h,↓h',go_sem];rfl);simp only [go_sem])
  | (apply b9 E;(· decide);simp only [go_sem]))
 obtain ⟨six,h6⟩:∃ b,b=(decide (n.k=4) || decide (n.k=5) || decide (n.k=7) || decide (n.k=8) || decide (n.k=12)):=⟨_,rfl⟩
 refine rM [(1,.bx [1] 0),(2,.d (.bool false)),(3,.d (i64 n.k)),(6,.d (.bool (decide (n.k=4) || decide (n.k=5) || decide (n.k=7) || decide (n.k=8) || decide (n.k=12))))] [([1],.box [.d (i64 n.k),.d (i64 n.a),.d (i64 n.b),.d (i64 n.c),.d (i64 n.n),.d (.str n.name),.d (.str n.s),.d (.sl (some 3) (n.l.map fD)),.d (i64 n.pos)])] [1] (by simp only [go_sem]) ?_
 rw [← h6]
 refine aZ (aC fun E=>?_)
 simp only [go_sem]
 repeat (first
  | (apply cq E;(· simp only [go_sem]);(· intro h;(try simp only [bq] at h);simp only [↓h,go_sem];rfl);simp only [go_sem])
  | (apply bl E;(· simp only [go_sem]);(· intro h;(try simp only [bq] at h);simp only [↓h,go_sem];rfl);(· intro h;(try simp only [bq] at h);simp only [↓h,go_sem];rfl);simp only [go_sem])
  | (apply bj E;(· simp only [go_sem]);(· rfl);(· intro h h';(try simp only [bq] at h h');simp only [↓h,↓h',go_sem];rfl);simp only [go_sem])
  | (apply aQ E;(· simp only [go_sem]);(· rfl);(· intro h h';(try simp only [bq] at h h');simp only [↓h,↓h',go_sem];rfl);(· intro h h';(try simp only [bq] at h h');simp only [↓h,↓h',go_sem];rfl);simp only [go_sem])
  | (apply b9 E;(· decide);simp only [go_sem]))
 (first | (apply iD E;(· simp only [go_sem]);(· intro h hk;(try simp only [bq] at h);refine ae E (c1) rfl (by simp only [↓h,go_sem]<;>rfl) (by simp) ?_;rintro _ rfl;exact hk);simp only [go_sem]) | (apply fE E;(· simp only [go_sem]);(· rfl);(· intro h h' hk;(try simp only [bq] at h h');refine ae E (c1) rfl (by simp only [↓h,↓h',go_sem]<;>rfl) (by simp) ?_;rintro _ rfl;exact hk);simp only [go_sem]))
 repeat (first
  | (apply cq E;(· simp only [go_sem]);(· intro h;(try simp only [bq] at h);simp only [↓h,go_sem];rfl);simp only [go_sem])
  | (apply bl E;(· simp only [go_sem]);(· intro h;(try simp only [bq] at h);simp only [↓h,go_sem];rfl);(· intro h;(try simp only [bq] at h);simp only [↓h,go_sem];rfl);simp only [go_sem])
  | (apply bj E;(· simp only [go_sem]);(· rfl);(· intro h h';(try simp only [bq] at h h');simp only [↓h,↓h',go_sem];rfl);simp only [go_sem])
  | (apply aQ E;(· simp only [go_sem]);(· rfl);(· intro h h';(try simp only [bq] at h h');simp only [↓h,↓h',go_sem];rfl);(· intro h h';(try simp only [bq] at h h');simp only [↓h,↓h',go_sem];rfl);simp only [go_sem])
  | (apply b9 E;(· decide);simp only [go_sem]))
 (first | (apply iD E;(· simp only [go_sem]);(· intro h hk;(try simp only [bq] at h);refine ae E (c2) rfl (by simp only [↓h,go_sem]<;>rfl) (by simp) ?_;rintro _ rfl;exact hk);simp only [go_sem]) | (apply fE E;(· simp only [go_sem]);(· rfl);(· intro h h' hk;(try simp only [bq] at h h');refine ae E (c2) rfl (by simp only [↓h,↓h',go_sem]<;>rfl) (by simp) ?_;rintro _ rfl;exact hk);simp only [go_sem]))
 repeat (first
  | (apply cq E;(· simp only [go_sem]);(· intro h;(try simp only [bq] at h);simp only [↓h,go_sem];rfl);simp only [go_sem])
  | (apply bl E;(· simp only [go_sem]);(· intro h;(try simp only [bq] at h);simp only [↓h,go_sem];rfl);(· intro h;(try simp only [bq] at h);simp only [↓h,go_sem];rfl);simp only [go_sem])
  | (apply bj E;(· simp only [go_sem]);(· rfl);(· intro h h';(try simp only [bq] at h h');simp only [↓h,↓h',go_sem];rfl);simp only [go_sem])
  | (apply aQ E;(· simp only [go_sem]);(· rfl);(· intro h h';(try simp only [bq] at h h');simp only [↓h,↓h',go_sem];rfl);(· intro h h';(try simp only [bq] at h h');simp only [↓h,↓h',go_sem];rfl);simp only [go_sem])
  | (apply b9 E;(· decide);simp only [go_sem]))
 refine aV E (fun g4=>?_) (fun g4=>?_)
 ·simp only [go_sem]
  refine iA (.inl rfl) hB0 ?_
  simp only [go_sem]
  refine ⟨[],?_⟩
  simp only [go_sem]
  rw [hP,← h6,g4];simp
 simp only [go_sem]
 refine rM [(1,.bx [1] 0),(2,.d (.bool false)),(3,.d (i64 n.k))] [([1],.box [.d (i64 n.k),.d (i64 n.a),.d (i64 n.b),.d (i64 n.c),.d (i64 n.n),.d (.str n.name),.d (.str n.s),.d (.sl (some 3) (n.l.map fD)),.d (i64 n.pos)])] [1] (by simp only [go_sem]) ?_
 refine aZ (aC fun E=>?_)
 simp only [go_sem]
 repeat (first
  | (apply cq E;(· simp only [go_sem]);(· intro h;(try simp only [bq] at h);simp only [↓h,go_sem];rfl);simp only [go_sem])
  | (apply bl E;(· simp only [go_sem]);(· intro h;(try simp only [bq] at h);simp only [↓h,go_sem];rfl);(· intro h;(try simp only [bq] at h);simp only [↓h,go_sem];rfl);simp only [go_sem])
  | (apply bj E;(· simp only [go_sem]);(· rfl);(· intro h h';(try simp only [bq] at h h');simp only [↓h,↓h',go_sem];rfl);simp only [go_sem])
  | (apply aQ E;(· simp only [go_sem]);(· rfl);(· intro h h';(try simp only [bq] at h h');simp only [↓h,↓h',go_sem];rfl);(· intro h h';(try simp only [bq] at h h');simp only [↓h,↓h',go_sem];rfl);simp only [go_sem])
  | (apply b9 E;(· decide);simp only [go_sem]))
 refine aV E (fun g5=>?_) (fun g5=>?_)
 ·simp only [go_sem]
  refine iA (.inl rfl) hB0 ?_
  simp only [go_sem]
  refine ⟨[],?_⟩
  simp only [go_sem]
  rw [hP,g5];simp
 simp only [go_sem]
 refine rM [(1,.bx [1] 0),(2,.d (.bool false)),(3,.d (i64 n.k))] [([1],.box [.d (i64 n.k),.d (i64 n.a),.d (i64 n.b),.d (i64 n.c),.d (i64 n.n),.d (.str n.name),.d (.str n.s),.d (.sl (some 3) (n.l.map fD)),.d (i64 n.pos)])] [1] (by simp only [go_sem]) ?_
 refine aC fun E=>?_
 simp only [go_sem]
 repeat (first
  | (apply cq E;(· simp only [go_sem]);(· intro h;(try simp only [bq] at h);simp only [↓h,go_sem];rfl);simp only [go_sem])
  | (apply bl E;(· simp only [go_sem]);(· intro h;(try simp only [bq] at h);simp only [↓h,go_sem];rfl);(· intro h;(try simp only [bq] at h);simp only [↓h,go_sem];rfl);simp only [go_sem])
  | (apply bj E;(· simp only [go_sem]);(· rfl);(· intro h h';(try simp only [bq] at h h');simp only [↓h,↓h',go_sem];rfl);simp only [go_sem])
  | (apply aQ E;(· simp only [go_sem]);(· rfl);(· intro h h';(try simp only [bq] at h h');simp only [↓h,↓h',go_sem];rfl);(· intro h h';(try simp only [bq] at h h');simp only [↓h,↓h',go_sem];rfl);simp only [go_sem])
  | (apply b9 E;(· decide);simp only [go_sem]))
 rw [← h1,← h2,← h6,g,g3,g4,g5] at hP
 simp only [Bool.not_false,Bool.true_and] at hP
 refine ct E (fun k1=>?_) (fun k1=>?_)
 ·simp only [go_sem]
  refine iA (.inl rfl) hB0 ?_
  simp only [go_sem]
  refine ⟨[],?_⟩
  simp only [go_sem]
  rw [hP,k1,Bool.true_or]
 ·have k2:n.k=11∨n.k=14:=by
   rw [Bool.and_eq_false_iff] at k1
   simpa using k1
  rw [k1,Bool.false_or] at hP
  have c4:=c3 k2
  generalize bm n=y at c4 hP
  simp only [go_sem]
  refine ae E c4 rfl (by (simp only [↓k1,go_sem])<;>rfl) (by simp) ?_
  rintro _ rfl
  simp only [go_sem]
  refine iA (.inl rfl) hB0 ?_
  simp only [go_sem]
  refine ⟨[],?_⟩
  simp only [go_sem]
  rw [hP]
end Go.Proofs.YtejpnabbmgpmaaaGreatDoor

namespace Go.Proofs.YtejpnabbmgpmaaaGreatDoor
open Go.Ab
theorem vr {k:Int} {f:EF} (hk:k=11∨k=14):(decide (k=11) && (!bD f.nm || !f.var == []) || decide (k=14) && (!dQ f.nm || !bD f.var))=!dG k f:=by
 unfold dG
 rw [kG]
 rcases hk with rfl | rfl<;>simp
theorem Dr {p:EF→Bool} {l:List EF} {i:Nat} (h:i<l.length) (hb:p l[i]=false):l.all p=false:=List.all_eq_false.2 ⟨_,List.getElem_mem h,by rw [hb];decide⟩
set_option maxHeartbeats 4000000 in
theorem J7 {G} (n:EN) (h:eY BIG n) (hk:n.k=11∨n.k=14):HP Tryz.prog G 67 [enD n] (fun r=>r=.d (.bool (bm n))):=by
 have hpz:aw n.k=true:=by rcases hk with e | e<;>rw [e]<;>rfl
 generalize hb:bm n=b
 unfold bm at hb
 rw [if_pos hpz] at hb
 have hl:=h.l
 unfold enD efD
 refine an Tryz.func67 rfl (by decide +kernel) (by simp [Tryz.ntmps67]) (veil fun E=>?_)
 simp only [go_sem]
 refine aU E (X:={ i:Nat // i≤n.l.length∧(n.l.take i).all (dG n.k)=true }) (fun x=>[(1,.bx [1] 0),(3,.vw [6] 0 x.1),(4,.d (i64 x.1))])
  (fun x=>[([1],.box [.d (i64 n.k),.d (i64 n.a),.d (i64 n.b),.d (i64 n.c),.d (i64 n.n),.d (.str n.name),.d (.str n.s),.d (.sl (some 3) (n.l.map fD)),.d (i64 n.pos)]),([6],.arr none ((n.l.take x.1).map fun f=>.str f.nm))]) [1,6] (fun x=>n.l.length-x.1) ⟨0,by simp⟩ id ?_ ?_
 ·simp only [go_sem]
  all_goals rfl
 rintro ⟨i,hi,hall⟩ E0
 refine bk E0 fun Q' hQ E'=>?_
 simp only at hi hall ⊢
 simp only [go_sem]
 refine ai E' (fun g1=>?_) (fun g1=>?_)<;>simp only [go_sem]
 ·have hi':i<n.l.length:=by omega
  refine ⟨by omega,?_⟩
  rw [ry hi']
  simp only [go_sem]
  obtain ⟨q1,q2⟩:=h.f _ (List.getElem_mem hi')
  obtain ⟨f,hf⟩:∃ f,f=n.l[i]:=⟨_,rfl⟩
  have hst:=pW (p:=dG n.k) hi' hall
  have hno:=Dr (p:=dG n.k) hi'
  have hts:(n.l.take (i+1)).map (fun f:EF=>D.str f.nm)=(n.l.take i).map (fun f:EF=>D.str f.nm)++[.str f.nm]:=by
   rw [List.take_succ_eq_append_getElem hi',List.map_append,← hf];rfl
  rw [← hf] at q1 q2 hst hno ⊢
  have c1:=wB (G:=G) f.nm q1
  have c2:=EJ (G:=G) f.nm q1
  have c3:=wB (G:=G) f.var q2
  repeat (first
   | (apply cq E';(· simp only [go_sem]);(· intro h;(try simp only [bq] at h);simp only [↓h,go_sem];rfl);simp only [go_sem])
   | (apply bl E';(· simp only [go_sem]);(· intro h;(try simp only [bq] at h);simp only [↓h,go_sem];rfl);(· intro h;(try simp only [bq] at h);simp only [↓h,go_sem];rfl);simp only [go_sem])
   | (apply bj E';(· simp only [go_sem]);(· rfl);(· intro h h';(try simp only [bq] at h h');simp only [↓h,↓h',go_sem];rfl);simp only [go_sem])
   | (apply aQ E';(· simp only [go_sem]);(· rfl);(· intro h h';(try simp only [bq] at h h');simp only [↓h,↓h',go_sem];rfl);(· intro h h';(try simp only [bq] at h h');simp only [↓h,↓h',go_sem];rfl);simp only [go_sem])
   | (apply b9 E';(· decide);simp only [go_sem]))
  (first | (apply iD E';(· simp only [go_sem]);(· intro h hk;(try simp only [bq] at h);refine ae E' (c1) rfl (by simp only [↓h,go_sem]<;>rfl) (by simp) ?_;rintro _ rfl;exact hk);simp only [go_sem]) | (apply fE E';(· simp only [go_sem]);(· rfl);(· intro h h' hk;(try simp only [bq] at h h');refine ae E' (c1) rfl (by simp only [↓h,↓h',go_sem]<;>rfl) (by simp) ?_;rintro _ rfl;exact hk);simp only [go_sem]))
  repeat (first
   | (apply cq E';(· simp only [go_sem]);(· intro h;(try simp only [bq] at h);simp only [↓h,go_sem];rfl);simp only [go_sem])
   | (apply bl E';(· simp only [go_sem]);(· intro h;(try simp only [bq] at h);simp only [↓h,go_sem];rfl);(· intro h;(try simp only [bq] at h);simp only [↓h,go_sem];rfl);simp only [go_sem])
   | (apply bj E';(· simp only [go_sem]);(· rfl);(· intro h h';(try simp only [bq] at h h');simp only [↓h,↓h',go_sem];rfl);simp only [go_sem])
   | (apply aQ E';(· simp only [go_sem]);(· rfl);(· intro h h';(try simp only [bq] at h h');simp only [↓h,↓h',go_sem];rfl);(· intro h h';(try simp only [bq] at h h');simp only [↓h,↓h',go_sem];rfl);simp only [go_sem])
   | (apply b9 E';(· decide);simp only [go_sem]))
  (first | (apply iD E';(· simp only [go_sem]);(· intro h hk;(try simp only [bq] at h);refine ae E' (c2) rfl (by simp only [↓h,go_sem]<;>rfl) (by simp) ?_;rintro _ rfl;exact hk);simp only [go_sem]) | (apply fE E';(· simp only [go_sem]);(· rfl);(· intro h h' hk;(try simp only [bq] at h h');refine ae E' (c2) rfl (by simp only [↓h,↓h',go_sem]<;>rfl) (by simp) ?_;rintro _ rfl;exact hk);simp only [go_sem]))
  repeat (first
   | (apply cq E';(· simp only [go_sem]);(· intro h;(try simp only [bq] at h);simp only [↓h,go_sem];rfl);simp only [go_sem])
   | (apply bl E';(· simp only [go_sem]);(· intro h;(try simp only [bq] at h);simp only [↓h,go_sem];rfl);(· intro h;(try simp only [bq] at h);simp only [↓h,go_sem];rfl);simp only [go_sem])
   | (apply bj E';(· simp only [go_sem]);(· rfl);(· intro h h';(try simp only [bq] at h h');simp only [↓h,↓h',go_sem];rfl);simp only [go_sem])
   | (apply aQ E';(· simp only [go_sem]);(· rfl);(· intro h h';(try simp only [bq] at h h');simp only [↓h,↓h',go_sem];rfl);(· intro h h';(try simp only [bq] at h h');simp only [↓h,↓h',go_sem];rfl);simp only [go_sem])
   | (apply b9 E';(· decide);simp only [go_sem]))
  (first | (apply iD E';(· simp only [go_sem]);(· intro h hk;(try simp only [bq] at h);refine ae E' (c3) rfl (by simp only [↓h,go_sem]<;>rfl) (by simp) ?_;rintro _ rfl;exact hk);simp only [go_sem]) | (apply fE E';(· simp only [go_sem]);(· rfl);(· intro h h' hk;(try simp only [bq] at h h');refine ae E' (c3) rfl (by simp only [↓h,↓h',go_sem]<;>rfl) (by simp) ?_;rintro _ rfl;exact hk);simp only [go_sem]))
  repeat (first
   | (apply cq E';(· simp only [go_sem]);(· intro h;(try simp only [bq] at h);simp only [↓h,go_sem];rfl);simp only [go_sem])
   | (apply bl E';(· simp only [go_sem]);(· intro h;(try simp only [bq] at h);simp only [↓h,go_sem];rfl);(· intro h;(try simp only [bq] at h);simp only [↓h,go_sem];rfl);simp only [go_sem])
   | (apply bj E';(· simp only [go_sem]);(· rfl);(· intro h h';(try simp only [bq] at h h');simp only [↓h,↓h',go_sem];rfl);simp only [go_sem])
   | (apply aQ E';(· simp only [go_sem]);(· rfl);(· intro h h';(try simp only [bq] at h h');simp only [↓h,↓h',go_sem];rfl);(· intro h h';(try simp only [bq] at h h');simp only [↓h,↓h',go_sem];rfl);simp only [go_sem])
   | (apply b9 E';(· decide);simp only [go_sem]))
  refine aV E' (fun g2=>?_) (fun g2=>?_)
  ·simp only [go_sem]
   rw [hQ]
   simp only [go_sem]
   rw [vr hk] at g2
   rw [hno (by simpa using g2),Bool.false_and] at hb
   rw [← hb]
  ·simp only [go_sem]
   rw [vr hk] at g2
   refine ⟨by omega,?_⟩
   rw [al ⟨by omega,by omega⟩,List.take_of_length_le (l:=List.map (fun f:EF=>D.str f.nm) _) (by simp;omega),← hts]
   rw [hQ]
   simp only [go_sem]
   refine ⟨⟨i+1,by omega,hst (by simpa using g2)⟩,by show n.l.length-(i+1)<_;omega,tau [([6],[54])],?_⟩
   simp only [go_sem]
   all_goals rfl
 ·rw [hQ]
  have h3:i=n.l.length:=by omega
  subst h3
  rw [List.take_length] at *
  rw [hall,Bool.true_and] at hb
  simp only [go_sem]
  repeat (first
   | (apply cq E;(· simp only [go_sem]);(· intro h;(try simp only [bq] at h);simp only [↓h,go_sem];rfl);simp only [go_sem])
   | (apply bl E;(· simp only [go_sem]);(· intro h;(try simp only [bq] at h);simp only [↓h,go_sem];rfl);(· intro h;(try simp only [bq] at h);simp only [↓h,go_sem];rfl);simp only [go_sem])
   | (apply bj E;(· simp only [go_sem]);(· rfl);(· intro h h';(try simp only [bq] at h h');simp only [↓h,↓h',go_sem];rfl);simp only [go_sem])
   | (apply aQ E;(· simp only [go_sem]);(· rfl);(· intro h h';(try simp only [bq] at h h');simp only [↓h,↓h',go_sem];rfl);(· intro h h';(try simp only [bq] at h h');simp only [↓h,↓h',go_sem];rfl);simp only [go_sem])
   | (apply b9 E;(· decide);simp only [go_sem]))
  refine ct E (fun k3=>?_) (fun k3=>?_)<;>simp only [go_sem]
  ·have ht:=JW (G:=G) (n.l.map (·.nm)) (by rw [List.length_map];exact hl)
   unfold strs at ht
   rw [List.map_map,show (D.str ∘ fun f:EF=>f.nm)=fun f=>D.str f.nm from rfl] at ht
   rw [ir,ir]
   refine mI E [([6],none,n.l.map fun f=>.str f.nm)] ht (by rintro _ rfl;rfl) (by simp only [go_sem]) rfl (by (simp only [↓k3,go_sem])<;>first | rfl | done) (by simp) ?_
   rintro _ rfl
   simp only [go_sem]
   repeat (first
    | (apply cq E;(· simp only [go_sem]);(· intro h;(try simp only [bq] at h);simp only [↓h,go_sem];rfl);simp only [go_sem])
    | (apply bl E;(· simp only [go_sem]);(· intro h;(try simp only [bq] at h);simp only [↓h,go_sem];rfl);(· intro h;(try simp only [bq] at h);simp only [↓h,go_sem];rfl);simp only [go_sem])
    | (apply bj E;(· simp only [go_sem]);(· rfl);(· intro h h';(try simp only [bq] at h h');simp only [↓h,↓h',go_sem];rfl);simp only [go_sem])
    | (apply aQ E;(· simp only [go_sem]);(· rfl);(· intro h h';(try simp only [bq] at h h');simp only [↓h,↓h',go_sem];rfl);(· intro h h';(try simp only [bq] at h h');simp only [↓h,↓h',go_sem];rfl);simp only [go_sem])
    | (apply b9 E;(· decide);simp only [go_sem]))
   rw [← hb,show (decide ((if n.k=14 then 1 else 0)≤n.l.length) && decide (n.l.length≤30))=true by
    simp only [Bool.and_eq_true,Bool.or_eq_true,decide_eq_true_eq] at k3 ⊢
    refine ⟨?_,by omega⟩
    split<;>omega,Bool.true_and]
   simp [twice]
  ·rw [← hb,show (decide ((if n.k=14 then 1 else 0)≤n.l.length) && decide (n.l.length≤30))=false by
    rw [Bool.eq_false_iff] at k3 ⊢
    intro hc
    apply k3
    simp only [Bool.and_eq_true,Bool.or_eq_true,decide_eq_true_eq] at hc ⊢
    refine ⟨by omega,?_⟩
    rcases hk with e | e
    ·exact .inl e
    ·rw [if_pos e] at hc;exact .inr (by omega),Bool.false_and]
theorem IU {G} (n:EN) (h:eY BIG n):HP Tryz.prog G 30 [enD n] (fun r=>r=.d (.bool (ar n))):=by
 by_cases g:1≤n.k∧n.k≤14∧0≤n.pos∧n.pos≤1048576
 ·exact IT n h.nm g.2.2 ⟨g.1,g.2.1⟩ (J7 n h)
 ·exact Gj n g
end Go.Proofs.YtejpnabbmgpmaaaGreatDoor

namespace Go.Proofs.YtejpnabbmgpmaaaGreatDoor
open Go.Ab
set_option maxHeartbeats 1000000 in
theorem vI {G} (n:EN) (hl:n.l.length≤1000000):HP Tryz.prog G 31 [enD n] (fun r=>r=.d (.sl none ((aj n).map i64))):=by
 obtain ⟨k,a,b,c,m,nm,s,l,p⟩:=n
 simp only at hl
 have hk:k=5∨k=12∨k=13∨k=6∨k=7∨k=8∨k=10∨k=9∨k=14∨k=11∨¬ (k=5∨k=12∨k=13∨k=6∨k=7∨k=8∨k=10∨k=9∨k=14∨k=11):=by omega
 unfold enD efD
 rcases hk with rfl | rfl | rfl | rfl | rfl | rfl | rfl | rfl | rfl | rfl | hk
 iterate 3
  ·refine bR Tryz.func31 rfl (by decide +kernel) (by simp [Tryz.ntmps31]) (veil fun E=>?_)
   simp only [go_sem]
   refine ⟨[([14],none,[i64 a])],?_⟩
   simp only [go_sem]
   try rfl
 iterate 4
  ·refine bR Tryz.func31 rfl (by decide +kernel) (by simp [Tryz.ntmps31]) (veil fun E=>?_)
   simp only [go_sem]
   refine ⟨[([24],none,[i64 a,i64 b])],?_⟩
   simp only [go_sem]
   try rfl
 ·refine bR Tryz.func31 rfl (by decide +kernel) (by simp [Tryz.ntmps31]) (veil fun E=>?_)
  simp only [go_sem]
  refine ⟨[([33],none,[i64 a,i64 b,i64 c])],?_⟩
  simp only [go_sem]
  try rfl
 ·refine bR Tryz.func31 rfl (by decide +kernel) (by simp [Tryz.ntmps31]) (veil fun E=>?_)
  simp only [go_sem]
  obtain ⟨A,hA,hAl⟩:∃ A:List Int,A=[a]∧A.length=1:=⟨_,rfl,rfl⟩
  refine aU E (X:={ i:Nat // i≤l.length }) (fun x=>[(1,.bx [1] 0),(3,.vw [97] 0 (1+x.1)),(4,.d (i64 x.1))])
   (fun x=>[([1],.box [.d (i64 14),.d (i64 a),.d (i64 b),.d (i64 c),.d (i64 m),.d (.str nm),.d (.str s),.d (.sl (some 3) (l.map fD)),.d (i64 p)]),([97],.arr none ((A++(l.take x.1).map fun f:EF=>f.to).map i64))]) [1,97] (fun x=>l.length-x.1) ⟨0,Nat.zero_le _⟩ (tau [([97],[38])]) ?_ ?_
  ·simp only [go_sem]
   all_goals (rw [hA];rfl)
  rintro ⟨i,hi⟩ E0
  refine bk E0 fun Q' hQ E'=>?_
  simp only at hi ⊢
  simp only [go_sem]
  refine ai E' (fun g1=>?_) (fun g1=>?_)<;>simp only [go_sem]
  ·have hi':i<l.length:=by omega
   refine ⟨by omega,?_⟩
   rw [ry hi']
   simp only [go_sem]
   refine ⟨by omega,?_⟩
   rw [al ⟨by omega,by omega⟩]
   rw [List.take_of_length_le (l:=List.map i64 _) (by simp;omega),show List.map i64 (A++(l.take i).map fun f:EF=>f.to)++[i64 l[i].to]=(A++(l.take (i+1)).map fun f:EF=>f.to).map i64 by
    rw [List.take_succ_eq_append_getElem hi',List.map_append (l₁:=List.take i l),← List.append_assoc,List.map_append (l₁:=A++_)];rfl]
   rw [hQ]
   simp only [go_sem]
   refine ⟨⟨i+1,by omega⟩,by show l.length-(i+1)<_;omega,tau [([97],[62])],?_⟩
   simp only [go_sem]
   all_goals first | rfl | exact ⟨rfl,rfl⟩
  ·rw [hQ]
   have h3:i=l.length:=by omega
   subst h3
   rw [List.take_length]
   simp only [go_sem]
   refine ⟨[([97],none,(A++l.map fun f:EF=>f.to).map i64)],?_⟩
   simp only [go_sem]
   rw [List.take_of_length_le (by simp;omega),hA]
   rfl
 ·refine bR Tryz.func31 rfl (by decide +kernel) (by simp [Tryz.ntmps31]) (veil fun E=>?_)
  simp only [go_sem]
  obtain ⟨A,hA,hAl⟩:∃ A:List Int,A=[]∧A.length=0:=⟨_,rfl,rfl⟩
  refine aU E (X:={ i:Nat // i≤l.length }) (fun x=>[(1,.bx [1] 0),(3,.vw [97] 0 (0+x.1)),(4,.d (i64 x.1))])
   (fun x=>[([1],.box [.d (i64 11),.d (i64 a),.d (i64 b),.d (i64 c),.d (i64 m),.d (.str nm),.d (.str s),.d (.sl (some 3) (l.map fD)),.d (i64 p)]),([97],.arr none ((A++(l.take x.1).map fun f:EF=>f.to).map i64))]) [1,97] (fun x=>l.length-x.1) ⟨0,Nat.zero_le _⟩ (tau [([97],[5])]) ?_ ?_
  ·simp only [go_sem]
   all_goals (rw [hA];rfl)
  rintro ⟨i,hi⟩ E0
  refine bk E0 fun Q' hQ E'=>?_
  simp only at hi ⊢
  simp only [go_sem]
  refine ai E' (fun g1=>?_) (fun g1=>?_)<;>simp only [go_sem]
  ·have hi':i<l.length:=by omega
   refine ⟨by omega,?_⟩
   rw [ry hi']
   simp only [go_sem]
   refine ⟨by omega,?_⟩
   rw [al ⟨by omega,by omega⟩]
   rw [List.take_of_length_le (l:=List.map i64 _) (by simp;omega),show List.map i64 (A++(l.take i).map fun f:EF=>f.to)++[i64 l[i].to]=(A++(l.take (i+1)).map fun f:EF=>f.to).map i64 by
    rw [List.take_succ_eq_append_getElem hi',List.map_append (l₁:=List.take i l),← List.append_assoc,List.map_append (l₁:=A++_)];rfl]
   rw [hQ]
   simp only [go_sem]
   refine ⟨⟨i+1,by omega⟩,by show l.length-(i+1)<_;omega,tau [([97],[62])],?_⟩
   simp only [go_sem]
   all_goals first | rfl | exact ⟨rfl,rfl⟩
  ·rw [hQ]
   have h3:i=l.length:=by omega
   subst h3
   rw [List.take_length]
   simp only [go_sem]
   refine ⟨[([97],none,(A++l.map fun f:EF=>f.to).map i64)],?_⟩
   simp only [go_sem]
   rw [List.take_of_length_le (by simp;omega),hA]
   rfl
 ·refine bR Tryz.func31 rfl (by decide +kernel) (by simp [Tryz.ntmps31]) (veil fun E=>?_)
  simp only [go_sem]
  iterate 9
   refine ai E (fun h=>absurd h (by omega)) (fun _=>?_)
   simp only [go_sem]
  repeat (first
   | (apply cq E;(· simp only [go_sem]);(· intro h;(try simp only [bq] at h);simp only [↓h,go_sem];rfl);simp only [go_sem])
   | (apply bl E;(· simp only [go_sem]);(· intro h;(try simp only [bq] at h);simp only [↓h,go_sem];rfl);(· intro h;(try simp only [bq] at h);simp only [↓h,go_sem];rfl);simp only [go_sem])
   | (apply bj E;(· simp only [go_sem]);(· rfl);(· intro h h';(try simp only [bq] at h h');simp only [↓h,↓h',go_sem];rfl);simp only [go_sem])
   | (apply aQ E;(· simp only [go_sem]);(· rfl);(· intro h h';(try simp only [bq] at h h');simp only [↓h,↓h',go_sem];rfl);(· intro h h';(try simp only [bq] at h h');simp only [↓h,↓h',go_sem];rfl);simp only [go_sem])
   | (apply b9 E;(· decide);simp only [go_sem]))
  refine aV E (fun h=>absurd (by simpa using h) (show ¬ (k=11∨k=14) by omega)) (fun _=>?_)
  simp only [go_sem]
  refine ⟨[([5],none,[])],?_⟩
  simp only [go_sem]
  have h1:aG k=0:=by
   unfold aG
   repeat' split
   all_goals first | rfl | (exfalso;omega)
  have h2:aw k=false:=by
   unfold aw
   rw [decide_eq_false (show ¬ k=11 by omega),decide_eq_false (show ¬ k=14 by omega)]
   rfl
  unfold aj
  simp only [h1,h2]
  rfl
end Go.Proofs.YtejpnabbmgpmaaaGreatDoor

namespace Go.Proofs.YtejpnabbmgpmaaaGreatDoor
open Go.Ab
theorem Mp:∀ (m:Nat) (ks:List Int),m≤3→j6 [.int .i64 0,.int .i64 0,.int .i64 0] ((ks.take m).map i64) 0 3=[i64 (if 0<m then ks.getD 0 0 else 0),i64 (if 1<m then ks.getD 1 0 else 0),i64 (if 2<m then ks.getD 2 0 else 0)]
 | 0,_,_=>rfl
 | 1,[],_=>rfl
 | 2,[],_=>rfl
 | 3,[],_=>rfl
 | 1,[x],_=>rfl
 | 2,[x],_=>rfl
 | 3,[x],_=>rfl
 | 1,x::y::r,_=>by simp [j6,i64]
 | 2,[x,y],_=>rfl
 | 3,[x,y],_=>rfl
 | 2,x::y::z::r,_=>by simp [j6,i64]
 | 3,[x,y,z],_=>rfl
 | 3,x::y::z::w::r,_=>by simp [j6,i64]
theorem Ez {α:Type} (k:Nat) (l:List α) (N:Nat) (h:l.length=N) [Decidable ((N:Int)<(k:Int))]:List.take ((if (N:Int)<(k:Int) then (N:Int) else (k:Int)).toNat-0) l=l.take k:=by
 split
 ·rw [List.take_of_length_le (by omega),List.take_of_length_le (by omega)]
 ·congr 1
theorem Em {G}:HCall Tryz.prog G 144 [.d .nils] [] [] (fun r hp'=>r=.vw [0] 0 0∧hp'=[([0],.arr (some 3) [])]):=by
 refine HCall.thaw (Q:=fun r hp'=>(r=.d .nils∧hp'=[])∨(r=.vw [0] 0 0∧hp'=[([0],.arr (some 3) [])])) ?_ 0 (some 3) (by simp) ?_
 ·refine ao Tryz.func144 rfl (by decide +kernel) (by simp [Tryz.ntmps144]) (veil fun E=>?_)
  simp only [go_sem]
  refine Gd E 3 (some 3) rfl ?_
  refine q0 E (e:=89) (by simp only [go_sem]) (by simp only [go_sem]) rfl fun b hb=>?_
  simp only [go_sem]
  refine aV E (fun h=>?_) (fun h=>?_)<;>simp only [go_sem]
  ·refine ⟨_,[],[],id,.inl ⟨rfl,rfl⟩,?_⟩
   simp only [go_sem]
  ·refine ⟨_,_,[0],tau [([0],[7])],.inr ⟨rfl,rfl⟩,?_⟩
   simp only [go_sem]
 ·rintro r hp' (⟨rfl,rfl⟩ | h)
  ·exact .inr ⟨rfl,rfl,rfl,rfl⟩
  ·exact .inl h
theorem aR {ks:List Int} {k:Nat} (h:k<ks.length):(ks.map i64).getD k .nilp=i64 (ks.getD k 0):=by simp [h]
theorem lJ (ks:List Int) (o:Nat):∀ (a b:List EF) (i:Nat),aT ks o (a++b) i=aT ks o a i++aT ks o b (i+a.length)
 | [],b,i=>by simp [aT]
 | f::r,b,i=>by
   simp only [List.cons_append,aT,lJ ks o r b (i+1),List.length_cons]
   rw [show i+1+r.length=i+(r.length+1) by omega]
def eG (ks:List Int) (o:Nat) (l:List EF) (i:Nat):List EF:=aT ks o (l.take i) 0++l.drop i
theorem AB (ks:List Int) (o:Nat) (l:List EF) (i:Nat):(eG ks o l i).length=l.length:=by
 simp only [eG,List.length_append,cD,List.length_take,List.length_drop];omega
theorem vC (ks:List Int) (o:Nat) (l:List EF):eG ks o l 0=l:=by simp [eG,aT]
theorem zT (ks:List Int) (o:Nat) (l:List EF):eG ks o l l.length=aT ks o l 0:=by simp [eG]
theorem wV {ks:List Int} {o:Nat} {l:List EF} {i:Nat} (h:i<l.length):eG ks o l (i+1)=(eG ks o l i).set i (if o+i<ks.length then { fdE l i with to:=ks.getD (o+i) 0 } else fdE l i):=by
 have h1:l.take (i+1)=l.take i++[l[i]]:=by simp
 have h2:l.drop i=l[i]::l.drop (i+1):=List.drop_eq_getElem_cons h
 have hf:fdE l i=l[i]:=by simp [fdE,h]
 unfold eG
 rw [h1,lJ,h2,hf]
 have h3:(aT ks o (l.take i) 0).length=i:=by rw [cD,List.length_take];omega
 rw [List.set_append_right _ _ (by omega),h3,Nat.sub_self]
 simp only [aT,Nat.zero_add,List.length_take,Nat.min_eq_left (Nat.le_of_lt h),List.append_assoc,List.singleton_append,List.set_cons_zero]
theorem pO {ks:List Int} {o:Nat} {l:List EF} {i:Nat} (h:i<l.length):(eG ks o l i)[i]?=some (fdE l i):=by
 have h3:(aT ks o (l.take i) 0).length=i:=by rw [cD,List.length_take];omega
 unfold eG
 rw [List.getElem?_append_right (by omega),h3,Nat.sub_self,List.drop_eq_getElem_cons h]
 simp [fdE,h]
theorem yx {G} (n:EN) (ks:List Int) (hl:n.l.length≤1000000) (hks:ks.length≤1000000):HP Tryz.prog G 115 [enD n,.sl none (ks.map i64)] (fun r=>r=.d (enD (aM n ks))):=by
 unfold enD efD
 refine bR Tryz.func115 rfl (by decide +kernel) (by simp [Tryz.ntmps115]) (veil fun E=>?_)
 simp only [go_sem]
 refine ae E (mR n.k) rfl rfl (by simp) ?_
 rintro _ rfl
 simp only [go_sem]
 have hk3:=cI n.k
 refine LC E [6] 6 77 [.int .i64 0,.int .i64 0,.int .i64 0] ?_ rfl rfl (by decide) rfl ?_
 ·rw [aa];decide
 simp only [go_sem]
 refine ig 8 mixed E (by simp only [List.take_succ_cons,List.take_zero];exact rfl) (by simp only [List.drop_succ_cons,List.drop_zero];exact rfl) rfl rfl (by decide +kernel) fun X=>?_
 simp only [go_sem]
 refine ⟨by split<;>constructor<;>omega,by decide +kernel,?_⟩
 rw [Ez (aG n.k) (ks.map i64) ks.length (by simp),← List.map_take]
 refine IF E (d:=21) (dT:=58) (e0:=3) (by simp only [go_sem]) (by rw [Gs]) (by rw [ti3];decide) rfl rfl rfl ?_
 rw [Mp _ _ hk3]
 obtain ⟨a,ha⟩:∃ a,a=if 0<aG n.k then ks.getD 0 0 else 0:=⟨_,rfl⟩
 obtain ⟨b,hb⟩:∃ b,b=if 1<aG n.k then ks.getD 1 0 else 0:=⟨_,rfl⟩
 obtain ⟨c,hc⟩:∃ c,c=if 2<aG n.k then ks.getD 2 0 else 0:=⟨_,rfl⟩
 rw [← ha,← hb,← hc]
 simp only [go_sem]
 refine au mixed E fun X=>?_
 simp only [go_sem]
 simp only [List.getD_cons_succ,List.getD_cons_zero]
 simp only [go_sem]
 simp only [List.getD_cons_succ,List.getD_cons_zero]
 simp only [go_sem]
 refine ⟨by decide +kernel,?_⟩
 refine aV E (fun hp=>?_) (fun hp=>?_)<;>simp only [go_sem]
 ·refine ab E [.d .nils] [] [] Em rfl rfl ⟨by simp only [go_sem],by rw [aa];decide⟩ rfl (by simp only [go_sem]) (by simp only [go_sem]) ?_
  rintro _ _ ⟨rfl,rfl⟩
  simp only [go_sem]
  refine aU E (X:=Unit) (fun _=>[(1,.d (.sl none (ks.map i64))),(2,.bx [2] 0),(4,.bx [4] 0),(5,.bx [5] 0),(41,.d (i64 0)),(42,.d (i64 0))])
   (fun _=>[([2],.box [.d (i64 n.k),.d (i64 a),.d (i64 b),.d (i64 c),.d (i64 n.n),.d (.str n.name),.d (.str n.s),.vw [37,0] 0 0,.d (i64 n.pos)]),([4],.box [.d (i64 0),.d (i64 0),.d (i64 0),.d (i64 0),.d (i64 0),.d (.str []),.d (.str []),.d .nils,.d (i64 0)]),([5],.box [.d (i64 (aG n.k)),.d (.bool (aw n.k))]),([37,0],.arr (some 3) [])]) [2,4,5,37] (fun _=>0) () id ?_ ?_
  ·simp only [go_sem]
   all_goals rfl
  rintro _ E0
  refine bk E0 fun Q' hQ E'=>?_
  simp only [go_sem]
  rw [hQ]
  simp only [go_sem]
  refine ⟨[([37,0],some 3,[])],?_⟩
  simp only [go_sem]
  have hw:aM n ks={ n with a:=a,b:=b,c:=c,l:=[] }:=by
   have hp':aw n.k=false:=by simpa using hp
   simp [aM,ha,hb,hc,hp']
  rw [hw]
  rfl
 ·refine ab E [.d (efD n.l)] [] [] (Du n.l hl) rfl rfl ⟨by simp only [go_sem],by rw [aa];decide⟩ rfl (by simp only [go_sem]) (by simp only [go_sem]) ?_
  rintro _ _ ⟨rfl,rfl⟩
  simp only [go_sem]
  refine aU E (X:={ i:Nat // i≤n.l.length }) (fun x=>[(1,.d (.sl none (ks.map i64))),(2,.bx [2] 0),(4,.bx [4] 0),(5,.bx [5] 0),(41,.d (i64 n.l.length)),(42,.d (i64 x.1))])
   (fun x=>[([2],.box [.d (i64 n.k),.d (i64 a),.d (i64 b),.d (i64 c),.d (i64 n.n),.d (.str n.name),.d (.str n.s),.vw [37,0] 0 n.l.length,.d (i64 n.pos)]),([4],.box [.d (i64 0),.d (i64 0),.d (i64 0),.d (i64 0),.d (i64 0),.d (.str []),.d (.str []),.d .nils,.d (i64 0)]),([5],.box [.d (i64 (aG n.k)),.d (.bool (aw n.k))]),([37,0],.arr (some 3) ((eG ks (aG n.k) n.l x.1).map fD))]) [2,4,5,37] (fun x=>n.l.length-x.1) ⟨0,Nat.zero_le _⟩ id ?_ ?_
  ·simp only [go_sem]
   all_goals (first | rfl | (rw [vC]))
  rintro ⟨i,hi⟩ E0
  refine bk E0 fun Q' hQ E'=>?_
  simp only at hi ⊢
  simp only [go_sem]
  refine ai E' (fun h1=>?_) (fun h1=>?_)<;>simp only [go_sem]
  ·have h1':i<n.l.length:=by omega
   rw [al ⟨by omega,by omega⟩]
   have hpl:=AB ks (aG n.k) n.l i
   have hst:=wV (ks:=ks) (o:=aG n.k) h1'
   refine ai E' (fun h2=>?_) (fun h2=>?_)<;>simp only [go_sem]
   ·have h2':aG n.k+i<ks.length:=by omega
    rw [if_pos h2'] at hst
    refine au mixed E' fun X=>?_
    simp only [go_sem]
    refine ⟨by omega,?_⟩
    rw [show ((aG n.k:Nat)+(i:Int)).toNat=aG n.k+i by omega,aR h2']
    simp only [go_sem]
    have hgt:(List.map fD (eG ks (aG n.k) n.l i)).getD i .nilp=.agg [.str (fdE n.l i).nm,.str (fdE n.l i).var,i64 (fdE n.l i).to]:=by
     rw [List.getD_eq_getElem?_getD,List.getElem?_map,pO h1'];rfl
    refine ⟨by omega,?_⟩
    rw [hgt]
    simp only [go_sem]
    have hmp:(List.map fD (eG ks (aG n.k) n.l i)).set i (.agg [.str (fdE n.l i).nm,.str (fdE n.l i).var,i64 (ks.getD (aG n.k+i) 0)])=(eG ks (aG n.k) n.l (i+1)).map fD:=by
     rw [hst,List.map_set];rfl
    rw [hmp]
    refine ⟨by decide +kernel,?_⟩
    rw [hQ]
    simp only [go_sem]
    refine ⟨⟨i+1,by omega⟩,by show n.l.length-(i+1)<_;omega,id,?_⟩
    rw [al ⟨by omega,by omega⟩]
    simp only [go_sem]
    all_goals rfl
   ·have h2':¬ aG n.k+i<ks.length:=by omega
    rw [if_neg h2'] at hst
    have hst2:eG ks (aG n.k) n.l (i+1)=eG ks (aG n.k) n.l i:=by
     rw [hst]
     refine List.ext_getElem? fun j=>?_
     rw [List.getElem?_set]
     split
     ·rename_i e;subst e
      rw [if_pos (by omega),pO h1']
     ·rfl
    rw [hQ]
    simp only [go_sem]
    refine ⟨⟨i+1,by omega⟩,by show n.l.length-(i+1)<_;omega,id,?_⟩
    rw [hst2,al ⟨by omega,by omega⟩]
    simp only [go_sem]
    all_goals rfl
  ·rw [hQ]
   simp only [go_sem]
   have hi2:i=n.l.length:=by omega
   subst hi2
   rw [zT]
   refine ⟨[([37,0],some 3,(aT ks (aG n.k) n.l 0).map fD)],?_⟩
   simp only [go_sem]
   have hw:aM n ks={ n with a:=a,b:=b,c:=c,l:=aT ks (aG n.k) n.l 0 }:=by
    have hp':aw n.k=true:=by simpa using hp
    simp [aM,ha,hb,hc,hp']
   rw [hw,List.take_of_length_le (by rw [List.length_map,cD];exact Nat.le_refl _)]
end Go.Proofs.YtejpnabbmgpmaaaGreatDoor

namespace Go.Proofs.YtejpnabbmgpmaaaGreatDoor
open Go.Ab
end Go.Proofs.YtejpnabbmgpmaaaGreatDoor

namespace Go.Proofs.YtejpnabbmgpmaaaGreatDoor
open Go.Ab
def aS (s p:List UInt8):Bool:=decide (p.length≤s.length) && (s.take p.length == p)
theorem y2 {G} (s p:List UInt8):HP Tryz.prog G 161 [.str s,.str p] (fun r=>r=.d (.bool (aS s p))):=by
 refine an Tryz.func161 rfl (by decide +kernel) (by simp [Tryz.ntmps161]) (veil fun E=>?_)
 simp only [go_sem]
 refine aK E (fun h=>?_) (fun h=>?_)<;>simp only [go_sem]
 ·have hl:p.length≤s.length:=by simpa using h
  refine ⟨by simpa using hl,?_⟩
  simp [aS,hl,Kl]
 ·have hl:¬ p.length≤s.length:=by simpa using h
  simp [aS,hl]
theorem zV {s p:List UInt8} (h:aS s p=true):p.length≤s.length:=by
 simp only [aS,Bool.and_eq_true,decide_eq_true_eq] at h
 exact h.1
theorem Gr {G} (s p:List UInt8):HP Tryz.prog G 151 [.str s,.str p] (fun r=>r=.tup [.d (.str (if aS s p then s.drop p.length else s)),.d (.bool (aS s p))]):=by
 refine an Tryz.func151 rfl (by decide +kernel) (by simp [Tryz.ntmps151]) (veil fun E=>?_)
 simp only [go_sem]
 refine ae E (y2 s p) rfl rfl (by simp) ?_
 rintro _ rfl
 simp only [go_sem]
 refine aV E (fun h=>?_) (fun h=>?_)<;>simp only [go_sem]
 ·have h:aS s p=false:=by simpa using h
  simp [h]
 ·have h:aS s p=true:=by simpa using h
  have:=zV h
  simp [h]
  refine ⟨by omega,?_⟩
  rw [List.take_of_length_le]
  simp
theorem rV {G} (s p:List UInt8):HP Tryz.prog G 127 [.str s,.str p] (fun r=>r=.tup [.d (.str (if aS s p then s.drop p.length else s)),.d (.bool (aS s p))]):=by
 refine an Tryz.func127 rfl (by decide +kernel) (by simp [Tryz.ntmps127]) (veil fun E=>?_)
 simp only [go_sem]
 refine ae E (Gr s p) rfl rfl (by simp) ?_
 rintro _ rfl
 simp only [go_sem]
def bB (n:Int):List UInt8:=if n<0 then 126::Lib.decDigits n.natAbs else Lib.decDigits n.toNat
theorem iT (u:Nat):∃ c r,Lib.decDigits u=c::r∧48≤c.toNat∧c.toNat≤57:=by
 induction u using Nat.strongRecOn with
 | ind u ih =>
   rw [Lib.decDigits]
   split
   ·rename_i h
    exact ⟨_,[],rfl,by rw [UInt8.toNat_ofNat'];omega,by rw [UInt8.toNat_ofNat'];omega⟩
   ·obtain ⟨c,r,h1,h2,h3⟩:=ih (u / 10) (by omega)
    exact ⟨c,r++[UInt8.ofNat (48+u % 10)],by rw [h1];rfl,h2,h3⟩
theorem z6 (u:Nat):aS (Lib.decDigits u) [45]=false:=by
 obtain ⟨c,r,h1,h2,h3⟩:=iT u
 rw [h1]
 simp [aS]
 rintro rfl
 revert h2;decide
end Go.Proofs.YtejpnabbmgpmaaaGreatDoor

namespace Go.Proofs.YtejpnabbmgpmaaaGreatDoor
open Go.Ab
def Kr (k a b:Int):Int:=if k=1 then w64 (a+b) else if k=2 then w64 (a-b) else if k=3 then w64 (a*b) else if k=4 then Mi a b else if k=5 then (if a<b then 1 else 0) else if k=6 then (if a=b then 1 else 0) else 0
def K0 (k b:Int):Int:=if k=1 then 0 else if k=2 then 0 else if k=3 then 0 else if k=4 then Md b else if k=5 then 0 else if k=6 then 0 else 2
end Go.Proofs.YtejpnabbmgpmaaaGreatDoor

namespace Go.Proofs.YtejpnabbmgpmaaaGreatDoor
open Go.Ab
def dd (u:Nat):List UInt8:=if u=0 then [] else Lib.decDigits u
theorem JH (m:Int):m.tdiv 10=if m<0 then -((m.natAbs / 10:Nat):Int) else ((m.natAbs / 10:Nat):Int):=by
 cases m with
 | ofNat k=>rw [if_neg (show ¬ Int.ofNat k<0 from Int.not_lt.2 (Int.natCast_nonneg k))];rfl
 | negSucc k=>rw [if_pos (Int.negSucc_lt_zero k)];rfl
end Go.Proofs.YtejpnabbmgpmaaaGreatDoor

namespace Go.Proofs.YtejpnabbmgpmaaaGreatDoor
open Go.Ab
def a8 (c:UInt8):Bool:=decide (48≤c.toNat) && decide (c.toNat≤57)
def b6 (l:List UInt8):Nat:=l.foldl (fun v c=>10*v+(c.toNat-48)) 0
theorem kX (l:List UInt8) (c:UInt8):b6 (l++[c])=10*b6 l+(c.toNat-48):=by simp [b6]
theorem pU {l:List UInt8} {i:Nat} (h:i<l.length):l.take (i+1)=l.take i++[l[i]]:=by simp
theorem ec {l:List UInt8} {i:Nat} (h:i<l.length):b6 (l.take (i+1))=10*b6 (l.take i)+(l[i].toNat-48):=by
 rw [pU h,kX]
theorem zZ (l:List UInt8) (i:Nat):b6 (l.take i)≤b6 l:=by
 suffices h:∀ r m:List UInt8,b6 m≤b6 (m++r) by
  have:=h (l.drop i) (l.take i)
  rwa [List.take_append_drop] at this
 intro r
 induction r with
 | nil=>intro m;simp
 | cons c r ih =>
   intro m
   have h1:=ih (m++[c])
   rw [kX,List.append_assoc] at h1
   have h2:b6 (m++c::r)=b6 (m++([c]++r)):=rfl
   rw [h2];omega
theorem G3 (l:List UInt8) (h:l.all a8=true) (h0:¬ l.head?=some 48):l.length=0∨10 ^ (l.length-1)≤b6 l:=by
 cases l with
 | nil=>exact .inl rfl
 | cons c r =>
   refine .inr ?_
   suffices hh:∀ i,i≤r.length→10 ^ i≤b6 ((c::r).take (i+1)) by
    have:=hh r.length (Nat.le_refl _)
    rwa [show r.length+1=(c::r).length from rfl,List.take_length] at this
   intro i
   induction i with
   | zero =>
     intro _
     have hd:=List.all_eq_true.1 h c List.mem_cons_self
     simp only [a8,Bool.and_eq_true,decide_eq_true_eq] at hd
     have:c.toNat≠48:=fun e=>h0 (by
      have:c=48:=UInt8.toNat_inj.1 (by rw [e];rfl)
      subst this;rfl)
     simp [b6];omega
   | succ i ih =>
     intro hi
     rw [ec (by simp;omega),Nat.pow_succ]
     have:=ih (by omega)
     omega
def cR (l:List UInt8):Bool:=!l.isEmpty && !(decide (1<l.length) && l.head? == some 48) && l.all a8 && decide (b6 l≤9223372036854775808)
def bP (neg:Bool) (l:List UInt8):Bool:=cR l && !(neg && decide (b6 l=0)) && !(!neg && decide (b6 l=9223372036854775808))
def cz (neg:Bool) (l:List UInt8):AV:=.tup [.d (i64 (if bP neg l then (if neg then -(b6 l:Int) else b6 l) else 0)),.d (i64 (if bP neg l then 0 else 5))]
def jl (s:List UInt8):AV:=if aS s [126] then cz true (s.drop 1) else cz false s
theorem pP {l:List UInt8} (h:cR l=true):1≤l.length∧l.length≤19:=by
 simp only [cR,Bool.and_eq_true,Bool.not_eq_true',decide_eq_true_eq,Bool.and_eq_false_iff,decide_eq_false_iff_not,beq_eq_false_iff_ne] at h
 obtain ⟨⟨⟨h1,h2⟩,h3⟩,h4⟩:=h
 have h0:l.length≠0:=by
  intro e;rw [List.length_eq_zero_iff.1 e] at h1;simp at h1
 refine ⟨by omega,?_⟩
 rcases h2 with h2 | h2
 ·omega
 ·rcases G3 l h3 h2 with h5 | h5
  ·omega
  ·apply Decidable.byContradiction;intro h6
   have:10 ^ 19≤10 ^ (l.length-1):=Nat.pow_le_pow_right (by omega) (by omega)
   omega
theorem gM {l:List UInt8} {i:Nat} (hi:i<l.length) (h:a8 l[i]=false):cR l=false:=by
 cases hd:cR l with
 | false=>rfl
 | true =>
   simp only [cR,Bool.and_eq_true] at hd
   have:=List.all_eq_true.1 hd.1.2 _ (List.getElem_mem hi)
   rw [h] at this;cases this
theorem v7 {l:List UInt8} (h1:1<l.length) (h:l.head?=some 48):cR l=false:=by
 simp [cR,h1,h]
theorem pX {l:List UInt8} {i:Nat} (h:9223372036854775808<b6 (l.take i)):cR l=false:=by
 have:=zZ l i
 have:¬ b6 l≤9223372036854775808:=by omega
 simp [cR,this]
theorem oN {neg:Bool} {l:List UInt8} (h:cR l=false):bP neg l=false:=by simp [bP,h]
theorem iC {neg:Bool} {l:List UInt8} (h:bP neg l=false):cz neg l=.tup [.d (i64 0),.d (i64 5)]:=by simp [cz,h]
theorem lT {l:List UInt8} (h0:1≤l.length) (hlead:¬ (1<l.length∧l.head?=some 48)) (hall:l.all a8=true) (hv:b6 l≤9223372036854775808):cR l=true:=by
 simp only [cR,Bool.and_eq_true,Bool.not_eq_true',decide_eq_true_eq,Bool.and_eq_false_iff,decide_eq_false_iff_not,beq_eq_false_iff_ne]
 refine ⟨⟨⟨?_,?_⟩,hall⟩,hv⟩
 ·cases l with
  | nil=>simp at h0
  | cons c r=>rfl
 ·by_cases h:1<l.length
  ·exact .inr fun e=>hlead ⟨h,e⟩
  ·exact .inl h
theorem vl {l:List UInt8} {i:Nat} (hi:i<l.length) (hall:(l.take i).all a8=true) (h:a8 l[i]=true):(l.take (i+1)).all a8=true:=by
 rw [pU hi,List.all_append,hall]
 simp [h]
end Go.Proofs.YtejpnabbmgpmaaaGreatDoor

namespace Go.Proofs.YtejpnabbmgpmaaaGreatDoor
open Go.Ab
structure Tok where
 k:Int
 s:List UInt8
 n:Int
 pos:Int
 deriving Inhabited,DecidableEq
structure Fnd where
 t:Tok
 n:Nat
 e:Int
 deriving DecidableEq
def noT:Tok:=⟨0,[],0,0⟩
def eB (e:Int):Fnd:=⟨noT,0,e⟩
def gR (t:Tok):D:=.agg [i64 t.k,.str t.s,i64 t.n,i64 t.pos]
def sr (f:Fnd):D:=.agg [i64 f.t.k,.str f.t.s,i64 f.t.n,i64 f.t.pos,i64 f.n,i64 f.e]
def fZ (c:UInt8):Bool:=decide (32≤c.toNat) && decide (c.toNat≤126) && decide (c.toNat≠34) && decide (c.toNat≠92)
def iv:List UInt8:=[48,49,50,51,52,53,54,55,56,57,97,98,99,100,101,102]
def fK:List UInt8→UInt8 × Nat
 | []=>(0,0)
 | c::r =>
   if c=34∨c=92 then (c,1)
   else if c=110 then (10,1)
   else if c=116 then (9,1)
   else if c=120 then
    match r with
    | a::b::_=>if Lib.indexByte iv a<0∨Lib.indexByte iv b<0 then (0,0) else (UInt8.ofNat (16*Lib.indexByte iv a+Lib.indexByte iv b).toNat,3)
    | _=>(0,0)
   else (0,0)
def de:Nat→List UInt8→Nat→List UInt8→List UInt8 × Nat × Int
 | 0,_,_,_=>([],0,5)
 | _+1,[],_,_=>([],0,5)
 | m+1,c::r,i,acc =>
   if c=34 then (if 200<acc.length then ([],0,7) else (acc,i+1,0))
   else if c=92 then (if (fK r).2=0 then ([],0,5) else de m (r.drop (fK r).2) (i+(fK r).2+1) (acc++[(fK r).1]))
   else if fZ c then de m r (i+1) (acc++[c])
   else ([],0,5)
def cX:List UInt8→List UInt8 × Nat × Int
 | []=>([],0,5)
 | c::r=>if c=34 then de r.length.succ r 1 [] else ([],0,5)
def je:List UInt8→Nat
 | []=>0
 | c::r=>if a8 c then je r+1 else 0
def xh:List UInt8:=[59,58,44,46,61,60,62,43,45,42,47,94,40,41,123,125,91,93,124,38]
def ji (s:List UInt8) (n:Nat):Fnd :=
 if 20<n then eB 7 else if ph (s.take n) then ⟨⟨1,s.take n,0,0⟩,n,0⟩ else if gr ((s.take n).getD 0 0) then ⟨⟨3,s.take n,0,0⟩,n,0⟩ else ⟨⟨2,s.take n,0,0⟩,n,0⟩
def tq (s:List UInt8):Fnd :=
 if bo (s.drop 1)=0∨gr (s.getD 1 0) then eB 5 else if 20<bo (s.drop 1) then eB 7 else ⟨⟨6,(s.drop 1).take (bo (s.drop 1)),0,0⟩,bo (s.drop 1)+1,0⟩
def ql (neg:Bool) (l:List UInt8):Int × Int:=if bP neg l then (if neg then -(b6 l:Int) else b6 l,0) else (0,5)
def wg (s:List UInt8):Int × Int:=if aS s [126] then ql true (s.drop 1) else ql false s
def Ax (s:List UInt8):Fnd :=
 ⟨⟨4,[],(wg (s.take (je (s.drop 1)+1))).1,0⟩,je (s.drop 1)+1,(wg (s.take (je (s.drop 1)+1))).2⟩
def pL (s:List UInt8):Fnd:=⟨⟨5,(cX s).1,0,0⟩,(cX s).2.1,(cX s).2.2⟩
def iZ (s:List UInt8):Fnd :=
 if aS s [45,62] || aS s [61,61] then ⟨⟨7,s.take 2,0,0⟩,2,0⟩ else if Lib.indexByte xh (s.getD 0 0)<0 then eB 5 else ⟨⟨7,s.take 1,0,0⟩,1,0⟩
def bL (s:List UInt8):Fnd :=
 if 0<bo s then ji s (bo s)
 else if s.getD 0 0=39 then tq s
 else if a8 (s.getD 0 0) || decide (s.getD 0 0=126) then Ax s
 else if s.getD 0 0=34 then pL s
 else iZ s
def vE:List UInt8:=[32,9,10]
def dJ:List UInt8→Option Nat
 | []=>none
 | c::r=>if c=10 then some 0 else (dJ r).map (·+1)
def eN:Nat→List UInt8→Nat
 | 0,_=>0
 | _+1,[]=>0
 | m+1,c::r =>
   if c=32∨c=9∨c=10 then eN m r+1
   else if c=35 then
    match dJ (c::r) with
    | none=>(c::r).length
    | some k=>k+eN m ((c::r).drop k)
   else 0
def aW (s:List UInt8):Nat:=eN s.length.succ s
def b8:Nat→List UInt8→Nat→List (Nat × Fnd)
 | 0,_,_=>[]
 | m+1,s,at' =>
   if s.drop (aW s)=[] then []
   else if (bL (s.drop (aW s))).e≠0 then [(at'+aW s,bL (s.drop (aW s)))]
   else (at'+aW s,bL (s.drop (aW s)))::b8 m ((s.drop (aW s)).drop (bL (s.drop (aW s))).n) (at'+aW s+(bL (s.drop (aW s))).n)
def aL (s:List UInt8):List (Nat × Fnd):=b8 s.length.succ s 0
def fO:List (Nat × Fnd)→Option (Nat × Int)
 | []=>none
 | q::r=>if q.2.e≠0 then some (q.1,q.2.e) else fO r
def ni (q:Nat × Fnd):Tok:={ q.2.t with pos:=q.1 }
def bS (s:List UInt8):List Tok × Nat × Int :=
 match fO (aL s) with
 | some (i,e)=>([],i,e)
 | none=>((aL s).map ni,s.length,0)
end Go.Proofs.YtejpnabbmgpmaaaGreatDoor

namespace Go.Proofs.YtejpnabbmgpmaaaGreatDoor
open Go.Ab
structure PS where
 l:List Tok
 fin:Int
 err:Int
 pos:Int
 nest:Nat
def PS.peek (s:PS):Tok:=match s.l with
 | []=>⟨0,[],0,s.fin⟩
 | t::_=>t
def PS.next (s:PS):PS:={ s with l:=s.l.tail }
def PS.fail (s:PS) (e p:Int):PS:=if s.err=0 then { s with err:=e,pos:=p } else s
def PS.wrong (s:PS):PS:=s.fail 5 s.peek.pos
def PS.is (s:PS) (k:Int) (t:List UInt8):Bool:=!s.l.isEmpty && decide (s.peek.k=k) && decide (s.peek.s=t)
def PS.sees (s:PS) (k:Int) (t:List UInt8):Bool:=decide (s.err=0) && s.is k t
def PS.may (s:PS) (k:Int) (t:List UInt8):PS:=if s.sees k t then s.next else s
def PS.must (s:PS) (k:Int) (t:List UInt8):PS:=if s.sees k t then s.next else s.wrong
def PS.has (s:PS) (k:Int):Bool:=decide (s.err=0) && decide (s.peek.k=k)
def PS.of (s:PS) (k:Int):List UInt8 × PS:=if s.has k then (s.peek.s,s.next) else ([],s.wrong)
abbrev PR:=List EN × PS
def nd0 (k:Int) (pos:Int):EN:=⟨k,0,0,0,0,[],[],[],pos⟩
def cA (n:EN):List EN:=az n []
def noE:List EN:=cA (nd0 1 0)
def dU (ns:List EN):EN:=ndE ns (ns.length-1)
def cC:List UInt8:=[116,114,117,101]
def bF:List UInt8:=[102,97,108,115,101]
def fV:List UInt8:=[99,97,115,101]
def oC:List UInt8:=[102,117,110]
def kS:List UInt8:=[108,101,116]
def gh:List UInt8:=[114,101,99]
def bIn:List UInt8:=[105,110]
def bIf:List UInt8:=[105,102]
def jQ:List UInt8:=[116,104,101,110]
def jU:List UInt8:=[101,108,115,101]
def bOf:List UInt8:=[111,102]
def sW:List UInt8:=[101,110,100]
def bTo:List UInt8:=[45,62]
section
variable (ex:PS→PR)
def PS.parted (s:PS) (t:Tok) (l:List EF):PS :=
 if s.err≠0 then s else if l.length=30 then s.fail 8 t.pos else if (l.any fun f=>decide (f.nm=t.s)) then s.fail 5 t.pos else s
def dM (s:PS) (l:List EF):EF × PS :=
 let r:=s.of 2
 (⟨r.1,[],0⟩,((r.2.parted s.peek l).must 7 [61]))
def cH (s:PS) (l:List EF):EF × PS :=
 let r:=s.of 3
 let q:=(r.2.parted s.peek l).of 2
 (⟨r.1,q.1,0⟩,q.2.must 7 bTo)
def bu (between:List UInt8) (part:PS→List EF→EF × PS):Nat→PS→List EF→List (List EN)→List EF × List (List EN) × PS
 | 0,s,l,ks=>(l,ks,s)
 | m+1,s,l,ks =>
   let f:=part s l
   let e:=ex f.2
   if e.2.sees 7 between then bu between part m e.2.next (l++[f.1]) (ks++[e.1]) else (l++[f.1],ks++[e.1],e.2)
def cK (s:PS) (pos:Int):PR :=
 if s.sees 7 [125] then (cA (nd0 11 pos),s.next)
 else
  let r:=bu ex [44] dM s.l.length.succ s [] []
  (az { nd0 11 pos with l:=r.1 } r.2.1,r.2.2.must 7 [125])
def dY (s:PS) (pos:Int):PR :=
 let e:=ex s
 let s1:=e.2.must 1 bOf
 let r:=bu ex [124] cH s1.l.length.succ s1 [] []
 (az { nd0 14 pos with l:=r.1 } (e.1::r.2.1),r.2.2.must 1 sW)
def bG (s:PS):PR :=
 let t:=s.peek
 if s.err≠0 then (noE,s.wrong)
 else if t.k=4 then (cA { nd0 1 t.pos with n:=t.n },s.next)
 else if t.k=5 then (cA { nd0 3 t.pos with s:=t.s },s.next)
 else if t.k=2 then (cA { nd0 4 t.pos with name:=t.s },s.next)
 else if s.sees 1 cC then (cA { nd0 2 t.pos with n:=1 },s.next)
 else if s.sees 1 bF then (cA (nd0 2 t.pos),s.next)
 else if s.sees 7 [40] then
  let e:=ex s.next
  (e.1,e.2.must 7 [41])
 else if s.sees 7 [123] then cK ex s.next t.pos
 else if s.sees 1 fV then dY ex s.next t.pos
 else (noE,s.wrong)
def dA:Nat→List EN→PS→PR
 | 0,a,s=>(a,s)
 | m+1,a,s=>if s.sees 7 [46] then dA m (az { nd0 12 s.peek.pos with name:=(s.next.of 2).1 } [a]) (s.next.of 2).2 else (a,s)
def cB (s:PS):PR :=
 let r:=bG ex s
 dA r.2.l.length.succ r.1 r.2
def PS.begins (s:PS):Bool :=
 let t:=s.peek
 decide (t.k=4) || decide (t.k=5) || decide (t.k=2) || (decide (t.k=1) && (decide (t.s=cC) || decide (t.s=bF) || decide (t.s=fV))) || (decide (t.k=7) && (decide (t.s=[40]) || decide (t.s=[123])))
def dO:Nat→List EN→PS→PR
 | 0,a,s=>(a,s)
 | m+1,a,s=>if decide (s.err=0) && s.begins then dO m (az (nd0 6 (dU a).pos) [a,(cB ex s).1]) (cB ex s).2 else (a,s)
def fM (s:PS):PR :=
 if s.has 3 then
  let r:=cB ex s.next
  (az { nd0 13 s.peek.pos with name:=s.peek.s } [r.1],r.2)
 else
  let r:=cB ex s
  dO ex r.2.l.length.succ r.1 r.2
def opS (s:PS):List (List UInt8 × Int)→Option Int
 | []=>none
 | q::r=>if s.sees 7 q.1 then some q.2 else opS s r
def dk:List (List UInt8 × Int):=[([42],3),([47],4)]
def eS:List (List UInt8 × Int):=[([43],1),([45],2),([94],7)]
def gb:List (List UInt8 × Int):=[([60],5),([61,61],6)]
def eV (ops:List (List UInt8 × Int)) (sub:PS→PR):Nat→List EN→PS→PR
 | 0,a,s=>(a,s)
 | m+1,a,s=>match opS s ops with
   | some n=>eV ops sub m (az { nd0 10 s.peek.pos with n:=n } [a,(sub s.next).1]) (sub s.next).2
   | none=>(a,s)
def eM (s:PS):PR:=eV dk (fM ex) (fM ex s).2.l.length.succ (fM ex s).1 (fM ex s).2
def j2 (s:PS):PR:=eV eS (eM ex) (eM ex s).2.l.length.succ (eM ex s).1 (eM ex s).2
def lP (s:PS):PR :=
 let a:=j2 ex s
 match opS a.2 gb with
 | some n =>
   let b:=j2 ex a.2.next
   (az { nd0 10 a.2.peek.pos with n:=n } [a.1,b.1],b.2)
 | none=>a
def jY (s:PS) (pos:Int):PR :=
 let k:Int:=if s.sees 1 gh then 8 else 7
 let x:=(s.may 1 gh).of 2
 let s2:=x.2.must 7 [61]
 let a:=ex s2
 let s3:=if k=8∧(dU a.1).k≠5 then a.2.fail 5 s2.peek.pos else a.2
 let b:=ex (s3.must 1 bIn)
 (az { nd0 k pos with name:=x.1 } [a.1,b.1],b.2)
def ifS (s:PS) (pos:Int):PR :=
 let a:=ex s
 let b:=ex (a.2.must 1 jQ)
 let c:=ex (b.2.must 1 jU)
 (az (nd0 9 pos) [a.1,b.1,c.1],c.2)
def dS (s:PS):PR :=
 let t:=s.peek
 if s.sees 1 oC then
  let x:=s.next.of 2
  let b:=ex (x.2.must 7 bTo)
  (az { nd0 5 t.pos with name:=x.1 } [b.1],b.2)
 else if s.sees 1 kS then jY ex s.next t.pos
 else if s.sees 1 bIf then ifS ex s.next t.pos
 else lP ex s
end
def cZ:Nat→PS→PR
 | 0,s=>(noE,s.fail 6 s.peek.pos)
 | m+1,s=>if s.err≠0 then (noE,s) else
   let r:=dS (cZ m) { s with nest:=s.nest+1 }
   (r.1,{ r.2 with nest:=s.nest })
end Go.Proofs.YtejpnabbmgpmaaaGreatDoor

namespace Go.Proofs.YtejpnabbmgpmaaaGreatDoor
open Go.Ab
def PSo (N:Int) (s:PS):Prop:=(∀ t∈s.l,0≤t.pos∧t.pos≤N)∧(0≤s.fin∧s.fin≤N)∧(0≤s.pos∧s.pos≤N)
structure SS (s r:PS):Prop where
 suf:∃ k,r.l=s.l.drop k
 fin:r.fin=s.fin
 nest:r.nest=s.nest
 pos:∀ N,PSo N s→0≤r.pos∧r.pos≤N
theorem SS.refl (s:PS):SS s s:=⟨⟨0,rfl⟩,rfl,rfl,fun _ h=>h.2.2⟩
theorem SS.po {s r:PS} (h:SS s r) {N:Int} (g:PSo N s):PSo N r:=by
 obtain ⟨k,hk⟩:=h.suf
 refine ⟨fun t ht=>?_,by rw [h.fin];exact g.2.1,h.pos N g⟩
 rw [hk] at ht
 exact g.1 t (List.mem_of_mem_drop ht)
theorem SS.trans {a b c:PS} (h:SS a b) (g:SS b c):SS a c:=by
 obtain ⟨k,hk⟩:=h.suf
 obtain ⟨j,hj⟩:=g.suf
 exact ⟨⟨k+j,by rw [hj,hk,List.drop_drop]⟩,g.fin.trans h.fin,g.nest.trans h.nest,fun N hN=>g.pos N (h.po hN)⟩
theorem SS.len {s r:PS} (h:SS s r):r.l.length≤s.l.length:=by
 obtain ⟨k,hk⟩:=h.suf
 rw [hk,List.length_drop];omega
theorem SS.next (s:PS):SS s s.next:=⟨⟨1,by simp [PS.next]⟩,rfl,rfl,fun _ h=>h.2.2⟩
theorem dq {N:Int} {s:PS} (h:PSo N s):0≤s.peek.pos∧s.peek.pos≤N:=by
 unfold PS.peek
 split
 ·exact h.2.1
 ·rename_i t r e
  exact h.1 t (by rw [e];exact List.mem_cons_self)
theorem SS.fail (s:PS) (e p:Int) (h:∀ N,PSo N s→0≤p∧p≤N):SS s (s.fail e p):=by
 unfold PS.fail
 split
 ·exact ⟨⟨0,rfl⟩,rfl,rfl,h⟩
 ·exact SS.refl s
theorem SS.failp (s:PS) (e:Int):SS s (s.fail e s.peek.pos):=SS.fail s e _ fun _ h=>dq h
theorem SS.wrong (s:PS):SS s s.wrong:=SS.failp s 5
theorem SS.may (s:PS) (k:Int) (t:List UInt8):SS s (s.may k t):=by
 unfold PS.may;split
 ·exact SS.next s
 ·exact SS.refl s
theorem SS.must (s:PS) (k:Int) (t:List UInt8):SS s (s.must k t):=by
 unfold PS.must;split
 ·exact SS.next s
 ·exact SS.wrong s
theorem SS.of (s:PS) (k:Int):SS s (s.of k).2:=by
 unfold PS.of;split
 ·exact SS.next s
 ·exact SS.wrong s
theorem bn {s:PS} {k:Int} {t:List UInt8} (h:s.sees k t=true):s.next.l.length+1=s.l.length:=by
 unfold PS.sees PS.is at h
 simp only [Bool.and_eq_true,Bool.not_eq_true',decide_eq_true_eq] at h
 have:s.l≠[]:=by
  intro e;rw [e] at h;simp at h
 show s.l.tail.length+1=_
 rw [List.length_tail]
 have:=List.length_pos_iff.2 this
 omega
theorem gG {s:PS} {k:Int} (h:s.peek.k=k) (hk:k≠0):s.next.l.length+1=s.l.length:=by
 have:s.l≠[]:=by
  intro e;unfold PS.peek at h;rw [e] at h;exact hk h.symm
 show s.l.tail.length+1=_
 rw [List.length_tail]
 have:=List.length_pos_iff.2 this
 omega
theorem Ga {s:PS} {k:Int} (h:s.has k=true) (hk:k≠0):s.next.l.length+1=s.l.length:=by
 unfold PS.has at h
 simp only [Bool.and_eq_true,decide_eq_true_eq] at h
 exact gG h.2 hk
def bA (ls:List (List EN)):Nat:=(ls.map List.length).sum
theorem kj:∀ (ls:List (List EN)) (acc:List EN) (rs:List Int),(br ls acc rs).1.length=acc.length+bA ls
 | [],_,_=>by simp [br,bA]
 | l::r,acc,rs=>by
   rw [br,kj r]
   simp [bA,Nat.add_assoc]
theorem db (n:EN) (ls:List (List EN)):(az n ls).length=bA ls+1:=by
 simp [az,kj]
def gQ (b:Nat) (ns:List EN):Prop:=∀ n∈ns,n.l.length≤b
theorem w6 (n:EN) (ks:List Int):(aM n ks).l.length≤n.l.length:=by
 show (if aw n.k then aT ks (aG n.k) n.l 0 else []).length≤_
 split
 ·rw [cD];exact Nat.le_refl _
 ·exact Nat.zero_le _
theorem tS {b:Nat}:∀ (ls:List (List EN)) (acc:List EN) (rs:List Int),(∀ l∈ls,gQ b l)→gQ b acc→gQ b (br ls acc rs).1
 | [],_,_,_,h=>h
 | l::r,acc,rs,hl,h=>by
   refine tS r _ _ (fun x hx=>hl x (List.mem_cons_of_mem _ hx)) fun n hn=>?_
   rcases List.mem_append.1 hn with hn | hn
   ·exact h n hn
   ·obtain ⟨m,hm,rfl⟩:=List.mem_map.1 hn
    exact Nat.le_trans (w6 _ _) (hl l List.mem_cons_self m hm)
theorem dE {b:Nat} {n:EN} {ls:List (List EN)} (hn:n.l.length≤b) (hl:∀ l∈ls,gQ b l):gQ b (az n ls):=by
 intro m hm
 rcases List.mem_append.1 hm with hm | hm
 ·exact tS ls [] [] hl (fun _ h=>by cases h) m hm
 ·rw [List.mem_singleton.1 hm]
  exact Nat.le_trans (w6 _ _) hn
theorem gQ.mono {b c:Nat} {ns:List EN} (h:gQ b ns) (hc:b≤c):gQ c ns:=fun n hn=>Nat.le_trans (h n hn) hc
structure GP (d:Nat) (s:PS) (r:PR):Prop where
 ss:SS s r.2
 tr:Tr r.1
 sz:r.1.length+4*r.2.l.length≤4*s.l.length+d
 wd:gQ (s.l.length+1-r.2.l.length) r.1
theorem GP.pre {d e:Nat} {s s':PS} {r:PR} (h:GP d s' r) (hs:SS s s') (he:4*s'.l.length+d≤4*s.l.length+e):GP e s r :=
 ⟨hs.trans h.ss,h.tr,Nat.le_trans h.sz he,h.wd.mono (by have:=hs.len;omega)⟩
theorem GP.post {d:Nat} {s:PS} {l:List EN} {s' s'':PS} (h:GP d s (l,s')) (hs:SS s' s''):GP d s (l,s'') :=
 ⟨h.ss.trans hs,h.tr,by have:=h.sz;have:=hs.len;simp only at *;omega,h.wd.mono (by have:=hs.len;have:=h.ss.len;simp only at *;omega)⟩
theorem GP.leaf {s s':PS} {n:EN} (hn:aF n=0) (hl:n.l=[]) (hs:SS s s') {d:Nat} (hd:1+4*s'.l.length≤4*s.l.length+d):GP d s (cA n,s') :=
 ⟨hs,.join n [] hn (fun _ h=>by cases h),by show (az n []).length+_≤_;rw [db];simp only [bA,List.map_nil,List.sum_nil];omega,dE (by rw [hl];exact Nat.zero_le _) (fun _ h=>by cases h)⟩
theorem GP.HI {s s1:PS} {a:PR} {n:EN} {d e:Nat} (ha:GP d s1 a) (hs:SS s s1) (hn:aF n=1) (hl:n.l=[]) (he:4*s1.l.length+d+1≤4*s.l.length+e):GP e s (az n [a.1],a.2):=by
 have h1:=ha.sz
 have h3:=hs.len
 refine ⟨hs.trans ha.ss,.join n _ hn (fun l h=>by rw [List.mem_singleton.1 h];exact ha.tr),?_,dE (by rw [hl];exact Nat.zero_le _) fun l h=>?_⟩
 ·rw [db]
  simp only [bA,List.map_cons,List.map_nil,List.sum_cons,List.sum_nil]
  omega
 ·rw [List.mem_singleton.1 h]
  exact ha.wd.mono (by simp only;omega)
theorem GP.uI {s s1 s2:PS} {a b:PR} {n:EN} {d d' e:Nat} (ha:GP d s1 a) (hb:GP d' s2 b) (hs:SS s s1) (hm:SS a.2 s2) (hn:aF n=2) (hl:n.l=[])
  (he:4*s1.l.length+4*s2.l.length+d+d'+1≤4*s.l.length+4*a.2.l.length+e):GP e s (az n [a.1,b.1],b.2):=by
 have h1:=ha.sz
 have h2:=hb.sz
 have h3:=hs.len
 have h4:=hm.len
 have h5:=ha.ss.len
 have h6:=hb.ss.len
 refine ⟨((hs.trans ha.ss).trans hm).trans hb.ss,.join n _ hn (fun l h=>?_),?_,dE (by rw [hl];exact Nat.zero_le _) fun l h=>?_⟩
 ·rcases List.mem_cons.1 h with rfl | h
  ·exact ha.tr
  ·rw [List.mem_singleton.1 h];exact hb.tr
 ·rw [db]
  simp only [bA,List.map_cons,List.map_nil,List.sum_cons,List.sum_nil]
  omega
 ·rcases List.mem_cons.1 h with rfl | h
  ·exact ha.wd.mono (by simp only;omega)
  ·rw [List.mem_singleton.1 h];exact hb.wd.mono (by simp only;omega)
theorem GP.Ky {s s1 s2 s3:PS} {a b c:PR} {n:EN} {d e:Nat} (ha:GP d s1 a) (hb:GP d s2 b) (hc:GP d s3 c) (hs:SS s s1) (hm:SS a.2 s2) (hm':SS b.2 s3) (hn:aF n=3) (hl:n.l=[])
  (he:4*s1.l.length+3*d+1≤4*s.l.length+e):GP e s (az n [a.1,b.1,c.1],c.2):=by
 have h1:=ha.sz
 have h2:=hb.sz
 have h2':=hc.sz
 have h3:=hs.len
 have h4:=hm.len
 have h4':=hm'.len
 have h5:=ha.ss.len
 have h6:=hb.ss.len
 have h7:=hc.ss.len
 refine ⟨((((hs.trans ha.ss).trans hm).trans hb.ss).trans hm').trans hc.ss,.join n _ hn (fun l h=>?_),?_,dE (by rw [hl];exact Nat.zero_le _) fun l h=>?_⟩
 ·simp only [List.mem_cons,List.not_mem_nil,or_false] at h
  rcases h with rfl | rfl | rfl
  ·exact ha.tr
  ·exact hb.tr
  ·exact hc.tr
 ·rw [db]
  simp only [bA,List.map_cons,List.map_nil,List.sum_cons,List.sum_nil]
  omega
 ·simp only [List.mem_cons,List.not_mem_nil,or_false] at h
  rcases h with rfl | rfl | rfl
  ·exact ha.wd.mono (by simp only;omega)
  ·exact hb.wd.mono (by simp only;omega)
  ·exact hc.wd.mono (by simp only;omega)
end Go.Proofs.YtejpnabbmgpmaaaGreatDoor

namespace Go.Proofs.YtejpnabbmgpmaaaGreatDoor
open Go.Ab
theorem nO (l:List EN):∀ (a:List (List EN)) (acc:List EN) (rs:List Int),br (a++[l]) acc rs=((br a acc rs).1++l.map (ax (br a acc rs).1.length),(br a acc rs).2++[(((br a acc rs).1.length+l.length:Nat):Int)-1])
 | [],_,_=>rfl
 | _::r,_,_=>nO l r _ _
def iy (ls:List (List EN)) (i:Nat):List EN × List Int:=br (ls.take i) [] []
theorem zz {ls:List (List EN)} {i:Nat} (h:i<ls.length):iy ls (i+1)=((iy ls i).1++ls[i].map (ax (iy ls i).1.length),(iy ls i).2++[(((iy ls i).1.length+ls[i].length:Nat):Int)-1]):=by
 unfold iy
 rw [List.take_succ_eq_append_getElem h,nO]
theorem DG (ls:List (List EN)):iy ls ls.length=br ls [] []:=by rw [iy,List.take_length]
theorem Dq (a b:List (List EN)):bA (a++b)=bA a+bA b:=by simp [bA]
theorem Dx {ls:List (List EN)} {i:Nat} (h:i<ls.length):(iy ls i).1.length+ls[i].length≤bA ls:=by
 have h1:(iy ls i).1.length=bA (ls.take i):=by unfold iy;rw [kj];simp
 have h2:bA ls=bA (ls.take i)+bA (ls.drop i):=by rw [← Dq,List.take_append_drop]
 have h3:bA (ls.drop i)=ls[i].length+bA (ls.drop (i+1)):=by rw [List.drop_eq_getElem_cons h];unfold bA;rw [List.map_cons,List.sum_cons]
 omega
theorem sv:∀ (ls:List (List EN)) (acc:List EN) (rs:List Int),(br ls acc rs).2.length=rs.length+ls.length
 | [],_,_=>by simp [br]
 | l::r,acc,rs=>by rw [br,sv];simp;omega
theorem EV (ls:List (List EN)) (i:Nat):(iy ls i).2.length≤i:=by unfold iy;rw [sv];simp;omega
def lO (off:Nat) (K:List Int) (x:Nat):List Int:=((K.take x).map fun k:Int=>k+off)++K.drop x
theorem Da (off:Nat) (K:List Int):lO off K K.length=K.map fun k:Int=>k+off:=by simp [lO]
theorem Cm (off:Nat) (K:List Int) (x:Nat):(lO off K x).length=K.length:=by
 simp only [lO,List.length_append,List.length_map,List.length_take,List.length_drop];omega
theorem CE {off:Nat} {K:List Int} {x:Nat} (h:x<K.length):(lO off K x).getD x 0=K.getD x 0:=by
 unfold lO
 rw [List.getD_eq_getElem?_getD,List.getElem?_append_right (by simp;omega)]
 simp [Nat.min_eq_left (Nat.le_of_lt h),h]
theorem zK {off:Nat} {K:List Int} {x:Nat} (h:x<K.length):(lO off K x).set x (K.getD x 0+off)=lO off K (x+1):=by
 have h1:K.take (x+1)=K.take x++[K[x]]:=by simp
 have h2:K.drop x=K[x]::K.drop (x+1):=List.drop_eq_getElem_cons h
 unfold lO
 have h3:((K.take x).map fun k:Int=>k+off).length=x:=by simp;omega
 rw [h1,h2,List.set_append_right _ _ (by omega),h3,Nat.sub_self,List.set_cons_zero,List.map_append,List.append_assoc]
 simp [h]
theorem Ge {ls:List (List EN)} {i:Nat} (h:i<ls.length):(ls.map exD).getD i .nilp=.agg [.sl (some 9) (ls[i].map enD)]:=by simp [h,exD]
theorem qJ (M:EN):enD M=.agg [i64 M.k,i64 M.a,i64 M.b,i64 M.c,i64 M.n,.str M.name,.str M.s,.sl (some 3) (M.l.map fD),i64 M.pos]:=rfl
theorem qW {G} (n:EN) (ls:List (List EN)) (hn:n.l.length≤1000000) (hL:ls.length≤1000000) (hS:bA ls≤1000000) (hk:∀ l∈ls,∀ m∈l,il l.length m) (hw:∀ l∈ls,gQ 900000 l) :
  HP Tryz.prog G 77 [enD n,.sl (some 1) (ls.map exD)] (fun r=>r=.d (exD (az n ls))):=by
 unfold enD efD
 refine bR Tryz.func77 rfl (by decide +kernel) (by simp [Tryz.ntmps77]) (veil fun E=>?_)
 simp only [go_sem]
 refine wW E 6 98 none rfl (by rw [aa];decide) ?_
 simp only [go_sem]
 refine xO E [5] 0 97 (some 9) [.d .nils] rfl rfl (by rw [aa];decide) ?_
 simp only [go_sem]
 refine aU E (X:={ i:Nat // i≤ls.length }) (fun x=>[(2,.bx [2] 0),(4,.bx [4] 0),(5,.bx [5] 0),(6,.vw [98] 0 (iy ls x.1).2.length),(14,.d (.sl (some 1) (ls.map exD))),(15,.d (i64 ls.length)),(16,.d (i64 x.1))])
  (fun x=>[([2],.box [.d (i64 n.k),.d (i64 n.a),.d (i64 n.b),.d (i64 n.c),.d (i64 n.n),.d (.str n.name),.d (.str n.s),.d (.sl (some 3) (n.l.map fD)),.d (i64 n.pos)]),([4],.box [.d .nils]),([5],.box [.vw [97] 0 (iy ls x.1).1.length]),([97],.arr (some 9) ((iy ls x.1).1.map enD)),([98],.arr none ((iy ls x.1).2.map i64))]) [2,4,5,97,98] (fun x=>ls.length-x.1) ⟨0,Nat.zero_le _⟩ id ?_ ?_
 ·simp only [go_sem]
  exact ⟨rfl,rfl,rfl,rfl⟩
 rintro ⟨i,hi⟩ E0
 refine bk E0 fun Q' hQ E'=>?_
 simp only at hi ⊢
 simp only [go_sem]
 refine ai E' (fun h1=>?_) (fun h1=>?_)<;>simp only [go_sem]
 ·have h1':i<ls.length:=by omega
  refine ⟨by omega,?_⟩
  rw [Ge h1']
  obtain ⟨l,hle⟩:∃ l,l=ls[i]:=⟨_,rfl⟩
  have hmem:l∈ls:=by rw [hle];exact List.getElem_mem h1'
  have hcl:=Dx h1'
  have hcs:=zz h1'
  have hcr:=EV ls i
  rw [← hle] at hcl hcs ⊢
  obtain ⟨acc,hacc⟩:∃ acc,acc=(iy ls i).1:=⟨_,rfl⟩
  obtain ⟨rs,hrs⟩:∃ rs,rs=(iy ls i).2:=⟨_,rfl⟩
  rw [← hacc] at hcl hcs
  rw [← hrs] at hcr hcs
  simp only [← hacc,← hrs]
  simp only [go_sem]
  refine aU E' (X:={ j:Nat // j≤l.length }) (fun x=>[(2,.bx [2] 0),(4,.bx [4] 0),(5,.bx [5] 0),(6,.vw [98] 0 rs.length),(14,.d (.sl (some 1) (ls.map exD))),(15,.d (i64 ls.length)),(16,.d (i64 i)),(9,.d (i64 acc.length)),(24,.d (.sl (some 9) (l.map enD))),(25,.d (i64 l.length)),(26,.d (i64 x.1))])
   (fun x=>[([2],.box [.d (i64 n.k),.d (i64 n.a),.d (i64 n.b),.d (i64 n.c),.d (i64 n.n),.d (.str n.name),.d (.str n.s),.d (.sl (some 3) (n.l.map fD)),.d (i64 n.pos)]),([4],.box [.d .nils]),([5],.box [.vw [97] 0 (acc.length+x.1)]),([97],.arr (some 9) ((acc++(l.take x.1).map (ax acc.length)).map enD)),([98],.arr none (rs.map i64))]) [2,4,5,97,98] (fun x=>l.length-x.1) ⟨0,Nat.zero_le _⟩ id ?_ ?_
  ·simp only [go_sem]
   all_goals first | rfl | simp
  rintro ⟨j,hj⟩ E2
  refine bk E2 fun Q2 hQ2 E3=>?_
  simp only at hj ⊢
  simp only [go_sem]
  refine ai E3 (fun h2=>?_) (fun h2=>?_)<;>simp only [go_sem]
  ·have h2':j<l.length:=by omega
   refine ⟨by omega,?_⟩
   rw [bO h2',bh h2']
   obtain ⟨m,hm⟩:∃ m,m=l[j]:=⟨_,rfl⟩
   have hmm:m∈l:=by rw [hm];exact List.getElem_mem h2'
   have hmk:=hk l hmem m hmm
   have hml:=hw l hmem m hmm
   rw [← hm]
   simp only [go_sem]
   refine ab E3 [.d (enD m)] [] [] (ov m (by omega)) rfl rfl ⟨by simp only [go_sem],by rw [aa];decide⟩ rfl (by simp only [go_sem]) (by simp only [go_sem]) ?_
   rintro _ _ ⟨rfl,rfl⟩
   simp only [go_sem]
   have hKl:(aj m).length≤1000000:=by
    rw [bd];unfold aF
    have:=cI m.k
    split<;>omega
   have hKk:∀ q,q<(aj m).length→0≤(aj m).getD q 0∧(aj m).getD q 0<l.length:=fun q hq=>hmk _ (by simp [hq])
   have hwm:aM m ((aj m).map fun k:Int=>k+acc.length)=ax acc.length m:=rfl
   obtain ⟨K,hK⟩:∃ K,K=aj m:=⟨_,rfl⟩
   rw [← hK] at hKl hKk hwm ⊢
   refine aU E3 (X:={ q:Nat // q≤K.length }) (fun x=>[(2,.bx [2] 0),(4,.bx [4] 0),(5,.bx [5] 0),(6,.vw [98] 0 rs.length),(11,.bx [11] 0),(12,.vw [96] 0 K.length),(14,.d (.sl (some 1) (ls.map exD))),(15,.d (i64 ls.length)),(16,.d (i64 i)),(9,.d (i64 acc.length)),(24,.d (.sl (some 9) (l.map enD))),(25,.d (i64 l.length)),(26,.d (i64 j)),(33,.d (i64 K.length)),(34,.d (i64 x.1))])
    (fun x=>[([2],.box [.d (i64 n.k),.d (i64 n.a),.d (i64 n.b),.d (i64 n.c),.d (i64 n.n),.d (.str n.name),.d (.str n.s),.d (.sl (some 3) (n.l.map fD)),.d (i64 n.pos)]),([4],.box [.d .nils]),([5],.box [.vw [97] 0 (acc.length+j)]),([97],.arr (some 9) ((acc++(l.take j).map (ax acc.length)).map enD)),([98],.arr none (rs.map i64)),
     ([11],.box [.d (i64 m.k),.d (i64 m.a),.d (i64 m.b),.d (i64 m.c),.d (i64 m.n),.d (.str m.name),.d (.str m.s),.d (.sl (some 3) (m.l.map fD)),.d (i64 m.pos)]),([96],.arr none ((lO acc.length K x.1).map i64))]) [2,4,5,11,96,97,98] (fun x=>K.length-x.1) ⟨0,Nat.zero_le _⟩ (tau [([96],[31,0])]) ?_ ?_
   ·simp only [go_sem]
    all_goals rfl
   rintro ⟨q,hq⟩ E4
   refine bk E4 fun Q4 hQ4 E5=>?_
   simp only at hq ⊢
   simp only [go_sem]
   refine ai E5 (fun h3=>?_) (fun h3=>?_)<;>simp only [go_sem]
   ·have h3':q<K.length:=by omega
    have hpl:=Cm acc.length K q
    have hin:=hKk q h3'
    rw [show ((lO acc.length K q).map i64).getD q .nilp=i64 (K.getD q 0) by rw [← CE h3',aR (by omega)]]
    simp only [go_sem]
    refine ⟨⟨by omega,by omega⟩,⟨by omega,by omega⟩,?_⟩
    have hmp:((lO acc.length K q).map i64).set q (.int .i64 (w64 (K.getD q 0+acc.length)))=(lO acc.length K (q+1)).map i64:=by
     rw [al ⟨by omega,by omega⟩,← zK h3',List.map_set]
    rw [hmp,hQ4]
    simp only [go_sem]
    refine ⟨⟨q+1,by omega⟩,by show K.length-(q+1)<_;omega,id,?_⟩
    rw [al ⟨by omega,by omega⟩]
    simp only [go_sem]
    all_goals rfl
   ·have hq2:q=K.length:=by omega
    subst hq2
    rw [Da,hQ4]
    simp only [go_sem]
    refine lL E3 [96] none ((K.map fun k:Int=>k+acc.length).map i64) rfl ?_
    simp only [go_sem]
    refine au mixed E3 fun X=>?_
    simp only [go_sem]
    rw [List.take_of_length_le (l:=List.map i64 _) (by simp)]
    refine dX X (yx m (K.map fun k:Int=>k+acc.length) (by omega) (by rw [List.length_map];exact hKl)) rfl rfl (by simp) ?_
    obtain ⟨M,hM⟩:∃ M,M=ax acc.length m:=⟨_,rfl⟩
    rw [hwm,← hM,qJ M]
    simp only [go_sem]
    have hout:List.take (acc.length+j) (List.map enD (acc++List.map (ax acc.length) (List.take j l)))++[.agg [i64 M.k,i64 M.a,i64 M.b,i64 M.c,i64 M.n,.str M.name,.str M.s,.sl (some 3) (M.l.map fD),i64 M.pos]]=(acc++(l.take (j+1)).map (ax acc.length)).map enD:=by
     rw [List.take_of_length_le (by simp;omega),List.take_succ_eq_append_getElem h2',← hm]
     simp only [List.map_append,List.map_cons,List.map_nil,← hM,← qJ M,List.append_assoc]
    rw [hout]
    refine ⟨by omega,by decide +kernel,?_⟩
    rw [hQ2]
    simp only [go_sem]
    refine ⟨⟨j+1,by omega⟩,by show l.length-(j+1)<_;omega,tau [([97],[51])],?_⟩
    rw [al ⟨by omega,by omega⟩]
    simp only [go_sem]
    exact ⟨rfl,rfl⟩
  ·rw [hQ2]
   simp only [go_sem]
   have hj2:j=l.length:=by omega
   subst hj2
   have hro:List.map i64 rs++[.int .i64 (w64 (((acc.length+l.length:Nat):Int)-1))]=(rs++[((acc.length+l.length:Nat):Int)-1]).map i64:=by
    rw [al ⟨by omega,by omega⟩]
    simp only [List.map_append,List.map_cons,List.map_nil]
   rw [hro]
   refine ⟨by omega,?_⟩
   rw [hQ]
   simp only [go_sem]
   refine ⟨⟨i+1,by omega⟩,by show ls.length-(i+1)<_;omega,tau [([98],[60])],?_⟩
   simp only [hcs]
   rw [al ⟨by omega,by omega⟩]
   simp only [go_sem]
   simp only [List.length_append,List.length_map,List.length_singleton]
   refine ⟨⟨trivial,rfl⟩,?_⟩
   first | rfl | exact ⟨rfl,rfl⟩ | exact ⟨trivial,rfl⟩ | exact ⟨rfl,trivial⟩ | trivial
 ·rw [hQ]
  have hi2:i=ls.length:=by omega
  subst hi2
  rw [DG]
  obtain ⟨acc,hacc⟩:∃ acc,acc=(br ls [] []).1:=⟨_,rfl⟩
  obtain ⟨rs,hrs⟩:∃ rs,rs=(br ls [] []).2:=⟨_,rfl⟩
  have hal:acc.length=bA ls:=by rw [hacc,kj];simp
  have hrl:rs.length=ls.length:=by rw [hrs,sv];simp
  have hj:az n ls=acc++[aM n rs]:=by unfold az;rw [← hacc,← hrs]
  rw [← hacc,← hrs]
  simp only [go_sem]
  refine lL E [98] none (rs.map i64) rfl ?_
  simp only [go_sem]
  refine au mixed E fun X=>?_
  simp only [go_sem]
  refine dX X (yx n rs hn (by omega)) rfl rfl (by simp) ?_
  obtain ⟨M,hM⟩:∃ M,M=aM n rs:=⟨_,rfl⟩
  rw [← hM,qJ M]
  simp only [go_sem]
  have hout:List.map enD acc++[.agg [i64 M.k,i64 M.a,i64 M.b,i64 M.c,i64 M.n,.str M.name,.str M.s,.sl (some 3) (M.l.map fD),i64 M.pos]]=(az n ls).map enD:=by
   rw [hj,← hM,List.map_append,← qJ];rfl
  rw [hout]
  refine ⟨by omega,by decide +kernel,[([68],some 9,(az n ls).map enD)],?_⟩
  simp only [go_sem]
  rw [List.take_of_length_le (by rw [hj];simp)]
  rfl
end Go.Proofs.YtejpnabbmgpmaaaGreatDoor

namespace Go.Proofs.YtejpnabbmgpmaaaGreatDoor
open Go.Ab
theorem Gi {G} (n:EN):HP Tryz.prog G 105 [enD n] (fun r=>r=.d (.bool (ez n))):=by
 generalize hb:ez n=b
 unfold ez at hb
 have hk:=cI n.k
 unfold enD efD
 refine an Tryz.func105 rfl (by decide +kernel) (by simp [Tryz.ntmps105]) (veil fun E=>?_)
 simp only [go_sem]
 refine au mixed E fun X=>?_
 simp only [go_sem]
 refine dX X (mR n.k) rfl rfl (by simp) ?_
 simp only [go_sem]
 refine ⟨⟨by omega,by omega⟩,by decide +kernel,?_⟩
 rw [show ([i64 n.a,i64 n.b,i64 n.c]:List D)=[n.a,n.b,n.c].map i64 from rfl]
 obtain ⟨k,hke⟩:∃ k,k=aG n.k:=⟨_,rfl⟩
 rw [← hke] at hk hb ⊢
 have hL:([n.a,n.b,n.c].drop k).length=3-k:=by simp
 have hget:∀ i,i<3-k→(List.map i64 [n.a,n.b,n.c]).getD (k+i) .nilp=i64 (([n.a,n.b,n.c].drop k).getD i 0):=fun i hi=>by
  rw [aR (by simp;omega),List.getD_eq_getElem?_getD,List.getD_eq_getElem?_getD,List.getElem?_drop]
 generalize ([n.a,n.b,n.c]:List Int)=A at hb hL hget ⊢
 generalize A.drop k=L at hb hL hget
 refine dN E (X:={ i:Nat // i≤3-k∧(L.take i).all (fun x=>decide (x=0))=true }) (fun x=>[(16,.vw [11] k (3-k)),(17,.d (i64 (3-k:Nat))),(18,.d (i64 x.1))])
  (fun x=>[([1],.box [.d (i64 n.k),.d (i64 n.a),.d (i64 n.b),.d (i64 n.c),.d (i64 n.n),.d (.str n.name),.d (.str n.s),.d (.sl (some 3) (n.l.map fD)),.d (i64 n.pos)]),([11],.arr none (A.map i64))]) [11,1] (fun x=>3-k-x.1) ⟨0,by simp⟩ ?_ ?_
 ·simp only [go_sem]
  all_goals rfl
 rintro ⟨i,hi,hall⟩ E0
 refine bk E0 fun Q' hQ E'=>?_
 simp only at hi hall ⊢
 simp only [go_sem]
 refine ai E' (fun g1=>?_) (fun g1=>?_)<;>simp only [go_sem]
 ·have hi':i<3-k:=by omega
  have hi2:i<L.length:=by omega
  have hLi:L.getD i 0=L[i]:=by simp [hi2]
  refine ⟨by omega,?_⟩
  rw [hget i hi',hLi]
  simp only [go_sem]
  refine aV E' (fun g2=>?_) (fun g2=>?_)<;>simp only [go_sem]
  ·rw [hQ]
   simp only [go_sem]
   have:L.all (fun x=>decide (x=0))=false:=List.all_eq_false.2 ⟨_,List.getElem_mem hi2,by simpa using g2⟩
   rw [← hb,this]
  ·rw [hQ]
   simp only [go_sem]
   have g3:decide (L[i]=0)=true:=by simpa using g2
   refine ⟨⟨i+1,by omega,by rw [List.take_succ_eq_append_getElem hi2,List.all_append,hall];simpa using g3⟩,by show 3-k-(i+1)<_;omega,?_⟩
   rw [al ⟨by omega,by omega⟩]
   rfl
 ·rw [hQ]
  have h3:i=L.length:=by omega
  subst h3
  rw [List.take_length] at hall
  simp only [go_sem]
  rw [← hb,hall]
theorem JZ {G} (n:EN) (h:eY BIG n):HP Tryz.prog G 54 [enD n] (fun r=>r=.d (.bool (ar n))):=by
 generalize hb:ar n=b
 unfold ar at hb
 have c1:=FZ (G:=G) n h
 have c2:=Hc (G:=G) n
 have c3:=FY (G:=G) n h
 have c4:=Gi (G:=G) n
 generalize da n=x1 at c1 hb
 generalize bH n=x2 at c2 hb
 generalize bm n=x3 at c3 hb
 generalize ez n=x4 at c4 hb
 unfold enD efD at *
 refine an Tryz.func54 rfl (by decide +kernel) (by simp [Tryz.ntmps54]) (veil fun E=>?_)
 simp only [go_sem]
 repeat (first
  | (apply cq E;(· simp only [go_sem]);(· intro h;(try simp only [bq] at h);simp only [↓h,go_sem];rfl);simp only [go_sem])
  | (apply bl E;(· simp only [go_sem]);(· intro h;(try simp only [bq] at h);simp only [↓h,go_sem];rfl);(· intro h;(try simp only [bq] at h);simp only [↓h,go_sem];rfl);simp only [go_sem])
  | (apply bj E;(· simp only [go_sem]);(· rfl);(· intro h h';(try simp only [bq] at h h');simp only [↓h,↓h',go_sem];rfl);simp only [go_sem])
  | (apply aQ E;(· simp only [go_sem]);(· rfl);(· intro h h';(try simp only [bq] at h h');simp only [↓h,↓h',go_sem];rfl);(· intro h h';(try simp only [bq] at h h');simp only [↓h,↓h',go_sem];rfl);simp only [go_sem])
  | (apply b9 E;(· decide);simp only [go_sem]))
 refine aV E (fun g=>?_) (fun g=>?_)<;>simp only [go_sem]
 ·have g':¬ (1≤n.k∧n.k≤14∧0≤n.pos∧n.pos≤1048576):=by
   simp only [Bool.or_eq_true,decide_eq_true_eq] at g
   omega
  have:(decide (1≤n.k) && decide (n.k≤14) && decide (0≤n.pos) && decide (n.pos≤1048576))=false:=by
   rw [Bool.eq_false_iff]
   intro hc
   simp only [Bool.and_eq_true,decide_eq_true_eq] at hc
   exact g' ⟨hc.1.1.1,hc.1.1.2,hc.1.2,hc.2⟩
  rw [← hb,this,Bool.false_and]
 ·refine ae E (c1) rfl rfl (by simp) ?_
  rintro _ rfl
  simp only [go_sem]
  repeat (first
   | (apply cq E;(· simp only [go_sem]);(· intro h;(try simp only [bq] at h);simp only [↓h,go_sem];rfl);simp only [go_sem])
   | (apply bl E;(· simp only [go_sem]);(· intro h;(try simp only [bq] at h);simp only [↓h,go_sem];rfl);(· intro h;(try simp only [bq] at h);simp only [↓h,go_sem];rfl);simp only [go_sem])
   | (apply bj E;(· simp only [go_sem]);(· rfl);(· intro h h';(try simp only [bq] at h h');simp only [↓h,↓h',go_sem];rfl);simp only [go_sem])
   | (apply aQ E;(· simp only [go_sem]);(· rfl);(· intro h h';(try simp only [bq] at h h');simp only [↓h,↓h',go_sem];rfl);(· intro h h';(try simp only [bq] at h h');simp only [↓h,↓h',go_sem];rfl);simp only [go_sem])
   | (apply b9 E;(· decide);simp only [go_sem]))
  (first | (apply iD E;(· simp only [go_sem]);(· intro h hk;(try simp only [bq] at h);refine ae E (c2) rfl (by simp only [↓h,go_sem]<;>rfl) (by simp) ?_;rintro _ rfl;exact hk);simp only [go_sem]) | (apply fE E;(· simp only [go_sem]);(· rfl);(· intro h h' hk;(try simp only [bq] at h h');refine ae E (c2) rfl (by simp only [↓h,↓h',go_sem]<;>rfl) (by simp) ?_;rintro _ rfl;exact hk);simp only [go_sem]))
  repeat (first
   | (apply cq E;(· simp only [go_sem]);(· intro h;(try simp only [bq] at h);simp only [↓h,go_sem];rfl);simp only [go_sem])
   | (apply bl E;(· simp only [go_sem]);(· intro h;(try simp only [bq] at h);simp only [↓h,go_sem];rfl);(· intro h;(try simp only [bq] at h);simp only [↓h,go_sem];rfl);simp only [go_sem])
   | (apply bj E;(· simp only [go_sem]);(· rfl);(· intro h h';(try simp only [bq] at h h');simp only [↓h,↓h',go_sem];rfl);simp only [go_sem])
   | (apply aQ E;(· simp only [go_sem]);(· rfl);(· intro h h';(try simp only [bq] at h h');simp only [↓h,↓h',go_sem];rfl);(· intro h h';(try simp only [bq] at h h');simp only [↓h,↓h',go_sem];rfl);simp only [go_sem])
   | (apply b9 E;(· decide);simp only [go_sem]))
  (first | (apply iD E;(· simp only [go_sem]);(· intro h hk;(try simp only [bq] at h);refine ae E (c3) rfl (by simp only [↓h,go_sem]<;>rfl) (by simp) ?_;rintro _ rfl;exact hk);simp only [go_sem]) | (apply fE E;(· simp only [go_sem]);(· rfl);(· intro h h' hk;(try simp only [bq] at h h');refine ae E (c3) rfl (by simp only [↓h,↓h',go_sem]<;>rfl) (by simp) ?_;rintro _ rfl;exact hk);simp only [go_sem]))
  repeat (first
   | (apply cq E;(· simp only [go_sem]);(· intro h;(try simp only [bq] at h);simp only [↓h,go_sem];rfl);simp only [go_sem])
   | (apply bl E;(· simp only [go_sem]);(· intro h;(try simp only [bq] at h);simp only [↓h,go_sem];rfl);(· intro h;(try simp only [bq] at h);simp only [↓h,go_sem];rfl);simp only [go_sem])
   | (apply bj E;(· simp only [go_sem]);(· rfl);(· intro h h';(try simp only [bq] at h h');simp only [↓h,↓h',go_sem];rfl);simp only [go_sem])
   | (apply aQ E;(· simp only [go_sem]);(· rfl);(· intro h h';(try simp only [bq] at h h');simp only [↓h,↓h',go_sem];rfl);(· intro h h';(try simp only [bq] at h h');simp only [↓h,↓h',go_sem];rfl);simp only [go_sem])
   | (apply b9 E;(· decide);simp only [go_sem]))
  (first | (apply iD E;(· simp only [go_sem]);(· intro h hk;(try simp only [bq] at h);refine ae E (c4) rfl (by simp only [↓h,go_sem]<;>rfl) (by simp) ?_;rintro _ rfl;exact hk);simp only [go_sem]) | (apply fE E;(· simp only [go_sem]);(· rfl);(· intro h h' hk;(try simp only [bq] at h h');refine ae E (c4) rfl (by simp only [↓h,↓h',go_sem]<;>rfl) (by simp) ?_;rintro _ rfl;exact hk);simp only [go_sem]))
  repeat (first
   | (apply cq E;(· simp only [go_sem]);(· intro h;(try simp only [bq] at h);simp only [↓h,go_sem];rfl);simp only [go_sem])
   | (apply bl E;(· simp only [go_sem]);(· intro h;(try simp only [bq] at h);simp only [↓h,go_sem];rfl);(· intro h;(try simp only [bq] at h);simp only [↓h,go_sem];rfl);simp only [go_sem])
   | (apply bj E;(· simp only [go_sem]);(· rfl);(· intro h h';(try simp only [bq] at h h');simp only [↓h,↓h',go_sem];rfl);simp only [go_sem])
   | (apply aQ E;(· simp only [go_sem]);(· rfl);(· intro h h';(try simp only [bq] at h h');simp only [↓h,↓h',go_sem];rfl);(· intro h h';(try simp only [bq] at h h');simp only [↓h,↓h',go_sem];rfl);simp only [go_sem])
   | (apply b9 E;(· decide);simp only [go_sem]))
  have g':¬ (n.k<1∨14<n.k∨n.pos<0∨1048576<n.pos):=by
   simp only [Bool.or_eq_false_iff,decide_eq_false_iff_not] at g
   omega
  rw [← hb,decide_eq_true (show 1≤n.k by omega),decide_eq_true (show n.k≤14 by omega),decide_eq_true (show 0≤n.pos by omega),decide_eq_true (show n.pos≤1048576 by omega)]
  rfl
end Go.Proofs.YtejpnabbmgpmaaaGreatDoor

namespace Go.Proofs.YtejpnabbmgpmaaaGreatDoor
open Go.Ab
def bump (cs:List Int) (k:Int):List Int:=cs.set k.toNat (cs.getD k.toNat 0+1)
def bumps (cs ks:List Int):List Int:=ks.foldl bump cs
theorem tz (cs:List Int) (k:Int):(bump cs k).length=cs.length:=by simp [bump]
theorem fb (ks:List Int):∀ cs:List Int,(bumps cs ks).length=cs.length:=by
 induction ks with
 | nil=>intro cs;rfl
 | cons k r ih=>intro cs;show (bumps (bump cs k) r).length=_;rw [ih,tz]
theorem nM (cs ks:List Int) (k:Int):bumps cs (ks++[k])=bump (bumps cs ks) k:=by simp [bumps]
def Bd (M:Nat) (cs:List Int):Prop:=∀ c∈cs,0≤c∧c≤(M:Int)
theorem Bd.bump {M:Nat} {cs:List Int} (h:Bd M cs) (k:Int):Bd (M+1) (bump cs k):=by
 intro c hc
 rcases List.mem_or_eq_of_mem_set hc with hc | hc
 ·have:=h c hc;omega
 ·by_cases hk:k.toNat<cs.length
  ·have:=h cs[k.toNat] (List.getElem_mem hk)
   rw [hc,show cs.getD k.toNat 0=cs[k.toNat] by simp [hk]]
   omega
  ·rw [hc,show cs.getD k.toNat 0=0 by simp [hk]]
   omega
theorem Bd.bumps {ks:List Int}:∀ {M:Nat} {cs:List Int},Bd M cs→Bd (M+ks.length) (bumps cs ks):=by
 induction ks with
 | nil=>intro M cs h;exact h
 | cons k r ih =>
   intro M cs h
   have:=ih (h.bump k)
   rw [List.length_cons]
   intro c hc
   have:=this c hc
   omega
theorem Bd.get {M:Nat} {cs:List Int} (h:Bd M cs) (i:Nat):0≤cs.getD i 0∧cs.getD i 0≤(M:Int):=by
 by_cases hi:i<cs.length
 ·rw [show cs.getD i 0=cs[i] by simp [hi]];exact h _ (List.getElem_mem hi)
 ·rw [show cs.getD i 0=0 by simp [hi]];omega
def inB (i:Nat) (k:Int):Bool:=decide (0≤k) && decide (k<(i:Int))
theorem Kd {G} (ns:List EN) (i:Nat) (cs:List Int) (M:Nat) (hi:i<ns.length) (hn:ns.length≤1000000) (hc:cs.length=ns.length) (hl:(ndE ns i).l.length≤1000000) (hM:Bd M cs) (hM2:M≤1000000000000) :
  HCall Tryz.prog G 55 [.d (exD ns),.d (i64 i),.vw [100] 0 ns.length] [([100],.arr none (cs.map i64))] [100]
   (fun r hp'=>∃ cs':List Int,cs'.length=ns.length∧(b7 ns i=true→cs'=bumps cs (aj (ndE ns i)))∧r=.d (.bool (b7 ns i))∧hp'=[([100],.arr none (cs'.map i64))]):=by
 have hg:=bO hi
 obtain ⟨n,hne⟩:∃ n,n=ndE ns i:=⟨_,rfl⟩
 rw [← hne] at hl hg ⊢
 have hkl:=bd n
 have hwl:aF n≤1000003:=by unfold aF;have:=cI n.k;split<;>omega
 obtain ⟨K,hK⟩:∃ K,K=aj n:=⟨_,rfl⟩
 have hlk:b7 ns i=(K.all (inB i) && (decide (n.k≠8) || decide ((ndE ns n.a.toNat).k=5))):=by
  unfold b7 inB
  rw [← hne,← hK]
 rw [hlk]
 have hkc:=ov (G:=G) n (by omega)
 rw [← hK] at hkc hkl ⊢
 unfold exD
 refine ao Tryz.func55 rfl (by decide +kernel) (by simp [Tryz.ntmps55]) (veil fun E=>?_)
 simp only [go_sem]
 refine ⟨by omega,?_⟩
 rw [hg]
 simp only [go_sem]
 refine ab E [.d (enD n)] [] [] hkc rfl rfl ⟨by simp only [go_sem],by rw [aa];decide⟩ rfl (by simp only [go_sem]) (by simp only [go_sem]) ?_
 rintro _ _ ⟨rfl,rfl⟩
 simp only [go_sem]
 refine lL E [14,0] none (K.map i64) rfl ?_
 simp only [go_sem]
 refine dN E (X:={ q:Nat // q≤K.length∧(K.take q).all (inB i)=true }) (fun x=>[(1,.d (i64 i)),(2,.vw [100] 0 ns.length),(3,.bx [3] 0),(6,.d (.bool false)),(14,.d (.sl none (K.map i64))),(15,.d (i64 K.length)),(16,.d (i64 x.1))])
  (fun x=>[([100],.arr none ((bumps cs (K.take x.1)).map i64)),([3],.box [.d (.sl (some 9) (ns.map enD))])]) [3,100] (fun x=>K.length-x.1) ⟨0,by simp⟩ ?_ ?_
 ·simp only [go_sem]
  all_goals rfl
 rintro ⟨q,hq,hall⟩ E0
 refine bk E0 fun Q' hQ E'=>?_
 simp only at hq hall ⊢
 simp only [go_sem]
 refine ai E' (fun g1=>?_) (fun g1=>?_)<;>simp only [go_sem]
 ·have hq':q<K.length:=by omega
  refine ⟨by omega,?_⟩
  rw [aR hq',show K.getD q 0=K[q] by simp [hq']]
  simp only [go_sem]
  repeat (first
   | (apply cq E';(· simp only [go_sem]);(· intro h;(try simp only [bq] at h);simp only [↓h,go_sem];rfl);simp only [go_sem])
   | (apply bl E';(· simp only [go_sem]);(· intro h;(try simp only [bq] at h);simp only [↓h,go_sem];rfl);(· intro h;(try simp only [bq] at h);simp only [↓h,go_sem];rfl);simp only [go_sem])
   | (apply bj E';(· simp only [go_sem]);(· rfl);(· intro h h';(try simp only [bq] at h h');simp only [↓h,↓h',go_sem];rfl);simp only [go_sem])
   | (apply aQ E';(· simp only [go_sem]);(· rfl);(· intro h h';(try simp only [bq] at h h');simp only [↓h,↓h',go_sem];rfl);(· intro h h';(try simp only [bq] at h h');simp only [↓h,↓h',go_sem];rfl);simp only [go_sem])
   | (apply b9 E';(· decide);simp only [go_sem]))
  refine aV E' (fun g2=>?_) (fun g2=>?_)<;>simp only [go_sem]
  ·rw [hQ]
   simp only [go_sem]
   have g3:inB i K[q]=false:=by
    rw [Bool.eq_false_iff]
    intro hc
    simp only [inB,Bool.and_eq_true,decide_eq_true_eq] at hc
    simp only [Bool.or_eq_true,decide_eq_true_eq] at g2
    omega
   have ha:K.all (inB i)=false:=List.all_eq_false.2 ⟨_,List.getElem_mem hq',by rw [g3];decide⟩
   refine ⟨_,_,[100],id,⟨bumps cs (K.take q),by rw [fb,hc],fun h=>by (rw [ha,Bool.false_and] at h;cases h),rfl,rfl⟩,?_⟩
   simp only [go_sem]
   rw [ha]
   rfl
  ·have g3:0≤K[q]∧K[q]<(i:Int):=by
    simp only [Bool.or_eq_false_iff,decide_eq_false_iff_not] at g2
    omega
   have g4:inB i K[q]=true:=by simp only [inB,decide_eq_true g3.1,decide_eq_true g3.2,Bool.and_self]
   have hbl:=fb (K.take q) cs
   have hbd:=(hM.bumps (ks:=K.take q)).get K[q].toNat
   have htl:(K.take q).length≤1000003:=by rw [List.length_take];omega
   refine ⟨by omega,?_⟩
   rw [aR (by omega)]
   simp only [go_sem]
   refine ⟨by omega,?_⟩
   rw [al (n:=(bumps cs (K.take q)).getD K[q].toNat 0+1) ⟨by omega,by omega⟩,al (n:=(q:Int)+1) ⟨by omega,by omega⟩]
   rw [show (List.map i64 (bumps cs (K.take q))).set K[q].toNat (.int .i64 ((bumps cs (K.take q)).getD K[q].toNat 0+1))=(bumps cs (K.take (q+1))).map i64 by
    rw [List.take_succ_eq_append_getElem hq',nM];unfold bump;rw [List.map_set]]
   rw [hQ]
   simp only [go_sem]
   refine ⟨⟨q+1,by omega,by rw [List.take_succ_eq_append_getElem hq',List.all_append,hall];simpa using g4⟩,by show K.length-(q+1)<_;omega,?_⟩
   first | rfl | exact ⟨rfl,rfl⟩
 ·rw [hQ]
  have h3:q=K.length:=by omega
  subst h3
  rw [List.take_length] at *
  simp only [go_sem]
  refine au mixed E fun X=>?_
  simp only [go_sem]
  refine ⟨by omega,?_⟩
  rw [hg]
  simp only [go_sem]
  refine Bx X (fun g1=>?_) (fun g1=>?_)<;>simp only [go_sem]
  ·refine ⟨by decide +kernel,?_⟩
   refine ⟨_,_,[100],id,⟨bumps cs K,by rw [fb,hc],fun _=>rfl,rfl,rfl⟩,?_⟩
   simp only [go_sem]
   rw [hall,decide_eq_true (show n.k≠8 from g1)]
   rfl
  ·have h8:n.k=8:=by omega
   have hka:K=[n.a,n.b]:=by rw [hK];unfold aj;rw [h8];rfl
   have ha:0≤n.a∧n.a<(i:Int):=by
    rw [hka] at hall
    simp only [List.all_cons,inB,Bool.and_eq_true,decide_eq_true_eq] at hall
    exact hall.1
   rw [ir]
   simp only [go_sem]
   refine ⟨by omega,?_⟩
   rw [hg]
   simp only [go_sem]
   refine ⟨by omega,?_⟩
   rw [bO (show n.a.toNat<ns.length by omega)]
   simp only [go_sem]
   refine ⟨by decide +kernel,?_⟩
   refine ⟨_,_,[100],id,⟨bumps cs K,by rw [fb,hc],fun _=>rfl,rfl,rfl⟩,?_⟩
   simp only [go_sem]
   rw [hall,decide_eq_false g1]
   rfl
end Go.Proofs.YtejpnabbmgpmaaaGreatDoor

namespace Go.Proofs.YtejpnabbmgpmaaaGreatDoor
open Go.Ab
theorem se (r:List UInt8):(fK r).2≤r.length:=by
 unfold fK
 (repeat' split)<;>simp
theorem wG:∀ (m:Nat) (r:List UInt8) (i:Nat) (acc:List UInt8),(de m r i acc).2.2=0→i+1≤(de m r i acc).2.1∧(de m r i acc).2.1≤i+r.length
 | 0,_,_,_,h=>by simp [de] at h
 | _+1,[],_,_,h=>by simp [de] at h
 | m+1,c::r,i,acc,h=>by
   unfold de at h ⊢
   split at h
   ·rename_i hc
    rw [if_pos hc]
    split at h
    ·simp at h
    ·rename_i h2;rw [if_neg h2];simp only [List.length_cons];omega
   rename_i hc
   rw [if_neg hc]
   split at h
   ·rename_i h1
    rw [if_pos h1]
    split at h
    ·simp at h
    ·rename_i h2
     rw [if_neg h2]
     have ih:=wG m _ _ _ h
     have:=se r
     rw [List.length_drop] at ih
     simp only [List.length_cons];omega
   rename_i h1
   rw [if_neg h1]
   split at h
   ·rename_i h2
    rw [if_pos h2]
    have ih:=wG m _ _ _ h
    simp only [List.length_cons];omega
   ·simp at h
theorem GH {s:List UInt8} (h:(cX s).2.2=0):1≤(cX s).2.1∧(cX s).2.1≤s.length:=by
 cases s with
 | nil=>simp [cX] at h
 | cons c r =>
   simp only [cX] at h ⊢
   by_cases hc:c=34
   ·rw [if_pos hc] at h ⊢
    have:=wG _ _ _ _ h
    simp only [List.length_cons];omega
   ·rw [if_neg hc] at h;simp at h
theorem kB (l:List UInt8):bo l≤l.length:=by
 cases l with
 | nil=>simp [bo]
 | cons c r =>
   rw [dv (by simp)]
   have:=yT ((c::r).drop 1)
   split
   ·simp only [List.drop_succ_cons,List.drop_zero] at this;simp;omega
   ·omega
theorem qA:∀ l:List UInt8,je l≤l.length
 | []=>Nat.le_refl _
 | c::r=>by
   unfold je
   have:=qA r
   split<;>simp
   omega
theorem ik {s p:List UInt8} (h:aS s p=true):p.length≤s.length:=by
 simp only [aS,Bool.and_eq_true,decide_eq_true_eq] at h
 exact h.1
theorem BG {s:List UInt8} (hs:s≠[]) (h:(bL s).e=0):1≤(bL s).n∧(bL s).n≤s.length:=by
 have h0:=List.length_pos_iff.2 hs
 unfold bL at h ⊢
 split at h
 ·rename_i hw
  rw [if_pos hw]
  unfold ji at h ⊢
  have:=kB s
  split at h
  ·simp [eB] at h
  rename_i h1
  rw [if_neg h1]
  (repeat' split)<;>(simp only;omega)
 rename_i hw
 rw [if_neg hw]
 split at h
 ·rename_i h1
  rw [if_pos h1]
  unfold tq at h ⊢
  split at h
  ·simp [eB] at h
  rename_i h2
  rw [if_neg h2]
  split at h
  ·simp [eB] at h
  rename_i h3
  rw [if_neg h3]
  have:=kB (s.drop 1)
  rw [List.length_drop] at this
  have h4:¬ bo (s.drop 1)=0:=fun e=>h2 (.inl e)
  simp only;omega
 rename_i h1
 rw [if_neg h1]
 split at h
 ·rename_i h2
  rw [if_pos h2]
  unfold Ax
  have:=qA (s.drop 1)
  rw [List.length_drop] at this
  simp only;omega
 rename_i h2
 rw [if_neg h2]
 split at h
 ·rename_i h3
  rw [if_pos h3]
  exact GH h
 rename_i h3
 rw [if_neg h3]
 unfold iZ at h ⊢
 split at h
 ·rename_i h4
  rw [if_pos h4]
  simp only [Bool.or_eq_true] at h4
  rcases h4 with h4 | h4
  ·have:=ik h4;simp at this;simp only;omega
  ·have:=ik h4;simp at this;simp only;omega
 rename_i h4
 rw [if_neg h4]
 split at h
 ·simp [eB] at h
 ·rename_i h5;rw [if_neg h5];simp only;omega
theorem xD:∀ (m:Nat) (s:List UInt8) (at':Nat),∀ q∈b8 m s at',q.1≤at'+s.length
 | 0,_,_,_,h=>by simp [b8] at h
 | m+1,s,at',q,h=>by
   unfold b8 at h
   split at h
   ·cases h
   rename_i hd
   have h0:=List.length_pos_iff.2 hd
   rw [List.length_drop] at h0
   split at h
   ·rw [List.mem_singleton.1 h];simp only;omega
   rename_i he
   have hn:=BG hd (by simpa using he)
   rw [List.length_drop] at hn
   rcases List.mem_cons.1 h with rfl | h
   ·simp only;omega
   ·have:=xD m _ _ q h
    simp only [List.length_drop] at this
    omega
theorem kR:∀ (m:Nat) (s:List UInt8) (at':Nat),(b8 m s at').length≤s.length
 | 0,_,_=>by simp [b8]
 | m+1,s,at'=>by
   unfold b8
   split
   ·simp
   rename_i hd
   have h0:=List.length_pos_iff.2 hd
   rw [List.length_drop] at h0
   split
   ·simp;omega
   rename_i he
   have hn:=BG hd (by simpa using he)
   rw [List.length_drop] at hn
   have:=kR m ((s.drop (aW s)).drop (bL (s.drop (aW s))).n) (at'+aW s+(bL (s.drop (aW s))).n)
   simp only [List.length_drop,List.length_cons] at this ⊢
   omega
theorem uW:∀ {l:List (Nat × Fnd)} {q:Nat × Int},fO l=some q→∃ x∈l,x.1=q.1
 | [],_,h=>by cases h
 | a::r,q,h=>by
   unfold fO at h
   split at h
   ·cases h;exact ⟨a,List.mem_cons_self,rfl⟩
   ·obtain ⟨x,hx,e⟩:=uW h
    exact ⟨x,List.mem_cons_of_mem _ hx,e⟩
theorem rf:∀ {l:List (Nat × Fnd)} {q:Nat × Int},fO l=some q→q.2≠0
 | [],_,h=>by cases h
 | a::r,q,h=>by
   unfold fO at h
   split at h
   ·rename_i g;cases h;exact g
   ·exact rf h
theorem BY (s:List UInt8):(bS s).2.1≤s.length∧(∀ t∈(bS s).1,0≤t.pos∧t.pos≤s.length)∧(bS s).1.length≤s.length∧((bS s).2.2=0→(bS s).2.1=s.length):=by
 have hin:=xD s.length.succ s 0
 unfold bS
 split
 ·rename_i i e h
  obtain ⟨x,hx,hxe⟩:=uW h
  have:=hin x hx
  have:=rf h
  refine ⟨by simp only at *;omega,fun _ h=>(by cases h),Nat.zero_le _,fun h=>absurd h this⟩
 ·refine ⟨Nat.le_refl _,fun t ht=>?_,?_,fun _=>rfl⟩
  ·obtain ⟨q,hq,rfl⟩:=List.mem_map.1 ht
   have:=hin q hq
   show 0≤(q.1:Int)∧(q.1:Int)≤_
   omega
  ·rw [List.length_map];exact kR _ _ _
end Go.Proofs.YtejpnabbmgpmaaaGreatDoor

namespace Go.Proofs.YtejpnabbmgpmaaaGreatDoor
open Go.Ab
theorem J2 (l:List UInt8) (c:UInt8) (w:World):(callFunc 167 #[.string ⟨l.toArray⟩,.int .u8 (c.toNat:Nat)]).run Tryz.prog w=.ok (.value (.int .i64 (Lib.indexByte l c))) w:=by
 rw [run_callFunc_extern Tryz.func167 (by kernel_rfl) (by kernel_rfl) (by kernel_rfl) (e:=Extern.BytealgIndexByte.indexByte) (by kernel_rfl)]
 rw [Lib.run_indexByteString]
 simp [Result.andThen]
theorem Gl {G} (l:List UInt8) (c:UInt8):HP Tryz.prog G 155 [.str l,u8 c] (fun r=>r=.d (i64 (Lib.indexByte l c))):=by
 unfold u8
 refine an Tryz.func155 rfl (by decide +kernel) (by simp [Tryz.ntmps155]) (veil fun E=>?_)
 simp only [go_sem]
 refine KO E 167 [.str l,.int .u8 (c.toNat:Nat)] [.string ⟨l.toArray⟩,.int .u8 (c.toNat:Nat)] (.int .i64 (Lib.indexByte l c)) (.int .i64 (Lib.indexByte l c)) rfl rfl (J2 l c) (by simp only [go_sem]) rfl rfl ?_
 simp only [go_sem]
theorem kr {G} (l:List UInt8) (c:UInt8):HP Tryz.prog G 136 [.str l,u8 c] (fun r=>r=.d (i64 (Lib.indexByte l c))):=by
 refine an Tryz.func136 rfl (by decide +kernel) (by simp [Tryz.ntmps136]) (veil fun E=>?_)
 simp only [go_sem]
 refine ae E (Gl l c) rfl rfl (by simp) ?_
 rintro _ rfl
 simp only [go_sem]
theorem yF {G} (s p:List UInt8):HP Tryz.prog G 158 [.str s,.str p] (fun r=>r=.d (.bool (aS s p))):=by
 refine an Tryz.func158 rfl (by decide +kernel) (by simp [Tryz.ntmps158]) (veil fun E=>?_)
 simp only [go_sem]
 refine ae E (y2 s p) rfl rfl (by simp) ?_
 rintro _ rfl
 simp only [go_sem]
theorem rb {G} (c:UInt8):HP Tryz.prog G 130 [u8 c] (fun r=>r=.d (.bool (fZ c))):=by
 unfold u8
 refine an Tryz.func130 rfl (by decide +kernel) (by simp [Tryz.ntmps130]) (veil fun E=>?_)
 simp only [go_sem]
 repeat (first
  | (apply cq E;(· simp only [go_sem]);(· intro h;(try simp only [bq] at h);simp only [↓h,go_sem];rfl);simp only [go_sem])
  | (apply bl E;(· simp only [go_sem]);(· intro h;(try simp only [bq] at h);simp only [↓h,go_sem];rfl);(· intro h;(try simp only [bq] at h);simp only [↓h,go_sem];rfl);simp only [go_sem])
  | (apply bj E;(· simp only [go_sem]);(· rfl);(· intro h h';(try simp only [bq] at h h');simp only [↓h,↓h',go_sem];rfl);simp only [go_sem])
  | (apply aQ E;(· simp only [go_sem]);(· rfl);(· intro h h';(try simp only [bq] at h h');simp only [↓h,↓h',go_sem];rfl);(· intro h h';(try simp only [bq] at h h');simp only [↓h,↓h',go_sem];rfl);simp only [go_sem])
  | (apply b9 E;(· decide);simp only [go_sem]))
 have hp:(((decide (32≤((c.toNat:Nat):Int)) && decide (((c.toNat:Nat):Int)≤126)) && decide (¬ ((c.toNat:Nat):Int)=34)) && decide (¬ ((c.toNat:Nat):Int)=92))=fZ c:=by
  unfold fZ
  rw [Bool.eq_iff_iff];simp;omega
 rw [hp]
theorem dV {c:UInt8} (d:UInt8) (h:((c.toNat:Nat):Int)=(d.toNat:Nat)):c=d:=UInt8.toNat_inj.1 (by omega)
theorem bz {c:UInt8} (d:UInt8) (h:¬ ((c.toNat:Nat):Int)=(d.toNat:Nat)):¬ c=d:=fun e=>h (by rw [e])
def GA (c:UInt8) (r:List UInt8):UInt8 × Nat:=if c=110 then (10,1) else if c=116 then (9,1) else if c=120 then (match r with | a::b::_=>if Lib.indexByte iv a<0∨Lib.indexByte iv b<0 then (0,0) else (UInt8.ofNat (16*Lib.indexByte iv a+Lib.indexByte iv b).toNat,3) | _=>(0,0)) else (0,0)
theorem CT (c:UInt8) (r:List UInt8):fK (c::r)=if c=34∨c=92 then (c,1) else GA c r:=rfl
theorem EO (c:UInt8) (r:List UInt8) (h:c=34∨c=92):fK (c::r)=(c,1):=by rw [CT,if_pos h]
theorem Fe (c:UInt8) (r:List UInt8) (h:¬ (c=34∨c=92)):fK (c::r)=GA c r:=by rw [CT,if_neg h]
theorem HQ (c:UInt8):∀ l:List UInt8,Lib.indexByte l c<l.length∨l=[]
 | []=>.inr rfl
 | b::l=>by
   left
   have:=HQ c l
   unfold Lib.indexByte
   split
   ·simp only [List.length_cons];omega
   split
   ·simp only [List.length_cons];omega
   ·rcases this with h | h
    ·simp only [List.length_cons];omega
    ·rename_i h1 h2
     subst h
     exact absurd rfl h2
theorem Dv (c:UInt8):Lib.indexByte iv c<16:=by
 rcases HQ c iv with h | h
 ·exact h
 ·cases h
theorem yP {G} (s:List UInt8) (hl:s.length≤1000000):HP Tryz.prog G 170 [.str s] (fun r=>r=.tup [.d (u8 (fK s).1),.d (i64 (fK s).2)]):=by
 unfold u8
 refine an Tryz.func170 rfl (by decide +kernel) (by simp [Tryz.ntmps170]) (veil fun E=>?_)
 simp only [go_sem]
 refine aV E (fun h=>?_) (fun h=>?_)<;>simp only [go_sem]
 ·have h0:s=[]:=by simpa using h
  subst h0
  rfl
 cases s with
 | nil=>simp at h
 | cons c r =>
 have hc0:(c::r).getD 0 0=c:=rfl
 simp only [List.length_cons] at hl
 refine ⟨by simp,?_⟩
 rw [hc0]
 have key1:c=34∨c=92→fK (c::r)=(c,1):=EO c r
 have key0:¬ (c=34∨c=92)→fK (c::r)=GA c r:=Fe c r
 refine ai E (fun h1=>?_) (fun h1=>?_)<;>simp only [go_sem]
 ·refine ai E (fun _=>?_) (fun h2=>absurd h1 h2)<;>simp only [go_sem]
  refine ⟨by simp,?_⟩
  rw [key1 (.inl (dV 34 h1))]
  rfl
 refine ai E (fun h2=>?_) (fun h2=>?_)<;>simp only [go_sem]
 ·refine ⟨by simp,?_⟩
  rw [key1 (.inr (dV 92 h2))]
  rfl
 have key:=key0 (fun h=>h.elim (bz 34 h1) (bz 92 h2))
 unfold GA at key
 refine ai E (fun h3=>?_) (fun h3=>?_)<;>simp only [go_sem]
 ·rw [key,if_pos (dV 110 h3)];rfl
 rw [if_neg (bz 110 h3)] at key
 refine ai E (fun h4=>?_) (fun h4=>?_)<;>simp only [go_sem]
 ·rw [key,if_pos (dV 116 h4)];rfl
 rw [if_neg (bz 116 h4)] at key
 refine ai E (fun h5=>?_) (fun h5=>?_)<;>simp only [go_sem]
 rotate_left
 ·rw [key,if_neg (bz 120 h5)];rfl
 rw [if_pos (dV 120 h5)] at key
 refine ai E (fun h6=>?_) (fun h6=>?_)<;>simp only [go_sem]
 ·have h7:fK (c::r)=(0,0):=by
   match r,h6,key with
   | [],_,key=>exact key
   | [_],_,key=>exact key
   | _::_::_,h6,_=>simp only [List.length_cons] at h6;omega
  rw [h7];rfl
 obtain ⟨a,b,r',rfl⟩:∃ a b r',r=a::b::r':=by
  match r,h6 with
  | [],h6=>exact absurd (by simp) h6
  | [_],h6=>exact absurd (by simp) h6
  | a::b::r',_=>exact ⟨a,b,r',rfl⟩
 simp only at key
 refine au mixed E fun X=>?_
 simp only [go_sem]
 have ha:=Dv a
 have hb:=Dv b
 refine ⟨by omega,?_⟩
 rw [show (c::a::b::r').getD 1 0=a from rfl]
 refine dX X (kr iv a) rfl rfl (by simp) ?_
 simp only [go_sem]
 refine ⟨by omega,?_⟩
 rw [show (c::a::b::r').getD 2 0=b from rfl]
 refine dX X (kr iv b) rfl rfl (by simp) ?_
 simp only [go_sem]
 generalize Lib.indexByte iv a=x at ha key
 generalize Lib.indexByte iv b=y at hb key
 refine ⟨by decide +kernel,?_⟩
 repeat (first
  | (apply cq E;(· simp only [go_sem]);(· intro h;(try simp only [bq] at h);simp only [↓h,go_sem];rfl);simp only [go_sem])
  | (apply bl E;(· simp only [go_sem]);(· intro h;(try simp only [bq] at h);simp only [↓h,go_sem];rfl);(· intro h;(try simp only [bq] at h);simp only [↓h,go_sem];rfl);simp only [go_sem])
  | (apply bj E;(· simp only [go_sem]);(· rfl);(· intro h h';(try simp only [bq] at h h');simp only [↓h,↓h',go_sem];rfl);simp only [go_sem])
  | (apply aQ E;(· simp only [go_sem]);(· rfl);(· intro h h';(try simp only [bq] at h h');simp only [↓h,↓h',go_sem];rfl);(· intro h h';(try simp only [bq] at h h');simp only [↓h,↓h',go_sem];rfl);simp only [go_sem])
  | (apply b9 E;(· decide);simp only [go_sem]))
 refine aV E (fun h7=>?_) (fun h7=>?_)<;>simp only [go_sem]
 ·rw [key,if_pos (by simpa using h7)];rfl
 ·have h8:0≤x∧0≤y:=by
   have:¬ (x<0∨y<0):=by simpa using h7
   omega
  rw [key,if_neg (by omega),al (n:=16*x) ⟨by omega,by omega⟩,al ⟨by omega,by omega⟩]
  obtain ⟨n,hn⟩:∃ n:Nat,16*x+y=n:=⟨(16*x+y).toNat,by omega⟩
  rw [hn,Int.toNat_natCast]
  have h9:n<256:=by omega
  have h10:IntKind.u8.wrap (n:Int)=((UInt8.ofNat n).toNat:Nat):=by
   rw [UInt8.toNat_ofNat']
   simp [IntKind.wrap,IntKind.bits,IntKind.signed]
  rw [h10]
  rfl
end Go.Proofs.YtejpnabbmgpmaaaGreatDoor

