/-
  The document's lexer: a text's writing is taken. (with the parts that follow it)
-/
import Derived.Test.YtejpnabbmgpmaaaGreatSFG
import Derived.Test.YtejpnabbmgpmaaaGreatSFF
import Derived.Test.YtejpnabbmgpmaaaGreatSFE
set_option linter.all false
namespace Go.Proofs.YtejpnabbmgpmaaaGreat
open Go.Ab
def p4 (s:List UInt8):AV:=.tup [.d (.str (cK s).1),.d (i64 (cK s).2.1),.d (i64 (cK s).2.2)]
theorem Ar (c:UInt8):Lib.indexByte dA c≤15:=by
 rw [xg]
 split
 ·omega
 ·split<;>omega
set_option maxHeartbeats 2000000 in
theorem E8 {G} (s:List UInt8) (hl:s.length≤1000000):HP Tryz.prog G 171 [.str s] (fun r=>r=p4 s):=by
 by_cases h2:2≤s.length
 rotate_left
 ·have hT:cK s=([],0,5):=by
   match s,h2 with
   | [],_=>rfl
   | [c],_ =>
     show (if c=34 then eu 1 [] 1 [] else ([],0,5))=_
     split<;>rfl
   | _::_::_,h=>simp at h
  unfold p4
  rw [hT]
  refine al Tryz.func171 rfl (by decide +kernel) (by simp [Tryz.ntmps171]) (veil fun E=>?_)
  simp only [go_sem]
  rw [decide_eq_true (show (s.length:Int)<2 by omega)]
  simp only [go_sem]
 obtain ⟨c0,r0,rfl⟩:∃ c r,s=c::r:=by
  match s,h2 with
  | c::r,_=>exact ⟨c,r,rfl⟩
 by_cases hc0:c0=34
 rotate_left
 ·have hT:cK (c0::r0)=([],0,5):=if_neg hc0
  unfold p4
  rw [hT]
  refine al Tryz.func171 rfl (by decide +kernel) (by simp [Tryz.ntmps171]) (veil fun E=>?_)
  simp only [go_sem]
  simp only [List.length_cons] at h2
  rw [decide_eq_false (show ¬ ((r0.length+1:Nat):Int)<2 by omega)]
  simp only [go_sem]
  refine ⟨by omega,?_⟩
  refine ah E (fun g=>?_) (fun g=>absurd (bV 34 (by simpa using g)) hc0)<;>simp only [go_sem]
 have hI0:=TkI.init (r:=r0) hc0
 generalize hs:c0::r0=s at *
 have hs0:s.getD 0 0=34:=by rw [← hs,hc0];rfl
 generalize hT:p4 s=T
 unfold p4 at hT
 refine al Tryz.func171 rfl (by decide +kernel) (by simp [Tryz.ntmps171]) (veil fun E=>?_)
 simp only [go_sem]
 rw [decide_eq_false (show ¬ (s.length:Int)<2 by omega)]
 simp only [go_sem]
 refine ⟨by omega,?_⟩
 rw [hs0]
 simp only [go_sem]
 refine aA E (X:={ y:Nat × List UInt8 × Nat // TkI s y.1 y.2.1 y.2.2 }) (fun y=>[(0,.d (.str s)),(2,.d (.str [])),(3,.d (i64 0)),(4,.d (i64 0)),(5,.vw [98] 0 y.1.2.1.length),(6,.d (i64 y.1.1))]) (fun y=>[([98],.arr none (y.1.2.1.map byD))]) [98] (fun y=>s.length-y.1.1) ⟨(1,[],_),hI0⟩ (tau [([98],[17])]) ?_ ?_
 ·simp only [go_sem]
  all_goals ((repeat' apply And.intro)<;>first | rfl | trivial)
 rintro ⟨⟨i,acc,m⟩,hI⟩ E0
 refine aC E0 fun Q' hQ E'=>?_
 have hi:=hI.hi
 have ha:=hI.ha
 simp only at hI hi ha ⊢
 simp only [go_sem]
 refine ao E' (fun h1=>?_) (fun h1=>?_)<;>simp only [go_sem]
 rotate_left
 ·rw [hQ]
  simp only [go_sem]
  rw [decide_eq_true (show (s.length:Int)≤(i:Int) by omega)]
  simp only [go_sem]
  rw [← hT,hI.fin (by omega)]
  rfl
 have h1':i<s.length:=by omega
 refine ⟨⟨by omega,by omega⟩,?_⟩
 refine ah E' (fun hm=>?_) (fun hm=>?_)<;>simp only [go_sem]
 rotate_left
 ·have hm:s.getD i 0=34:=bV 34 (by simpa using hm)
  have hmk:=hI.mark h1' hm
  rw [hQ]
  simp only [go_sem]
  rw [decide_eq_false (show ¬ (s.length:Int)≤(i:Int) by omega)]
  simp only [go_sem]
  refine ah E (fun g2=>?_) (fun g2=>?_)<;>simp only [go_sem]
  ·rw [← hT,hmk,if_pos (by omega)]
   rfl
  ·refine IU E (src:=261) (dst:=9) (e:=5) [98] acc (by simp only [go_sem]) (by kernel_rfl) (by kernel_rfl) (by kernel_rfl) rfl rfl ?_
   simp only [go_sem]
   rw [ai (n:=(i:Int)+1) ⟨by omega,by omega⟩,← hT,hmk,if_neg (by omega)]
   rfl
 have hc34:=aQ 34 hm
 refine ⟨⟨by omega,by omega⟩,?_⟩
 have hbad:=hI.bad h1' hc34
 have hodd:=hI.odd h1' hc34
 have hpl:=hI.plain h1' hc34
 have hesc:=hI.esc h1' hc34
 have hlb:=(s.getD i 0).toNat_lt
 generalize hcc:s.getD i 0=c at *
 refine ao E' (fun g1=>?_) (fun g1=>?_)<;>simp only [go_sem]
 ·have hB:=hodd (fun e=>by rw [e] at g1;exact absurd g1 (by decide)) (by unfold gx;rw [decide_eq_false (show ¬ 32≤c.toNat by omega)];rfl)
  rw [hQ]
  simp only [go_sem]
  rw [← hT,hB]
  rfl
 refine ah E' (fun g2=>?_) (fun g2=>?_)<;>simp only [go_sem]
 ·have hB:=hodd (fun e=>by rw [e] at g2;exact absurd g2 (by decide)) (by unfold gx;rw [decide_eq_false (show ¬ c.toNat≤126 by omega)];simp)
  rw [hQ]
  simp only [go_sem]
  rw [← hT,hB]
  rfl
 refine ah E' (fun g3=>?_) (fun g3=>?_)<;>simp only [go_sem]
 ·have hp:gx c=true:=by
   have h34:c.toNat≠34:=fun e=>hc34 (UInt8.toNat_inj.1 e)
   have h92:c.toNat≠92:=fun e=>g3 (by rw [e];rfl)
   unfold gx
   rw [decide_eq_true (show 32≤c.toNat by omega),decide_eq_true (show c.toNat≤126 by omega),decide_eq_true h34,decide_eq_true h92]
   rfl
  have hN:=hpl (aQ 92 g3) hp
  rw [ai (n:=(i:Int)+1) ⟨by omega,by omega⟩]
  refine ⟨by first | omega | (simp;omega),?_⟩
  rw [show acc.map byD++[.int .u8 ((c.toNat:Int))]=(acc++[c]).map byD by rw [List.map_append];rfl]
  rw [hQ]
  simp only [go_sem]
  refine ⟨⟨(i+1,acc++[c],m-1),hN⟩,by show s.length-(i+1)<s.length-i;omega,tau [([98],[42])],?_⟩
  simp only [go_sem]
  rw [List.length_append,List.length_singleton]
  all_goals ((repeat' apply And.intro)<;>first | rfl | trivial)
 have h92:c=92:=bV 92 (by simpa using g3)
 have hbad:=hbad h92
 have hesc:=hesc h92
 refine ah E' (fun g4=>?_) (fun g4=>?_)<;>simp only [go_sem]
 ·have hB:=hbad (by rw [List.drop_eq_nil_of_le (by rw [ai ⟨by omega,by omega⟩] at g4;omega)];rfl)
  rw [hQ]
  simp only [go_sem]
  rw [← hT,hB]
  rfl
 rw [ai (n:=(i:Int)+1) ⟨by omega,by omega⟩] at g4 ⊢
 have h5:i+1<s.length:=by omega
 have hdr:=drop_cons h5
 refine ⟨⟨by omega,by omega⟩,?_⟩
 rw [show ((i:Int)+1).toNat=i+1 by omega]
 have hd1:=(s.getD (i+1) 0).toNat_lt
 generalize s.getD (i+1) 0=e at *
 rw [ai (n:=(i:Int)+2) ⟨by omega,by omega⟩]
 rw [hdr] at hbad hesc
 have one:e=34∨e=92→TkI s (i+2) (acc++[e]) (m-1):=fun h=>by
  rw [xZ e _ h] at hesc
  exact hesc (by show ¬ (1:Nat)=0;decide)
 have two:¬ (e=34∨e=92)→gB (e::s.drop (i+1+1))=yV e (s.drop (i+1+1)):=fun h=>wK e _ h
 refine ah E' (fun k1=>?_) (fun k1=>?_)<;>simp only [go_sem]
 ·rw [decide_eq_true k1]
  simp only [go_sem]
  have hN:=one (.inl (bV 34 k1))
  refine ⟨by first | omega | (simp;omega),?_⟩
  rw [show acc.map byD++[.int .u8 ((e.toNat:Int))]=(acc++[e]).map byD by rw [List.map_append];rfl]
  rw [hQ]
  simp only [go_sem]
  refine ⟨⟨(i+2,acc++[e],m-1),hN⟩,by show s.length-(i+2)<s.length-i;omega,tau [([98],[63])],?_⟩
  simp only [go_sem]
  rw [List.length_append,List.length_singleton]
  all_goals ((repeat' apply And.intro)<;>first | rfl | trivial)
 refine ah E' (fun k2=>?_) (fun k2=>?_)<;>simp only [go_sem]
 ·have hN:=one (.inr (bV 92 k2))
  refine ⟨by first | omega | (simp;omega),?_⟩
  rw [show acc.map byD++[.int .u8 ((e.toNat:Int))]=(acc++[e]).map byD by rw [List.map_append];rfl]
  rw [hQ]
  simp only [go_sem]
  refine ⟨⟨(i+2,acc++[e],m-1),hN⟩,by show s.length-(i+2)<s.length-i;omega,tau [([98],[63])],?_⟩
  simp only [go_sem]
  rw [List.length_append,List.length_singleton]
  all_goals ((repeat' apply And.intro)<;>first | rfl | trivial)
 have two:=two (fun h=>h.elim (aQ 34 k1) (aQ 92 k2))
 rw [two] at hbad hesc
 unfold yV at hbad hesc
 refine ah E' (fun k3=>?_) (fun k3=>?_)<;>simp only [go_sem]
 ·rw [if_pos (bV 110 k3)] at hesc
  have hN:=hesc (by decide)
  refine ⟨by first | omega | (simp;omega),?_⟩
  rw [show acc.map byD++[.int .u8 (10)]=(acc++[10]).map byD by rw [List.map_append];rfl]
  rw [hQ]
  simp only [go_sem]
  refine ⟨⟨(i+2,acc++[10],m-1),hN⟩,by show s.length-(i+2)<s.length-i;omega,tau [([98],[68])],?_⟩
  simp only [go_sem]
  rw [List.length_append,List.length_singleton]
  all_goals ((repeat' apply And.intro)<;>first | rfl | trivial)
 rw [if_neg (aQ 110 k3)] at hbad hesc
 refine ah E' (fun k4=>?_) (fun k4=>?_)<;>simp only [go_sem]
 ·rw [if_pos (bV 116 k4)] at hesc
  have hN:=hesc (by decide)
  refine ⟨by first | omega | (simp;omega),?_⟩
  rw [show acc.map byD++[.int .u8 (9)]=(acc++[9]).map byD by rw [List.map_append];rfl]
  rw [hQ]
  simp only [go_sem]
  refine ⟨⟨(i+2,acc++[9],m-1),hN⟩,by show s.length-(i+2)<s.length-i;omega,tau [([98],[73])],?_⟩
  simp only [go_sem]
  rw [List.length_append,List.length_singleton]
  all_goals ((repeat' apply And.intro)<;>first | rfl | trivial)
 rw [if_neg (aQ 116 k4)] at hbad hesc
 refine ah E' (fun k5=>?_) (fun k5=>?_)<;>simp only [go_sem]
 rotate_left
 ·rw [if_neg (aQ 120 k5)] at hbad
  have hB:=hbad rfl
  rw [hQ]
  simp only [go_sem]
  rw [← hT,hB]
  rfl
 rw [if_pos (bV 120 k5)] at hbad hesc
 rw [ai (n:=(i:Int)+2+1) ⟨by omega,by omega⟩]
 refine ao E' (fun k6=>?_) (fun k6=>?_)<;>simp only [go_sem]
 ·have hB:=hbad (by
   rcases hd:s.drop (i+1+1) with _ | ⟨a,_ | ⟨b,r⟩⟩
   ·rfl
   ·rfl
   ·have:=congrArg List.length hd
    rw [List.length_drop,List.length_cons,List.length_cons] at this
    omega)
  rw [hQ]
  simp only [go_sem]
  rw [← hT,hB]
  rfl
 have h6:i+2<s.length:=by omega
 have h7:i+2+1<s.length:=by omega
 rw [show i+1+1=i+2 from rfl,drop_cons h6,drop_cons h7] at hbad hesc
 refine ⟨⟨by omega,by omega⟩,?_⟩
 rw [show ((i:Int)+2).toNat=i+2 by omega]
 generalize hga:s.getD (i+2) 0=a at *
 generalize hb:s.getD (i+2+1) 0=b at *
 refine ag E' (nE a) rfl rfl (by simp) ?_
 rintro _ rfl
 simp only [go_sem]
 have ha2:=(j7 dA a).2
 have hb2:=(j7 dA b).2
 have ha3:Lib.indexByte dA a≤15:=Ar _
 have hb3:Lib.indexByte dA b≤15:=Ar _
 refine ao E' (fun k7=>?_) (fun k7=>?_)<;>simp only [go_sem]
 ·have hB:=hbad (by show (if _∨_ then _ else _:UInt8 × Nat).2=0;rw [if_pos (.inl k7)])
  rw [hQ]
  simp only [go_sem]
  rw [← hT,hB]
  rfl
 rw [ai (n:=(i:Int)+2+1) ⟨by omega,by omega⟩]
 refine ⟨⟨by omega,by omega⟩,?_⟩
 rw [show ((i:Int)+2+1).toNat=i+2+1 by omega,hb]
 refine ag E' (nE b) rfl rfl (by simp) ?_
 rintro _ rfl
 simp only [go_sem]
 refine ah E' (fun k8=>?_) (fun k8=>?_)<;>simp only [go_sem]
 ·have hB:=hbad (by show (if _∨_ then _ else _:UInt8 × Nat).2=0;rw [if_pos (.inr k8)])
  rw [hQ]
  simp only [go_sem]
  rw [← hT,hB]
  rfl
 have hesc:TkI s (i+4) (acc++[UInt8.ofNat (16*Lib.indexByte dA a+Lib.indexByte dA b).toNat]) (m-1):=by
  have h:=hesc (by show ¬ (if _∨_ then _ else _:UInt8 × Nat).2=0;rw [if_neg (fun h=>h.elim k7 k8)];exact Nat.succ_ne_zero 2)
  have he:(if Lib.indexByte dA a<0∨Lib.indexByte dA b<0 then ((0:UInt8),0) else (UInt8.ofNat (16*Lib.indexByte dA a+Lib.indexByte dA b).toNat,3))=(UInt8.ofNat (16*Lib.indexByte dA a+Lib.indexByte dA b).toNat,3):=if_neg (fun h=>h.elim k7 k8)
  simp only [he] at h
  exact h
 refine ak mixed E' fun X=>?_
 simp only [go_sem]
 refine ⟨⟨by omega,by omega⟩,?_⟩
 rw [show ((i:Int)+2).toNat=i+2 by omega,hga]
 refine bK X (nE a) rfl rfl (by simp) ?_
 simp only [go_sem]
 rw [ai (n:=(i:Int)+2+1) ⟨by omega,by omega⟩]
 refine ⟨⟨by omega,by omega⟩,?_⟩
 rw [show ((i:Int)+2+1).toNat=i+2+1 by omega,hb]
 refine bK X (nE b) rfl rfl (by simp) ?_
 simp only [go_sem]
 generalize Lib.indexByte dA a=x at *
 generalize Lib.indexByte dA b=y at *
 rw [ai (n:=16*x) ⟨by omega,by omega⟩,ai (n:=16*x+y) ⟨by omega,by omega⟩]
 obtain ⟨n,hn⟩:∃ n:Nat,16*x+y=n:=⟨(16*x+y).toNat,by omega⟩
 rw [hn,Int.toNat_natCast] at hesc
 rw [hn]
 have h10:IntKind.u8.wrap (n:Int)=((UInt8.ofNat n).toNat:Nat):=by
  rw [UInt8.toNat_ofNat']
  simp [IntKind.wrap,IntKind.bits,IntKind.signed]
 rw [h10]
 generalize UInt8.ofNat n=z at *
 refine ⟨by omega,by decide +kernel,?_⟩
 rw [show acc.map byD++[.int .u8 (z.toNat:Int)]=(acc++[z]).map byD by rw [List.map_append];rfl]
 rw [hQ]
 simp only [go_sem]
 rw [ai (n:=(i:Int)+2+2) ⟨by omega,by omega⟩]
 refine ⟨⟨(i+4,acc++[z],m-1),hesc⟩,by show s.length-(i+4)<s.length-i;omega,tau [([98],[110])],?_⟩
 simp only [go_sem]
 rw [List.length_append,List.length_singleton]
 all_goals ((repeat' apply And.intro)<;>first | rfl | trivial)
end Go.Proofs.YtejpnabbmgpmaaaGreat

namespace Go.Proofs.YtejpnabbmgpmaaaGreat
open Go.Ab
def Al (f:Fnd) (p:Int):AV:=if f.e=0 then .tup [.d (ck { f.t with pos:=p }),.d (i64 f.n),.d (i64 0)] else .tup [.d (ck noT),.d (i64 0),.d (i64 f.e)]
theorem jW (e p:Int) (he:e≠0):Al (eh e) p=.tup [.d (ck noT),.d (i64 0),.d (i64 e)]:=if_neg he
theorem ix (t:Tok) (n:Nat) (p:Int):Al ⟨t,n,0⟩ p=.tup [.d (ck { t with pos:=p }),.d (i64 n),.d (i64 0)]:=if_pos rfl
theorem D7 (l:List UInt8) (h0:1≤l.length):(sgN l=0∧iO l=eh 5)∨(1≤sgN l∧sgN l≤l.length∧iO l=⟨⟨7,l.take (sgN l),0,0⟩,sgN l,0⟩):=by
 unfold sgN iO
 by_cases h:(bm l [45,62] || bm l [61,61])=true
 ·rw [if_pos h,if_pos h]
  have:2≤l.length:=by
   rcases Bool.or_eq_true_iff.1 h with h | h
   ·exact eJ h
   ·exact eJ h
  exact .inr ⟨by decide,this,rfl⟩
 ·rw [if_neg h,if_neg h]
  split
  ·exact .inl ⟨rfl,rfl⟩
  ·exact .inr ⟨by decide,h0,rfl⟩
theorem yg (c:UInt8):bc c=(decide (48≤(c.toNat:Int)) && decide ((c.toNat:Int)≤57)):=by
 unfold bc
 congr 1<;>exact decide_eq_decide.2 (by omega)
set_option maxHeartbeats 2000000 in
theorem Fx {G} (s:List UInt8) (i:Nat) (hi:i<s.length) (hl:s.length≤1000000):HP Tryz.prog G 118 [.str s,i64 i] (fun r=>r=Al (cq (s.drop i)) i):=by
 have hwl:=gM (s.drop i)
 have h0:1≤(s.drop i).length:=by rw [List.length_drop];omega
 have hl2:(s.drop i).length≤1000000:=by rw [List.length_drop];omega
 generalize hT:Al (cq (s.drop i)) i=T
 refine al Tryz.func118 rfl (by decide +kernel) (by simp [Tryz.ntmps118]) (veil fun E=>?_)
 simp only [go_sem]
 refine ⟨⟨by omega,by omega⟩,?_⟩
 rw [List.take_of_length_le (show (s.drop i).length≤s.length-i by rw [List.length_drop];omega)]
 generalize s.drop i=l at *
 refine ⟨by omega,?_⟩
 refine ag E (mZ l (by omega)) rfl rfl (by simp) ?_
 rintro _ rfl
 simp only [go_sem]
 have hdef:cq l=if 0<bI l then kY l (bI l) else if l.getD 0 0=39 then pI l else if bc (l.getD 0 0) || decide (l.getD 0 0=126) then vv l else if l.getD 0 0=34 then oC l else iO l:=rfl
 generalize bI l=n at hdef hwl ⊢
 generalize hc:l.getD 0 0=c at *
 refine ah E (fun h1=>?_) (fun h1=>?_)<;>simp only [go_sem]
 ·refine ⟨⟨by omega,by omega⟩,?_⟩
  rw [Nat.sub_zero]
  rw [if_pos (by omega)] at hdef
  unfold kY at hdef
  refine ah E (fun h2=>?_) (fun h2=>?_)<;>simp only [go_sem]
  ·rw [← hT,hdef,if_pos (by omega),jW _ _ (by decide)]
   rfl
  rw [if_neg (by omega)] at hdef
  refine ag E (xB _) rfl rfl (by simp) ?_
  rintro _ rfl
  simp only [go_sem]
  refine aD E (fun h3=>?_) (fun h3=>?_)<;>simp only [go_sem]
  ·rw [← hT,hdef,if_pos h3,ix]
   rfl
  rw [h3,if_neg (by decide)] at hdef
  rw [show (l.take n).getD 0 0=c by rw [← hc];cases l with
   | nil=>exact absurd h0 (by decide)
   | cons a r =>
     obtain ⟨m,rfl⟩:∃ m,n=m+1:=⟨n-1,by omega⟩
     rfl] at hdef
  repeat (first
   | (apply b6 E;(· simp only [go_sem]);(· intro h;(try simp only [bq] at h);simp only [↓h,go_sem];rfl);simp only [go_sem])
   | (apply a9 E;(· simp only [go_sem]);(· intro h;(try simp only [bq] at h);simp only [↓h,go_sem];rfl);(· intro h;(try simp only [bq] at h);simp only [↓h,go_sem];rfl);simp only [go_sem])
   | (apply a8 E;(· simp only [go_sem]);(· rfl);(· intro h h';(try simp only [bq] at h h');simp only [↓h,↓h',go_sem];rfl);simp only [go_sem])
   | (apply aK E;(· simp only [go_sem]);(· rfl);(· intro h h';(try simp only [bq] at h h');simp only [↓h,↓h',go_sem];rfl);(· intro h h';(try simp only [bq] at h h');simp only [↓h,↓h',go_sem];rfl);simp only [go_sem])
   | (apply bY E;(· decide);simp only [go_sem]))
  refine aD E (fun h4=>?_) (fun h4=>?_)<;>simp only [go_sem]
  ·rw [← hT,hdef,if_pos (by unfold gr grZ;simpa using h4),ix]
   rfl
  ·rw [← hT,hdef,if_neg (by unfold gr grZ;simpa using h4),ix]
   rfl
 rw [if_neg (by omega)] at hdef
 refine ah E (fun h2=>?_) (fun h2=>?_)<;>simp only [go_sem]
 ·rw [if_pos (bV 39 h2)] at hdef
  unfold pI at hdef
  refine ⟨⟨by omega,by omega⟩,?_⟩
  rw [List.take_of_length_le (show (l.drop 1).length≤l.length-1 by rw [List.length_drop];omega)]
  have hwl1:=gM (l.drop 1)
  have hl1:(l.drop 1).length=l.length-1:=List.length_drop
  refine ag E (mZ (l.drop 1) (by omega)) rfl rfl (by simp) ?_
  rintro _ rfl
  simp only [go_sem]
  generalize bI (l.drop 1)=m at *
  refine ao E (fun h3=>?_) (fun h3=>?_)<;>simp only [go_sem]
  ·rw [← hT,hdef,if_pos (.inl (by omega)),jW _ _ (by decide)]
   rfl
  refine ⟨by omega,?_⟩
  generalize hc1:l.getD 1 0=c1 at *
  have hgr:gr c1=(decide (65≤(c1.toNat:Int)) && decide ((c1.toNat:Int)≤90)):=rfl
  have hno:gr c1=false→cq l=if 20<m then eh 7 else ⟨⟨6,(l.drop 1).take m,0,0⟩,m+1,0⟩:=fun h=>by
   rw [if_neg (fun g=>g.elim (by omega) (fun g=>by rw [h] at g;cases g))] at hdef
   exact hdef
  refine ao E (fun h4=>?_) (fun h4=>?_)<;>simp only [go_sem]
  ·refine ⟨by omega,?_⟩
   rw [hc1]
   refine ah E (fun h6=>?_) (fun h6=>?_)<;>simp only [go_sem]
   ·rw [← hT,hdef,if_pos (.inr (by rw [hgr,decide_eq_true h4,decide_eq_true h6];rfl)),jW _ _ (by decide)]
    rfl
   ·have hdef:=hno (by rw [hgr,decide_eq_false h6,Bool.and_false])
    refine ah E (fun h5=>?_) (fun h5=>?_)<;>simp only [go_sem]
    ·rw [← hT,hdef,if_pos (by omega),jW _ _ (by decide)]
     rfl
    rw [if_neg (by omega)] at hdef
    rw [ai (n:=1+(m:Int)) ⟨by omega,by omega⟩]
    refine ⟨⟨by omega,by omega⟩,?_⟩
    rw [← hT,hdef,ix,show (1+(m:Int)).toNat-1=m by omega]
    show _=AV.tup [.d (ck _),.d (i64 (m+1:Nat)),.d (i64 0)]
    rw [show ((m+1:Nat):Int)=1+(m:Int) by omega]
    rfl
  ·have hdef:=hno (by rw [hgr,decide_eq_false h4,Bool.false_and])
   refine ah E (fun h5=>?_) (fun h5=>?_)<;>simp only [go_sem]
   ·rw [← hT,hdef,if_pos (by omega),jW _ _ (by decide)]
    rfl
   rw [if_neg (by omega)] at hdef
   rw [ai (n:=1+(m:Int)) ⟨by omega,by omega⟩]
   refine ⟨⟨by omega,by omega⟩,?_⟩
   rw [← hT,hdef,ix,show (1+(m:Int)).toNat-1=m by omega]
   show _=AV.tup [.d (ck _),.d (i64 (m+1:Nat)),.d (i64 0)]
   rw [show ((m+1:Nat):Int)=1+(m:Int) by omega]
   rfl
 rw [if_neg (aQ 39 h2)] at hdef
 repeat (first
  | (apply b6 E;(· simp only [go_sem]);(· intro h;(try simp only [bq] at h);simp only [↓h,go_sem];rfl);simp only [go_sem])
  | (apply a9 E;(· simp only [go_sem]);(· intro h;(try simp only [bq] at h);simp only [↓h,go_sem];rfl);(· intro h;(try simp only [bq] at h);simp only [↓h,go_sem];rfl);simp only [go_sem])
  | (apply a8 E;(· simp only [go_sem]);(· rfl);(· intro h h';(try simp only [bq] at h h');simp only [↓h,↓h',go_sem];rfl);simp only [go_sem])
  | (apply aK E;(· simp only [go_sem]);(· rfl);(· intro h h';(try simp only [bq] at h h');simp only [↓h,↓h',go_sem];rfl);(· intro h h';(try simp only [bq] at h h');simp only [↓h,↓h',go_sem];rfl);simp only [go_sem])
  | (apply bY E;(· decide);simp only [go_sem]))
 have hdg:=yg c
 refine aD E (fun h3=>?_) (fun h3=>?_)<;>simp only [go_sem]
 ·rw [if_pos (by rw [hdg];simp only [Bool.or_eq_true,decide_eq_true_eq] at h3 ⊢;exact h3.imp id (bV 126))] at hdef
  unfold vv at hdef
  have hle:=nz (l.drop 1)
  rw [List.length_drop] at hle
  refine aA E (X:={ n:Nat // 1≤n∧n≤l.length∧n+gW (l.drop n)=gW (l.drop 1)+1 }) (fun x=>[(0,.d (.str s)),(1,.d (i64 i)),(4,.bx [4] 0),(5,.d (i64 0)),(6,.d (i64 0)),(7,.d (.str l)),(8,.d (.int .u8 (c.toNat:Int))),(13,.d (i64 x.1))]) (fun x=>[([4],.box [.d (i64 0),.d (.str []),.d (i64 0),.d (i64 0)])]) [4] (fun x=>l.length-x.1) ⟨1,by omega,by omega,by omega⟩ id ?_ ?_
  ·simp only [go_sem]
   all_goals ((repeat' apply And.intro)<;>first | rfl | trivial)
  rintro ⟨m,hn1,hn2,hn3⟩ E0
  refine aC E0 fun Q' hQ E'=>?_
  simp only at hn1 hn2 hn3 ⊢
  simp only [go_sem]
  refine ao E' (fun g1=>?_) (fun g1=>?_)<;>simp only [go_sem]
  ·have h1':m<l.length:=by omega
   have hd:=pV h1'
   rw [yg] at hd
   refine ⟨⟨by omega,by omega⟩,?_⟩
   generalize hcm:l.getD m 0=cm at *
   refine ao E' (fun g2=>?_) (fun g2=>?_)<;>simp only [go_sem]
   ·refine ⟨⟨by omega,by omega⟩,?_⟩
    rw [hcm]
    rw [decide_eq_true g2,Bool.true_and] at hd
    refine ah E' (fun g3=>?_) (fun g3=>?_)<;>simp only [go_sem]
    ·rw [ai ⟨by omega,by omega⟩,hQ]
     simp only [go_sem]
     rw [decide_eq_true g3,if_pos rfl] at hd
     refine ⟨⟨m+1,by omega,by omega,by omega⟩,by show l.length-(m+1)<_;omega,id,?_⟩
     simp only [go_sem]
     all_goals ((repeat' apply And.intro)<;>first | rfl | trivial)
    ·rw [decide_eq_false g3,if_neg (by decide)] at hd
     rw [hQ]
     simp only [go_sem]
     refine ⟨⟨by omega,by omega⟩,?_⟩
     rw [Nat.sub_zero]
     refine ag E (q5 (l.take m)) rfl rfl (by simp) ?_
     rintro _ rfl
     rw [lG]
     simp only [go_sem]
     rw [show gW (l.drop 1)+1=m by omega] at hdef
     generalize tC (l.take m)=z at *
     refine ah E (fun h5=>?_) (fun h5=>?_)<;>simp only [go_sem]
     ·rw [← hT,hdef]
      exact (if_neg h5).symm
     ·rw [← hT,hdef]
      have h5:z.2=0:=by omega
      rw [h5,ix]
      rfl
   ·rw [decide_eq_false g2,Bool.false_and,if_neg (by decide)] at hd
    rw [hQ]
    simp only [go_sem]
    refine ⟨⟨by omega,by omega⟩,?_⟩
    rw [Nat.sub_zero]
    refine ag E (q5 (l.take m)) rfl rfl (by simp) ?_
    rintro _ rfl
    rw [lG]
    simp only [go_sem]
    rw [show gW (l.drop 1)+1=m by omega] at hdef
    generalize tC (l.take m)=z at *
    refine ah E (fun h5=>?_) (fun h5=>?_)<;>simp only [go_sem]
    ·rw [← hT,hdef]
     exact (if_neg h5).symm
    ·rw [← hT,hdef]
     have h5:z.2=0:=by omega
     rw [h5,ix]
     rfl
  ·have hd:gW (l.drop m)=0:=by rw [show m=l.length by omega,List.drop_length];rfl
   rw [hQ]
   simp only [go_sem]
   refine ⟨⟨by omega,by omega⟩,?_⟩
   rw [Nat.sub_zero]
   refine ag E (q5 (l.take m)) rfl rfl (by simp) ?_
   rintro _ rfl
   rw [lG]
   simp only [go_sem]
   rw [show gW (l.drop 1)+1=m by omega] at hdef
   generalize tC (l.take m)=z at *
   refine ah E (fun h5=>?_) (fun h5=>?_)<;>simp only [go_sem]
   ·rw [← hT,hdef]
    exact (if_neg h5).symm
   ·rw [← hT,hdef]
    have h5:z.2=0:=by omega
    rw [h5,ix]
    rfl
 have h3':¬ (bc c || decide (c=126))=true:=by
  simp only [Bool.or_eq_false_iff,decide_eq_false_iff_not] at h3
  rw [hdg,h3.1,decide_eq_false (aQ 126 h3.2)]
  decide
 rw [if_neg h3'] at hdef
 refine ah E (fun h4=>?_) (fun h4=>?_)<;>simp only [go_sem]
 ·rw [if_pos (bV 34 h4)] at hdef
  refine ag E (E8 l hl2) rfl rfl (by simp) ?_
  rintro _ rfl
  unfold p4
  unfold oC at hdef
  generalize cK l=tk at *
  obtain ⟨tx,tn,te⟩:=tk
  simp only at hdef ⊢
  simp only [go_sem]
  refine ah E (fun h5=>?_) (fun h5=>?_)<;>simp only [go_sem]
  ·rw [← hT,hdef]
   exact (if_neg h5).symm
  ·rw [← hT,hdef]
   have h5:te=0:=by omega
   subst h5
   rfl
 rw [if_neg (aQ 34 h4)] at hdef
 refine ag E (EK l h0 hl2) rfl rfl (by simp) ?_
 rintro _ rfl
 simp only [go_sem]
 rcases D7 l h0 with ⟨h5,h6⟩ | ⟨h5,h6,h7⟩
 ·rw [h5]
  simp only [go_sem]
  rw [← hT,hdef,h6,jW _ _ (by decide)]
  rfl
 ·generalize sgN l=m at *
  rw [decide_eq_true (show (0:Int)<(m:Int) by omega)]
  simp only [go_sem]
  refine ⟨⟨by omega,by omega⟩,?_⟩
  rw [← hT,hdef,h7,ix,Nat.sub_zero]
  rfl
end Go.Proofs.YtejpnabbmgpmaaaGreat

namespace Go.Proofs.YtejpnabbmgpmaaaGreat
open Go.Ab
def FM (s:List UInt8):AV:=.tup [.d (if (bo s).2.2=0 then .sl (some 4) ((bo s).1.map ck) else .nils),.d (i64 (bo s).2.1),.d (i64 (bo s).2.2)]
set_option maxHeartbeats 2000000 in
theorem GZ {G} (s:List UInt8) (hl:s.length≤1000000):HP Tryz.prog G 69 [.str s] (fun r=>r=FM s):=by
 generalize hT:FM s=T
 unfold FM at hT
 refine ax Tryz.func69 rfl (by decide +kernel) (by simp [Tryz.ntmps69]) (veil fun E=>?_)
 simp only [go_sem]
 refine aA E (X:={ y:Nat × Nat // AI s y.1 y.2∧y.1≤y.2 }) (fun y=>[(0,.d (.str s)),(2,.d .nils),(3,.d (i64 0)),(4,.d (i64 0)),(5,.vw [98] 0 y.1.1),(6,.d (i64 y.1.2))]) (fun y=>[([98],.arr (some 4) (((aF s).take y.1.1).map fun q=>ck (gh q)))]) [98] (fun y=>s.length-y.1.2) ⟨(0,0),AI.init s,Nat.le_refl _⟩ (tau [([98],[10])]) ?_ ?_
 ·simp only [go_sem]
  all_goals ((repeat' apply And.intro)<;>first | rfl | trivial)
 rintro ⟨⟨j,i⟩,hI,hji⟩ E0
 refine aC E0 fun Q' hQ E'=>?_
 have hi:=hI.hi
 have hjl:=hI.ti.hj
 have hfin:=hI.fin
 have hbl:=hI.blank
 have hrm:=hI.rem
 have htk:=hI.tok
 simp only at hi hji hfin hbl hrm htk ⊢
 simp only [go_sem]
 refine ah E' (fun h1=>?_) (fun h1=>?_)<;>simp only [go_sem]
 rotate_left
 ·rw [hQ]
  simp only [go_sem]
  rw [hfin (by omega)] at hT
  refine ⟨[([98],some 4,((aF s).take j).map fun q=>ck (gh q))],?_⟩
  simp only [go_sem]
  rw [← hT,if_pos rfl,List.map_map,List.take_of_length_le (by rw [List.length_map,List.length_take];omega)]
  rfl
 have h1':i<s.length:=by omega
 refine ⟨⟨by omega,by omega⟩,?_⟩
 generalize hc:s.getD i 0=c at *
 refine ao E' (fun k1=>?_) (fun k1=>?_)<;>simp only [go_sem]
 ·have hb:=hbl h1' (.inl (bV 32 k1))
  rw [ai (n:=(i:Int)+1) ⟨by omega,by omega⟩,hQ]
  simp only [go_sem]
  refine ⟨⟨(j,i+1),hb,by show j≤i+1;omega⟩,by show s.length-(i+1)<s.length-i;omega,id,?_⟩
  simp only [go_sem]
  all_goals ((repeat' apply And.intro)<;>first | rfl | trivial)
 refine ⟨⟨by omega,by omega⟩,?_⟩
 rw [hc]
 refine ao E' (fun k2=>?_) (fun k2=>?_)<;>simp only [go_sem]
 ·have hb:=hbl h1' (.inr (.inl (bV 9 k2)))
  rw [ai (n:=(i:Int)+1) ⟨by omega,by omega⟩,hQ]
  simp only [go_sem]
  refine ⟨⟨(j,i+1),hb,by show j≤i+1;omega⟩,by show s.length-(i+1)<s.length-i;omega,id,?_⟩
  simp only [go_sem]
  all_goals ((repeat' apply And.intro)<;>first | rfl | trivial)
 refine ⟨⟨by omega,by omega⟩,?_⟩
 rw [hc]
 refine ah E' (fun k3=>?_) (fun k3=>?_)<;>simp only [go_sem]
 ·have hb:=hbl h1' (.inr (.inr (bV 10 k3)))
  rw [ai (n:=(i:Int)+1) ⟨by omega,by omega⟩,hQ]
  simp only [go_sem]
  refine ⟨⟨(j,i+1),hb,by show j≤i+1;omega⟩,by show s.length-(i+1)<s.length-i;omega,id,?_⟩
  simp only [go_sem]
  all_goals ((repeat' apply And.intro)<;>first | rfl | trivial)
 refine ⟨⟨by omega,by omega⟩,?_⟩
 rw [hc]
 refine ah E' (fun k4=>?_) (fun k4=>?_)<;>simp only [go_sem]
 ·have hR0:=hrm h1' (bV 35 k4)
  have hR1:=hR0.on h1' (by rw [hc,bV 35 k4];decide)
  refine aA E' (X:={ y:Nat // RI s j y∧i≤y }) (fun y=>[(0,.d (.str s)),(2,.d .nils),(3,.d (i64 0)),(4,.d (i64 0)),(5,.vw [98] 0 j),(6,.d (i64 y.1))]) (fun y=>[([98],.arr (some 4) (((aF s).take j).map fun q=>ck (gh q)))]) [98] (fun y=>s.length-y.1) ⟨i,hR0,Nat.le_refl _⟩ id ?_ ?_
  ·simp only [go_sem]
   all_goals ((repeat' apply And.intro)<;>first | rfl | trivial)
  rintro ⟨i',hR,hii⟩ E1
  refine aC E1 fun Q2 hQ2 E2=>?_
  have hi2:=hR.hi
  simp only at hR hii hi2 ⊢
  simp only [go_sem]
  refine ao E2 (fun g1=>?_) (fun g1=>?_)<;>simp only [go_sem]
  rotate_left
  ·have hA:=hR.out (fun h=>by omega)
   rw [hQ2]
   simp only [go_sem]
   rw [hQ]
   simp only [go_sem]
   refine ⟨⟨(j,i'),hA,by show j≤i';omega⟩,by show s.length-i' < s.length-i;omega,id,?_⟩
   simp only [go_sem]
   all_goals ((repeat' apply And.intro)<;>first | rfl | trivial)
  have hi3:i' < s.length:=by omega
  refine ⟨⟨by omega,by omega⟩,?_⟩
  refine ah E2 (fun g2=>?_) (fun g2=>?_)<;>simp only [go_sem]
  ·have hN:=hR.on hi3 (aQ 10 g2)
   rw [ai (n:=(i':Int)+1) ⟨by omega,by omega⟩,hQ2]
   simp only [go_sem]
   refine ⟨⟨i'+1,hN,by omega⟩,by show s.length-(i'+1)<s.length-i';omega,id,?_⟩
   simp only [go_sem]
   all_goals ((repeat' apply And.intro)<;>first | rfl | trivial)
  ·have g3:s.getD i' 0=10:=bV 10 (by simpa using g2)
   have hA:=hR.out (fun _=>g3)
   have hne:i≠i':=fun h=>by
    rw [← h,hc,bV 35 k4] at g3
    exact absurd g3 (by decide)
   rw [hQ2]
   simp only [go_sem]
   rw [hQ]
   simp only [go_sem]
   refine ⟨⟨(j,i'),hA,by show j≤i';omega⟩,by show s.length-i' < s.length-i;omega,id,?_⟩
   simp only [go_sem]
   all_goals ((repeat' apply And.intro)<;>first | rfl | trivial)
 have hnb:¬ (c=32∨c=9∨c=10):=fun h=>h.elim (aQ 32 k1) (fun h=>h.elim (aQ 9 k2) (aQ 10 k3))
 have htk:=htk h1' hnb (aQ 35 k4)
 refine ag E' (Fx s i h1' hl) rfl rfl (by simp) ?_
 rintro _ rfl
 unfold Al
 rcases htk with ⟨he,hlx⟩ | ⟨he,hn1,htk,hjl,hA⟩
 ·rw [if_neg he]
  unfold ck noT
  generalize cq (s.drop i)=f at *
  simp only [go_sem]
  rw [decide_eq_true he]
  simp only [go_sem]
  rw [hQ]
  simp only [go_sem]
  rw [hlx] at hT
  refine ⟨[],?_⟩
  simp only [go_sem]
  rw [← hT,if_neg he]
 ·rw [if_pos he]
  unfold ck
  generalize hf:cq (s.drop i)=f at *
  have hin:=hA.hi
  simp only [go_sem]
  refine ⟨by omega,?_⟩
  have hap:List.take j (List.map (fun q=>D.agg [i64 (gh q).k,.str (gh q).s,i64 (gh q).n,i64 (gh q).pos]) (List.take j (aF s)))++[.agg [i64 f.t.k,.str f.t.s,i64 f.t.n,i64 (i:Nat)]]=((aF s).take (j+1)).map fun q=>ck (gh q):=by
   rw [htk,List.take_of_length_le (by rw [List.length_map,List.length_take];omega),List.map_append]
   rfl
  rw [hap,ai ⟨by omega,by omega⟩,hQ]
  simp only [go_sem]
  refine ⟨⟨(j+1,i+f.n),hA,by show j+1≤i+f.n;omega⟩,by show s.length-(i+f.n)<s.length-i;omega,tau [([98],[63])],?_⟩
  simp only [go_sem]
  rw [show ((i+f.n:Nat):Int)=(i:Int)+(f.n:Int) by omega]
  all_goals ((repeat' apply And.intro)<;>first | rfl | trivial)
end Go.Proofs.YtejpnabbmgpmaaaGreat

namespace Go.Proofs.YtejpnabbmgpmaaaGreat
open Go.Ab
structure PS where
 l:List Tok
 fin:Int
 err:Int
 pos:Int
 nest:Nat
def PS.peek (s:PS):Tok:=match s.l with
 | []=>⟨0,[],0,s.fin⟩
 | t::_=>t
def PS.next (s:PS):PS:={ s with l:=s.l.tail }
def PS.fail (s:PS) (e p:Int):PS:=if s.err=0 then { s with err:=e,pos:=p } else s
def PS.wrong (s:PS):PS:=s.fail 5 s.peek.pos
def PS.is (s:PS) (k:Int) (t:List UInt8):Bool:=!s.l.isEmpty && decide (s.peek.k=k) && decide (s.peek.s=t)
def PS.sees (s:PS) (k:Int) (t:List UInt8):Bool:=decide (s.err=0) && s.is k t
def PS.may (s:PS) (k:Int) (t:List UInt8):PS:=if s.sees k t then s.next else s
def PS.must (s:PS) (k:Int) (t:List UInt8):PS:=if s.sees k t then s.next else s.wrong
def PS.has (s:PS) (k:Int):Bool:=decide (s.err=0) && decide (s.peek.k=k)
def PS.of (s:PS) (k:Int):List UInt8 × PS:=if s.has k then (s.peek.s,s.next) else ([],s.wrong)
abbrev PR:=List EN × PS
def nd0 (k:Int) (pos:Int):EN:=⟨k,0,0,0,0,[],[],[],pos⟩
def bj (n:EN):List EN:=av n []
def noE:List EN:=bj (nd0 1 0)
def dh (ns:List EN):EN:=ndE ns (ns.length-1)
def eY:List UInt8:=[116,114,117,101]
def cX:List UInt8:=[102,97,108,115,101]
def fg:List UInt8:=[99,97,115,101]
def zu:List UInt8:=[102,117,110]
def zl:List UInt8:=[108,101,116]
def gA:List UInt8:=[114,101,99]
def bIn:List UInt8:=[105,110]
def bIf:List UInt8:=[105,102]
def gG:List UInt8:=[116,104,101,110]
def iJ:List UInt8:=[101,108,115,101]
def bOf:List UInt8:=[111,102]
def vj:List UInt8:=[101,110,100]
def bTo:List UInt8:=[45,62]
section
variable (ex:PS→PR)
def PS.parted (s:PS) (t:Tok) (l:List EF):PS :=
 if s.err≠0 then s else if l.length=30 then s.fail 8 t.pos else if (l.any fun f=>decide (f.nm=t.s)) then s.fail 5 t.pos else s
def dB (s:PS) (l:List EF):EF × PS :=
 let r:=s.of 2
 (⟨r.1,[],0⟩,((r.2.parted s.peek l).must 7 [61]))
def bM (s:PS) (l:List EF):EF × PS :=
 let r:=s.of 3
 let q:=(r.2.parted s.peek l).of 2
 (⟨r.1,q.1,0⟩,q.2.must 7 bTo)
def aR (between:List UInt8) (part:PS→List EF→EF × PS):Nat→PS→List EF→List (List EN)→List EF × List (List EN) × PS
 | 0,s,l,ks=>(l,ks,s)
 | m+1,s,l,ks =>
   let f:=part s l
   let e:=ex f.2
   if e.2.sees 7 between then aR between part m e.2.next (l++[f.1]) (ks++[e.1]) else (l++[f.1],ks++[e.1],e.2)
def ch (s:PS) (pos:Int):PR :=
 if s.sees 7 [125] then (bj (nd0 11 pos),s.next)
 else
  let r:=aR ex [44] dB s.l.length.succ s [] []
  (av { nd0 11 pos with l:=r.1 } r.2.1,r.2.2.must 7 [125])
def e9 (s:PS) (pos:Int):PR :=
 let e:=ex s
 let s1:=e.2.must 1 bOf
 let r:=aR ex [124] bM s1.l.length.succ s1 [] []
 (av { nd0 14 pos with l:=r.1 } (e.1::r.2.1),r.2.2.must 1 vj)
def cU (s:PS):PR :=
 let t:=s.peek
 if s.err≠0 then (noE,s.wrong)
 else if t.k=4 then (bj { nd0 1 t.pos with n:=t.n },s.next)
 else if t.k=5 then (bj { nd0 3 t.pos with s:=t.s },s.next)
 else if t.k=2 then (bj { nd0 4 t.pos with name:=t.s },s.next)
 else if s.sees 1 eY then (bj { nd0 2 t.pos with n:=1 },s.next)
 else if s.sees 1 cX then (bj (nd0 2 t.pos),s.next)
 else if s.sees 7 [40] then
  let e:=ex s.next
  (e.1,e.2.must 7 [41])
 else if s.sees 7 [123] then ch ex s.next t.pos
 else if s.sees 1 fg then e9 ex s.next t.pos
 else (noE,s.wrong)
def cj:Nat→List EN→PS→PR
 | 0,a,s=>(a,s)
 | m+1,a,s=>if s.sees 7 [46] then cj m (av { nd0 12 s.peek.pos with name:=(s.next.of 2).1 } [a]) (s.next.of 2).2 else (a,s)
def cO (s:PS):PR :=
 let r:=cU ex s
 cj r.2.l.length.succ r.1 r.2
def PS.begins (s:PS):Bool :=
 let t:=s.peek
 decide (t.k=4) || decide (t.k=5) || decide (t.k=2) || (decide (t.k=1) && (decide (t.s=eY) || decide (t.s=cX) || decide (t.s=fg))) || (decide (t.k=7) && (decide (t.s=[40]) || decide (t.s=[123])))
def gp:Nat→List EN→PS→PR
 | 0,a,s=>(a,s)
 | m+1,a,s=>if decide (s.err=0) && s.begins then gp m (av (nd0 6 (dh a).pos) [a,(cO ex s).1]) (cO ex s).2 else (a,s)
def j9 (s:PS):PR :=
 if s.has 3 then
  let r:=cO ex s.next
  (av { nd0 13 s.peek.pos with name:=s.peek.s } [r.1],r.2)
 else
  let r:=cO ex s
  gp ex r.2.l.length.succ r.1 r.2
def opS (s:PS):List (List UInt8 × Int)→Option Int
 | []=>none
 | q::r=>if s.sees 7 q.1 then some q.2 else opS s r
def bT:List (List UInt8 × Int):=[([42],3),([47],4)]
def cn:List (List UInt8 × Int):=[([43],1),([45],2),([94],7)]
def dK:List (List UInt8 × Int):=[([60],5),([61,61],6)]
def dW (ops:List (List UInt8 × Int)) (sub:PS→PR):Nat→List EN→PS→PR
 | 0,a,s=>(a,s)
 | m+1,a,s=>match opS s ops with
   | some n=>dW ops sub m (av { nd0 10 s.peek.pos with n:=n } [a,(sub s.next).1]) (sub s.next).2
   | none=>(a,s)
def iW (s:PS):PR:=dW bT (j9 ex) (j9 ex s).2.l.length.succ (j9 ex s).1 (j9 ex s).2
def o5 (s:PS):PR:=dW cn (iW ex) (iW ex s).2.l.length.succ (iW ex s).1 (iW ex s).2
def pP (s:PS):PR :=
 let a:=o5 ex s
 match opS a.2 dK with
 | some n =>
   let b:=o5 ex a.2.next
   (av { nd0 10 a.2.peek.pos with n:=n } [a.1,b.1],b.2)
 | none=>a
def kW (s:PS) (pos:Int):PR :=
 let k:Int:=if s.sees 1 gA then 8 else 7
 let x:=(s.may 1 gA).of 2
 let s2:=x.2.must 7 [61]
 let a:=ex s2
 let s3:=if k=8∧(dh a.1).k≠5 then a.2.fail 5 s2.peek.pos else a.2
 let b:=ex (s3.must 1 bIn)
 (av { nd0 k pos with name:=x.1 } [a.1,b.1],b.2)
def ifS (s:PS) (pos:Int):PR :=
 let a:=ex s
 let b:=ex (a.2.must 1 gG)
 let c:=ex (b.2.must 1 iJ)
 (av (nd0 9 pos) [a.1,b.1,c.1],c.2)
def kS (s:PS):PR :=
 let t:=s.peek
 if s.sees 1 zu then
  let x:=s.next.of 2
  let b:=ex (x.2.must 7 bTo)
  (av { nd0 5 t.pos with name:=x.1 } [b.1],b.2)
 else if s.sees 1 zl then kW ex s.next t.pos
 else if s.sees 1 bIf then ifS ex s.next t.pos
 else pP ex s
end
def er:Nat→PS→PR
 | 0,s=>(noE,s.fail 6 s.peek.pos)
 | m+1,s=>if s.err≠0 then (noE,s) else
   let r:=kS (er m) { s with nest:=s.nest+1 }
   (r.1,{ r.2 with nest:=s.nest })
end Go.Proofs.YtejpnabbmgpmaaaGreat

namespace Go.Proofs.YtejpnabbmgpmaaaGreat
open Go.Ab
def PSo (N:Int) (s:PS):Prop:=(∀ t∈s.l,0≤t.pos∧t.pos≤N)∧(0≤s.fin∧s.fin≤N)∧(0≤s.pos∧s.pos≤N)
structure SS (s r:PS):Prop where
 suf:∃ k,r.l=s.l.drop k
 fin:r.fin=s.fin
 nest:r.nest=s.nest
 pos:∀ N,PSo N s→0≤r.pos∧r.pos≤N
theorem SS.refl (s:PS):SS s s:=⟨⟨0,rfl⟩,rfl,rfl,fun _ h=>h.2.2⟩
theorem SS.po {s r:PS} (h:SS s r) {N:Int} (g:PSo N s):PSo N r:=by
 obtain ⟨k,hk⟩:=h.suf
 refine ⟨fun t ht=>?_,by rw [h.fin];exact g.2.1,h.pos N g⟩
 rw [hk] at ht
 exact g.1 t (List.mem_of_mem_drop ht)
theorem SS.trans {a b c:PS} (h:SS a b) (g:SS b c):SS a c:=by
 obtain ⟨k,hk⟩:=h.suf
 obtain ⟨j,hj⟩:=g.suf
 exact ⟨⟨k+j,by rw [hj,hk,List.drop_drop]⟩,g.fin.trans h.fin,g.nest.trans h.nest,fun N hN=>g.pos N (h.po hN)⟩
theorem SS.len {s r:PS} (h:SS s r):r.l.length≤s.l.length:=by
 obtain ⟨k,hk⟩:=h.suf
 rw [hk,List.length_drop];omega
theorem SS.next (s:PS):SS s s.next:=⟨⟨1,by simp [PS.next]⟩,rfl,rfl,fun _ h=>h.2.2⟩
theorem gq {N:Int} {s:PS} (h:PSo N s):0≤s.peek.pos∧s.peek.pos≤N:=by
 unfold PS.peek
 split
 ·exact h.2.1
 ·rename_i t r e
  exact h.1 t (by rw [e];exact List.mem_cons_self)
theorem SS.fail (s:PS) (e p:Int) (h:∀ N,PSo N s→0≤p∧p≤N):SS s (s.fail e p):=by
 unfold PS.fail
 split
 ·exact ⟨⟨0,rfl⟩,rfl,rfl,h⟩
 ·exact SS.refl s
theorem SS.failp (s:PS) (e:Int):SS s (s.fail e s.peek.pos):=SS.fail s e _ fun _ h=>gq h
theorem SS.wrong (s:PS):SS s s.wrong:=SS.failp s 5
theorem SS.may (s:PS) (k:Int) (t:List UInt8):SS s (s.may k t):=by
 unfold PS.may;split
 ·exact SS.next s
 ·exact SS.refl s
theorem SS.must (s:PS) (k:Int) (t:List UInt8):SS s (s.must k t):=by
 unfold PS.must;split
 ·exact SS.next s
 ·exact SS.wrong s
theorem SS.of (s:PS) (k:Int):SS s (s.of k).2:=by
 unfold PS.of;split
 ·exact SS.next s
 ·exact SS.wrong s
theorem az {s:PS} {k:Int} {t:List UInt8} (h:s.sees k t=true):s.next.l.length+1=s.l.length:=by
 unfold PS.sees PS.is at h
 simp only [Bool.and_eq_true,Bool.not_eq_true',decide_eq_true_eq] at h
 have:s.l≠[]:=by
  intro e;rw [e] at h;simp at h
 show s.l.tail.length+1=_
 rw [List.length_tail]
 have:=List.length_pos_iff.2 this
 omega
theorem db {s:PS} {k:Int} (h:s.peek.k=k) (hk:k≠0):s.next.l.length+1=s.l.length:=by
 have:s.l≠[]:=by
  intro e;unfold PS.peek at h;rw [e] at h;exact hk h.symm
 show s.l.tail.length+1=_
 rw [List.length_tail]
 have:=List.length_pos_iff.2 this
 omega
theorem w1 {s:PS} {k:Int} (h:s.has k=true) (hk:k≠0):s.next.l.length+1=s.l.length:=by
 unfold PS.has at h
 simp only [Bool.and_eq_true,decide_eq_true_eq] at h
 exact db h.2 hk
def aT (ls:List (List EN)):Nat:=(ls.map List.length).sum
theorem kN:∀ (ls:List (List EN)) (acc:List EN) (rs:List Int),(cI ls acc rs).1.length=acc.length+aT ls
 | [],_,_=>by simp [cI,aT]
 | l::r,acc,rs=>by
   rw [cI,kN r]
   simp [aT,Nat.add_assoc]
theorem cZ (n:EN) (ls:List (List EN)):(av n ls).length=aT ls+1:=by
 simp [av,kN]
def eT (b:Nat) (ns:List EN):Prop:=∀ n∈ns,n.l.length≤b
theorem wB (n:EN) (ks:List Int):(bk n ks).l.length≤n.l.length:=by
 show (if aI n.k then aX ks (aG n.k) n.l 0 else []).length≤_
 split
 ·rw [dk];exact Nat.le_refl _
 ·exact Nat.zero_le _
theorem uR {b:Nat}:∀ (ls:List (List EN)) (acc:List EN) (rs:List Int),(∀ l∈ls,eT b l)→eT b acc→eT b (cI ls acc rs).1
 | [],_,_,_,h=>h
 | l::r,acc,rs,hl,h=>by
   refine uR r _ _ (fun x hx=>hl x (List.mem_cons_of_mem _ hx)) fun n hn=>?_
   rcases List.mem_append.1 hn with hn | hn
   ·exact h n hn
   ·obtain ⟨m,hm,rfl⟩:=List.mem_map.1 hn
    exact Nat.le_trans (wB _ _) (hl l List.mem_cons_self m hm)
theorem dn {b:Nat} {n:EN} {ls:List (List EN)} (hn:n.l.length≤b) (hl:∀ l∈ls,eT b l):eT b (av n ls):=by
 intro m hm
 rcases List.mem_append.1 hm with hm | hm
 ·exact uR ls [] [] hl (fun _ h=>by cases h) m hm
 ·rw [List.mem_singleton.1 hm]
  exact Nat.le_trans (wB _ _) hn
theorem eT.mono {b c:Nat} {ns:List EN} (h:eT b ns) (hc:b≤c):eT c ns:=fun n hn=>Nat.le_trans (h n hn) hc
structure GP (d:Nat) (s:PS) (r:PR):Prop where
 ss:SS s r.2
 tr:Tr r.1
 sz:r.1.length+4*r.2.l.length≤4*s.l.length+d
 wd:eT (s.l.length+1-r.2.l.length) r.1
theorem GP.pre {d e:Nat} {s s':PS} {r:PR} (h:GP d s' r) (hs:SS s s') (he:4*s'.l.length+d≤4*s.l.length+e):GP e s r :=
 ⟨hs.trans h.ss,h.tr,Nat.le_trans h.sz he,h.wd.mono (by have:=hs.len;omega)⟩
theorem GP.post {d:Nat} {s:PS} {l:List EN} {s' s'':PS} (h:GP d s (l,s')) (hs:SS s' s''):GP d s (l,s'') :=
 ⟨h.ss.trans hs,h.tr,by have:=h.sz;have:=hs.len;simp only at *;omega,h.wd.mono (by have:=hs.len;have:=h.ss.len;simp only at *;omega)⟩
theorem GP.leaf {s s':PS} {n:EN} (hn:bf n=0) (hl:n.l=[]) (hs:SS s s') {d:Nat} (hd:1+4*s'.l.length≤4*s.l.length+d):GP d s (bj n,s') :=
 ⟨hs,.join n [] hn (fun _ h=>by cases h),by show (av n []).length+_≤_;rw [cZ];simp only [aT,List.map_nil,List.sum_nil];omega,dn (by rw [hl];exact Nat.zero_le _) (fun _ h=>by cases h)⟩
theorem GP.sU {s s1:PS} {a:PR} {n:EN} {d e:Nat} (ha:GP d s1 a) (hs:SS s s1) (hn:bf n=1) (hl:n.l=[]) (he:4*s1.l.length+d+1≤4*s.l.length+e):GP e s (av n [a.1],a.2):=by
 have h1:=ha.sz
 have h3:=hs.len
 refine ⟨hs.trans ha.ss,.join n _ hn (fun l h=>by rw [List.mem_singleton.1 h];exact ha.tr),?_,dn (by rw [hl];exact Nat.zero_le _) fun l h=>?_⟩
 ·rw [cZ]
  simp only [aT,List.map_cons,List.map_nil,List.sum_cons,List.sum_nil]
  omega
 ·rw [List.mem_singleton.1 h]
  exact ha.wd.mono (by simp only;omega)
theorem GP.jk {s s1 s2:PS} {a b:PR} {n:EN} {d d' e:Nat} (ha:GP d s1 a) (hb:GP d' s2 b) (hs:SS s s1) (hm:SS a.2 s2) (hn:bf n=2) (hl:n.l=[])
  (he:4*s1.l.length+4*s2.l.length+d+d'+1≤4*s.l.length+4*a.2.l.length+e):GP e s (av n [a.1,b.1],b.2):=by
 have h1:=ha.sz
 have h2:=hb.sz
 have h3:=hs.len
 have h4:=hm.len
 have h5:=ha.ss.len
 have h6:=hb.ss.len
 refine ⟨((hs.trans ha.ss).trans hm).trans hb.ss,.join n _ hn (fun l h=>?_),?_,dn (by rw [hl];exact Nat.zero_le _) fun l h=>?_⟩
 ·rcases List.mem_cons.1 h with rfl | h
  ·exact ha.tr
  ·rw [List.mem_singleton.1 h];exact hb.tr
 ·rw [cZ]
  simp only [aT,List.map_cons,List.map_nil,List.sum_cons,List.sum_nil]
  omega
 ·rcases List.mem_cons.1 h with rfl | h
  ·exact ha.wd.mono (by simp only;omega)
  ·rw [List.mem_singleton.1 h];exact hb.wd.mono (by simp only;omega)
theorem GP.Iw {s s1 s2 s3:PS} {a b c:PR} {n:EN} {d e:Nat} (ha:GP d s1 a) (hb:GP d s2 b) (hc:GP d s3 c) (hs:SS s s1) (hm:SS a.2 s2) (hm':SS b.2 s3) (hn:bf n=3) (hl:n.l=[])
  (he:4*s1.l.length+3*d+1≤4*s.l.length+e):GP e s (av n [a.1,b.1,c.1],c.2):=by
 have h1:=ha.sz
 have h2:=hb.sz
 have h2':=hc.sz
 have h3:=hs.len
 have h4:=hm.len
 have h4':=hm'.len
 have h5:=ha.ss.len
 have h6:=hb.ss.len
 have h7:=hc.ss.len
 refine ⟨((((hs.trans ha.ss).trans hm).trans hb.ss).trans hm').trans hc.ss,.join n _ hn (fun l h=>?_),?_,dn (by rw [hl];exact Nat.zero_le _) fun l h=>?_⟩
 ·simp only [List.mem_cons,List.not_mem_nil,or_false] at h
  rcases h with rfl | rfl | rfl
  ·exact ha.tr
  ·exact hb.tr
  ·exact hc.tr
 ·rw [cZ]
  simp only [aT,List.map_cons,List.map_nil,List.sum_cons,List.sum_nil]
  omega
 ·simp only [List.mem_cons,List.not_mem_nil,or_false] at h
  rcases h with rfl | rfl | rfl
  ·exact ha.wd.mono (by simp only;omega)
  ·exact hb.wd.mono (by simp only;omega)
  ·exact hc.wd.mono (by simp only;omega)
end Go.Proofs.YtejpnabbmgpmaaaGreat

namespace Go.Proofs.YtejpnabbmgpmaaaGreat
open Go.Ab
theorem SS.parted (s:PS) (t:Tok) (l:List EF) (h:∀ N,PSo N s→0≤t.pos∧t.pos≤N):SS s (s.parted t l):=by
 unfold PS.parted
 split
 ·exact SS.refl s
 split
 ·exact SS.fail s _ _ h
 split
 ·exact SS.fail s _ _ h
 ·exact SS.refl s
theorem SS.withp {s r:PS} (h:SS s r) (e p:Int) (hp:∀ N,PSo N s→0≤p∧p≤N):SS s (r.fail e p):=by
 unfold PS.fail
 split
 ·exact ⟨h.suf,h.fin,h.nest,hp⟩
 ·exact h
theorem SS.partp {s r:PS} (h:SS s r) (t:Tok) (l:List EF) (hp:∀ N,PSo N s→0≤t.pos∧t.pos≤N):SS s (r.parted t l):=by
 unfold PS.parted
 split
 ·exact h
 split
 ·exact SS.withp h _ _ hp
 split
 ·exact SS.withp h _ _ hp
 ·exact h
theorem SS.field (s:PS) (l:List EF):SS s (dB s l).2 :=
 (SS.partp (SS.of s 2) s.peek l fun _ h=>gq h).trans (SS.must _ _ _)
theorem SS.branch (s:PS) (l:List EF):SS s (bM s l).2 :=
 ((SS.partp (SS.of s 3) s.peek l fun _ h=>gq h).trans (SS.of _ _)).trans (SS.must _ _ _)
structure PGood (s:PS) (l:List EF) (ks:List (List EN)) (R:List EF × List (List EN) × PS):Prop where
 ss:SS s R.2.2
 eq:R.1.length=R.2.1.length
 tr:∀ k∈R.2.1,Tr k
 sz:aT R.2.1+4*R.2.2.l.length+3*R.1.length≤aT ks+4*s.l.length+3*l.length+4
 ln:R.1.length+R.2.2.l.length≤l.length+s.l.length+1
 wd:∀ b,(∀ k∈ks,eT b k)→s.l.length+1≤b+R.2.2.l.length→∀ k∈R.2.1,eT b k
theorem pW (ks:List (List EN)) (k:List EN):aT (ks++[k])=aT ks+k.length:=by simp [aT]
theorem qj (ex:PS→PR) (b:List UInt8) (part:PS→List EF→EF × PS):∀ (m:Nat) (s:PS) (l:List EF) (ks:List (List EN)),1≤(aR ex b part (m+1) s l ks).1.length
 | 0,s,l,ks=>by
   unfold aR;simp only
   split
   ·simp [aR]
   ·simp
 | m+1,s,l,ks=>by
   unfold aR;simp only
   split
   ·exact qj ex b part m _ _ _
   ·simp
section
variable {ex:PS→PR} (hex:∀ s,GP 1 s (ex s))
include hex
theorem dH (between:List UInt8) (part:PS→List EF→EF × PS) (hp:∀ s l,SS s (part s l).2):∀ (m:Nat) (s:PS) (l:List EF) (ks:List (List EN)),l.length=ks.length→(∀ k∈ks,Tr k) →
  PGood s l ks (aR ex between part m s l ks)
 | 0,s,l,ks,hl,ht=>⟨SS.refl s,hl,ht,by show aT ks+4*s.l.length+3*l.length≤_;omega,by show l.length+s.l.length≤_;omega,fun b h _=>h⟩
 | m+1,s,l,ks,hl,ht=>by
   have hf:=hp s l
   have he:=hex (part s l).2
   have h1:=he.sz
   have h2:=hf.len
   have h3:=he.ss.len
   have hks:∀ k∈ks++[(ex (part s l).2).1],Tr k:=fun k hk=>by
    rcases List.mem_append.1 hk with hk | hk
    ·exact ht k hk
    ·rw [List.mem_singleton.1 hk];exact he.tr
   unfold aR
   simp only
   split
   ·rename_i hs
    have h4:=az hs
    have ih:=dH between part hp m (ex (part s l).2).2.next (l++[(part s l).1]) (ks++[(ex (part s l).2).1]) (by simp [hl]) hks
    have h5:=ih.ss.len
    have h6:=ih.sz
    have h7:=ih.ln
    rw [pW] at h6
    simp only [List.length_append,List.length_singleton] at h6 h7
    refine ⟨((hf.trans he.ss).trans (SS.next _)).trans ih.ss,ih.eq,ih.tr,by omega,by omega,fun b hb hle=>ih.wd b (fun k hk=>?_) (by omega)⟩
    rcases List.mem_append.1 hk with hk | hk
    ·exact hb k hk
    ·rw [List.mem_singleton.1 hk];exact he.wd.mono (by omega)
   ·refine ⟨hf.trans he.ss,by simp [hl],hks,?_,?_,fun b hb hle k hk=>?_⟩
    ·rw [pW];simp only [List.length_append,List.length_singleton];omega
    ·simp only [List.length_append,List.length_singleton];omega
    ·simp only at hle
     rcases List.mem_append.1 hk with hk | hk
     ·exact hb k hk
     ·rw [List.mem_singleton.1 hk];exact he.wd.mono (by omega)
theorem gj (s:PS) (pos:Int):GP 2 s (ch ex s pos):=by
 unfold ch
 split
 ·exact GP.leaf rfl rfl (SS.next s) (by rename_i h;have:=az h;omega)
 ·have h:=dH hex [44] dB SS.field s.l.length.succ s [] [] rfl (fun _ h=>by cases h)
  generalize aR ex [44] dB s.l.length.succ s [] []=R at h
  have h1:=h.sz
  have h2:=h.ln
  have h3:=h.ss.len
  have h4:=(SS.must R.2.2 7 [125]).len
  simp only [aT,List.map_nil,List.sum_nil,List.length_nil] at h1 h2
  refine ⟨h.ss.trans (SS.must _ _ _),.join _ _ (by show 0+R.1.length=_;rw [h.eq];omega) h.tr,?_,dn (by show R.1.length≤_;simp only;omega) (h.wd _ (fun _ h=>by cases h) (by simp only;omega))⟩
  rw [cZ]
  simp only [aT]
  have h5:R.1=[]∨1≤R.1.length:=by cases R.1<;>simp
  rcases h5 with h5 | h5
  ·have:R.2.1=[]:=List.length_eq_zero_iff.1 (by rw [← h.eq,h5];rfl)
   rw [this];simp only [List.map_nil,List.sum_nil];omega
  ·omega
theorem kb (s:PS) (pos:Int):GP 3 s (e9 ex s pos):=by
 unfold e9
 have he:=hex s
 have hm:=SS.must (ex s).2 1 bOf
 simp only
 generalize (ex s).2.must 1 bOf=s1 at hm
 have h:=dH hex [124] bM SS.branch s1.l.length.succ s1 [] [] rfl (fun _ h=>by cases h)
 generalize hR:aR ex [124] bM s1.l.length.succ s1 [] []=R at h
 have h1:=h.sz
 have h2:=h.ln
 have h3:=h.ss.len
 have h4:=(SS.must R.2.2 1 vj).len
 have h5:=he.sz
 have h6:=he.ss.len
 have h7:=hm.len
 have h8:1≤R.1.length:=by
  rw [← hR]
  exact qj _ _ _ _ _ _ _
 simp only [aT,List.map_nil,List.sum_nil,List.length_nil] at h1 h2
 refine ⟨((he.ss.trans hm).trans h.ss).trans (SS.must _ _ _),.join _ _ (by show 1+R.1.length=_;rw [h.eq,List.length_cons];omega) (fun l hl=>?_),?_,dn (by show R.1.length≤_;simp only;omega) fun l hl=>?_⟩
 ·rcases List.mem_cons.1 hl with rfl | hl
  ·exact he.tr
  ·exact h.tr l hl
 ·rw [cZ]
  simp only [aT,List.map_cons,List.sum_cons]
  omega
 ·rcases List.mem_cons.1 hl with rfl | hl
  ·exact he.wd.mono (by simp only;omega)
  ·exact h.wd _ (fun _ h=>by cases h) (by simp only;omega) l hl
def GQ (s:PS) (r:PR):Prop:=GP 1 s r∧(r.2.l.length<s.l.length→r.1.length+4*r.2.l.length+1≤4*s.l.length)
theorem lK (s:PS):GQ s (cU ex s):=by
 have lf:∀ n:EN,bf n=0→n.l=[]→s.next.l.length+1=s.l.length→GQ s (bj n,s.next):=fun n h1 h2 h3 =>
  ⟨GP.leaf h1 h2 (SS.next s) (by omega),fun _=>by show (av n []).length+_+1≤_;rw [cZ];simp only [aT,List.map_nil,List.sum_nil];omega⟩
 have no:GQ s (noE,s.wrong):=⟨GP.leaf rfl rfl (SS.wrong s) (by have:=(SS.wrong s).len;omega),fun h=>absurd h (by show ¬ s.wrong.l.length<_;unfold PS.wrong PS.fail;split<;>simp)⟩
 unfold cU
 simp only
 split
 ·exact no
 split
 ·rename_i h;exact lf _ rfl rfl (db h (by decide))
 split
 ·rename_i h;exact lf _ rfl rfl (db h (by decide))
 split
 ·rename_i h;exact lf _ rfl rfl (db h (by decide))
 split
 ·rename_i h;exact lf _ rfl rfl (az h)
 split
 ·rename_i h;exact lf _ rfl rfl (az h)
 split
 ·rename_i h
  have h1:=az h
  have he:=hex s.next
  have h2:=he.sz
  have h3:=(SS.must (ex s.next).2 7 [41]).len
  exact ⟨(GP.pre (e:=1) (r:=((ex s.next).1,(ex s.next).2)) he (SS.next s) (by omega)).post (SS.must _ _ _),fun _=>by simp only;omega⟩
 split
 ·rename_i h
  have h1:=az h
  have he:=gj hex s.next s.peek.pos
  have h2:=he.sz
  exact ⟨he.pre (SS.next s) (by omega),fun _=>by omega⟩
 split
 ·rename_i h
  have h1:=az h
  have he:=kb hex s.next s.peek.pos
  have h2:=he.sz
  exact ⟨he.pre (SS.next s) (by omega),fun _=>by omega⟩
 ·exact no
omit hex in
theorem gI (s0:PS):∀ (m:Nat) (a:List EN) (s:PS),GQ s0 (a,s)→GQ s0 (cj m a s)
 | 0,_,_,h=>h
 | m+1,a,s,h=>by
   unfold cj
   split
   ·rename_i hs
    refine gI s0 m _ _ ?_
    have h1:=az hs
    have h2:=(SS.of s.next 2).len
    have h3:=h.1.sz
    have h4:=h.1.ss.len
    simp only at h3 h4
    have hj:(av { nd0 12 s.peek.pos with name:=(s.next.of 2).1 } [a]).length=a.length+1:=by rw [cZ];simp [aT]
    refine ⟨⟨(h.1.ss.trans (SS.next s)).trans (SS.of _ _),.join _ _ rfl (fun l hl=>by rw [List.mem_singleton.1 hl];exact h.1.tr),by rw [hj];simp only;omega,dn (Nat.zero_le _) fun l hl=>by rw [List.mem_singleton.1 hl];exact h.1.wd.mono (by simp only;omega)⟩,fun _=>by rw [hj];simp only;omega⟩
   ·exact h
theorem fE (s:PS):GQ s (cO ex s):=gI s _ _ _ (lK hex s)
omit hex in
theorem nV:∀ (m:Nat) (a:List EN) (s:PS),(cj m a s).2.l.length≤s.l.length
 | 0,_,_=>Nat.le_refl _
 | m+1,a,s=>by
   unfold cj
   split
   ·have:=nV m (av { nd0 12 s.peek.pos with name:=(s.next.of 2).1 } [a]) (s.next.of 2).2
    have:=(SS.of s.next 2).len
    have:=(SS.next s).len
    omega
   ·exact Nat.le_refl _
theorem mh {s:PS} (he:s.err=0) (hb:s.begins=true):(cO ex s).2.l.length<s.l.length:=by
 have h1:=nV (cU ex s).2.l.length.succ (cU ex s).1 (cU ex s).2
 have key:(cU ex s).2.l.length<s.l.length:=by
  unfold PS.begins at hb
  simp only [Bool.or_eq_true,Bool.and_eq_true,decide_eq_true_eq] at hb
  unfold cU
  simp only [he,ne_eq,not_true_eq_false,if_false]
  have hk:∀ k:Int,s.peek.k=k→k≠0→s.next.l.length<s.l.length:=fun k h h0=>by have:=db h h0;omega
  have hne:∀ k:Int,s.peek.k=k→k≠0→s.l.isEmpty=false:=fun k h h0=>by
   have:=db h h0
   cases hl:s.l with
   | nil=>rw [hl] at this;simp at this
   | cons _ _=>rfl
  split
  ·rename_i h;exact hk 4 h (by decide)
  split
  ·rename_i h;exact hk 5 h (by decide)
  split
  ·rename_i h;exact hk 2 h (by decide)
  rename_i g4 g5 g2
  split
  ·rename_i h;have:=az h;simp only;omega
  rename_i g1
  split
  ·rename_i h;have:=az h;simp only;omega
  rename_i g3
  split
  ·rename_i h
   have:=az h
   have:=(hex s.next).ss.len
   have:=(SS.must (ex s.next).2 7 [41]).len
   simp only;omega
  rename_i g6
  split
  ·rename_i h
   have:=az h
   have:=(gj hex s.next s.peek.pos).ss.len
   omega
  rename_i g7
  split
  ·rename_i h
   have:=az h
   have:=(kb hex s.next s.peek.pos).ss.len
   omega
  rename_i g8
  exfalso
  have see:∀ k t,k≠0→s.peek.k=k→s.peek.s=t→s.sees k t=true:=fun k t h0 h h'=>by
   simp [PS.sees,PS.is,he,h,h',hne k h h0]
  rcases hb with (((h | h) | h) | ⟨h,h'⟩) | ⟨h,h'⟩
  ·exact g4 h
  ·exact g5 h
  ·exact g2 h
  ·rcases h' with (h' | h') | h'
   ·exact g1 (see 1 _ (by decide) h h')
   ·exact g3 (see 1 _ (by decide) h h')
   ·exact g8 (see 1 _ (by decide) h h')
  ·rcases h' with h' | h'
   ·exact g6 (see 7 _ (by decide) h h')
   ·exact g7 (see 7 _ (by decide) h h')
 exact Nat.lt_of_le_of_lt h1 key
theorem jR (s0:PS):∀ (m:Nat) (a:List EN) (s:PS),GP 1 s0 (a,s)→GP 1 s0 (gp ex m a s)
 | 0,_,_,h=>h
 | m+1,a,s,h=>by
   unfold gp
   split
   ·rename_i hs
    simp only [Bool.and_eq_true,decide_eq_true_eq] at hs
    have hp:=fE hex s
    have hl:=mh hex hs.1 hs.2
    have h2:=hp.2 hl
    have h3:=h.sz
    have h4:=h.ss.len
    simp only at h3 h4
    refine jR s0 m _ _ ⟨h.ss.trans hp.1.ss,.join _ _ rfl (fun l hl=>?_),?_,dn (Nat.zero_le _) fun l hl=>?_⟩
    ·rcases List.mem_cons.1 hl with rfl | hl
     ·exact h.tr
     ·rw [List.mem_singleton.1 hl];exact hp.1.tr
    ·rw [cZ]
     simp only [aT,List.map_cons,List.map_nil,List.sum_cons,List.sum_nil]
     omega
    ·rcases List.mem_cons.1 hl with rfl | hl
     ·exact h.wd.mono (by simp only;omega)
     ·rw [List.mem_singleton.1 hl];exact hp.1.wd.mono (by simp only;omega)
   ·exact h
theorem jc (s:PS):GP 1 s (j9 ex s):=by
 unfold j9
 simp only
 split
 ·rename_i h
  have h1:=w1 h (by decide)
  exact GP.sU (fE hex s.next).1 (SS.next s) rfl rfl (by omega)
 ·exact jR hex s _ _ _ (fE hex s).1
omit hex in
theorem dG {s:PS}:∀ {ops:List (List UInt8 × Int)} {n:Int},opS s ops=some n→s.next.l.length+1=s.l.length
 | [],_,h=>by cases h
 | q::r,n,h=>by
   unfold opS at h
   split at h
   ·rename_i hs;exact az hs
   ·exact dG h
omit hex in
theorem js (ops:List (List UInt8 × Int)) (sub:PS→PR) (hsub:∀ s,GP 1 s (sub s)) (s0:PS):∀ (m:Nat) (a:List EN) (s:PS),GP 1 s0 (a,s)→GP 1 s0 (dW ops sub m a s)
 | 0,_,_,h=>h
 | m+1,a,s,h=>by
   unfold dW
   split
   ·rename_i n ho
    have h1:=dG ho
    exact js ops sub hsub s0 m _ _ (GP.jk (s1:=s0) (a:=(a,s)) h (hsub s.next) (SS.refl s0) (SS.next s) rfl rfl (by simp only;omega))
   ·exact h
theorem gP (s:PS):GP 1 s (iW ex s):=js _ _ (jc hex) s _ _ _ (jc hex s)
theorem jm (s:PS):GP 1 s (o5 ex s):=js _ _ (gP hex) s _ _ _ (gP hex s)
theorem sM (s:PS):GP 1 s (pP ex s):=by
 unfold pP
 simp only
 split
 ·rename_i n ho
  have h1:=dG ho
  exact GP.jk (jm hex s) (jm hex _) (SS.refl s) (SS.next _) rfl rfl (by omega)
 ·exact jm hex s
omit hex in
theorem mn (s:PS) (e p:Int):(s.fail e p).l=s.l:=by unfold PS.fail;split<;>rfl
theorem oh (s:PS) (pos:Int):GP 3 s (kW ex s pos):=by
 unfold kW
 simp only
 obtain ⟨k,hk⟩:∃ k:Int,k=if s.sees 1 gA=true then 8 else 7:=⟨_,rfl⟩
 rw [← hk]
 have h0:=(SS.may s 1 gA).trans ((SS.of (s.may 1 gA) 2).trans (SS.must ((s.may 1 gA).of 2).2 7 [61]))
 generalize (((s.may 1 gA).of 2).2.must 7 [61])=s2 at h0
 have ha:=hex s2
 obtain ⟨s3,hq⟩:∃ s3,s3=if k=8∧(dh (ex s2).1).k≠5 then (ex s2).2.fail 5 s2.peek.pos else (ex s2).2:=⟨_,rfl⟩
 rw [← hq]
 have hb:=hex (s3.must 1 bIn)
 have hss:SS s2 s3:=by
  by_cases c:k=8∧(dh (ex s2).1).k≠5
  ·rw [if_pos c] at hq;rw [hq];exact SS.withp ha.ss _ _ fun _ h=>gq h
  ·rw [if_neg c] at hq;rw [hq];exact ha.ss
 have hl:s3.l=(ex s2).2.l:=by
  by_cases c:k=8∧(dh (ex s2).1).k≠5
  ·rw [if_pos c] at hq;rw [hq];exact mn _ _ _
  ·rw [if_neg c] at hq;rw [hq]
 have ha':GP 1 s2 ((ex s2).1,s3):=⟨hss,ha.tr,by simp only [hl];exact ha.sz,by simp only [hl];exact ha.wd⟩
 have h3:=(SS.must s3 1 bIn).len
 have h4:=h0.len
 refine GP.jk (a:=((ex s2).1,s3)) ha' hb h0 (SS.must _ _ _) ?_ rfl (by simp only;omega)
 rw [hk]
 split<;>rfl
theorem re (s:PS) (pos:Int):GP 4 s (ifS ex s pos):=by
 unfold ifS
 simp only
 exact GP.Iw (hex s) (hex _) (hex _) (SS.refl s) (SS.must _ _ _) (SS.must _ _ _) rfl rfl (by omega)
theorem ym (s:PS):GP 1 s (kS ex s):=by
 unfold kS
 simp only
 split
 ·rename_i h
  have h1:=az h
  have h2:=(SS.of s.next 2).len
  have h3:=(SS.must (s.next.of 2).2 7 bTo).len
  exact GP.sU (hex _) ((SS.next s).trans ((SS.of _ _).trans (SS.must _ _ _))) rfl rfl (by omega)
 split
 ·rename_i h
  have h1:=az h
  exact (oh hex s.next _).pre (SS.next s) (by omega)
 split
 ·rename_i h
  have h1:=az h
  exact (re hex s.next _).pre (SS.next s) (by omega)
 ·exact sM hex s
end
theorem dr:∀ (m:Nat) (s:PS),GP 1 s (er m s)
 | 0,s=>GP.leaf rfl rfl (SS.failp s 6) (by have:=(SS.failp s 6).len;omega)
 | m+1,s=>by
   unfold er
   split
   ·exact GP.leaf rfl rfl (SS.refl s) (by omega)
   ·have h:=ym (dr m) { s with nest:=s.nest+1 }
    refine ⟨⟨h.ss.suf,h.ss.fin,rfl,fun N hN=>h.ss.pos N hN⟩,h.tr,h.sz,h.wd⟩
end Go.Proofs.YtejpnabbmgpmaaaGreat

namespace Go.Proofs.YtejpnabbmgpmaaaGreat
open Go.Ab
theorem Jm:∀ (m:Nat) (ks:List Int),m≤3→kp [.int .i64 0,.int .i64 0,.int .i64 0] ((ks.take m).map i64) 0 3=[i64 (if 0<m then ks.getD 0 0 else 0),i64 (if 1<m then ks.getD 1 0 else 0),i64 (if 2<m then ks.getD 2 0 else 0)]
 | 0,_,_=>rfl
 | 1,[],_=>rfl
 | 2,[],_=>rfl
 | 3,[],_=>rfl
 | 1,[x],_=>rfl
 | 2,[x],_=>rfl
 | 3,[x],_=>rfl
 | 1,x::y::r,_=>by simp [kp,i64]
 | 2,[x,y],_=>rfl
 | 3,[x,y],_=>rfl
 | 2,x::y::z::r,_=>by simp [kp,i64]
 | 3,[x,y,z],_=>rfl
 | 3,x::y::z::w::r,_=>by simp [kp,i64]
theorem CQ {α:Type} (k:Nat) (l:List α) (N:Nat) (h:l.length=N) [Decidable ((N:Int)<(k:Int))]:List.take ((if (N:Int)<(k:Int) then (N:Int) else (k:Int)).toNat-0) l=l.take k:=by
 split
 ·rw [List.take_of_length_le (by omega),List.take_of_length_le (by omega)]
 ·congr 1
theorem CH {G}:HCall Tryz.prog G 156 [.d .nils] [] [] (fun r hp'=>r=.vw [0] 0 0∧hp'=[([0],.arr (some 3) [])]):=by
 refine HCall.thaw (Q:=fun r hp'=>(r=.d .nils∧hp'=[])∨(r=.vw [0] 0 0∧hp'=[([0],.arr (some 3) [])])) ?_ 0 (some 3) (by simp) ?_
 ·refine ar Tryz.func156 rfl (by decide +kernel) (by simp [Tryz.ntmps156]) (veil fun E=>?_)
  simp only [go_sem]
  refine Fa E 3 (some 3) rfl ?_
  refine rp E (e:=177) (by simp only [go_sem]) (by simp only [go_sem]) rfl fun b hb=>?_
  simp only [go_sem]
  refine aD E (fun h=>?_) (fun h=>?_)<;>simp only [go_sem]
  ·refine ⟨_,[],[],id,.inl ⟨rfl,rfl⟩,?_⟩
   simp only [go_sem]
  ·refine ⟨_,_,[0],tau [([0],[7])],.inr ⟨rfl,rfl⟩,?_⟩
   simp only [go_sem]
 ·rintro r hp' (⟨rfl,rfl⟩ | h)
  ·exact .inr ⟨rfl,rfl,rfl,rfl⟩
  ·exact .inl h
theorem aw {ks:List Int} {k:Nat} (h:k<ks.length):(ks.map i64).getD k .nilp=i64 (ks.getD k 0):=by simp [h]
theorem ma (ks:List Int) (o:Nat):∀ (a b:List EF) (i:Nat),aX ks o (a++b) i=aX ks o a i++aX ks o b (i+a.length)
 | [],b,i=>by simp [aX]
 | f::r,b,i=>by
   simp only [List.cons_append,aX,ma ks o r b (i+1),List.length_cons]
   rw [show i+1+r.length=i+(r.length+1) by omega]
def eW (ks:List Int) (o:Nat) (l:List EF) (i:Nat):List EF:=aX ks o (l.take i) 0++l.drop i
theorem yn (ks:List Int) (o:Nat) (l:List EF) (i:Nat):(eW ks o l i).length=l.length:=by
 simp only [eW,List.length_append,dk,List.length_take,List.length_drop];omega
theorem uZ (ks:List Int) (o:Nat) (l:List EF):eW ks o l 0=l:=by simp [eW,aX]
theorem zW (ks:List Int) (o:Nat) (l:List EF):eW ks o l l.length=aX ks o l 0:=by simp [eW]
theorem v8 {ks:List Int} {o:Nat} {l:List EF} {i:Nat} (h:i<l.length):eW ks o l (i+1)=(eW ks o l i).set i (if o+i<ks.length then { fdE l i with to:=ks.getD (o+i) 0 } else fdE l i):=by
 have h1:l.take (i+1)=l.take i++[l[i]]:=by simp
 have h2:l.drop i=l[i]::l.drop (i+1):=List.drop_eq_getElem_cons h
 have hf:fdE l i=l[i]:=by simp [fdE,h]
 unfold eW
 rw [h1,ma,h2,hf]
 have h3:(aX ks o (l.take i) 0).length=i:=by rw [dk,List.length_take];omega
 rw [List.set_append_right _ _ (by omega),h3,Nat.sub_self]
 simp only [aX,Nat.zero_add,List.length_take,Nat.min_eq_left (Nat.le_of_lt h),List.append_assoc,List.singleton_append,List.set_cons_zero]
theorem qG {ks:List Int} {o:Nat} {l:List EF} {i:Nat} (h:i<l.length):(eW ks o l i)[i]?=some (fdE l i):=by
 have h3:(aX ks o (l.take i) 0).length=i:=by rw [dk,List.length_take];omega
 unfold eW
 rw [List.getElem?_append_right (by omega),h3,Nat.sub_self,List.drop_eq_getElem_cons h]
 simp [fdE,h]
theorem wG {G} (n:EN) (ks:List Int) (hl:n.l.length≤1000000) (hks:ks.length≤1000000):HP Tryz.prog G 105 [enD n,.sl none (ks.map i64)] (fun r=>r=.d (enD (bk n ks))):=by
 unfold enD efD
 refine ax Tryz.func105 rfl (by decide +kernel) (by simp [Tryz.ntmps105]) (veil fun E=>?_)
 simp only [go_sem]
 refine ag E (nr n.k) rfl rfl (by simp) ?_
 rintro _ rfl
 simp only [go_sem]
 have hk3:=bC n.k
 refine HZ E [6] 6 77 [.int .i64 0,.int .i64 0,.int .i64 0] ?_ rfl rfl (by decide) rfl ?_
 ·rw [aa];decide
 simp only [go_sem]
 refine kn 8 mixed E (by simp only [List.take_succ_cons,List.take_zero];exact rfl) (by simp only [List.drop_succ_cons,List.drop_zero];exact rfl) rfl rfl (by decide +kernel) fun X=>?_
 simp only [go_sem]
 refine ⟨by split<;>constructor<;>omega,by decide +kernel,?_⟩
 rw [CQ (aG n.k) (ks.map i64) ks.length (by simp),← List.map_take]
 refine Hb E (d:=21) (dT:=95) (e0:=3) (by simp only [go_sem]) (by rw [Ak]) (by rw [ti3];decide) rfl rfl rfl ?_
 rw [Jm _ _ hk3]
 obtain ⟨a,ha⟩:∃ a,a=if 0<aG n.k then ks.getD 0 0 else 0:=⟨_,rfl⟩
 obtain ⟨b,hb⟩:∃ b,b=if 1<aG n.k then ks.getD 1 0 else 0:=⟨_,rfl⟩
 obtain ⟨c,hc⟩:∃ c,c=if 2<aG n.k then ks.getD 2 0 else 0:=⟨_,rfl⟩
 rw [← ha,← hb,← hc]
 simp only [go_sem]
 refine ak mixed E fun X=>?_
 simp only [go_sem]
 simp only [List.getD_cons_succ,List.getD_cons_zero]
 simp only [go_sem]
 simp only [List.getD_cons_succ,List.getD_cons_zero]
 simp only [go_sem]
 refine ⟨by decide +kernel,?_⟩
 refine aD E (fun hp=>?_) (fun hp=>?_)<;>simp only [go_sem]
 ·refine ab E [.d .nils] [] [] CH rfl rfl ⟨by simp only [go_sem],by rw [aa];decide⟩ rfl (by simp only [go_sem]) (by simp only [go_sem]) ?_
  rintro _ _ ⟨rfl,rfl⟩
  simp only [go_sem]
  refine aA E (X:=Unit) (fun _=>[(1,.d (.sl none (ks.map i64))),(2,.bx [2] 0),(4,.bx [4] 0),(5,.bx [5] 0),(41,.d (i64 0)),(42,.d (i64 0))])
   (fun _=>[([2],.box [.d (i64 n.k),.d (i64 a),.d (i64 b),.d (i64 c),.d (i64 n.n),.d (.str n.name),.d (.str n.s),.vw [37,0] 0 0,.d (i64 n.pos)]),([4],.box [.d (i64 0),.d (i64 0),.d (i64 0),.d (i64 0),.d (i64 0),.d (.str []),.d (.str []),.d .nils,.d (i64 0)]),([5],.box [.d (i64 (aG n.k)),.d (.bool (aI n.k))]),([37,0],.arr (some 3) [])]) [2,4,5,37] (fun _=>0) () id ?_ ?_
  ·simp only [go_sem]
   all_goals rfl
  rintro _ E0
  refine aC E0 fun Q' hQ E'=>?_
  simp only [go_sem]
  rw [hQ]
  simp only [go_sem]
  refine ⟨[([37,0],some 3,[])],?_⟩
  simp only [go_sem]
  have hw:bk n ks={ n with a:=a,b:=b,c:=c,l:=[] }:=by
   have hp':aI n.k=false:=by simpa using hp
   simp [bk,ha,hb,hc,hp']
  rw [hw]
  rfl
 ·refine ab E [.d (efD n.l)] [] [] (B7 n.l hl) rfl rfl ⟨by simp only [go_sem],by rw [aa];decide⟩ rfl (by simp only [go_sem]) (by simp only [go_sem]) ?_
  rintro _ _ ⟨rfl,rfl⟩
  simp only [go_sem]
  refine aA E (X:={ i:Nat // i≤n.l.length }) (fun x=>[(1,.d (.sl none (ks.map i64))),(2,.bx [2] 0),(4,.bx [4] 0),(5,.bx [5] 0),(41,.d (i64 n.l.length)),(42,.d (i64 x.1))])
   (fun x=>[([2],.box [.d (i64 n.k),.d (i64 a),.d (i64 b),.d (i64 c),.d (i64 n.n),.d (.str n.name),.d (.str n.s),.vw [37,0] 0 n.l.length,.d (i64 n.pos)]),([4],.box [.d (i64 0),.d (i64 0),.d (i64 0),.d (i64 0),.d (i64 0),.d (.str []),.d (.str []),.d .nils,.d (i64 0)]),([5],.box [.d (i64 (aG n.k)),.d (.bool (aI n.k))]),([37,0],.arr (some 3) ((eW ks (aG n.k) n.l x.1).map fD))]) [2,4,5,37] (fun x=>n.l.length-x.1) ⟨0,Nat.zero_le _⟩ id ?_ ?_
  ·simp only [go_sem]
   all_goals (first | rfl | (rw [uZ]))
  rintro ⟨i,hi⟩ E0
  refine aC E0 fun Q' hQ E'=>?_
  simp only at hi ⊢
  simp only [go_sem]
  refine ah E' (fun h1=>?_) (fun h1=>?_)<;>simp only [go_sem]
  ·have h1':i<n.l.length:=by omega
   rw [ai ⟨by omega,by omega⟩]
   have hpl:=yn ks (aG n.k) n.l i
   have hst:=v8 (ks:=ks) (o:=aG n.k) h1'
   refine ah E' (fun h2=>?_) (fun h2=>?_)<;>simp only [go_sem]
   ·have h2':aG n.k+i<ks.length:=by omega
    rw [if_pos h2'] at hst
    refine ak mixed E' fun X=>?_
    simp only [go_sem]
    refine ⟨⟨by omega,by omega⟩,?_⟩
    rw [show ((aG n.k:Nat)+(i:Int)).toNat=aG n.k+i by omega,aw h2']
    simp only [go_sem]
    have hgt:(List.map fD (eW ks (aG n.k) n.l i)).getD i .nilp=.agg [.str (fdE n.l i).nm,.str (fdE n.l i).var,i64 (fdE n.l i).to]:=by
     rw [List.getD_eq_getElem?_getD,List.getElem?_map,qG h1'];rfl
    refine ⟨⟨by omega,by omega⟩,?_⟩
    rw [hgt]
    simp only [go_sem]
    have hmp:(List.map fD (eW ks (aG n.k) n.l i)).set i (.agg [.str (fdE n.l i).nm,.str (fdE n.l i).var,i64 (ks.getD (aG n.k+i) 0)])=(eW ks (aG n.k) n.l (i+1)).map fD:=by
     rw [hst,List.map_set];rfl
    rw [hmp]
    refine ⟨by decide +kernel,?_⟩
    rw [hQ]
    simp only [go_sem]
    refine ⟨⟨i+1,by omega⟩,by show n.l.length-(i+1)<_;omega,id,?_⟩
    rw [ai ⟨by omega,by omega⟩]
    simp only [go_sem]
    all_goals rfl
   ·have h2':¬ aG n.k+i<ks.length:=by omega
    rw [if_neg h2'] at hst
    have hst2:eW ks (aG n.k) n.l (i+1)=eW ks (aG n.k) n.l i:=by
     rw [hst]
     refine List.ext_getElem? fun j=>?_
     rw [List.getElem?_set]
     split
     ·rename_i e;subst e
      rw [if_pos (by omega),qG h1']
     ·rfl
    rw [hQ]
    simp only [go_sem]
    refine ⟨⟨i+1,by omega⟩,by show n.l.length-(i+1)<_;omega,id,?_⟩
    rw [hst2,ai ⟨by omega,by omega⟩]
    simp only [go_sem]
    all_goals rfl
  ·rw [hQ]
   simp only [go_sem]
   have hi2:i=n.l.length:=by omega
   subst hi2
   rw [zW]
   refine ⟨[([37,0],some 3,(aX ks (aG n.k) n.l 0).map fD)],?_⟩
   simp only [go_sem]
   have hw:bk n ks={ n with a:=a,b:=b,c:=c,l:=aX ks (aG n.k) n.l 0 }:=by
    have hp':aI n.k=true:=by simpa using hp
    simp [bk,ha,hb,hc,hp']
   rw [hw,List.take_of_length_le (by rw [List.length_map,dk];exact Nat.le_refl _)]
end Go.Proofs.YtejpnabbmgpmaaaGreat

namespace Go.Proofs.YtejpnabbmgpmaaaGreat
open Go.Ab
theorem uw (l:List EN):∀ (a:List (List EN)) (acc:List EN) (rs:List Int),cI (a++[l]) acc rs=((cI a acc rs).1++l.map (aV (cI a acc rs).1.length),(cI a acc rs).2++[(((cI a acc rs).1.length+l.length:Nat):Int)-1])
 | [],_,_=>rfl
 | _::r,_,_=>uw l r _ _
def fe (ls:List (List EN)) (i:Nat):List EN × List Int:=cI (ls.take i) [] []
theorem qb {ls:List (List EN)} {i:Nat} (h:i<ls.length):fe ls (i+1)=((fe ls i).1++ls[i].map (aV (fe ls i).1.length),(fe ls i).2++[(((fe ls i).1.length+ls[i].length:Nat):Int)-1]):=by
 unfold fe
 rw [List.take_succ_eq_append_getElem h,uw]
theorem tO (ls:List (List EN)):fe ls ls.length=cI ls [] []:=by rw [fe,List.take_length]
theorem BV (a b:List (List EN)):aT (a++b)=aT a+aT b:=by simp [aT]
theorem sI {ls:List (List EN)} {i:Nat} (h:i<ls.length):(fe ls i).1.length+ls[i].length≤aT ls:=by
 have h1:(fe ls i).1.length=aT (ls.take i):=by unfold fe;rw [kN];simp
 have h2:aT ls=aT (ls.take i)+aT (ls.drop i):=by rw [← BV,List.take_append_drop]
 have h3:aT (ls.drop i)=ls[i].length+aT (ls.drop (i+1)):=by rw [List.drop_eq_getElem_cons h];unfold aT;rw [List.map_cons,List.sum_cons]
 omega
theorem sh:∀ (ls:List (List EN)) (acc:List EN) (rs:List Int),(cI ls acc rs).2.length=rs.length+ls.length
 | [],_,_=>by simp [cI]
 | l::r,acc,rs=>by rw [cI,sh];simp;omega
theorem xE (ls:List (List EN)) (i:Nat):(fe ls i).2.length≤i:=by unfold fe;rw [sh];simp;omega
def lQ (off:Nat) (K:List Int) (x:Nat):List Int:=((K.take x).map fun k:Int=>k+off)++K.drop x
theorem BC (off:Nat) (K:List Int):lQ off K K.length=K.map fun k:Int=>k+off:=by simp [lQ]
theorem BA (off:Nat) (K:List Int) (x:Nat):(lQ off K x).length=K.length:=by
 simp only [lQ,List.length_append,List.length_map,List.length_take,List.length_drop];omega
theorem An {off:Nat} {K:List Int} {x:Nat} (h:x<K.length):(lQ off K x).getD x 0=K.getD x 0:=by
 unfold lQ
 rw [List.getD_eq_getElem?_getD,List.getElem?_append_right (by simp;omega)]
 simp [Nat.min_eq_left (Nat.le_of_lt h),h]
theorem zQ {off:Nat} {K:List Int} {x:Nat} (h:x<K.length):(lQ off K x).set x (K.getD x 0+off)=lQ off K (x+1):=by
 have h1:K.take (x+1)=K.take x++[K[x]]:=by simp
 have h2:K.drop x=K[x]::K.drop (x+1):=List.drop_eq_getElem_cons h
 unfold lQ
 have h3:((K.take x).map fun k:Int=>k+off).length=x:=by simp;omega
 rw [h1,h2,List.set_append_right _ _ (by omega),h3,Nat.sub_self,List.set_cons_zero,List.map_append,List.append_assoc]
 simp [h]
theorem wC {ls:List (List EN)} {i:Nat} (h:i<ls.length):(ls.map exD).getD i .nilp=.agg [.sl (some 9) (ls[i].map enD)]:=by simp [h,exD]
theorem rA (M:EN):enD M=.agg [i64 M.k,i64 M.a,i64 M.b,i64 M.c,i64 M.n,.str M.name,.str M.s,.sl (some 3) (M.l.map fD),i64 M.pos]:=rfl
theorem sf {G} (n:EN) (ls:List (List EN)) (hn:n.l.length≤1000000) (hL:ls.length≤1000000) (hS:aT ls≤1000000) (hk:∀ l∈ls,∀ m∈l,eI l.length m) (hw:∀ l∈ls,eT 900000 l) :
  HP Tryz.prog G 86 [enD n,.sl (some 1) (ls.map exD)] (fun r=>r=.d (exD (av n ls))):=by
 unfold enD efD
 refine ax Tryz.func86 rfl (by decide +kernel) (by simp [Tryz.ntmps86]) (veil fun E=>?_)
 simp only [go_sem]
 refine vF E 6 98 none rfl (by rw [aa];decide) ?_
 simp only [go_sem]
 refine rf E [5] 0 97 (some 9) [.d .nils] rfl rfl (by rw [aa];decide) ?_
 simp only [go_sem]
 refine aA E (X:={ i:Nat // i≤ls.length }) (fun x=>[(2,.bx [2] 0),(4,.bx [4] 0),(5,.bx [5] 0),(6,.vw [98] 0 (fe ls x.1).2.length),(14,.d (.sl (some 1) (ls.map exD))),(15,.d (i64 ls.length)),(16,.d (i64 x.1))])
  (fun x=>[([2],.box [.d (i64 n.k),.d (i64 n.a),.d (i64 n.b),.d (i64 n.c),.d (i64 n.n),.d (.str n.name),.d (.str n.s),.d (.sl (some 3) (n.l.map fD)),.d (i64 n.pos)]),([4],.box [.d .nils]),([5],.box [.vw [97] 0 (fe ls x.1).1.length]),([97],.arr (some 9) ((fe ls x.1).1.map enD)),([98],.arr none ((fe ls x.1).2.map i64))]) [2,4,5,97,98] (fun x=>ls.length-x.1) ⟨0,Nat.zero_le _⟩ id ?_ ?_
 ·simp only [go_sem]
  exact ⟨rfl,rfl,rfl,rfl⟩
 rintro ⟨i,hi⟩ E0
 refine aC E0 fun Q' hQ E'=>?_
 simp only at hi ⊢
 simp only [go_sem]
 refine ah E' (fun h1=>?_) (fun h1=>?_)<;>simp only [go_sem]
 ·have h1':i<ls.length:=by omega
  refine ⟨⟨by omega,by omega⟩,?_⟩
  rw [wC h1']
  obtain ⟨l,hle⟩:∃ l,l=ls[i]:=⟨_,rfl⟩
  have hmem:l∈ls:=by rw [hle];exact List.getElem_mem h1'
  have hcl:=sI h1'
  have hcs:=qb h1'
  have hcr:=xE ls i
  rw [← hle] at hcl hcs ⊢
  obtain ⟨acc,hacc⟩:∃ acc,acc=(fe ls i).1:=⟨_,rfl⟩
  obtain ⟨rs,hrs⟩:∃ rs,rs=(fe ls i).2:=⟨_,rfl⟩
  rw [← hacc] at hcl hcs
  rw [← hrs] at hcr hcs
  simp only [← hacc,← hrs]
  simp only [go_sem]
  refine aA E' (X:={ j:Nat // j≤l.length }) (fun x=>[(2,.bx [2] 0),(4,.bx [4] 0),(5,.bx [5] 0),(6,.vw [98] 0 rs.length),(14,.d (.sl (some 1) (ls.map exD))),(15,.d (i64 ls.length)),(16,.d (i64 i)),(9,.d (i64 acc.length)),(24,.d (.sl (some 9) (l.map enD))),(25,.d (i64 l.length)),(26,.d (i64 x.1))])
   (fun x=>[([2],.box [.d (i64 n.k),.d (i64 n.a),.d (i64 n.b),.d (i64 n.c),.d (i64 n.n),.d (.str n.name),.d (.str n.s),.d (.sl (some 3) (n.l.map fD)),.d (i64 n.pos)]),([4],.box [.d .nils]),([5],.box [.vw [97] 0 (acc.length+x.1)]),([97],.arr (some 9) ((acc++(l.take x.1).map (aV acc.length)).map enD)),([98],.arr none (rs.map i64))]) [2,4,5,97,98] (fun x=>l.length-x.1) ⟨0,Nat.zero_le _⟩ id ?_ ?_
  ·simp only [go_sem]
   all_goals first | rfl | simp
  rintro ⟨j,hj⟩ E2
  refine aC E2 fun Q2 hQ2 E3=>?_
  simp only at hj ⊢
  simp only [go_sem]
  refine ah E3 (fun h2=>?_) (fun h2=>?_)<;>simp only [go_sem]
  ·have h2':j<l.length:=by omega
   refine ⟨⟨by omega,by omega⟩,?_⟩
   rw [aP h2',bG h2']
   obtain ⟨m,hm⟩:∃ m,m=l[j]:=⟨_,rfl⟩
   have hmm:m∈l:=by rw [hm];exact List.getElem_mem h2'
   have hmk:=hk l hmem m hmm
   have hml:=hw l hmem m hmm
   rw [← hm]
   simp only [go_sem]
   refine ab E3 [.d (enD m)] [] [] (gL m (by omega)) rfl rfl ⟨by simp only [go_sem],by rw [aa];decide⟩ rfl (by simp only [go_sem]) (by simp only [go_sem]) ?_
   rintro _ _ ⟨rfl,rfl⟩
   simp only [go_sem]
   have hKl:(aj m).length≤1000000:=by
    rw [bt];unfold bf
    have:=bC m.k
    split<;>omega
   have hKk:∀ q,q<(aj m).length→0≤(aj m).getD q 0∧(aj m).getD q 0<l.length:=fun q hq=>hmk _ (by simp [hq])
   have hwm:bk m ((aj m).map fun k:Int=>k+acc.length)=aV acc.length m:=rfl
   obtain ⟨K,hK⟩:∃ K,K=aj m:=⟨_,rfl⟩
   rw [← hK] at hKl hKk hwm ⊢
   refine aA E3 (X:={ q:Nat // q≤K.length }) (fun x=>[(2,.bx [2] 0),(4,.bx [4] 0),(5,.bx [5] 0),(6,.vw [98] 0 rs.length),(11,.bx [11] 0),(12,.vw [96] 0 K.length),(14,.d (.sl (some 1) (ls.map exD))),(15,.d (i64 ls.length)),(16,.d (i64 i)),(9,.d (i64 acc.length)),(24,.d (.sl (some 9) (l.map enD))),(25,.d (i64 l.length)),(26,.d (i64 j)),(33,.d (i64 K.length)),(34,.d (i64 x.1))])
    (fun x=>[([2],.box [.d (i64 n.k),.d (i64 n.a),.d (i64 n.b),.d (i64 n.c),.d (i64 n.n),.d (.str n.name),.d (.str n.s),.d (.sl (some 3) (n.l.map fD)),.d (i64 n.pos)]),([4],.box [.d .nils]),([5],.box [.vw [97] 0 (acc.length+j)]),([97],.arr (some 9) ((acc++(l.take j).map (aV acc.length)).map enD)),([98],.arr none (rs.map i64)),
     ([11],.box [.d (i64 m.k),.d (i64 m.a),.d (i64 m.b),.d (i64 m.c),.d (i64 m.n),.d (.str m.name),.d (.str m.s),.d (.sl (some 3) (m.l.map fD)),.d (i64 m.pos)]),([96],.arr none ((lQ acc.length K x.1).map i64))]) [2,4,5,11,96,97,98] (fun x=>K.length-x.1) ⟨0,Nat.zero_le _⟩ (tau [([96],[31,0])]) ?_ ?_
   ·simp only [go_sem]
    all_goals rfl
   rintro ⟨q,hq⟩ E4
   refine aC E4 fun Q4 hQ4 E5=>?_
   simp only at hq ⊢
   simp only [go_sem]
   refine ah E5 (fun h3=>?_) (fun h3=>?_)<;>simp only [go_sem]
   ·have h3':q<K.length:=by omega
    have hpl:=BA acc.length K q
    have hin:=hKk q h3'
    rw [show ((lQ acc.length K q).map i64).getD q .nilp=i64 (K.getD q 0) by rw [← An h3',aw (by omega)]]
    simp only [go_sem]
    refine ⟨⟨by omega,by omega⟩,⟨by omega,by omega⟩,?_⟩
    have hmp:((lQ acc.length K q).map i64).set q (.int .i64 (w64 (K.getD q 0+acc.length)))=(lQ acc.length K (q+1)).map i64:=by
     rw [ai ⟨by omega,by omega⟩,← zQ h3',List.map_set]
    rw [hmp,hQ4]
    simp only [go_sem]
    refine ⟨⟨q+1,by omega⟩,by show K.length-(q+1)<_;omega,id,?_⟩
    rw [ai ⟨by omega,by omega⟩]
    simp only [go_sem]
    all_goals rfl
   ·have hq2:q=K.length:=by omega
    subst hq2
    rw [BC,hQ4]
    simp only [go_sem]
    refine ju E3 [96] none ((K.map fun k:Int=>k+acc.length).map i64) rfl ?_
    simp only [go_sem]
    refine ak mixed E3 fun X=>?_
    simp only [go_sem]
    rw [List.take_of_length_le (l:=List.map i64 _) (by simp)]
    refine bK X (wG m (K.map fun k:Int=>k+acc.length) (by omega) (by rw [List.length_map];exact hKl)) rfl rfl (by simp) ?_
    obtain ⟨M,hM⟩:∃ M,M=aV acc.length m:=⟨_,rfl⟩
    rw [hwm,← hM,rA M]
    simp only [go_sem]
    have hout:List.take (acc.length+j) (List.map enD (acc++List.map (aV acc.length) (List.take j l)))++[.agg [i64 M.k,i64 M.a,i64 M.b,i64 M.c,i64 M.n,.str M.name,.str M.s,.sl (some 3) (M.l.map fD),i64 M.pos]]=(acc++(l.take (j+1)).map (aV acc.length)).map enD:=by
     rw [List.take_of_length_le (by simp;omega),List.take_succ_eq_append_getElem h2',← hm]
     simp only [List.map_append,List.map_cons,List.map_nil,← hM,← rA M,List.append_assoc]
    rw [hout]
    refine ⟨by omega,by decide +kernel,?_⟩
    rw [hQ2]
    simp only [go_sem]
    refine ⟨⟨j+1,by omega⟩,by show l.length-(j+1)<_;omega,tau [([97],[51])],?_⟩
    rw [ai ⟨by omega,by omega⟩]
    simp only [go_sem]
    exact ⟨rfl,rfl⟩
  ·rw [hQ2]
   simp only [go_sem]
   have hj2:j=l.length:=by omega
   subst hj2
   have hro:List.map i64 rs++[.int .i64 (w64 (((acc.length+l.length:Nat):Int)-1))]=(rs++[((acc.length+l.length:Nat):Int)-1]).map i64:=by
    rw [ai ⟨by omega,by omega⟩]
    simp only [List.map_append,List.map_cons,List.map_nil]
   rw [hro]
   refine ⟨by omega,?_⟩
   rw [hQ]
   simp only [go_sem]
   refine ⟨⟨i+1,by omega⟩,by show ls.length-(i+1)<_;omega,tau [([98],[60])],?_⟩
   simp only [hcs]
   rw [ai ⟨by omega,by omega⟩]
   simp only [go_sem]
   simp only [List.length_append,List.length_map,List.length_singleton]
   refine ⟨⟨trivial,rfl⟩,?_⟩
   first | rfl | exact ⟨rfl,rfl⟩ | exact ⟨trivial,rfl⟩ | exact ⟨rfl,trivial⟩ | trivial
 ·rw [hQ]
  have hi2:i=ls.length:=by omega
  subst hi2
  rw [tO]
  obtain ⟨acc,hacc⟩:∃ acc,acc=(cI ls [] []).1:=⟨_,rfl⟩
  obtain ⟨rs,hrs⟩:∃ rs,rs=(cI ls [] []).2:=⟨_,rfl⟩
  have hal:acc.length=aT ls:=by rw [hacc,kN];simp
  have hrl:rs.length=ls.length:=by rw [hrs,sh];simp
  have hj:av n ls=acc++[bk n rs]:=by unfold av;rw [← hacc,← hrs]
  rw [← hacc,← hrs]
  simp only [go_sem]
  refine ju E [98] none (rs.map i64) rfl ?_
  simp only [go_sem]
  refine ak mixed E fun X=>?_
  simp only [go_sem]
  refine bK X (wG n rs hn (by omega)) rfl rfl (by simp) ?_
  obtain ⟨M,hM⟩:∃ M,M=bk n rs:=⟨_,rfl⟩
  rw [← hM,rA M]
  simp only [go_sem]
  have hout:List.map enD acc++[.agg [i64 M.k,i64 M.a,i64 M.b,i64 M.c,i64 M.n,.str M.name,.str M.s,.sl (some 3) (M.l.map fD),i64 M.pos]]=(av n ls).map enD:=by
   rw [hj,← hM,List.map_append,← rA];rfl
  rw [hout]
  refine ⟨by omega,by decide +kernel,[([68],some 9,(av n ls).map enD)],?_⟩
  simp only [go_sem]
  rw [List.take_of_length_le (by rw [hj];simp)]
  rfl
end Go.Proofs.YtejpnabbmgpmaaaGreat

namespace Go.Proofs.YtejpnabbmgpmaaaGreat
open Go.Ab
def ae (l:List Tok):D:=.sl (some 4) (l.map ck)
def TO (l:List Tok) (fin:Int):List (Name × Ob):=[([101],.box [.d (ae l),.d (i64 fin)])]
def bu (l:List Tok) (fin:Int):Tok:=match l with
 | []=>⟨0,[],0,fin⟩
 | t::_=>t
theorem vM {G} (l:List Tok) (fin:Int):HCall Tryz.prog G 54 [.bx [101] 0] (TO l fin) [101] (fun r hp'=>r=.d (.bool l.isEmpty)∧hp'=TO l fin):=by
 unfold TO ae
 refine ar Tryz.func54 rfl (by decide +kernel) (by simp [Tryz.ntmps54]) (veil fun E=>?_)
 simp only [go_sem]
 refine ri E (e:=157) false (by rw [GI]) (by simp only [go_sem]) rfl ?_
 simp only [go_sem]
 refine ⟨_,_,[101],id,⟨rfl,rfl⟩,?_⟩
 simp only [go_sem]
 cases l with
 | nil=>rfl
 | cons t r=>simp only [List.length_cons,List.length_map,List.isEmpty_cons,decide_eq_false (show ¬ ((r.length+1:Nat):Int)=0 by omega),and_self]
theorem eA {G} (l:List Tok) (fin:Int) (hl:l.length≤1000000):HCall Tryz.prog G 90 [.bx [101] 0] (TO l fin) [101] (fun r hp'=>r=.d (.agg [i64 (bu l fin).k,.str (bu l fin).s,i64 (bu l fin).n,i64 (bu l fin).pos])∧hp'=TO l fin):=by
 unfold TO ae
 refine ar Tryz.func90 rfl (by decide +kernel) (by simp [Tryz.ntmps90]) (veil fun E=>?_)
 simp only [go_sem]
 refine ri E (e:=157) false (by rw [GI]) (by simp only [go_sem]) rfl ?_
 simp only [go_sem]
 refine ah E (fun h=>?_) (fun h=>?_)<;>simp only [go_sem]
 ·cases l with
  | nil =>
    refine ⟨_,_,[101],id,⟨rfl,rfl⟩,?_⟩
    simp only [go_sem]
    rfl
  | cons t r=>simp at h;omega
 ·cases l with
  | nil=>exact absurd (by simp) h
  | cons t r =>
    refine ⟨by simp,?_⟩
    rw [show (List.map ck (t::r)).getD 0 .nilp=.agg [i64 t.k,.str t.s,i64 t.n,i64 t.pos] from rfl]
    simp only [go_sem]
    refine ⟨_,_,[101],id,⟨rfl,rfl⟩,?_⟩
    simp only [go_sem]
    rfl
theorem jH {G} (l:List Tok) (fin:Int) (hl:l.length≤1000000):HCall Tryz.prog G 148 [.bx [101] 0] (TO l fin) [101] (fun r hp'=>r=.d (.agg [i64 (bu l fin).k,.str (bu l fin).s,i64 (bu l fin).n,i64 (bu l fin).pos])∧hp'=TO l.tail fin):=by
 unfold TO ae
 refine ar Tryz.func148 rfl (by decide +kernel) (by simp [Tryz.ntmps148]) (veil fun E=>?_)
 simp only [go_sem]
 refine ab E [.bx [101] 0] (TO l fin) [101] (eA l fin hl) rfl rfl ⟨by simp only [go_sem],by rw [aa];decide⟩ rfl (by unfold TO ae;simp only [go_sem]) (by unfold TO;simp only [go_sem]) ?_
 rintro _ _ ⟨rfl,rfl⟩
 unfold TO ae
 simp only [go_sem]
 refine ab E [.bx [101] 0] (TO l fin) [101] (vM l fin) rfl rfl ⟨by simp only [go_sem],by rw [aa];decide⟩ rfl (by unfold TO ae;simp only [go_sem]) (by unfold TO;simp only [go_sem]) ?_
 rintro _ _ ⟨rfl,rfl⟩
 unfold TO ae
 simp only [go_sem]
 refine aD E (fun h=>?_) (fun h=>?_)<;>simp only [go_sem]
 ·cases l with
  | nil=>exact absurd h (by simp)
  | cons t r =>
    refine ⟨by simp only [List.length_cons];omega,_,_,[101],id,⟨rfl,rfl⟩,?_⟩
    simp only [go_sem]
    rfl
 ·cases l with
  | nil =>
    refine ⟨_,_,[101],id,⟨rfl,rfl⟩,?_⟩
    simp only [go_sem]
    rfl
  | cons t r=>exact absurd h (by simp)
def isT (l:List Tok) (fin k:Int) (t:List UInt8):Bool:=!l.isEmpty && decide ((bu l fin).k=k) && decide ((bu l fin).s=t)
theorem FB {G} (l:List Tok) (fin k:Int) (t:List UInt8) (hl:l.length≤1000000) (hk:k≠0∧k≠4):HCall Tryz.prog G 270 [.bx [101] 0,.d (i64 k),.d (.str t)] (TO l fin) [101] (fun r hp'=>r=.d (.bool (isT l fin k t))∧hp'=TO l fin):=by
 unfold isT
 unfold TO ae
 refine ar Tryz.func270 rfl (by decide +kernel) (by simp [Tryz.ntmps270]) (veil fun E=>?_)
 simp only [go_sem]
 refine ab E [.bx [101] 0] (TO l fin) [101] (eA l fin hl) rfl rfl ⟨by simp only [go_sem],by rw [aa];decide⟩ rfl (by unfold TO ae;simp only [go_sem]) (by unfold TO;simp only [go_sem]) ?_
 rintro _ _ ⟨rfl,rfl⟩
 unfold TO ae
 simp only [go_sem]
 refine ab E [.bx [101] 0] (TO l fin) [101] (vM l fin) rfl rfl ⟨by simp only [go_sem],by rw [aa];decide⟩ rfl (by unfold TO ae;simp only [go_sem]) (by unfold TO;simp only [go_sem]) ?_
 rintro _ _ ⟨rfl,rfl⟩
 unfold TO ae
 simp only [go_sem]
 refine bU E (fun h1=>?_) (fun h1=>?_)<;>simp only [go_sem]
 ·refine ao E (fun h2=>?_) (fun h2=>?_)<;>simp only [go_sem]
  ·refine ao E (fun h3=>?_) (fun h3=>absurd hk.1 h3)
   simp only [go_sem]
   refine bU E (fun h4=>?_) (fun h4=>?_)<;>simp only [go_sem]
   ·refine ⟨_,_,[101],id,⟨rfl,rfl⟩,?_⟩
    simp only [go_sem]
    rw [h1,decide_eq_true h2,decide_eq_true (show (bu l fin).s=t by simpa using h4)]
    rfl
   ·refine ⟨_,_,[101],id,⟨rfl,rfl⟩,?_⟩
    simp only [go_sem]
    rw [h1,decide_eq_true h2,decide_eq_false (show ¬ (bu l fin).s=t by simpa using h4),decide_eq_false hk.2]
    rfl
  ·refine ⟨_,_,[101],id,⟨rfl,rfl⟩,?_⟩
   simp only [go_sem]
   rw [decide_eq_false h2,Bool.and_false,Bool.false_and]
 ·refine ⟨_,_,[101],id,⟨rfl,rfl⟩,?_⟩
  simp only [go_sem]
  rw [h1,Bool.false_and,Bool.false_and]
theorem E9 {G} (l:List Tok) (fin k:Int) (t:List UInt8) (hl:l.length≤1000000) (hk:k≠0∧k≠4):HCall Tryz.prog G 222 [.bx [101] 0,.d (i64 k),.d (.str t)] (TO l fin) [101] (fun r hp'=>r=.d (.bool (isT l fin k t))∧hp'=TO (if isT l fin k t then l.tail else l) fin):=by
 obtain ⟨b,hb⟩:∃ b,b=isT l fin k t:=⟨_,rfl⟩
 have h0:=FB (G:=G) l fin k t hl hk
 have h1:=jH (G:=G) l fin hl
 rw [← hb] at h0 ⊢
 generalize hX:(if b then l.tail else l)=X
 unfold TO ae at *
 refine ar Tryz.func222 rfl (by decide +kernel) (by simp [Tryz.ntmps222]) (veil fun E=>?_)
 simp only [go_sem]
 refine ab E [.bx [101] 0,.d (i64 k),.d (.str t)] (TO l fin) [101] (h0) rfl rfl ⟨by simp only [go_sem],by rw [aa];decide⟩ rfl (by unfold TO ae;simp only [go_sem]) (by unfold TO;simp only [go_sem]) ?_
 rintro _ _ ⟨rfl,rfl⟩
 unfold TO ae
 simp only [go_sem]
 refine aD E (fun h=>?_) (fun h=>?_)<;>simp only [go_sem]
 ·refine ab E [.bx [101] 0] (TO l fin) [101] (h1) rfl rfl ⟨by simp only [go_sem],by rw [aa];decide⟩ rfl (by unfold TO ae;simp only [go_sem]) (by unfold TO;simp only [go_sem]) ?_
  rintro _ _ ⟨rfl,rfl⟩
  unfold TO ae
  simp only [go_sem]
  refine ⟨_,_,[101],id,⟨rfl,rfl⟩,?_⟩
  simp only [go_sem]
  rw [← hX,h]
  rfl
 ·refine ⟨_,_,[101],id,⟨rfl,rfl⟩,?_⟩
  simp only [go_sem]
  rw [← hX,h]
  rfl
def RO (s:PS):List (Name × Ob):=([100],.box [.bx [101] 0,.d (i64 s.err),.d (i64 s.pos),.d (i64 s.nest)])::TO s.l s.fin
theorem fW {G} (s:PS):HCall Tryz.prog G 92 [.bx [100] 0] (RO s) [100,101] (fun r hp'=>r=.d (.bool (decide (s.err=0)))∧hp'=RO s):=by
 unfold RO TO ae
 refine ar Tryz.func92 rfl (by decide +kernel) (by simp [Tryz.ntmps92]) (veil fun E=>?_)
 simp only [go_sem]
 refine ⟨_,_,[100,101],id,⟨rfl,rfl⟩,?_⟩
 simp only [go_sem]
theorem nZ {G} (s:PS) (e p:Int):HCall Tryz.prog G 91 [.bx [100] 0,.d (i64 e),.d (i64 p)] (RO s) [100,101] (fun r hp'=>r=.tup []∧hp'=RO (s.fail e p)):=by
 generalize hX:s.fail e p=X
 unfold PS.fail at hX
 unfold RO TO ae
 refine ar Tryz.func91 rfl (by decide +kernel) (by simp [Tryz.ntmps91]) (veil fun E=>?_)
 simp only [go_sem]
 refine ab E [.bx [100] 0] (RO s) [100,101] (fW s) rfl rfl ⟨by simp only [go_sem],by rw [aa];decide⟩ rfl (by unfold RO TO ae;simp only [go_sem]) (by unfold RO TO;simp only [go_sem]) ?_
 rintro _ _ ⟨rfl,rfl⟩
 unfold RO TO ae
 simp only [go_sem]
 refine ah E (fun h=>?_) (fun h=>?_)<;>simp only [go_sem]
 ·refine ⟨_,_,[100,101],id,⟨rfl,rfl⟩,?_⟩
  rw [← hX,if_pos h]
  simp only [go_sem]
 ·refine ⟨_,_,[100,101],id,⟨rfl,rfl⟩,?_⟩
  rw [← hX,if_neg h]
  simp only [go_sem]
theorem jL (s:PS):s.peek=bu s.l s.fin:=rfl
theorem nH {G} (s:PS) (hl:s.l.length≤1000000):HCall Tryz.prog G 55 [.bx [100] 0] (RO s) [100,101] (fun r hp'=>r=.tup []∧hp'=RO s.wrong):=by
 generalize hX:s.wrong=X
 unfold PS.wrong at hX
 rw [jL] at hX
 unfold RO TO ae
 refine ar Tryz.func55 rfl (by decide +kernel) (by simp [Tryz.ntmps55]) (veil fun E=>?_)
 simp only [go_sem]
 refine ab E [.bx [101] 0] (TO s.l s.fin) [101] (eA s.l s.fin hl) rfl rfl ⟨by simp only [go_sem],by rw [aa];decide⟩ rfl (by unfold TO ae;simp only [go_sem]) (by unfold TO;simp only [go_sem]) ?_
 rintro _ _ ⟨rfl,rfl⟩
 unfold TO ae
 simp only [go_sem]
 refine ab E [.bx [100] 0,.d (i64 5),.d (i64 (bu s.l s.fin).pos)] (RO s) [100,101] (nZ s 5 (bu s.l s.fin).pos) rfl rfl ⟨by simp only [go_sem],by rw [aa];decide⟩ rfl (by unfold RO TO ae;simp only [go_sem]) (by unfold RO TO;simp only [go_sem]) ?_
 rintro _ _ ⟨rfl,rfl⟩
 unfold RO TO ae
 simp only [go_sem]
 refine ⟨_,_,[100,101],id,⟨rfl,rfl⟩,?_⟩
 rw [← hX]
 simp only [go_sem]
end Go.Proofs.YtejpnabbmgpmaaaGreat

namespace Go.Proofs.YtejpnabbmgpmaaaGreat
open Go.Ab
theorem ra {G} (s:PS) (k:Int) (t:List UInt8) (hl:s.l.length≤1000000) (hk:k≠0∧k≠4):HCall Tryz.prog G 147 [.bx [100] 0,.d (i64 k),.d (.str t)] (RO s) [100,101] (fun r hp'=>r=.d (.bool (s.sees k t))∧hp'=RO (s.may k t)):=by
 have h0:=E9 (G:=G) s.l s.fin k t hl hk
 generalize hb:isT s.l s.fin k t=b at h0
 obtain ⟨c,hc⟩:∃ c,c=s.sees k t:=⟨_,rfl⟩
 generalize hX:s.may k t=X
 rw [← hc]
 have hc':c=(decide (s.err=0) && b):=by rw [hc,← hb];rfl
 have hX':X=if c then s.next else s:=by rw [hc,← hX];rfl
 unfold PS.next at hX'
 generalize hY:(if b then s.l.tail else s.l)=Y at h0
 unfold RO TO ae
 refine ar Tryz.func147 rfl (by decide +kernel) (by simp [Tryz.ntmps147]) (veil fun E=>?_)
 simp only [go_sem]
 refine ab E [.bx [100] 0] (RO s) [100,101] (fW s) rfl rfl ⟨by simp only [go_sem],by first | (rw [aa];decide) | (simp only [go_sem]<;>(try rw [aa])<;>decide)⟩ rfl (by unfold RO TO ae;simp only [go_sem]) (by unfold RO TO;simp only [go_sem]) ?_
 rintro _ _ ⟨rfl,rfl⟩
 unfold RO TO ae
 simp only [go_sem]
 refine ao E (fun h=>?_) (fun h=>?_)<;>simp only [go_sem]
 ·refine ab E [.bx [101] 0,.d (i64 k),.d (.str t)] (TO s.l s.fin) [101] (h0) rfl rfl ⟨by simp only [go_sem],by first | (rw [aa];decide) | (simp only [go_sem]<;>(try rw [aa])<;>decide)⟩ rfl (by unfold TO ae;simp only [go_sem]) (by unfold TO;simp only [go_sem]) ?_
  rintro _ _ ⟨rfl,rfl⟩
  unfold TO ae
  simp only [go_sem]
  refine ⟨_,_,[100,101],id,⟨rfl,rfl⟩,?_⟩
  simp only [go_sem]
  rw [decide_eq_true h,Bool.true_and] at hc'
  rw [hc'] at hX'
  rw [hc']
  subst hX' hY
  cases b<;>exact ⟨rfl,rfl,rfl⟩
 ·refine ⟨_,_,[100,101],id,⟨rfl,rfl⟩,?_⟩
  simp only [go_sem]
  rw [decide_eq_false h,Bool.false_and] at hc'
  rw [hc'] at hX'
  subst hX'
  rw [hc']
  exact ⟨rfl,rfl,rfl⟩
theorem kf {G} (s:PS) (t:List UInt8) (hl:s.l.length≤1000000):HCall Tryz.prog G 95 [.bx [100] 0,.d (.str t)] (RO s) [100,101] (fun r hp'=>r=.d (.bool (s.sees 1 t))∧hp'=RO (s.may 1 t)):=by
 have h0:=ra (G:=G) s 1 t hl (by decide)
 generalize s.sees 1 t=c at h0 ⊢
 generalize s.may 1 t=X at h0 ⊢
 unfold RO TO ae
 refine ar Tryz.func95 rfl (by decide +kernel) (by simp [Tryz.ntmps95]) (veil fun E=>?_)
 simp only [go_sem]
 refine ab E [.bx [100] 0,.d (i64 1),.d (.str t)] (RO s) [100,101] (h0) rfl rfl ⟨by simp only [go_sem],by first | (rw [aa];decide) | (simp only [go_sem]<;>(try rw [aa])<;>decide)⟩ rfl (by unfold RO TO ae;simp only [go_sem]) (by unfold RO TO;simp only [go_sem]) ?_
 rintro _ _ ⟨rfl,rfl⟩
 unfold RO TO ae
 simp only [go_sem]
 refine ⟨_,_,[100,101],id,⟨rfl,rfl⟩,?_⟩
 simp only [go_sem]
theorem jN {G} (s:PS) (t:List UInt8) (hl:s.l.length≤1000000):HCall Tryz.prog G 224 [.bx [100] 0,.d (.str t)] (RO s) [100,101] (fun r hp'=>r=.d (.bool (s.sees 7 t))∧hp'=RO (s.may 7 t)):=by
 have h0:=ra (G:=G) s 7 t hl (by decide)
 generalize s.sees 7 t=c at h0 ⊢
 generalize s.may 7 t=X at h0 ⊢
 unfold RO TO ae
 refine ar Tryz.func224 rfl (by decide +kernel) (by simp [Tryz.ntmps224]) (veil fun E=>?_)
 simp only [go_sem]
 refine ab E [.bx [100] 0,.d (i64 7),.d (.str t)] (RO s) [100,101] (h0) rfl rfl ⟨by simp only [go_sem],by first | (rw [aa];decide) | (simp only [go_sem]<;>(try rw [aa])<;>decide)⟩ rfl (by unfold RO TO ae;simp only [go_sem]) (by unfold RO TO;simp only [go_sem]) ?_
 rintro _ _ ⟨rfl,rfl⟩
 unfold RO TO ae
 simp only [go_sem]
 refine ⟨_,_,[100,101],id,⟨rfl,rfl⟩,?_⟩
 simp only [go_sem]
theorem fS {G} (s:PS) (k:Int) (t:List UInt8) (hl:s.l.length≤1000000) (hk:k≠0∧k≠4):HCall Tryz.prog G 97 [.bx [100] 0,.d (i64 k),.d (.str t)] (RO s) [100,101] (fun r hp'=>r=.tup []∧hp'=RO (s.must k t)):=by
 have h0:=ra (G:=G) s k t hl hk
 have h1:=nH (G:=G) s hl
 generalize hX:s.must k t=X
 generalize hY:s.may k t=Y at h0
 generalize hZ:s.wrong=Z at h1
 generalize hb:s.sees k t=b at h0
 have hX':X=if b then Y else Z:=by rw [← hX,← hY,← hZ,← hb];unfold PS.must PS.may;cases s.sees k t<;>rfl
 have hYs:b=false→Y=s:=by rw [← hY,← hb];unfold PS.may;intro h;rw [h];rfl
 unfold RO TO ae
 refine ar Tryz.func97 rfl (by decide +kernel) (by simp [Tryz.ntmps97]) (veil fun E=>?_)
 simp only [go_sem]
 refine ab E [.bx [100] 0,.d (i64 k),.d (.str t)] (RO s) [100,101] (h0) rfl rfl ⟨by simp only [go_sem],by first | (rw [aa];decide) | (simp only [go_sem]<;>(try rw [aa])<;>decide)⟩ rfl (by unfold RO TO ae;simp only [go_sem]) (by unfold RO TO;simp only [go_sem]) ?_
 rintro _ _ ⟨rfl,rfl⟩
 unfold RO TO ae
 simp only [go_sem]
 refine aD E (fun h=>?_) (fun h=>?_)<;>simp only [go_sem]
 ·have h':b=false:=by simpa using h
  rw [hYs h']
  refine ab E [.bx [100] 0] (RO s) [100,101] (h1) rfl rfl ⟨by simp only [go_sem],by first | (rw [aa];decide) | (simp only [go_sem]<;>(try rw [aa])<;>decide)⟩ rfl (by unfold RO TO ae;simp only [go_sem]) (by unfold RO TO;simp only [go_sem]) ?_
  rintro _ _ ⟨rfl,rfl⟩
  unfold RO TO ae
  simp only [go_sem]
  refine ⟨_,_,[100,101],id,⟨rfl,rfl⟩,?_⟩
  simp only [go_sem]
  rw [hX',h']
  exact ⟨rfl,rfl⟩
 ·have h':b=true:=by simpa using h
  refine ⟨_,_,[100,101],id,⟨rfl,rfl⟩,?_⟩
  simp only [go_sem]
  rw [hX',h']
  exact ⟨rfl,rfl⟩
theorem mB {G} (s:PS) (k:Int) (hl:s.l.length≤1000000):HCall Tryz.prog G 96 [.bx [100] 0,.d (i64 k)] (RO s) [100,101] (fun r hp'=>r=.d (.str (s.of k).1)∧hp'=RO (s.of k).2):=by
 have h0:=nH (G:=G) s hl
 have h1:=jH (G:=G) s.l s.fin hl
 generalize hX:s.of k=X
 unfold PS.of PS.has at hX
 rw [jL] at hX
 unfold RO TO ae
 refine ar Tryz.func96 rfl (by decide +kernel) (by simp [Tryz.ntmps96]) (veil fun E=>?_)
 simp only [go_sem]
 refine ab E [.bx [100] 0] (RO s) [100,101] (fW s) rfl rfl ⟨by simp only [go_sem],by first | (rw [aa];decide) | (simp only [go_sem]<;>(try rw [aa])<;>decide)⟩ rfl (by unfold RO TO ae;simp only [go_sem]) (by unfold RO TO;simp only [go_sem]) ?_
 rintro _ _ ⟨rfl,rfl⟩
 unfold RO TO ae
 simp only [go_sem]
 refine bU E (fun h=>?_) (fun h=>?_)<;>simp only [go_sem]
 ·have h':¬ s.err=0:=by simpa using h
  refine ab E [.bx [100] 0] (RO s) [100,101] (h0) rfl rfl ⟨by simp only [go_sem],by first | (rw [aa];decide) | (simp only [go_sem]<;>(try rw [aa])<;>decide)⟩ rfl (by unfold RO TO ae;simp only [go_sem]) (by unfold RO TO;simp only [go_sem]) ?_
  rintro _ _ ⟨rfl,rfl⟩
  unfold RO TO ae
  simp only [go_sem]
  refine ⟨_,_,[100,101],id,⟨rfl,rfl⟩,?_⟩
  simp only [go_sem]
  rw [← hX,decide_eq_false h']
  exact ⟨rfl,rfl,rfl⟩
 ·have h':s.err=0:=by simpa using h
  refine ab E [.bx [101] 0] (TO s.l s.fin) [101] (eA s.l s.fin hl) rfl rfl ⟨by simp only [go_sem],by first | (rw [aa];decide) | (simp only [go_sem]<;>(try rw [aa])<;>decide)⟩ rfl (by unfold TO ae;simp only [go_sem]) (by unfold TO;simp only [go_sem]) ?_
  rintro _ _ ⟨rfl,rfl⟩
  unfold TO ae
  simp only [go_sem]
  refine ah E (fun h2=>?_) (fun h2=>?_)<;>simp only [go_sem]
  ·refine ab E [.bx [100] 0] (RO s) [100,101] (h0) rfl rfl ⟨by simp only [go_sem],by first | (rw [aa];decide) | (simp only [go_sem]<;>(try rw [aa])<;>decide)⟩ rfl (by unfold RO TO ae;simp only [go_sem]) (by unfold RO TO;simp only [go_sem]) ?_
   rintro _ _ ⟨rfl,rfl⟩
   unfold RO TO ae
   simp only [go_sem]
   refine ⟨_,_,[100,101],id,⟨rfl,rfl⟩,?_⟩
   simp only [go_sem]
   rw [← hX,decide_eq_true h',decide_eq_false h2]
   exact ⟨rfl,rfl,rfl⟩
  ·have h2':(bu s.l s.fin).k=k:=by simpa using h2
   refine ab E [.bx [101] 0] (TO s.l s.fin) [101] (h1) rfl rfl ⟨by simp only [go_sem],by first | (rw [aa];decide) | (simp only [go_sem]<;>(try rw [aa])<;>decide)⟩ rfl (by unfold TO ae;simp only [go_sem]) (by unfold TO;simp only [go_sem]) ?_
   rintro _ _ ⟨rfl,rfl⟩
   unfold TO ae
   simp only [go_sem]
   refine ⟨_,_,[100,101],id,⟨rfl,rfl⟩,?_⟩
   simp only [go_sem]
   rw [← hX,decide_eq_true h',decide_eq_true h2']
   exact ⟨rfl,rfl,rfl⟩
inductive DLe:D→D→Prop
 | refl (x):DLe x x
 | nil (w):DLe .nils (.sl w [])
 | agg (cs ds:List D) (hl:cs.length=ds.length) (hc:∀ d∈ds,d.scal=true) (h:∀ (i:Nat) x y,cs[i]?=some x→ds[i]?=some y→x=y∨∃ w,x=.nils∧y=.sl w []):DLe (.agg cs) (.agg ds)
theorem DLe.rep {x y:D} (h:DLe x y) {H own v} (hr:Rep H own v x):Rep H own v y:=by
 cases h with
 | refl=>exact hr
 | nil w=>cases hr;exact .sl0 _ _ _
 | agg cs ds hl hc h =>
   cases hr with
   | agg vs _ hs _ h' =>
     refine .agg vs ds (hs.trans hl) hc fun i d hd=>?_
     have hlt:=(List.getElem?_eq_some_iff.1 hd).1
     have hx:cs[i]?=some (cs[i]'(by omega)):=List.getElem?_eq_getElem _
     have hr:=h' i _ hx
     rcases h i _ _ hx hd with e | ⟨w,e1,e2⟩
     ·rw [← e];exact hr
     ·rw [e1] at hr
      rw [e2]
      generalize vs.getD i undef=v at hr ⊢
      cases hr
      exact .sl0 _ _ _
theorem HP.le {P:Program} {G:List (Nat × Obj)} {f:FuncId} {args args':List D} {Q:AV→Prop} (hl:args.length=args'.length)
  (hr:∀ (i:Nat) x y,args[i]?=some x→args'[i]?=some y→DLe x y) (h:HP P G f args' Q):HP P G f args Q:=by
 refine ⟨h.1,fun B β vs w h1 h2 h3 h4 h5=>h.2 B β vs w (h1.trans (by simpa using hl)) h2 h3 h4 { tms:=h5.tms,io:=h5.io,size:=h5.size,frame:=h5.frame,slots:=fun t=>?_,objs:=h5.objs,blocks:=h5.blocks,inj:=h5.inj,us:=h5.us,stay:=h5.stay }⟩
 have hv:=h5.slots t
 rw [eP,bg,if_pos (Nat.zero_le _),Nat.sub_zero] at hv ⊢
 show VR w.heap ((mk (aH 0 (args.map .d)) [] []).own B.A β) [] _ β _ _
 rw [List.getElem?_map] at hv ⊢
 cases hx:args[t]? with
 | none => 
   rw [List.getElem?_eq_none (by rw [← hl];exact List.getElem?_eq_none_iff.1 hx)]
   exact .un _
 | some x =>
   have hlt:=(List.getElem?_eq_some_iff.1 hx).1
   have hy:args'[t]?=some args'[t]:=List.getElem?_eq_getElem (by omega)
   rw [hx] at hv
   rw [hy]
   simp only [Option.map_some] at hv ⊢
   generalize vs.getD t undef=v at hv ⊢
   cases hv with
   | d _ _ hv=>exact .d _ _ ((hr t _ _ hx hy).rep hv)
def ndN (n:EN):D:=.agg [i64 n.k,i64 n.a,i64 n.b,i64 n.c,i64 n.n,.str n.name,.str n.s,.nils,i64 n.pos]
theorem rE {n:EN} (h:n.l=[]):DLe (ndN n) (enD n):=by
 unfold ndN enD efD
 rw [h]
 refine .agg _ _ rfl (by simp [D.scal]) fun i x y hx hy=>?_
 by_cases hi:i=7
 ·subst hi
  cases hx;cases hy
  exact .inr ⟨_,rfl,rfl⟩
 ·left
  have:i<9:=by have:=(List.getElem?_eq_some_iff.1 hx).1;simpa using this
  rcases i with _ | _ | _ | _ | _ | _ | _ | _ | _ | i<;>first | omega | (cases hx;cases hy;rfl)
theorem j3 {G} (n:EN) (ls:List (List EN)) (hn:n.l=[]) (hL:ls.length≤1000000) (hS:aT ls≤1000000) (hk:∀ l∈ls,∀ m∈l,eI l.length m) (hw:∀ l∈ls,eT 900000 l) :
  HP Tryz.prog G 86 [ndN n,.sl (some 1) (ls.map exD)] (fun r=>r=.d (exD (av n ls))) :=
 HP.le (args':=[enD n,.sl (some 1) (ls.map exD)]) rfl (h:=sf n ls (by rw [hn];exact Nat.zero_le _) hL hS hk hw) fun i x y hx hy=>by
  rcases i with _ | _ | i
  ·cases hx;cases hy;exact rE hn
  ·cases hx;cases hy;exact .refl _
  ·cases hx
theorem HL {G} (n:EN) (hn:n.l=[]):HP Tryz.prog G 86 [ndN n,.nils] (fun r=>r=.d (exD (bj n))) :=
 HP.le (args':=[enD n,.sl (some 1) ([].map exD)]) rfl (h:=sf n [] (by rw [hn];exact Nat.zero_le _) (Nat.zero_le _) (Nat.zero_le _) (fun l h=>by cases h) (fun l h=>by cases h)) fun i x y hx hy=>by
  rcases i with _ | _ | i
  ·cases hx;cases hy;exact rE hn
  ·cases hx;cases hy;exact .nil _
  ·cases hx
theorem gy {G} (n:EN) (hn:n.l=[]):HP Tryz.prog G 93 [ndN n] (fun r=>r=.d (exD (bj n))):=by
 have h0:=HL (G:=G) n hn
 generalize bj n=X at h0 ⊢
 unfold ndN at *
 refine ax Tryz.func93 rfl (by decide +kernel) (by simp [Tryz.ntmps93]) (veil fun E=>?_)
 simp only [go_sem]
 refine ag E h0 rfl rfl (by simp) ?_
 rintro _ rfl
 unfold exD
 simp only [go_sem]
 refine ⟨[],?_⟩
 simp only [go_sem]
 rfl
end Go.Proofs.YtejpnabbmgpmaaaGreat

namespace Go.Proofs.YtejpnabbmgpmaaaGreat
open Go.Ab
section
variable (ex:PS→PR)
def ik (s:PS) (pos:Int):PR :=
 let e:=ex s
 let s1:=e.2.must 1 bOf
 if s1.err≠0 then (av (nd0 14 pos) [e.1],s1) else
 let r:=aR ex [124] bM s1.l.length.succ s1 [] []
 (av { nd0 14 pos with l:=r.1 } (e.1::r.2.1),r.2.2.must 1 vj)
def cT (s:PS):PR :=
 let t:=s.peek
 if s.err≠0 then (noE,s.wrong)
 else if t.k=4 then (bj { nd0 1 t.pos with n:=t.n },s.next)
 else if t.k=5 then (bj { nd0 3 t.pos with s:=t.s },s.next)
 else if t.k=2 then (bj { nd0 4 t.pos with name:=t.s },s.next)
 else if s.sees 1 eY then (bj { nd0 2 t.pos with n:=1 },s.next)
 else if s.sees 1 cX then (bj (nd0 2 t.pos),s.next)
 else if s.sees 7 [40] then
  let e:=ex s.next
  (e.1,e.2.must 7 [41])
 else if s.sees 7 [123] then ch ex s.next t.pos
 else if s.sees 1 fg then ik ex s.next t.pos
 else (noE,s.wrong)
def dQ (s:PS):PR :=
 let r:=cT ex s
 cj r.2.l.length.succ r.1 r.2
def jd:Nat→List EN→PS→PR
 | 0,a,s=>(a,s)
 | m+1,a,s=>if decide (s.err=0) && s.begins then jd m (av (nd0 6 (dh a).pos) [a,(dQ ex s).1]) (dQ ex s).2 else (a,s)
def l7 (s:PS):PR :=
 if s.has 3 then
  let r:=dQ ex s.next
  (av { nd0 13 s.peek.pos with name:=s.peek.s } [r.1],r.2)
 else
  let r:=dQ ex s
  jd ex r.2.l.length.succ r.1 r.2
def j4 (s:PS):PR:=dW bT (l7 ex) (l7 ex s).2.l.length.succ (l7 ex s).1 (l7 ex s).2
def sC (s:PS):PR:=dW cn (j4 ex) (j4 ex s).2.l.length.succ (j4 ex s).1 (j4 ex s).2
def yQ (s:PS):PR :=
 let a:=sC ex s
 match opS a.2 dK with
 | some n =>
   let b:=sC ex a.2.next
   (av { nd0 10 a.2.peek.pos with n:=n } [a.1,b.1],b.2)
 | none=>a
def fX (s:PS):PR :=
 let t:=s.peek
 if s.sees 1 zu then
  let x:=s.next.of 2
  let b:=ex (x.2.must 7 bTo)
  (av { nd0 5 t.pos with name:=x.1 } [b.1],b.2)
 else if s.sees 1 zl then kW ex s.next t.pos
 else if s.sees 1 bIf then ifS ex s.next t.pos
 else yQ ex s
end
def fR:Nat→PS→PR
 | 0,s=>(noE,s.fail 6 s.peek.pos)
 | m+1,s=>if s.err≠0 then (noE,s) else
   let r:=fX (fR m) { s with nest:=s.nest+1 }
   (r.1,{ r.2 with nest:=s.nest })
def gz (s:PS) (r a:PR):Prop:=r.2=a.2∧(a.2.err=0→s.err=0∧r.1=a.1)
theorem qJ {s:PS} {e p:Int} (he:e≠0):(s.fail e p).err≠0:=by
 unfold PS.fail
 split
 ·exact he
 ·assumption
theorem cN {s:PS} {k:Int} {t:List UInt8} (h:(s.must k t).err=0):s.err=0:=by
 unfold PS.must at h
 split at h
 ·exact h
 ·exact absurd h (qJ (by decide))
theorem py {s:PS} {k:Int} (h:(s.of k).2.err=0):s.err=0:=by
 unfold PS.of at h
 split at h
 ·exact h
 ·exact absurd h (qJ (by decide))
theorem od {s:PS} {t:Tok} {l:List EF} (h:(s.parted t l).err=0):s.err=0:=by
 unfold PS.parted at h
 split at h
 ·exact h
 ·rename_i g;simpa using g
theorem Em {s:PS} {k:Int} {t:List UInt8} (h:(s.may k t).err=0):s.err=0:=by
 unfold PS.may at h
 split at h<;>exact h
theorem yX {s:PS} {l:List EF} (h:(dB s l).2.err=0):s.err=0:=py (od (cN h))
theorem vf {s:PS} {l:List EF} (h:(bM s l).2.err=0):s.err=0:=py (od (py (cN h)))
theorem eV {s:PS} {k:Int} {t:List UInt8} (h:s.sees k t=true):s.err=0:=by
 unfold PS.sees at h
 rw [Bool.and_eq_true] at h
 simpa using h.1
theorem vt {s:PS}:∀ {ops:List (List UInt8 × Int)} {n:Int},opS s ops=some n→s.err=0
 | [],_,h=>by cases h
 | q::r,n,h=>by
   unfold opS at h
   split at h
   ·rename_i g;exact eV g
   ·exact vt h
theorem cg {s:PS} {e p:Int} (h:s.err≠0):s.fail e p=s:=by
 unfold PS.fail
 rw [if_neg h]
theorem lz {s:PS} {k:Int} {t:List UInt8} (h:s.err≠0):s.sees k t=false:=by
 unfold PS.sees
 rw [decide_eq_false h,Bool.false_and]
theorem lZ {s:PS} {k:Int} {t:List UInt8} (h:s.err≠0):s.must k t=s:=by
 unfold PS.must
 rw [lz h,if_neg (by decide)]
 exact cg h
theorem xy {s:PS} {k:Int} (h:s.err≠0):(s.of k).2=s:=by
 unfold PS.of PS.has
 rw [decide_eq_false h,Bool.false_and,if_neg (by decide)]
 exact cg h
theorem tY {s:PS} {l:List EF} (h:s.err≠0):(bM s l).2=s:=by
 unfold bM
 simp only
 rw [xy h]
 have:s.parted s.peek l=s:=by unfold PS.parted;rw [if_pos h]
 rw [this,xy h,lZ h]
section
variable {ex exr:PS→PR} (hex:∀ s,gz s (exr s) (ex s))
include hex
theorem mz (b:List UInt8) (part:PS→List EF→EF × PS) (hp:∀ s l,(part s l).2.err=0→s.err=0):∀ (m:Nat) (s:PS) (l:List EF) (ks:List (List EN)),
  (aR exr b part m s l ks).2.2=(aR ex b part m s l ks).2.2∧((aR ex b part m s l ks).2.2.err=0→s.err=0∧aR exr b part m s l ks=aR ex b part m s l ks)
 | 0,s,l,ks=>⟨rfl,fun h=>⟨h,rfl⟩⟩
 | m+1,s,l,ks=>by
   obtain ⟨h1,h2⟩:=hex (part s l).2
   unfold aR
   simp only
   rw [h1]
   split
   ·rename_i hs
    obtain ⟨g1,g2⟩:=h2 (eV hs)
    rw [g2]
    obtain ⟨k1,k2⟩:=mz b part hp m (ex (part s l).2).2.next (l++[(part s l).1]) (ks++[(ex (part s l).2).1])
    exact ⟨k1,fun h=>⟨hp s l g1,(k2 h).2⟩⟩
   ·refine ⟨rfl,fun h=>?_⟩
    obtain ⟨g1,g2⟩:=h2 h
    exact ⟨hp s l g1,by rw [g2]⟩
theorem vZ (s:PS) (pos:Int):gz s (ch exr s pos) (ch ex s pos):=by
 unfold ch
 split
 ·rename_i h
  exact ⟨rfl,fun _=>⟨eV h,rfl⟩⟩
 ·obtain ⟨h1,h2⟩:=mz hex [44] dB (fun s l h=>yX h) s.l.length.succ s [] []
  simp only
  refine ⟨by rw [h1],fun h=>?_⟩
  obtain ⟨g1,g2⟩:=h2 (cN h)
  exact ⟨g1,by rw [g2]⟩
theorem yN (hst:∀ s,s.err≠0→(ex s).2=s) (s:PS) (pos:Int):gz s (ik exr s pos) (e9 ex s pos):=by
 obtain ⟨h1,h2⟩:=hex s
 unfold ik e9
 simp only
 rw [h1]
 generalize hs1:(ex s).2.must 1 bOf=s1
 split
 ·rename_i he
  have hb:=tY (l:=[]) he
  have hp:(aR ex [124] bM s1.l.length.succ s1 [] []).2.2=s1:=by
   unfold aR
   simp only
   rw [hb,hst s1 he,lz he,if_neg (by decide)]
  refine ⟨?_,fun h=>?_⟩
  ·show s1=_
   simp only
   rw [hp,lZ he]
  ·simp only at h
   rw [hp,lZ he] at h
   exact absurd h he
 ·rename_i he
  obtain ⟨k1,k2⟩:=mz hex [124] bM (fun s l h=>vf h) s1.l.length.succ s1 [] []
  refine ⟨by simp only;rw [k1],fun h=>?_⟩
  have he:(ex s).2.err=0:=by
   refine cN (k:=1) (t:=bOf) ?_
   rw [hs1]
   simpa using he
  obtain ⟨g1,g2⟩:=h2 he
  obtain ⟨_,g3⟩:=k2 (cN h)
  exact ⟨g1,by simp only;rw [g2,g3]⟩
theorem Bp (hst:∀ s,s.err≠0→(ex s).2=s) (s:PS):gz s (cT exr s) (cU ex s):=by
 by_cases he:s.err=0
 ·have key:∀ {r a:PR} {q:PS},gz q r a→gz s r a:=fun h=>⟨h.1,fun e=>⟨he,(h.2 e).2⟩⟩
  have same:∀ r:PR,gz s r r:=fun r=>⟨rfl,fun _=>⟨he,rfl⟩⟩
  unfold cT cU
  simp only
  split
  ·exact same _
  split
  ·exact same _
  split
  ·exact same _
  split
  ·exact same _
  split
  ·exact same _
  split
  ·exact same _
  split
  ·obtain ⟨h1,h2⟩:=hex s.next
   refine ⟨by simp only;rw [h1],fun h=>⟨he,(h2 (cN h)).2⟩⟩
  split
  ·exact key (vZ hex s.next s.peek.pos)
  split
  ·exact key (yN hex hst s.next s.peek.pos)
  ·exact same _
 ·unfold cT cU
  simp only
  rw [if_pos he,if_pos he]
  exact ⟨rfl,fun h=>absurd h (qJ (by decide))⟩
omit hex in
theorem CA:∀ (m:Nat) (a:List EN) (s:PS),(cj m a s).2.err=0→s.err=0
 | 0,_,_,h=>h
 | m+1,a,s,h=>by
   unfold cj at h
   split at h
   ·rename_i g;exact eV g
   ·exact h
omit hex in
theorem uF:∀ (m:Nat) (a b:List EN) (s:PS),(cj m b s).2=(cj m a s).2∧((s.err=0→b=a)→(cj m a s).2.err=0→cj m b s=cj m a s)
 | 0,a,b,s=>⟨rfl,fun h e=>by
  have e:s.err=0:=e
  rw [h e]⟩
 | m+1,a,b,s=>by
   unfold cj
   split
   ·rename_i g
    obtain ⟨k1,_⟩:=uF m (av { nd0 12 s.peek.pos with name:=(s.next.of 2).1 } [a]) (av { nd0 12 s.peek.pos with name:=(s.next.of 2).1 } [b]) (s.next.of 2).2
    exact ⟨k1,fun h _=>by rw [h (eV g)]⟩
   ·exact ⟨rfl,fun h e=>by
     have e:s.err=0:=e
     rw [h e]⟩
theorem pd (hst:∀ s,s.err≠0→(ex s).2=s) (s:PS):gz s (dQ exr s) (cO ex s):=by
 obtain ⟨h1,h2⟩:=Bp hex hst s
 unfold dQ cO
 simp only
 rw [h1]
 obtain ⟨k1,k2⟩:=uF (cU ex s).2.l.length.succ (cU ex s).1 (cT exr s).1 (cU ex s).2
 refine ⟨k1,fun h=>?_⟩
 have e:=CA _ _ _ h
 exact ⟨(h2 e).1,by rw [k2 (fun e=>(h2 e).2) h]⟩
theorem tR (hst:∀ s,s.err≠0→(ex s).2=s):∀ (m:Nat) (a b:List EN) (s:PS),(s.err=0→b=a)→gz s (jd exr m b s) (gp ex m a s)
 | 0,a,b,s,h=>⟨rfl,fun e=>⟨e,h e⟩⟩
 | m+1,a,b,s,h=>by
   unfold jd gp
   split
   ·rename_i g
    simp only [Bool.and_eq_true,decide_eq_true_eq] at g
    obtain ⟨k1,k2⟩:=pd hex hst s
    rw [k1,h g.1]
    obtain ⟨q1,q2⟩:=tR hst m (av (nd0 6 (dh a).pos) [a,(cO ex s).1]) (av (nd0 6 (dh a).pos) [a,(dQ exr s).1]) (cO ex s).2 (fun e=>by rw [(k2 e).2])
    exact ⟨q1,fun e=>⟨g.1,(q2 e).2⟩⟩
   ·exact ⟨rfl,fun e=>⟨e,h e⟩⟩
theorem EO (hst:∀ s,s.err≠0→(ex s).2=s) (s:PS):gz s (l7 exr s) (j9 ex s):=by
 unfold l7 j9
 split
 ·rename_i g
  obtain ⟨h1,h2⟩:=pd hex hst s.next
  exact ⟨h1,fun e=>⟨(h2 e).1,by simp only;rw [(h2 e).2]⟩⟩
 ·obtain ⟨h1,h2⟩:=pd hex hst s
  simp only
  rw [h1]
  obtain ⟨k1,k2⟩:=tR hex hst (cO ex s).2.l.length.succ (cO ex s).1 (dQ exr s).1 (cO ex s).2 (fun e=>(h2 e).2)
  exact ⟨k1,fun e=>⟨(h2 (k2 e).1).1,(k2 e).2⟩⟩
omit hex in
theorem wH (ops:List (List UInt8 × Int)) {sub subr:PS→PR} (hs:∀ s,gz s (subr s) (sub s)):∀ (m:Nat) (a b:List EN) (s:PS),(s.err=0→b=a)→gz s (dW ops subr m b s) (dW ops sub m a s)
 | 0,a,b,s,h=>⟨rfl,fun e=>⟨e,h e⟩⟩
 | m+1,a,b,s,h=>by
   unfold dW
   split
   ·rename_i n g
    have he:=vt g
    obtain ⟨k1,k2⟩:=hs s.next
    rw [k1,h he]
    obtain ⟨q1,q2⟩:=wH ops hs m (av { nd0 10 s.peek.pos with n:=n } [a,(sub s.next).1]) (av { nd0 10 s.peek.pos with n:=n } [a,(subr s.next).1]) (sub s.next).2 (fun e=>by rw [(k2 e).2])
    exact ⟨q1,fun e=>⟨he,(q2 e).2⟩⟩
   ·exact ⟨rfl,fun e=>⟨e,h e⟩⟩
omit hex in
theorem ux (ops:List (List UInt8 × Int)) {sub subr:PS→PR} (hs:∀ s,gz s (subr s) (sub s)) (s:PS):gz s (dW ops subr (subr s).2.l.length.succ (subr s).1 (subr s).2) (dW ops sub (sub s).2.l.length.succ (sub s).1 (sub s).2):=by
 obtain ⟨h1,h2⟩:=hs s
 rw [h1]
 obtain ⟨k1,k2⟩:=wH ops hs (sub s).2.l.length.succ (sub s).1 (subr s).1 (sub s).2 (fun e=>(h2 e).2)
 exact ⟨k1,fun e=>⟨(h2 (k2 e).1).1,(k2 e).2⟩⟩
theorem BX (hst:∀ s,s.err≠0→(ex s).2=s) (s:PS):gz s (j4 exr s) (iW ex s):=ux _ (EO hex hst) s
theorem xp (hst:∀ s,s.err≠0→(ex s).2=s) (s:PS):gz s (sC exr s) (o5 ex s):=ux _ (BX hex hst) s
theorem EY (hst:∀ s,s.err≠0→(ex s).2=s) (s:PS):gz s (yQ exr s) (pP ex s):=by
 obtain ⟨h1,h2⟩:=xp hex hst s
 unfold yQ pP
 simp only
 rw [h1]
 cases g:opS (o5 ex s).2 dK with
 | some n =>
   have he:=vt g
   obtain ⟨k1,k2⟩:=xp hex hst (o5 ex s).2.next
   refine ⟨k1,fun e=>⟨(h2 he).1,?_⟩⟩
   simp only
   rw [(h2 he).2,(k2 e).2]
 | none=>exact ⟨h1,h2⟩
theorem DP (s:PS) (pos:Int):gz s (kW exr s pos) (kW ex s pos):=by
 unfold kW
 simp only
 generalize (if s.sees 1 gA=true then (8:Int) else 7)=k
 obtain ⟨s2,hs2⟩:∃ q,q=((s.may 1 gA).of 2).2.must 7 [61]:=⟨_,rfl⟩
 rw [← hs2]
 obtain ⟨h1,h2⟩:=hex s2
 have e3:(if k=8∧(dh (exr s2).1).k≠5 then (exr s2).2.fail 5 s2.peek.pos else (exr s2).2)=(if k=8∧(dh (ex s2).1).k≠5 then (ex s2).2.fail 5 s2.peek.pos else (ex s2).2):=by
  rw [h1]
  by_cases he:(ex s2).2.err=0
  ·rw [(h2 he).2]
  ·rw [cg he]
   split<;>split<;>rfl
 rw [e3]
 obtain ⟨s3,hs3⟩:∃ q,q=(if k=8∧(dh (ex s2).1).k≠5 then (ex s2).2.fail 5 s2.peek.pos else (ex s2).2):=⟨_,rfl⟩
 rw [← hs3]
 obtain ⟨k1,k2⟩:=hex (s3.must 1 bIn)
 refine ⟨k1,fun e=>?_⟩
 obtain ⟨g1,g2⟩:=k2 e
 have g3:=cN g1
 rw [hs3] at g3
 have g4:(ex s2).2.err=0:=by
  split at g3
  ·exact absurd g3 (qJ (by decide))
  ·exact g3
 obtain ⟨g5,g6⟩:=h2 g4
 rw [hs2] at g5
 exact ⟨Em (py (cN g5)),by simp only;rw [g6,g2]⟩
theorem GY (s:PS) (pos:Int):gz s (ifS exr s pos) (ifS ex s pos):=by
 unfold ifS
 simp only
 obtain ⟨a1,a2⟩:=hex s
 rw [a1]
 obtain ⟨b1,b2⟩:=hex ((ex s).2.must 1 gG)
 rw [b1]
 obtain ⟨c1,c2⟩:=hex ((ex ((ex s).2.must 1 gG)).2.must 1 iJ)
 refine ⟨c1,fun e=>?_⟩
 obtain ⟨e1,e2⟩:=c2 e
 obtain ⟨e3,e4⟩:=b2 (cN e1)
 obtain ⟨e5,e6⟩:=a2 (cN e3)
 exact ⟨e5,by simp only;rw [e2,e4,e6]⟩
theorem AU (hst:∀ s,s.err≠0→(ex s).2=s) (s:PS):gz s (fX exr s) (kS ex s):=by
 unfold fX kS
 simp only
 split
 ·rename_i g
  obtain ⟨h1,h2⟩:=hex ((s.next.of 2).2.must 7 bTo)
  exact ⟨h1,fun e=>⟨eV g,by simp only;rw [(h2 e).2]⟩⟩
 split
 ·exact DP hex s.next s.peek.pos
 split
 ·exact GY hex s.next s.peek.pos
 ·exact EY hex hst s
end
theorem zK:∀ (m:Nat) (s:PS),s.err≠0→(er m s).2=s
 | 0,s,h=>cg h
 | m+1,s,h=>by
   unfold er
   rw [if_pos h]
theorem tl:∀ (m:Nat) (s:PS),gz s (fR m s) (er m s)
 | 0,s=>⟨rfl,fun e=>absurd e (qJ (by decide))⟩
 | m+1,s=>by
   unfold fR er
   by_cases he:s.err=0
   ·rw [if_neg (by simp [he]),if_neg (by simp [he])]
    obtain ⟨h1,h2⟩:=AU (tl m) (zK m) { s with nest:=s.nest+1 }
    exact ⟨by simp only;rw [h1],fun e=>⟨he,(h2 e).2⟩⟩
   ·rw [if_pos he,if_pos he]
    exact ⟨rfl,fun e=>absurd e he⟩
end Go.Proofs.YtejpnabbmgpmaaaGreat

namespace Go.Proofs.YtejpnabbmgpmaaaGreat
open Go.Ab
section
variable {ex:PS→PR} (hex:∀ s,GP 1 s (ex s))
include hex
theorem mJ (s:PS) (pos:Int):GP 3 s (ik ex s pos):=by
 unfold ik
 simp only
 split
 ·exact (GP.sU (hex s) (SS.refl s) rfl rfl (by omega)).post (SS.must _ _ _)
 ·have:=kb hex s pos
  unfold e9 at this
  exact this
theorem oe (s:PS):GQ s (cT ex s):=by
 have lf:∀ n:EN,bf n=0→n.l=[]→s.next.l.length+1=s.l.length→GQ s (bj n,s.next):=fun n h1 h2 h3 =>
  ⟨GP.leaf h1 h2 (SS.next s) (by omega),fun _=>by show (av n []).length+_+1≤_;rw [cZ];simp only [aT,List.map_nil,List.sum_nil];omega⟩
 have no:GQ s (noE,s.wrong):=⟨GP.leaf rfl rfl (SS.wrong s) (by have:=(SS.wrong s).len;omega),fun h=>absurd h (by show ¬ s.wrong.l.length<_;unfold PS.wrong PS.fail;split<;>simp)⟩
 unfold cT
 simp only
 split
 ·exact no
 split
 ·rename_i h;exact lf _ rfl rfl (db h (by decide))
 split
 ·rename_i h;exact lf _ rfl rfl (db h (by decide))
 split
 ·rename_i h;exact lf _ rfl rfl (db h (by decide))
 split
 ·rename_i h;exact lf _ rfl rfl (az h)
 split
 ·rename_i h;exact lf _ rfl rfl (az h)
 split
 ·rename_i h
  have h1:=az h
  have he:=hex s.next
  have h2:=he.sz
  have h3:=(SS.must (ex s.next).2 7 [41]).len
  exact ⟨(GP.pre (e:=1) (r:=((ex s.next).1,(ex s.next).2)) he (SS.next s) (by omega)).post (SS.must _ _ _),fun _=>by simp only;omega⟩
 split
 ·rename_i h
  have h1:=az h
  have he:=gj hex s.next s.peek.pos
  have h2:=he.sz
  exact ⟨he.pre (SS.next s) (by omega),fun _=>by omega⟩
 split
 ·rename_i h
  have h1:=az h
  have he:=mJ hex s.next s.peek.pos
  have h2:=he.sz
  exact ⟨he.pre (SS.next s) (by omega),fun _=>by omega⟩
 ·exact no
theorem ic (s:PS):GQ s (dQ ex s):=gI s _ _ _ (oe hex s)
theorem pj {s:PS} (he:s.err=0) (hb:s.begins=true):(dQ ex s).2.l.length<s.l.length:=by
 have h1:=nV (cT ex s).2.l.length.succ (cT ex s).1 (cT ex s).2
 have key:(cT ex s).2.l.length<s.l.length:=by
  unfold PS.begins at hb
  simp only [Bool.or_eq_true,Bool.and_eq_true,decide_eq_true_eq] at hb
  unfold cT
  simp only [he,ne_eq,not_true_eq_false,if_false]
  have hk:∀ k:Int,s.peek.k=k→k≠0→s.next.l.length<s.l.length:=fun k h h0=>by have:=db h h0;omega
  have hne:∀ k:Int,s.peek.k=k→k≠0→s.l.isEmpty=false:=fun k h h0=>by
   have:=db h h0
   cases hl:s.l with
   | nil=>rw [hl] at this;simp at this
   | cons _ _=>rfl
  split
  ·rename_i h;exact hk 4 h (by decide)
  split
  ·rename_i h;exact hk 5 h (by decide)
  split
  ·rename_i h;exact hk 2 h (by decide)
  rename_i g4 g5 g2
  split
  ·rename_i h;have:=az h;simp only;omega
  rename_i g1
  split
  ·rename_i h;have:=az h;simp only;omega
  rename_i g3
  split
  ·rename_i h
   have:=az h
   have:=(hex s.next).ss.len
   have:=(SS.must (ex s.next).2 7 [41]).len
   simp only;omega
  rename_i g6
  split
  ·rename_i h
   have:=az h
   have:=(gj hex s.next s.peek.pos).ss.len
   omega
  rename_i g7
  split
  ·rename_i h
   have:=az h
   have:=(mJ hex s.next s.peek.pos).ss.len
   omega
  rename_i g8
  exfalso
  have see:∀ k t,k≠0→s.peek.k=k→s.peek.s=t→s.sees k t=true:=fun k t h0 h h'=>by
   simp [PS.sees,PS.is,he,h,h',hne k h h0]
  rcases hb with (((h | h) | h) | ⟨h,h'⟩) | ⟨h,h'⟩
  ·exact g4 h
  ·exact g5 h
  ·exact g2 h
  ·rcases h' with (h' | h') | h'
   ·exact g1 (see 1 _ (by decide) h h')
   ·exact g3 (see 1 _ (by decide) h h')
   ·exact g8 (see 1 _ (by decide) h h')
  ·rcases h' with h' | h'
   ·exact g6 (see 7 _ (by decide) h h')
   ·exact g7 (see 7 _ (by decide) h h')
 exact Nat.lt_of_le_of_lt h1 key
theorem kx (s0:PS):∀ (m:Nat) (a:List EN) (s:PS),GP 1 s0 (a,s)→GP 1 s0 (jd ex m a s)
 | 0,_,_,h=>h
 | m+1,a,s,h=>by
   unfold jd
   split
   ·rename_i hs
    simp only [Bool.and_eq_true,decide_eq_true_eq] at hs
    have hp:=ic hex s
    have hl:=pj hex hs.1 hs.2
    have h2:=hp.2 hl
    have h3:=h.sz
    have h4:=h.ss.len
    simp only at h3 h4
    refine kx s0 m _ _ ⟨h.ss.trans hp.1.ss,.join _ _ rfl (fun l hl=>?_),?_,dn (Nat.zero_le _) fun l hl=>?_⟩
    ·rcases List.mem_cons.1 hl with rfl | hl
     ·exact h.tr
     ·rw [List.mem_singleton.1 hl];exact hp.1.tr
    ·rw [cZ]
     simp only [aT,List.map_cons,List.map_nil,List.sum_cons,List.sum_nil]
     omega
    ·rcases List.mem_cons.1 hl with rfl | hl
     ·exact h.wd.mono (by simp only;omega)
     ·rw [List.mem_singleton.1 hl];exact hp.1.wd.mono (by simp only;omega)
   ·exact h
theorem mb (s:PS):GP 1 s (l7 ex s):=by
 unfold l7
 simp only
 split
 ·rename_i h
  have h1:=w1 h (by decide)
  exact GP.sU (ic hex s.next).1 (SS.next s) rfl rfl (by omega)
 ·exact kx hex s _ _ _ (ic hex s).1
theorem kg (s:PS):GP 1 s (j4 ex s):=js _ _ (mb hex) s _ _ _ (mb hex s)
theorem gK (s:PS):GP 1 s (sC ex s):=js _ _ (kg hex) s _ _ _ (kg hex s)
theorem zt (s:PS):GP 1 s (yQ ex s):=by
 unfold yQ
 simp only
 split
 ·rename_i n ho
  have h1:=dG ho
  exact GP.jk (gK hex s) (gK hex _) (SS.refl s) (SS.next _) rfl rfl (by omega)
 ·exact gK hex s
theorem pB (s:PS):GP 1 s (fX ex s):=by
 unfold fX
 simp only
 split
 ·rename_i h
  have h1:=az h
  have h2:=(SS.of s.next 2).len
  have h3:=(SS.must (s.next.of 2).2 7 bTo).len
  exact GP.sU (hex _) ((SS.next s).trans ((SS.of _ _).trans (SS.must _ _ _))) rfl rfl (by omega)
 split
 ·rename_i h
  have h1:=az h
  exact (oh hex s.next _).pre (SS.next s) (by omega)
 split
 ·rename_i h
  have h1:=az h
  exact (re hex s.next _).pre (SS.next s) (by omega)
 ·exact zt hex s
end
theorem kr:∀ (m:Nat) (s:PS),GP 1 s (fR m s)
 | 0,s=>GP.leaf rfl rfl (SS.failp s 6) (by have:=(SS.failp s 6).len;omega)
 | m+1,s=>by
   unfold fR
   split
   ·exact GP.leaf rfl rfl (SS.refl s) (by omega)
   ·have h:=pB (kr m) { s with nest:=s.nest+1 }
    refine ⟨⟨h.ss.suf,h.ss.fin,rfl,fun N hN=>h.ss.pos N hN⟩,h.tr,h.sz,h.wd⟩
end Go.Proofs.YtejpnabbmgpmaaaGreat

namespace Go.Proofs.YtejpnabbmgpmaaaGreat
open Go.Ab
def TX (L:List Tok) (a:Nat) (fin:Int):List (Name × Ob):=[([101],.box [.d (ae L),.d (i64 a),.d (i64 fin)])]
theorem yA {L:List Tok} {a:Nat} {fin:Int} (h:a<L.length):bu (L.drop a) fin=L[a]:=by
 rw [List.drop_eq_getElem_cons h];rfl
theorem zk {L:List Tok} {a:Nat} {fin:Int} (h:L.length≤a):bu (L.drop a) fin=⟨0,[],0,fin⟩:=by
 rw [List.drop_eq_nil_of_le h];rfl
theorem G3 {L:List Tok} {a:Nat} (h:a<L.length):(L.map ck).getD a .nilp=.agg [i64 L[a].k,.str L[a].s,i64 L[a].n,i64 L[a].pos]:=by
 rw [List.getD_eq_getElem?_getD,List.getElem?_map,List.getElem?_eq_getElem h];rfl
theorem vT {G} (L:List Tok) (a:Nat) (fin:Int) (_hl:L.length≤1000000):HCall Tryz.prog G 72 [.bx [101] 0] (TX L a fin) [101] (fun r hp'=>r=.d (.agg [i64 (bu (L.drop a) fin).k,.str (bu (L.drop a) fin).s,i64 (bu (L.drop a) fin).n,i64 (bu (L.drop a) fin).pos])∧hp'=TX L a fin):=by
 unfold TX ae
 refine ar Tryz.func72 rfl (by decide +kernel) (by simp [Tryz.ntmps72]) (veil fun E=>?_)
 simp only [go_sem]
 refine ak mixed E fun X=>?_
 simp only [go_sem]
 refine cz X (d:=4) [101] 0 none _ (by simp only [go_sem]) rfl rfl ?_
 simp only [go_sem]
 refine cz X (d:=8) [101] 0 none _ (by simp only [go_sem]) rfl rfl ?_
 simp only [go_sem]
 refine ⟨by decide +kernel,?_⟩
 refine ah E (fun h=>?_) (fun h=>?_)<;>simp only [go_sem]
 ·refine ak mixed E fun X=>?_
  simp only [go_sem]
  refine cz X (d:=14) [101] 0 none _ (by simp only [go_sem]) rfl rfl ?_
  simp only [go_sem]
  refine cz X (d:=18) [101] 0 none _ (by simp only [go_sem]) rfl rfl ?_
  simp only [go_sem]
  refine ⟨⟨by omega,by omega⟩,?_⟩
  have h':a<L.length:=by omega
  have ht:=G3 h'
  generalize (L.map ck).getD a .nilp=g at *
  subst ht
  simp only [go_sem]
  refine ⟨by decide +kernel,?_⟩
  rw [yA h']
  refine ⟨_,_,[101],id,⟨rfl,rfl⟩,?_⟩
  simp only [go_sem]
 ·rw [zk (by omega)]
  refine ⟨_,_,[101],id,⟨rfl,rfl⟩,?_⟩
  simp only [go_sem]
theorem Fg {G} (L:List Tok) (a:Nat) (fin:Int) (hl:L.length≤1000000):HCall Tryz.prog G 138 [.bx [101] 0] (TX L a fin) [101] (fun r hp'=>r=.d (.agg [i64 (bu (L.drop a) fin).k,.str (bu (L.drop a) fin).s,i64 (bu (L.drop a) fin).n,i64 (bu (L.drop a) fin).pos])∧hp'=TX L (if a<L.length then a+1 else a) fin):=by
 unfold TX ae
 refine ar Tryz.func138 rfl (by decide +kernel) (by simp [Tryz.ntmps138]) (veil fun E=>?_)
 simp only [go_sem]
 refine ab E [.bx [101] 0] (TX L a fin) [101] (vT L a fin hl) rfl rfl ⟨by simp only [go_sem],by first | (rw [aa];decide) | (simp only [go_sem]<;>(try rw [aa])<;>decide)⟩ rfl (by unfold TX ae;simp only [go_sem]) (by unfold TX;simp only [go_sem]) ?_
 rintro _ _ ⟨rfl,rfl⟩
 unfold TX ae
 simp only [go_sem]
 refine ak mixed E fun X=>?_
 simp only [go_sem]
 refine cz X (d:=7) [101] 0 none _ (by simp only [go_sem]) rfl rfl ?_
 simp only [go_sem]
 refine cz X (d:=11) [101] 0 none _ (by simp only [go_sem]) rfl rfl ?_
 simp only [go_sem]
 refine ⟨by decide +kernel,?_⟩
 refine ah E (fun h=>?_) (fun h=>?_)<;>simp only [go_sem]
 ·rw [if_pos (by omega),ai (n:=(a:Int)+1) ⟨by omega,by omega⟩]
  refine ⟨_,_,[101],id,⟨rfl,rfl⟩,?_⟩
  simp only [go_sem]
  rfl
 ·rw [if_neg (by omega)]
  refine ⟨_,_,[101],id,⟨rfl,rfl⟩,?_⟩
  simp only [go_sem]
theorem DH {G} (L:List Tok) (a:Nat) (fin k:Int) (t:List UInt8) (hl:L.length≤1000000) (hk:k≠0∧k≠4):HCall Tryz.prog G 211 [.bx [101] 0,.d (i64 k),.d (.str t)] (TX L a fin) [101] (fun r hp'=>r=.d (.bool (isT (L.drop a) fin k t))∧hp'=TX L a fin):=by
 have hno:(L.drop a).isEmpty=true→(bu (L.drop a) fin).k=0:=fun h=>by rw [List.isEmpty_iff.1 h];rfl
 unfold isT
 unfold TX ae
 refine ar Tryz.func211 rfl (by decide +kernel) (by simp [Tryz.ntmps211]) (veil fun E=>?_)
 simp only [go_sem]
 refine ab E [.bx [101] 0] (TX L a fin) [101] (vT L a fin hl) rfl rfl ⟨by simp only [go_sem],by first | (rw [aa];decide) | (simp only [go_sem]<;>(try rw [aa])<;>decide)⟩ rfl (by unfold TX ae;simp only [go_sem]) (by unfold TX;simp only [go_sem]) ?_
 rintro _ _ ⟨rfl,rfl⟩
 unfold TX ae
 simp only [go_sem]
 generalize bu (L.drop a) fin=tk at *
 generalize (L.drop a).isEmpty=em at *
 refine ao E (fun h1=>?_) (fun h1=>?_)<;>simp only [go_sem]
 ·refine ao E (fun h2=>?_) (fun h2=>?_)<;>simp only [go_sem]
  ·have hem:em=false:=by
    cases em
    ·rfl
    ·exact absurd (hno rfl) h2
   refine bU E (fun h3=>?_) (fun h3=>?_)<;>simp only [go_sem]
   ·have h3:tk.s=t:=by simpa using h3
    rw [decide_eq_true h1,decide_eq_true h3,hem]
    refine ⟨_,_,[101],id,⟨rfl,rfl⟩,?_⟩
    simp only [go_sem]
   ·have h3:¬ tk.s=t:=by simpa using h3
    rw [decide_eq_true h1,decide_eq_false h3,hem,decide_eq_false hk.2]
    refine ⟨_,_,[101],id,⟨rfl,rfl⟩,?_⟩
    simp only [go_sem]
  ·exact absurd (h1.symm.trans (by omega)) hk.1
 ·rw [decide_eq_false h1,Bool.and_false,Bool.false_and]
  refine ⟨_,_,[101],id,⟨rfl,rfl⟩,?_⟩
  simp only [go_sem]
theorem CK {L:List Tok} {a:Nat} {fin k:Int} {t:List UInt8} (h:isT (L.drop a) fin k t=true):a<L.length:=by
 unfold isT at h
 simp only [Bool.and_eq_true,Bool.not_eq_true'] at h
 have:=List.isEmpty_eq_false_iff.1 h.1.1
 by_cases hl:a<L.length
 ·exact hl
 ·exact absurd (List.drop_eq_nil_of_le (by omega)) this
theorem Fc {G} (L:List Tok) (a:Nat) (fin k:Int) (t:List UInt8) (hl:L.length≤1000000) (hk:k≠0∧k≠4):HCall Tryz.prog G 137 [.bx [101] 0,.d (i64 k),.d (.str t)] (TX L a fin) [101] (fun r hp'=>r=.d (.bool (isT (L.drop a) fin k t))∧hp'=TX L (if isT (L.drop a) fin k t then a+1 else a) fin):=by
 have hlt:=CK (L:=L) (a:=a) (fin:=fin) (k:=k) (t:=t)
 have h0:=DH (G:=G) L a fin k t hl hk
 generalize isT (L.drop a) fin k t=b at *
 unfold TX ae at *
 refine ar Tryz.func137 rfl (by decide +kernel) (by simp [Tryz.ntmps137]) (veil fun E=>?_)
 simp only [go_sem]
 refine ab E [.bx [101] 0,.d (i64 k),.d (.str t)] (TX L a fin) [101] (h0) rfl rfl ⟨by simp only [go_sem],by first | (rw [aa];decide) | (simp only [go_sem]<;>(try rw [aa])<;>decide)⟩ rfl (by unfold TX ae;simp only [go_sem]) (by unfold TX;simp only [go_sem]) ?_
 rintro _ _ ⟨rfl,rfl⟩
 unfold TX ae
 simp only [go_sem]
 refine aD E (fun h=>?_) (fun h=>?_)<;>simp only [go_sem]
 ·have h':b=false:=by simpa using h
  subst h'
  refine ⟨_,_,[101],id,⟨rfl,rfl⟩,?_⟩
  simp only [go_sem]
 ·have h':b=true:=by simpa using h
  have:=hlt h'
  subst h'
  rw [ai (n:=(a:Int)+1) ⟨by omega,by omega⟩]
  refine ⟨_,_,[101],id,⟨rfl,rfl⟩,?_⟩
  simp only [go_sem]
  rfl
end Go.Proofs.YtejpnabbmgpmaaaGreat

namespace Go.Proofs.YtejpnabbmgpmaaaGreat
open Go.Ab
theorem En (l:List EF):decide (0<(l.length:Int))=!l.isEmpty:=by cases l<;>simp<;>omega
theorem D6 (s:List UInt8):decide (200<(s.length:Int))=!decide (s.length≤200):=by
 by_cases h:s.length≤200
 ·rw [decide_eq_true h,decide_eq_false (by omega)];rfl
 ·rw [decide_eq_false h,decide_eq_true (by omega)];rfl
theorem Hu (m:Int):decide (m<1)=!decide (1≤m):=by
 by_cases h:1≤m
 ·rw [decide_eq_true h,decide_eq_false (by omega)];rfl
 ·rw [decide_eq_false h,decide_eq_true (by omega)];rfl
theorem Js (m:Int):decide (7<m)=!decide (m≤7):=by
 by_cases h:m≤7
 ·rw [decide_eq_true h,decide_eq_false (by omega)];rfl
 ·rw [decide_eq_false h,decide_eq_true (by omega)];rfl
theorem sL (n:EN) (hp:0≤n.pos∧n.pos≤1048576) (hk:1≤n.k∧n.k≤14) :
  bN n=(!(decide (¬n.k=1) && decide (¬n.k=2) && decide (¬n.k=10) && decide (¬n.n=0) || decide (¬n.k=3) && !n.s == [] || decide (¬n.k=11) && decide (¬n.k=14) && decide (0<(n.l.length:Int)))
   && (!(!(decide (n.k=5) || decide (n.k=12) || decide (n.k=13) || decide (n.k=14)) && !(decide (n.k=6) || decide (n.k=7) || decide (n.k=8) || decide (n.k=10)) && decide (¬n.k=9) && decide (¬n.a=0) || !(decide (n.k=6) || decide (n.k=7) || decide (n.k=8) || decide (n.k=10)) && decide (¬n.k=9) && decide (¬n.b=0) || decide (¬n.k=9) && decide (¬n.c=0))
   && (!((decide (n.k=4) || decide (n.k=5) || decide (n.k=7) || decide (n.k=8) || decide (n.k=12)) && !dU n.name || decide (n.k=13) && !kh n.name || !(decide (n.k=4) || decide (n.k=5) || decide (n.k=7) || decide (n.k=8) || decide (n.k=12)) && decide (¬n.k=13) && !n.name == [])
   && (!(decide (n.k=2) && decide (¬n.n=0) && decide (¬n.n=1) || decide (n.k=10) && (decide (n.n<1) || decide (7<n.n)) || decide (n.k=3) && decide (200<(n.s.length:Int)))
   && (decide (¬n.k=11) && decide (¬n.k=14) || bZ n))))):=by
 have hr:bN n=(iE n && ec n && bZ n && ft n):=by
  unfold bN
  rw [decide_eq_true hk.1,decide_eq_true hk.2,decide_eq_true hp.1,decide_eq_true hp.2]
  simp
 have hk':n.k=1∨n.k=2∨n.k=3∨n.k=4∨n.k=5∨n.k=6∨n.k=7∨n.k=8∨n.k=9∨n.k=10∨n.k=11∨n.k=12∨n.k=13∨n.k=14:=by omega
 rw [hr,En,D6,Hu,Js]
 clear hr hk hp
 obtain ⟨k,a,b,c,m,nm,s,l,p⟩:=n
 simp only [kQ] at hk' ⊢
 unfold iE ec ft
 have hpt:∀ k,aI k=false→bZ ⟨k,a,b,c,m,nm,s,l,p⟩=l.isEmpty:=fun k h=>by unfold bZ;rw [h];rfl
 rcases hk' with rfl | rfl | rfl | rfl | rfl | rfl | rfl | rfl | rfl | rfl | rfl | rfl | rfl | rfl
 all_goals
  first | rw [hpt _ rfl] | skip
  try generalize bZ _=y
  generalize s.isEmpty=b1
  generalize nm.isEmpty=b2
  try generalize l.isEmpty=b3
  try generalize dU nm=b4
  try generalize kh nm=b5
  simp [aG]
  first | done | ac_rfl | (generalize decide (m=0)=d0;generalize decide (m=1)=d1;cases d0<;>cases d1<;>simp<;>ac_rfl) | (generalize decide (1≤m)=d0;generalize decide (m≤7)=d1;cases d0<;>cases d1<;>simp<;>ac_rfl)
end Go.Proofs.YtejpnabbmgpmaaaGreat

