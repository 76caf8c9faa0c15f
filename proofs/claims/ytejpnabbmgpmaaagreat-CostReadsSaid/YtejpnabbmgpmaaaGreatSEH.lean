/-
  The document's lexer: a text's writing is taken. (with the parts that follow it)
-/
import Derived.Test.YtejpnabbmgpmaaaGreatSEG
import Derived.Test.YtejpnabbmgpmaaaGreatSEF
import Derived.Test.YtejpnabbmgpmaaaGreatSEE
set_option linter.all false
namespace Go.Proofs.YtejpnabbmgpmaaaGreat
open Go.Ab
def qa (s:List UInt8):AV:=.tup [.d (.str (cI s).1),.d (i64 (cI s).2.1),.d (i64 (cI s).2.2)]
theorem B7 (c:UInt8):Lib.indexByte dv c≤15:=by
 rw [xA]
 split
 ·omega
 ·split<;>omega
set_option maxHeartbeats 2000000 in
theorem Dt {G} (s:List UInt8) (hl:s.length≤1000000):HP Tryz.prog G 171 [.str s] (fun r=>r=qa s):=by
 by_cases h2:2≤s.length
 rotate_left
 ·have hT:cI s=([],0,5):=by
   match s,h2 with
   | [],_=>rfl
   | [c],_ =>
     show (if c=34 then eh 1 [] 1 [] else ([],0,5))=_
     split<;>rfl
   | _::_::_,h=>simp at h
  unfold qa
  rw [hT]
  refine al Tryz.func171 rfl (by decide +kernel) (by simp [Tryz.ntmps171]) (veil fun E=>?_)
  simp only [go_sem]
  rw [decide_eq_true (show (s.length:Int)<2 by omega)]
  simp only [go_sem]
 obtain ⟨c0,r0,rfl⟩:∃ c r,s=c::r:=by
  match s,h2 with
  | c::r,_=>exact ⟨c,r,rfl⟩
 by_cases hc0:c0=34
 rotate_left
 ·have hT:cI (c0::r0)=([],0,5):=if_neg hc0
  unfold qa
  rw [hT]
  refine al Tryz.func171 rfl (by decide +kernel) (by simp [Tryz.ntmps171]) (veil fun E=>?_)
  simp only [go_sem]
  simp only [List.length_cons] at h2
  rw [decide_eq_false (show ¬ ((r0.length+1:Nat):Int)<2 by omega)]
  simp only [go_sem]
  refine ⟨by omega,?_⟩
  refine ah E (fun g=>?_) (fun g=>absurd (bT 34 (by simpa using g)) hc0)<;>simp only [go_sem]
 have hI0:=TkI.init (r:=r0) hc0
 generalize hs:c0::r0=s at *
 have hs0:s.getD 0 0=34:=by rw [← hs,hc0];rfl
 generalize hT:qa s=T
 unfold qa at hT
 refine al Tryz.func171 rfl (by decide +kernel) (by simp [Tryz.ntmps171]) (veil fun E=>?_)
 simp only [go_sem]
 rw [decide_eq_false (show ¬ (s.length:Int)<2 by omega)]
 simp only [go_sem]
 refine ⟨by omega,?_⟩
 rw [hs0]
 simp only [go_sem]
 refine az E (X:={ y:Nat × List UInt8 × Nat // TkI s y.1 y.2.1 y.2.2 }) (fun y=>[(0,.d (.str s)),(2,.d (.str [])),(3,.d (i64 0)),(4,.d (i64 0)),(5,.vw [98] 0 y.1.2.1.length),(6,.d (i64 y.1.1))]) (fun y=>[([98],.arr none (y.1.2.1.map byD))]) [98] (fun y=>s.length-y.1.1) ⟨(1,[],_),hI0⟩ (tau [([98],[17])]) ?_ ?_
 ·simp only [go_sem]
  all_goals ((repeat' apply And.intro)<;>first | rfl | trivial)
 rintro ⟨⟨i,acc,m⟩,hI⟩ E0
 refine aC E0 fun Q' hQ E'=>?_
 have hi:=hI.hi
 have ha:=hI.ha
 simp only at hI hi ha ⊢
 simp only [go_sem]
 refine an E' (fun h1=>?_) (fun h1=>?_)<;>simp only [go_sem]
 rotate_left
 ·rw [hQ]
  simp only [go_sem]
  rw [decide_eq_true (show (s.length:Int)≤(i:Int) by omega)]
  simp only [go_sem]
  rw [← hT,hI.fin (by omega)]
  rfl
 have h1':i<s.length:=by omega
 refine ⟨⟨by omega,by omega⟩,?_⟩
 refine ah E' (fun hm=>?_) (fun hm=>?_)<;>simp only [go_sem]
 rotate_left
 ·have hm:s.getD i 0=34:=bT 34 (by simpa using hm)
  have hmk:=hI.mark h1' hm
  rw [hQ]
  simp only [go_sem]
  rw [decide_eq_false (show ¬ (s.length:Int)≤(i:Int) by omega)]
  simp only [go_sem]
  refine ah E (fun g2=>?_) (fun g2=>?_)<;>simp only [go_sem]
  ·rw [← hT,hmk,if_pos (by omega)]
   rfl
  ·refine H5 E (src:=261) (dst:=9) (e:=5) [98] acc (by simp only [go_sem]) (by kernel_rfl) (by kernel_rfl) (by kernel_rfl) rfl rfl ?_
   simp only [go_sem]
   rw [ai (n:=(i:Int)+1) ⟨by omega,by omega⟩,← hT,hmk,if_neg (by omega)]
   rfl
 have hc34:=aO 34 hm
 refine ⟨⟨by omega,by omega⟩,?_⟩
 have hbad:=hI.bad h1' hc34
 have hodd:=hI.odd h1' hc34
 have hpl:=hI.plain h1' hc34
 have hesc:=hI.esc h1' hc34
 have hlb:=(s.getD i 0).toNat_lt
 generalize hcc:s.getD i 0=c at *
 refine an E' (fun g1=>?_) (fun g1=>?_)<;>simp only [go_sem]
 ·have hB:=hodd (fun e=>by rw [e] at g1;exact absurd g1 (by decide)) (by unfold gw;rw [decide_eq_false (show ¬ 32≤c.toNat by omega)];rfl)
  rw [hQ]
  simp only [go_sem]
  rw [← hT,hB]
  rfl
 refine ah E' (fun g2=>?_) (fun g2=>?_)<;>simp only [go_sem]
 ·have hB:=hodd (fun e=>by rw [e] at g2;exact absurd g2 (by decide)) (by unfold gw;rw [decide_eq_false (show ¬ c.toNat≤126 by omega)];simp)
  rw [hQ]
  simp only [go_sem]
  rw [← hT,hB]
  rfl
 refine ah E' (fun g3=>?_) (fun g3=>?_)<;>simp only [go_sem]
 ·have hp:gw c=true:=by
   have h34:c.toNat≠34:=fun e=>hc34 (UInt8.toNat_inj.1 e)
   have h92:c.toNat≠92:=fun e=>g3 (by rw [e];rfl)
   unfold gw
   rw [decide_eq_true (show 32≤c.toNat by omega),decide_eq_true (show c.toNat≤126 by omega),decide_eq_true h34,decide_eq_true h92]
   rfl
  have hN:=hpl (aO 92 g3) hp
  rw [ai (n:=(i:Int)+1) ⟨by omega,by omega⟩]
  refine ⟨by first | omega | (simp;omega),?_⟩
  rw [show acc.map byD++[.int .u8 ((c.toNat:Int))]=(acc++[c]).map byD by rw [List.map_append];rfl]
  rw [hQ]
  simp only [go_sem]
  refine ⟨⟨(i+1,acc++[c],m-1),hN⟩,by show s.length-(i+1)<s.length-i;omega,tau [([98],[42])],?_⟩
  simp only [go_sem]
  rw [List.length_append,List.length_singleton]
  all_goals ((repeat' apply And.intro)<;>first | rfl | trivial)
 have h92:c=92:=bT 92 (by simpa using g3)
 have hbad:=hbad h92
 have hesc:=hesc h92
 refine ah E' (fun g4=>?_) (fun g4=>?_)<;>simp only [go_sem]
 ·have hB:=hbad (by rw [List.drop_eq_nil_of_le (by rw [ai ⟨by omega,by omega⟩] at g4;omega)];rfl)
  rw [hQ]
  simp only [go_sem]
  rw [← hT,hB]
  rfl
 rw [ai (n:=(i:Int)+1) ⟨by omega,by omega⟩] at g4 ⊢
 have h5:i+1<s.length:=by omega
 have hdr:=drop_cons h5
 refine ⟨⟨by omega,by omega⟩,?_⟩
 rw [show ((i:Int)+1).toNat=i+1 by omega]
 have hd1:=(s.getD (i+1) 0).toNat_lt
 generalize s.getD (i+1) 0=e at *
 rw [ai (n:=(i:Int)+2) ⟨by omega,by omega⟩]
 rw [hdr] at hbad hesc
 have one:e=34∨e=92→TkI s (i+2) (acc++[e]) (m-1):=fun h=>by
  rw [w4 e _ h] at hesc
  exact hesc (by show ¬ (1:Nat)=0;decide)
 have two:¬ (e=34∨e=92)→gu (e::s.drop (i+1+1))=zC e (s.drop (i+1+1)):=fun h=>wR e _ h
 refine ah E' (fun k1=>?_) (fun k1=>?_)<;>simp only [go_sem]
 ·rw [decide_eq_true k1]
  simp only [go_sem]
  have hN:=one (.inl (bT 34 k1))
  refine ⟨by first | omega | (simp;omega),?_⟩
  rw [show acc.map byD++[.int .u8 ((e.toNat:Int))]=(acc++[e]).map byD by rw [List.map_append];rfl]
  rw [hQ]
  simp only [go_sem]
  refine ⟨⟨(i+2,acc++[e],m-1),hN⟩,by show s.length-(i+2)<s.length-i;omega,tau [([98],[63])],?_⟩
  simp only [go_sem]
  rw [List.length_append,List.length_singleton]
  all_goals ((repeat' apply And.intro)<;>first | rfl | trivial)
 refine ah E' (fun k2=>?_) (fun k2=>?_)<;>simp only [go_sem]
 ·have hN:=one (.inr (bT 92 k2))
  refine ⟨by first | omega | (simp;omega),?_⟩
  rw [show acc.map byD++[.int .u8 ((e.toNat:Int))]=(acc++[e]).map byD by rw [List.map_append];rfl]
  rw [hQ]
  simp only [go_sem]
  refine ⟨⟨(i+2,acc++[e],m-1),hN⟩,by show s.length-(i+2)<s.length-i;omega,tau [([98],[63])],?_⟩
  simp only [go_sem]
  rw [List.length_append,List.length_singleton]
  all_goals ((repeat' apply And.intro)<;>first | rfl | trivial)
 have two:=two (fun h=>h.elim (aO 34 k1) (aO 92 k2))
 rw [two] at hbad hesc
 unfold zC at hbad hesc
 refine ah E' (fun k3=>?_) (fun k3=>?_)<;>simp only [go_sem]
 ·rw [if_pos (bT 110 k3)] at hesc
  have hN:=hesc (by decide)
  refine ⟨by first | omega | (simp;omega),?_⟩
  rw [show acc.map byD++[.int .u8 (10)]=(acc++[10]).map byD by rw [List.map_append];rfl]
  rw [hQ]
  simp only [go_sem]
  refine ⟨⟨(i+2,acc++[10],m-1),hN⟩,by show s.length-(i+2)<s.length-i;omega,tau [([98],[68])],?_⟩
  simp only [go_sem]
  rw [List.length_append,List.length_singleton]
  all_goals ((repeat' apply And.intro)<;>first | rfl | trivial)
 rw [if_neg (aO 110 k3)] at hbad hesc
 refine ah E' (fun k4=>?_) (fun k4=>?_)<;>simp only [go_sem]
 ·rw [if_pos (bT 116 k4)] at hesc
  have hN:=hesc (by decide)
  refine ⟨by first | omega | (simp;omega),?_⟩
  rw [show acc.map byD++[.int .u8 (9)]=(acc++[9]).map byD by rw [List.map_append];rfl]
  rw [hQ]
  simp only [go_sem]
  refine ⟨⟨(i+2,acc++[9],m-1),hN⟩,by show s.length-(i+2)<s.length-i;omega,tau [([98],[73])],?_⟩
  simp only [go_sem]
  rw [List.length_append,List.length_singleton]
  all_goals ((repeat' apply And.intro)<;>first | rfl | trivial)
 rw [if_neg (aO 116 k4)] at hbad hesc
 refine ah E' (fun k5=>?_) (fun k5=>?_)<;>simp only [go_sem]
 rotate_left
 ·rw [if_neg (aO 120 k5)] at hbad
  have hB:=hbad rfl
  rw [hQ]
  simp only [go_sem]
  rw [← hT,hB]
  rfl
 rw [if_pos (bT 120 k5)] at hbad hesc
 rw [ai (n:=(i:Int)+2+1) ⟨by omega,by omega⟩]
 refine an E' (fun k6=>?_) (fun k6=>?_)<;>simp only [go_sem]
 ·have hB:=hbad (by
   rcases hd:s.drop (i+1+1) with _ | ⟨a,_ | ⟨b,r⟩⟩
   ·rfl
   ·rfl
   ·have:=congrArg List.length hd
    rw [List.length_drop,List.length_cons,List.length_cons] at this
    omega)
  rw [hQ]
  simp only [go_sem]
  rw [← hT,hB]
  rfl
 have h6:i+2<s.length:=by omega
 have h7:i+2+1<s.length:=by omega
 rw [show i+1+1=i+2 from rfl,drop_cons h6,drop_cons h7] at hbad hesc
 refine ⟨⟨by omega,by omega⟩,?_⟩
 rw [show ((i:Int)+2).toNat=i+2 by omega]
 generalize hga:s.getD (i+2) 0=a at *
 generalize hb:s.getD (i+2+1) 0=b at *
 refine ag E' (m8 a) rfl rfl (by simp) ?_
 rintro _ rfl
 simp only [go_sem]
 have ha2:=(j9 dv a).2
 have hb2:=(j9 dv b).2
 have ha3:Lib.indexByte dv a≤15:=B7 _
 have hb3:Lib.indexByte dv b≤15:=B7 _
 refine an E' (fun k7=>?_) (fun k7=>?_)<;>simp only [go_sem]
 ·have hB:=hbad (by show (if _∨_ then _ else _:UInt8 × Nat).2=0;rw [if_pos (.inl k7)])
  rw [hQ]
  simp only [go_sem]
  rw [← hT,hB]
  rfl
 rw [ai (n:=(i:Int)+2+1) ⟨by omega,by omega⟩]
 refine ⟨⟨by omega,by omega⟩,?_⟩
 rw [show ((i:Int)+2+1).toNat=i+2+1 by omega,hb]
 refine ag E' (m8 b) rfl rfl (by simp) ?_
 rintro _ rfl
 simp only [go_sem]
 refine ah E' (fun k8=>?_) (fun k8=>?_)<;>simp only [go_sem]
 ·have hB:=hbad (by show (if _∨_ then _ else _:UInt8 × Nat).2=0;rw [if_pos (.inr k8)])
  rw [hQ]
  simp only [go_sem]
  rw [← hT,hB]
  rfl
 have hesc:TkI s (i+4) (acc++[UInt8.ofNat (16*Lib.indexByte dv a+Lib.indexByte dv b).toNat]) (m-1):=by
  have h:=hesc (by show ¬ (if _∨_ then _ else _:UInt8 × Nat).2=0;rw [if_neg (fun h=>h.elim k7 k8)];exact Nat.succ_ne_zero 2)
  have he:(if Lib.indexByte dv a<0∨Lib.indexByte dv b<0 then ((0:UInt8),0) else (UInt8.ofNat (16*Lib.indexByte dv a+Lib.indexByte dv b).toNat,3))=(UInt8.ofNat (16*Lib.indexByte dv a+Lib.indexByte dv b).toNat,3):=if_neg (fun h=>h.elim k7 k8)
  simp only [he] at h
  exact h
 refine ak mixed E' fun X=>?_
 simp only [go_sem]
 refine ⟨⟨by omega,by omega⟩,?_⟩
 rw [show ((i:Int)+2).toNat=i+2 by omega,hga]
 refine bK X (m8 a) rfl rfl (by simp) ?_
 simp only [go_sem]
 rw [ai (n:=(i:Int)+2+1) ⟨by omega,by omega⟩]
 refine ⟨⟨by omega,by omega⟩,?_⟩
 rw [show ((i:Int)+2+1).toNat=i+2+1 by omega,hb]
 refine bK X (m8 b) rfl rfl (by simp) ?_
 simp only [go_sem]
 generalize Lib.indexByte dv a=x at *
 generalize Lib.indexByte dv b=y at *
 rw [ai (n:=16*x) ⟨by omega,by omega⟩,ai (n:=16*x+y) ⟨by omega,by omega⟩]
 obtain ⟨n,hn⟩:∃ n:Nat,16*x+y=n:=⟨(16*x+y).toNat,by omega⟩
 rw [hn,Int.toNat_natCast] at hesc
 rw [hn]
 have h10:IntKind.u8.wrap (n:Int)=((UInt8.ofNat n).toNat:Nat):=by
  rw [UInt8.toNat_ofNat']
  simp [IntKind.wrap,IntKind.bits,IntKind.signed]
 rw [h10]
 generalize UInt8.ofNat n=z at *
 refine ⟨by omega,by decide +kernel,?_⟩
 rw [show acc.map byD++[.int .u8 (z.toNat:Int)]=(acc++[z]).map byD by rw [List.map_append];rfl]
 rw [hQ]
 simp only [go_sem]
 rw [ai (n:=(i:Int)+2+2) ⟨by omega,by omega⟩]
 refine ⟨⟨(i+4,acc++[z],m-1),hesc⟩,by show s.length-(i+4)<s.length-i;omega,tau [([98],[110])],?_⟩
 simp only [go_sem]
 rw [List.length_append,List.length_singleton]
 all_goals ((repeat' apply And.intro)<;>first | rfl | trivial)
end Go.Proofs.YtejpnabbmgpmaaaGreat

namespace Go.Proofs.YtejpnabbmgpmaaaGreat
open Go.Ab
def Bs (f:Fnd) (p:Int):AV:=if f.e=0 then .tup [.d (ck { f.t with pos:=p }),.d (i64 f.n),.d (i64 0)] else .tup [.d (ck noT),.d (i64 0),.d (i64 f.e)]
theorem jS (e p:Int) (he:e≠0):Bs (dZ e) p=.tup [.d (ck noT),.d (i64 0),.d (i64 e)]:=if_neg he
theorem iv (t:Tok) (n:Nat) (p:Int):Bs ⟨t,n,0⟩ p=.tup [.d (ck { t with pos:=p }),.d (i64 n),.d (i64 0)]:=if_pos rfl
theorem FI (l:List UInt8) (h0:1≤l.length):(sgN l=0∧ja l=dZ 5)∨(1≤sgN l∧sgN l≤l.length∧ja l=⟨⟨7,l.take (sgN l),0,0⟩,sgN l,0⟩):=by
 unfold sgN ja
 by_cases h:(bm l [45,62] || bm l [61,61])=true
 ·rw [if_pos h,if_pos h]
  have:2≤l.length:=by
   rcases Bool.or_eq_true_iff.1 h with h | h
   ·exact ej h
   ·exact ej h
  exact .inr ⟨by decide,this,rfl⟩
 ·rw [if_neg h,if_neg h]
  split
  ·exact .inl ⟨rfl,rfl⟩
  ·exact .inr ⟨by decide,h0,rfl⟩
theorem w8 (c:UInt8):bb c=(decide (48≤(c.toNat:Int)) && decide ((c.toNat:Int)≤57)):=by
 unfold bb
 congr 1<;>exact decide_eq_decide.2 (by omega)
set_option maxHeartbeats 2000000 in
theorem DV {G} (s:List UInt8) (i:Nat) (hi:i<s.length) (hl:s.length≤1000000):HP Tryz.prog G 118 [.str s,i64 i] (fun r=>r=Bs (cn (s.drop i)) i):=by
 have hwl:=gT (s.drop i)
 have h0:1≤(s.drop i).length:=by rw [List.length_drop];omega
 have hl2:(s.drop i).length≤1000000:=by rw [List.length_drop];omega
 generalize hT:Bs (cn (s.drop i)) i=T
 refine al Tryz.func118 rfl (by decide +kernel) (by simp [Tryz.ntmps118]) (veil fun E=>?_)
 simp only [go_sem]
 refine ⟨⟨by omega,by omega⟩,?_⟩
 rw [List.take_of_length_le (show (s.drop i).length≤s.length-i by rw [List.length_drop];omega)]
 generalize s.drop i=l at *
 refine ⟨by omega,?_⟩
 refine ag E (ng l (by omega)) rfl rfl (by simp) ?_
 rintro _ rfl
 simp only [go_sem]
 have hdef:cn l=if 0<bH l then kJ l (bH l) else if l.getD 0 0=39 then o7 l else if bb (l.getD 0 0) || decide (l.getD 0 0=126) then vB l else if l.getD 0 0=34 then nP l else ja l:=rfl
 generalize bH l=n at hdef hwl ⊢
 generalize hc:l.getD 0 0=c at *
 refine ah E (fun h1=>?_) (fun h1=>?_)<;>simp only [go_sem]
 ·refine ⟨⟨by omega,by omega⟩,?_⟩
  rw [Nat.sub_zero]
  rw [if_pos (by omega)] at hdef
  unfold kJ at hdef
  refine ah E (fun h2=>?_) (fun h2=>?_)<;>simp only [go_sem]
  ·rw [← hT,hdef,if_pos (by omega),jS _ _ (by decide)]
   rfl
  rw [if_neg (by omega)] at hdef
  refine ag E (xW _) rfl rfl (by simp) ?_
  rintro _ rfl
  simp only [go_sem]
  refine aB E (fun h3=>?_) (fun h3=>?_)<;>simp only [go_sem]
  ·rw [← hT,hdef,if_pos h3,iv]
   rfl
  rw [h3,if_neg (by decide)] at hdef
  rw [show (l.take n).getD 0 0=c by rw [← hc];cases l with
   | nil=>exact absurd h0 (by decide)
   | cons a r =>
     obtain ⟨m,rfl⟩:∃ m,n=m+1:=⟨n-1,by omega⟩
     rfl] at hdef
  repeat (first
   | (apply b6 E;(· simp only [go_sem]);(· intro h;(try simp only [bq] at h);simp only [↓h,go_sem];rfl);simp only [go_sem])
   | (apply ba E;(· simp only [go_sem]);(· intro h;(try simp only [bq] at h);simp only [↓h,go_sem];rfl);(· intro h;(try simp only [bq] at h);simp only [↓h,go_sem];rfl);simp only [go_sem])
   | (apply a8 E;(· simp only [go_sem]);(· rfl);(· intro h h';(try simp only [bq] at h h');simp only [↓h,↓h',go_sem];rfl);simp only [go_sem])
   | (apply aI E;(· simp only [go_sem]);(· rfl);(· intro h h';(try simp only [bq] at h h');simp only [↓h,↓h',go_sem];rfl);(· intro h h';(try simp only [bq] at h h');simp only [↓h,↓h',go_sem];rfl);simp only [go_sem])
   | (apply bV E;(· decide);simp only [go_sem]))
  refine aB E (fun h4=>?_) (fun h4=>?_)<;>simp only [go_sem]
  ·rw [← hT,hdef,if_pos (by unfold gr grZ;simpa using h4),iv]
   rfl
  ·rw [← hT,hdef,if_neg (by unfold gr grZ;simpa using h4),iv]
   rfl
 rw [if_neg (by omega)] at hdef
 refine ah E (fun h2=>?_) (fun h2=>?_)<;>simp only [go_sem]
 ·rw [if_pos (bT 39 h2)] at hdef
  unfold o7 at hdef
  refine ⟨⟨by omega,by omega⟩,?_⟩
  rw [List.take_of_length_le (show (l.drop 1).length≤l.length-1 by rw [List.length_drop];omega)]
  have hwl1:=gT (l.drop 1)
  have hl1:(l.drop 1).length=l.length-1:=List.length_drop
  refine ag E (ng (l.drop 1) (by omega)) rfl rfl (by simp) ?_
  rintro _ rfl
  simp only [go_sem]
  generalize bH (l.drop 1)=m at *
  refine an E (fun h3=>?_) (fun h3=>?_)<;>simp only [go_sem]
  ·rw [← hT,hdef,if_pos (.inl (by omega)),jS _ _ (by decide)]
   rfl
  refine ⟨by omega,?_⟩
  generalize hc1:l.getD 1 0=c1 at *
  have hgr:gr c1=(decide (65≤(c1.toNat:Int)) && decide ((c1.toNat:Int)≤90)):=rfl
  have hno:gr c1=false→cn l=if 20<m then dZ 7 else ⟨⟨6,(l.drop 1).take m,0,0⟩,m+1,0⟩:=fun h=>by
   rw [if_neg (fun g=>g.elim (by omega) (fun g=>by rw [h] at g;cases g))] at hdef
   exact hdef
  refine an E (fun h4=>?_) (fun h4=>?_)<;>simp only [go_sem]
  ·refine ⟨by omega,?_⟩
   rw [hc1]
   refine ah E (fun h6=>?_) (fun h6=>?_)<;>simp only [go_sem]
   ·rw [← hT,hdef,if_pos (.inr (by rw [hgr,decide_eq_true h4,decide_eq_true h6];rfl)),jS _ _ (by decide)]
    rfl
   ·have hdef:=hno (by rw [hgr,decide_eq_false h6,Bool.and_false])
    refine ah E (fun h5=>?_) (fun h5=>?_)<;>simp only [go_sem]
    ·rw [← hT,hdef,if_pos (by omega),jS _ _ (by decide)]
     rfl
    rw [if_neg (by omega)] at hdef
    rw [ai (n:=1+(m:Int)) ⟨by omega,by omega⟩]
    refine ⟨⟨by omega,by omega⟩,?_⟩
    rw [← hT,hdef,iv,show (1+(m:Int)).toNat-1=m by omega]
    show _=AV.tup [.d (ck _),.d (i64 (m+1:Nat)),.d (i64 0)]
    rw [show ((m+1:Nat):Int)=1+(m:Int) by omega]
    rfl
  ·have hdef:=hno (by rw [hgr,decide_eq_false h4,Bool.false_and])
   refine ah E (fun h5=>?_) (fun h5=>?_)<;>simp only [go_sem]
   ·rw [← hT,hdef,if_pos (by omega),jS _ _ (by decide)]
    rfl
   rw [if_neg (by omega)] at hdef
   rw [ai (n:=1+(m:Int)) ⟨by omega,by omega⟩]
   refine ⟨⟨by omega,by omega⟩,?_⟩
   rw [← hT,hdef,iv,show (1+(m:Int)).toNat-1=m by omega]
   show _=AV.tup [.d (ck _),.d (i64 (m+1:Nat)),.d (i64 0)]
   rw [show ((m+1:Nat):Int)=1+(m:Int) by omega]
   rfl
 rw [if_neg (aO 39 h2)] at hdef
 repeat (first
  | (apply b6 E;(· simp only [go_sem]);(· intro h;(try simp only [bq] at h);simp only [↓h,go_sem];rfl);simp only [go_sem])
  | (apply ba E;(· simp only [go_sem]);(· intro h;(try simp only [bq] at h);simp only [↓h,go_sem];rfl);(· intro h;(try simp only [bq] at h);simp only [↓h,go_sem];rfl);simp only [go_sem])
  | (apply a8 E;(· simp only [go_sem]);(· rfl);(· intro h h';(try simp only [bq] at h h');simp only [↓h,↓h',go_sem];rfl);simp only [go_sem])
  | (apply aI E;(· simp only [go_sem]);(· rfl);(· intro h h';(try simp only [bq] at h h');simp only [↓h,↓h',go_sem];rfl);(· intro h h';(try simp only [bq] at h h');simp only [↓h,↓h',go_sem];rfl);simp only [go_sem])
  | (apply bV E;(· decide);simp only [go_sem]))
 have hdg:=w8 c
 refine aB E (fun h3=>?_) (fun h3=>?_)<;>simp only [go_sem]
 ·rw [if_pos (by rw [hdg];simp only [Bool.or_eq_true,decide_eq_true_eq] at h3 ⊢;exact h3.imp id (bT 126))] at hdef
  unfold vB at hdef
  have hle:=mW (l.drop 1)
  rw [List.length_drop] at hle
  refine az E (X:={ n:Nat // 1≤n∧n≤l.length∧n+gP (l.drop n)=gP (l.drop 1)+1 }) (fun x=>[(0,.d (.str s)),(1,.d (i64 i)),(4,.bx [4] 0),(5,.d (i64 0)),(6,.d (i64 0)),(7,.d (.str l)),(8,.d (.int .u8 (c.toNat:Int))),(13,.d (i64 x.1))]) (fun x=>[([4],.box [.d (i64 0),.d (.str []),.d (i64 0),.d (i64 0)])]) [4] (fun x=>l.length-x.1) ⟨1,by omega,by omega,by omega⟩ id ?_ ?_
  ·simp only [go_sem]
   all_goals ((repeat' apply And.intro)<;>first | rfl | trivial)
  rintro ⟨m,hn1,hn2,hn3⟩ E0
  refine aC E0 fun Q' hQ E'=>?_
  simp only at hn1 hn2 hn3 ⊢
  simp only [go_sem]
  refine an E' (fun g1=>?_) (fun g1=>?_)<;>simp only [go_sem]
  ·have h1':m<l.length:=by omega
   have hd:=qh h1'
   rw [w8] at hd
   refine ⟨⟨by omega,by omega⟩,?_⟩
   generalize hcm:l.getD m 0=cm at *
   refine an E' (fun g2=>?_) (fun g2=>?_)<;>simp only [go_sem]
   ·refine ⟨⟨by omega,by omega⟩,?_⟩
    rw [hcm]
    rw [decide_eq_true g2,Bool.true_and] at hd
    refine ah E' (fun g3=>?_) (fun g3=>?_)<;>simp only [go_sem]
    ·rw [ai ⟨by omega,by omega⟩,hQ]
     simp only [go_sem]
     rw [decide_eq_true g3,if_pos rfl] at hd
     refine ⟨⟨m+1,by omega,by omega,by omega⟩,by show l.length-(m+1)<_;omega,id,?_⟩
     simp only [go_sem]
     all_goals ((repeat' apply And.intro)<;>first | rfl | trivial)
    ·rw [decide_eq_false g3,if_neg (by decide)] at hd
     rw [hQ]
     simp only [go_sem]
     refine ⟨⟨by omega,by omega⟩,?_⟩
     rw [Nat.sub_zero]
     refine ag E (qI (l.take m)) rfl rfl (by simp) ?_
     rintro _ rfl
     rw [kI]
     simp only [go_sem]
     rw [show gP (l.drop 1)+1=m by omega] at hdef
     generalize tO (l.take m)=z at *
     refine ah E (fun h5=>?_) (fun h5=>?_)<;>simp only [go_sem]
     ·rw [← hT,hdef]
      exact (if_neg h5).symm
     ·rw [← hT,hdef]
      have h5:z.2=0:=by omega
      rw [h5,iv]
      rfl
   ·rw [decide_eq_false g2,Bool.false_and,if_neg (by decide)] at hd
    rw [hQ]
    simp only [go_sem]
    refine ⟨⟨by omega,by omega⟩,?_⟩
    rw [Nat.sub_zero]
    refine ag E (qI (l.take m)) rfl rfl (by simp) ?_
    rintro _ rfl
    rw [kI]
    simp only [go_sem]
    rw [show gP (l.drop 1)+1=m by omega] at hdef
    generalize tO (l.take m)=z at *
    refine ah E (fun h5=>?_) (fun h5=>?_)<;>simp only [go_sem]
    ·rw [← hT,hdef]
     exact (if_neg h5).symm
    ·rw [← hT,hdef]
     have h5:z.2=0:=by omega
     rw [h5,iv]
     rfl
  ·have hd:gP (l.drop m)=0:=by rw [show m=l.length by omega,List.drop_length];rfl
   rw [hQ]
   simp only [go_sem]
   refine ⟨⟨by omega,by omega⟩,?_⟩
   rw [Nat.sub_zero]
   refine ag E (qI (l.take m)) rfl rfl (by simp) ?_
   rintro _ rfl
   rw [kI]
   simp only [go_sem]
   rw [show gP (l.drop 1)+1=m by omega] at hdef
   generalize tO (l.take m)=z at *
   refine ah E (fun h5=>?_) (fun h5=>?_)<;>simp only [go_sem]
   ·rw [← hT,hdef]
    exact (if_neg h5).symm
   ·rw [← hT,hdef]
    have h5:z.2=0:=by omega
    rw [h5,iv]
    rfl
 have h3':¬ (bb c || decide (c=126))=true:=by
  simp only [Bool.or_eq_false_iff,decide_eq_false_iff_not] at h3
  rw [hdg,h3.1,decide_eq_false (aO 126 h3.2)]
  decide
 rw [if_neg h3'] at hdef
 refine ah E (fun h4=>?_) (fun h4=>?_)<;>simp only [go_sem]
 ·rw [if_pos (bT 34 h4)] at hdef
  refine ag E (Dt l hl2) rfl rfl (by simp) ?_
  rintro _ rfl
  unfold qa
  unfold nP at hdef
  generalize cI l=tk at *
  obtain ⟨tx,tn,te⟩:=tk
  simp only at hdef ⊢
  simp only [go_sem]
  refine ah E (fun h5=>?_) (fun h5=>?_)<;>simp only [go_sem]
  ·rw [← hT,hdef]
   exact (if_neg h5).symm
  ·rw [← hT,hdef]
   have h5:te=0:=by omega
   subst h5
   rfl
 rw [if_neg (aO 34 h4)] at hdef
 refine ag E (EH l h0 hl2) rfl rfl (by simp) ?_
 rintro _ rfl
 simp only [go_sem]
 rcases FI l h0 with ⟨h5,h6⟩ | ⟨h5,h6,h7⟩
 ·rw [h5]
  simp only [go_sem]
  rw [← hT,hdef,h6,jS _ _ (by decide)]
  rfl
 ·generalize sgN l=m at *
  rw [decide_eq_true (show (0:Int)<(m:Int) by omega)]
  simp only [go_sem]
  refine ⟨⟨by omega,by omega⟩,?_⟩
  rw [← hT,hdef,h7,iv,Nat.sub_zero]
  rfl
end Go.Proofs.YtejpnabbmgpmaaaGreat

namespace Go.Proofs.YtejpnabbmgpmaaaGreat
open Go.Ab
def Ei (s:List UInt8):AV:=.tup [.d (if (bM s).2.2=0 then .sl (some 4) ((bM s).1.map ck) else .nils),.d (i64 (bM s).2.1),.d (i64 (bM s).2.2)]
set_option maxHeartbeats 2000000 in
theorem GW {G} (s:List UInt8) (hl:s.length≤1000000):HP Tryz.prog G 69 [.str s] (fun r=>r=Ei s):=by
 generalize hT:Ei s=T
 unfold Ei at hT
 refine aw Tryz.func69 rfl (by decide +kernel) (by simp [Tryz.ntmps69]) (veil fun E=>?_)
 simp only [go_sem]
 refine az E (X:={ y:Nat × Nat // AI s y.1 y.2∧y.1≤y.2 }) (fun y=>[(0,.d (.str s)),(2,.d .nils),(3,.d (i64 0)),(4,.d (i64 0)),(5,.vw [98] 0 y.1.1),(6,.d (i64 y.1.2))]) (fun y=>[([98],.arr (some 4) (((aE s).take y.1.1).map fun q=>ck (fP q)))]) [98] (fun y=>s.length-y.1.2) ⟨(0,0),AI.init s,Nat.le_refl _⟩ (tau [([98],[10])]) ?_ ?_
 ·simp only [go_sem]
  all_goals ((repeat' apply And.intro)<;>first | rfl | trivial)
 rintro ⟨⟨j,i⟩,hI,hji⟩ E0
 refine aC E0 fun Q' hQ E'=>?_
 have hi:=hI.hi
 have hjl:=hI.ti.hj
 have hfin:=hI.fin
 have hbl:=hI.blank
 have hrm:=hI.rem
 have htk:=hI.tok
 simp only at hi hji hfin hbl hrm htk ⊢
 simp only [go_sem]
 refine ah E' (fun h1=>?_) (fun h1=>?_)<;>simp only [go_sem]
 rotate_left
 ·rw [hQ]
  simp only [go_sem]
  rw [hfin (by omega)] at hT
  refine ⟨[([98],some 4,((aE s).take j).map fun q=>ck (fP q))],?_⟩
  simp only [go_sem]
  rw [← hT,if_pos rfl,List.map_map,List.take_of_length_le (by rw [List.length_map,List.length_take];omega)]
  rfl
 have h1':i<s.length:=by omega
 refine ⟨⟨by omega,by omega⟩,?_⟩
 generalize hc:s.getD i 0=c at *
 refine an E' (fun k1=>?_) (fun k1=>?_)<;>simp only [go_sem]
 ·have hb:=hbl h1' (.inl (bT 32 k1))
  rw [ai (n:=(i:Int)+1) ⟨by omega,by omega⟩,hQ]
  simp only [go_sem]
  refine ⟨⟨(j,i+1),hb,by show j≤i+1;omega⟩,by show s.length-(i+1)<s.length-i;omega,id,?_⟩
  simp only [go_sem]
  all_goals ((repeat' apply And.intro)<;>first | rfl | trivial)
 refine ⟨⟨by omega,by omega⟩,?_⟩
 rw [hc]
 refine an E' (fun k2=>?_) (fun k2=>?_)<;>simp only [go_sem]
 ·have hb:=hbl h1' (.inr (.inl (bT 9 k2)))
  rw [ai (n:=(i:Int)+1) ⟨by omega,by omega⟩,hQ]
  simp only [go_sem]
  refine ⟨⟨(j,i+1),hb,by show j≤i+1;omega⟩,by show s.length-(i+1)<s.length-i;omega,id,?_⟩
  simp only [go_sem]
  all_goals ((repeat' apply And.intro)<;>first | rfl | trivial)
 refine ⟨⟨by omega,by omega⟩,?_⟩
 rw [hc]
 refine ah E' (fun k3=>?_) (fun k3=>?_)<;>simp only [go_sem]
 ·have hb:=hbl h1' (.inr (.inr (bT 10 k3)))
  rw [ai (n:=(i:Int)+1) ⟨by omega,by omega⟩,hQ]
  simp only [go_sem]
  refine ⟨⟨(j,i+1),hb,by show j≤i+1;omega⟩,by show s.length-(i+1)<s.length-i;omega,id,?_⟩
  simp only [go_sem]
  all_goals ((repeat' apply And.intro)<;>first | rfl | trivial)
 refine ⟨⟨by omega,by omega⟩,?_⟩
 rw [hc]
 refine ah E' (fun k4=>?_) (fun k4=>?_)<;>simp only [go_sem]
 ·have hR0:=hrm h1' (bT 35 k4)
  have hR1:=hR0.on h1' (by rw [hc,bT 35 k4];decide)
  refine az E' (X:={ y:Nat // RI s j y∧i≤y }) (fun y=>[(0,.d (.str s)),(2,.d .nils),(3,.d (i64 0)),(4,.d (i64 0)),(5,.vw [98] 0 j),(6,.d (i64 y.1))]) (fun y=>[([98],.arr (some 4) (((aE s).take j).map fun q=>ck (fP q)))]) [98] (fun y=>s.length-y.1) ⟨i,hR0,Nat.le_refl _⟩ id ?_ ?_
  ·simp only [go_sem]
   all_goals ((repeat' apply And.intro)<;>first | rfl | trivial)
  rintro ⟨i',hR,hii⟩ E1
  refine aC E1 fun Q2 hQ2 E2=>?_
  have hi2:=hR.hi
  simp only at hR hii hi2 ⊢
  simp only [go_sem]
  refine an E2 (fun g1=>?_) (fun g1=>?_)<;>simp only [go_sem]
  rotate_left
  ·have hA:=hR.out (fun h=>by omega)
   rw [hQ2]
   simp only [go_sem]
   rw [hQ]
   simp only [go_sem]
   refine ⟨⟨(j,i'),hA,by show j≤i';omega⟩,by show s.length-i' < s.length-i;omega,id,?_⟩
   simp only [go_sem]
   all_goals ((repeat' apply And.intro)<;>first | rfl | trivial)
  have hi3:i' < s.length:=by omega
  refine ⟨⟨by omega,by omega⟩,?_⟩
  refine ah E2 (fun g2=>?_) (fun g2=>?_)<;>simp only [go_sem]
  ·have hN:=hR.on hi3 (aO 10 g2)
   rw [ai (n:=(i':Int)+1) ⟨by omega,by omega⟩,hQ2]
   simp only [go_sem]
   refine ⟨⟨i'+1,hN,by omega⟩,by show s.length-(i'+1)<s.length-i';omega,id,?_⟩
   simp only [go_sem]
   all_goals ((repeat' apply And.intro)<;>first | rfl | trivial)
  ·have g3:s.getD i' 0=10:=bT 10 (by simpa using g2)
   have hA:=hR.out (fun _=>g3)
   have hne:i≠i':=fun h=>by
    rw [← h,hc,bT 35 k4] at g3
    exact absurd g3 (by decide)
   rw [hQ2]
   simp only [go_sem]
   rw [hQ]
   simp only [go_sem]
   refine ⟨⟨(j,i'),hA,by show j≤i';omega⟩,by show s.length-i' < s.length-i;omega,id,?_⟩
   simp only [go_sem]
   all_goals ((repeat' apply And.intro)<;>first | rfl | trivial)
 have hnb:¬ (c=32∨c=9∨c=10):=fun h=>h.elim (aO 32 k1) (fun h=>h.elim (aO 9 k2) (aO 10 k3))
 have htk:=htk h1' hnb (aO 35 k4)
 refine ag E' (DV s i h1' hl) rfl rfl (by simp) ?_
 rintro _ rfl
 unfold Bs
 rcases htk with ⟨he,hlx⟩ | ⟨he,hn1,htk,hjl,hA⟩
 ·rw [if_neg he]
  unfold ck noT
  generalize cn (s.drop i)=f at *
  simp only [go_sem]
  rw [decide_eq_true he]
  simp only [go_sem]
  rw [hQ]
  simp only [go_sem]
  rw [hlx] at hT
  refine ⟨[],?_⟩
  simp only [go_sem]
  rw [← hT,if_neg he]
 ·rw [if_pos he]
  unfold ck
  generalize hf:cn (s.drop i)=f at *
  have hin:=hA.hi
  simp only [go_sem]
  refine ⟨by omega,?_⟩
  have hap:List.take j (List.map (fun q=>D.agg [i64 (fP q).k,.str (fP q).s,i64 (fP q).n,i64 (fP q).pos]) (List.take j (aE s)))++[.agg [i64 f.t.k,.str f.t.s,i64 f.t.n,i64 (i:Nat)]]=((aE s).take (j+1)).map fun q=>ck (fP q):=by
   rw [htk,List.take_of_length_le (by rw [List.length_map,List.length_take];omega),List.map_append]
   rfl
  rw [hap,ai ⟨by omega,by omega⟩,hQ]
  simp only [go_sem]
  refine ⟨⟨(j+1,i+f.n),hA,by show j+1≤i+f.n;omega⟩,by show s.length-(i+f.n)<s.length-i;omega,tau [([98],[63])],?_⟩
  simp only [go_sem]
  rw [show ((i+f.n:Nat):Int)=(i:Int)+(f.n:Int) by omega]
  all_goals ((repeat' apply And.intro)<;>first | rfl | trivial)
end Go.Proofs.YtejpnabbmgpmaaaGreat

namespace Go.Proofs.YtejpnabbmgpmaaaGreat
open Go.Ab
structure PS where
 l:List Tok
 fin:Int
 err:Int
 pos:Int
 nest:Nat
def PS.peek (s:PS):Tok:=match s.l with
 | []=>⟨0,[],0,s.fin⟩
 | t::_=>t
def PS.next (s:PS):PS:={ s with l:=s.l.tail }
def PS.fail (s:PS) (e p:Int):PS:=if s.err=0 then { s with err:=e,pos:=p } else s
def PS.wrong (s:PS):PS:=s.fail 5 s.peek.pos
def PS.is (s:PS) (k:Int) (t:List UInt8):Bool:=!s.l.isEmpty && decide (s.peek.k=k) && decide (s.peek.s=t)
def PS.sees (s:PS) (k:Int) (t:List UInt8):Bool:=decide (s.err=0) && s.is k t
def PS.may (s:PS) (k:Int) (t:List UInt8):PS:=if s.sees k t then s.next else s
def PS.must (s:PS) (k:Int) (t:List UInt8):PS:=if s.sees k t then s.next else s.wrong
def PS.has (s:PS) (k:Int):Bool:=decide (s.err=0) && decide (s.peek.k=k)
def PS.of (s:PS) (k:Int):List UInt8 × PS:=if s.has k then (s.peek.s,s.next) else ([],s.wrong)
abbrev PR:=List EN × PS
def nd0 (k:Int) (pos:Int):EN:=⟨k,0,0,0,0,[],[],[],pos⟩
def bj (n:EN):List EN:=au n []
def noE:List EN:=bj (nd0 1 0)
def db (ns:List EN):EN:=ndE ns (ns.length-1)
def eI:List UInt8:=[116,114,117,101]
def cZ:List UInt8:=[102,97,108,115,101]
def e9:List UInt8:=[99,97,115,101]
def yn:List UInt8:=[102,117,110]
def yY:List UInt8:=[108,101,116]
def gy:List UInt8:=[114,101,99]
def bIn:List UInt8:=[105,110]
def bIf:List UInt8:=[105,102]
def gN:List UInt8:=[116,104,101,110]
def iF:List UInt8:=[101,108,115,101]
def bOf:List UInt8:=[111,102]
def vV:List UInt8:=[101,110,100]
def bTo:List UInt8:=[45,62]
section
variable (ex:PS→PR)
def PS.parted (s:PS) (t:Tok) (l:List EF):PS :=
 if s.err≠0 then s else if l.length=30 then s.fail 8 t.pos else if (l.any fun f=>decide (f.nm=t.s)) then s.fail 5 t.pos else s
def du (s:PS) (l:List EF):EF × PS :=
 let r:=s.of 2
 (⟨r.1,[],0⟩,((r.2.parted s.peek l).must 7 [61]))
def bI (s:PS) (l:List EF):EF × PS :=
 let r:=s.of 3
 let q:=(r.2.parted s.peek l).of 2
 (⟨r.1,q.1,0⟩,q.2.must 7 bTo)
def aP (between:List UInt8) (part:PS→List EF→EF × PS):Nat→PS→List EF→List (List EN)→List EF × List (List EN) × PS
 | 0,s,l,ks=>(l,ks,s)
 | m+1,s,l,ks =>
   let f:=part s l
   let e:=ex f.2
   if e.2.sees 7 between then aP between part m e.2.next (l++[f.1]) (ks++[e.1]) else (l++[f.1],ks++[e.1],e.2)
def cg (s:PS) (pos:Int):PR :=
 if s.sees 7 [125] then (bj (nd0 11 pos),s.next)
 else
  let r:=aP ex [44] du s.l.length.succ s [] []
  (au { nd0 11 pos with l:=r.1 } r.2.1,r.2.2.must 7 [125])
def eX (s:PS) (pos:Int):PR :=
 let e:=ex s
 let s1:=e.2.must 1 bOf
 let r:=aP ex [124] bI s1.l.length.succ s1 [] []
 (au { nd0 14 pos with l:=r.1 } (e.1::r.2.1),r.2.2.must 1 vV)
def cR (s:PS):PR :=
 let t:=s.peek
 if s.err≠0 then (noE,s.wrong)
 else if t.k=4 then (bj { nd0 1 t.pos with n:=t.n },s.next)
 else if t.k=5 then (bj { nd0 3 t.pos with s:=t.s },s.next)
 else if t.k=2 then (bj { nd0 4 t.pos with name:=t.s },s.next)
 else if s.sees 1 eI then (bj { nd0 2 t.pos with n:=1 },s.next)
 else if s.sees 1 cZ then (bj (nd0 2 t.pos),s.next)
 else if s.sees 7 [40] then
  let e:=ex s.next
  (e.1,e.2.must 7 [41])
 else if s.sees 7 [123] then cg ex s.next t.pos
 else if s.sees 1 e9 then eX ex s.next t.pos
 else (noE,s.wrong)
def ch:Nat→List EN→PS→PR
 | 0,a,s=>(a,s)
 | m+1,a,s=>if s.sees 7 [46] then ch m (au { nd0 12 s.peek.pos with name:=(s.next.of 2).1 } [a]) (s.next.of 2).2 else (a,s)
def cK (s:PS):PR :=
 let r:=cR ex s
 ch r.2.l.length.succ r.1 r.2
def PS.begins (s:PS):Bool :=
 let t:=s.peek
 decide (t.k=4) || decide (t.k=5) || decide (t.k=2) || (decide (t.k=1) && (decide (t.s=eI) || decide (t.s=cZ) || decide (t.s=e9))) || (decide (t.k=7) && (decide (t.s=[40]) || decide (t.s=[123])))
def gh:Nat→List EN→PS→PR
 | 0,a,s=>(a,s)
 | m+1,a,s=>if decide (s.err=0) && s.begins then gh m (au (nd0 6 (db a).pos) [a,(cK ex s).1]) (cK ex s).2 else (a,s)
def kq (s:PS):PR :=
 if s.has 3 then
  let r:=cK ex s.next
  (au { nd0 13 s.peek.pos with name:=s.peek.s } [r.1],r.2)
 else
  let r:=cK ex s
  gh ex r.2.l.length.succ r.1 r.2
def opS (s:PS):List (List UInt8 × Int)→Option Int
 | []=>none
 | q::r=>if s.sees 7 q.1 then some q.2 else opS s r
def bP:List (List UInt8 × Int):=[([42],3),([47],4)]
def cl:List (List UInt8 × Int):=[([43],1),([45],2),([94],7)]
def dE:List (List UInt8 × Int):=[([60],5),([61,61],6)]
def dS (ops:List (List UInt8 × Int)) (sub:PS→PR):Nat→List EN→PS→PR
 | 0,a,s=>(a,s)
 | m+1,a,s=>match opS s ops with
   | some n=>dS ops sub m (au { nd0 10 s.peek.pos with n:=n } [a,(sub s.next).1]) (sub s.next).2
   | none=>(a,s)
def iW (s:PS):PR:=dS bP (kq ex) (kq ex s).2.l.length.succ (kq ex s).1 (kq ex s).2
def nW (s:PS):PR:=dS cl (iW ex) (iW ex s).2.l.length.succ (iW ex s).1 (iW ex s).2
def pD (s:PS):PR :=
 let a:=nW ex s
 match opS a.2 dE with
 | some n =>
   let b:=nW ex a.2.next
   (au { nd0 10 a.2.peek.pos with n:=n } [a.1,b.1],b.2)
 | none=>a
def lz (s:PS) (pos:Int):PR :=
 let k:Int:=if s.sees 1 gy then 8 else 7
 let x:=(s.may 1 gy).of 2
 let s2:=x.2.must 7 [61]
 let a:=ex s2
 let s3:=if k=8∧(db a.1).k≠5 then a.2.fail 5 s2.peek.pos else a.2
 let b:=ex (s3.must 1 bIn)
 (au { nd0 k pos with name:=x.1 } [a.1,b.1],b.2)
def ifS (s:PS) (pos:Int):PR :=
 let a:=ex s
 let b:=ex (a.2.must 1 gN)
 let c:=ex (b.2.must 1 iF)
 (au (nd0 9 pos) [a.1,b.1,c.1],c.2)
def lA (s:PS):PR :=
 let t:=s.peek
 if s.sees 1 yn then
  let x:=s.next.of 2
  let b:=ex (x.2.must 7 bTo)
  (au { nd0 5 t.pos with name:=x.1 } [b.1],b.2)
 else if s.sees 1 yY then lz ex s.next t.pos
 else if s.sees 1 bIf then ifS ex s.next t.pos
 else pD ex s
end
def ei:Nat→PS→PR
 | 0,s=>(noE,s.fail 6 s.peek.pos)
 | m+1,s=>if s.err≠0 then (noE,s) else
   let r:=lA (ei m) { s with nest:=s.nest+1 }
   (r.1,{ r.2 with nest:=s.nest })
end Go.Proofs.YtejpnabbmgpmaaaGreat

namespace Go.Proofs.YtejpnabbmgpmaaaGreat
open Go.Ab
def PSo (N:Int) (s:PS):Prop:=(∀ t∈s.l,0≤t.pos∧t.pos≤N)∧(0≤s.fin∧s.fin≤N)∧(0≤s.pos∧s.pos≤N)
structure SS (s r:PS):Prop where
 suf:∃ k,r.l=s.l.drop k
 fin:r.fin=s.fin
 nest:r.nest=s.nest
 pos:∀ N,PSo N s→0≤r.pos∧r.pos≤N
theorem SS.refl (s:PS):SS s s:=⟨⟨0,rfl⟩,rfl,rfl,fun _ h=>h.2.2⟩
theorem SS.po {s r:PS} (h:SS s r) {N:Int} (g:PSo N s):PSo N r:=by
 obtain ⟨k,hk⟩:=h.suf
 refine ⟨fun t ht=>?_,by rw [h.fin];exact g.2.1,h.pos N g⟩
 rw [hk] at ht
 exact g.1 t (List.mem_of_mem_drop ht)
theorem SS.trans {a b c:PS} (h:SS a b) (g:SS b c):SS a c:=by
 obtain ⟨k,hk⟩:=h.suf
 obtain ⟨j,hj⟩:=g.suf
 exact ⟨⟨k+j,by rw [hj,hk,List.drop_drop]⟩,g.fin.trans h.fin,g.nest.trans h.nest,fun N hN=>g.pos N (h.po hN)⟩
theorem SS.len {s r:PS} (h:SS s r):r.l.length≤s.l.length:=by
 obtain ⟨k,hk⟩:=h.suf
 rw [hk,List.length_drop];omega
theorem SS.next (s:PS):SS s s.next:=⟨⟨1,by simp [PS.next]⟩,rfl,rfl,fun _ h=>h.2.2⟩
theorem gj {N:Int} {s:PS} (h:PSo N s):0≤s.peek.pos∧s.peek.pos≤N:=by
 unfold PS.peek
 split
 ·exact h.2.1
 ·rename_i t r e
  exact h.1 t (by rw [e];exact List.mem_cons_self)
theorem SS.fail (s:PS) (e p:Int) (h:∀ N,PSo N s→0≤p∧p≤N):SS s (s.fail e p):=by
 unfold PS.fail
 split
 ·exact ⟨⟨0,rfl⟩,rfl,rfl,h⟩
 ·exact SS.refl s
theorem SS.failp (s:PS) (e:Int):SS s (s.fail e s.peek.pos):=SS.fail s e _ fun _ h=>gj h
theorem SS.wrong (s:PS):SS s s.wrong:=SS.failp s 5
theorem SS.may (s:PS) (k:Int) (t:List UInt8):SS s (s.may k t):=by
 unfold PS.may;split
 ·exact SS.next s
 ·exact SS.refl s
theorem SS.must (s:PS) (k:Int) (t:List UInt8):SS s (s.must k t):=by
 unfold PS.must;split
 ·exact SS.next s
 ·exact SS.wrong s
theorem SS.of (s:PS) (k:Int):SS s (s.of k).2:=by
 unfold PS.of;split
 ·exact SS.next s
 ·exact SS.wrong s
theorem ax {s:PS} {k:Int} {t:List UInt8} (h:s.sees k t=true):s.next.l.length+1=s.l.length:=by
 unfold PS.sees PS.is at h
 simp only [Bool.and_eq_true,Bool.not_eq_true',decide_eq_true_eq] at h
 have:s.l≠[]:=by
  intro e;rw [e] at h;simp at h
 show s.l.tail.length+1=_
 rw [List.length_tail]
 have:=List.length_pos_iff.2 this
 omega
theorem cY {s:PS} {k:Int} (h:s.peek.k=k) (hk:k≠0):s.next.l.length+1=s.l.length:=by
 have:s.l≠[]:=by
  intro e;unfold PS.peek at h;rw [e] at h;exact hk h.symm
 show s.l.tail.length+1=_
 rw [List.length_tail]
 have:=List.length_pos_iff.2 this
 omega
theorem v9 {s:PS} {k:Int} (h:s.has k=true) (hk:k≠0):s.next.l.length+1=s.l.length:=by
 unfold PS.has at h
 simp only [Bool.and_eq_true,decide_eq_true_eq] at h
 exact cY h.2 hk
def aT (ls:List (List EN)):Nat:=(ls.map List.length).sum
theorem kU:∀ (ls:List (List EN)) (acc:List EN) (rs:List Int),(cH ls acc rs).1.length=acc.length+aT ls
 | [],_,_=>by simp [cH,aT]
 | l::r,acc,rs=>by
   rw [cH,kU r]
   simp [aT,Nat.add_assoc]
theorem cU (n:EN) (ls:List (List EN)):(au n ls).length=aT ls+1:=by
 simp [au,kU]
def eK (b:Nat) (ns:List EN):Prop:=∀ n∈ns,n.l.length≤b
theorem wP (n:EN) (ks:List Int):(bk n ks).l.length≤n.l.length:=by
 show (if aH n.k then aX ks (aF n.k) n.l 0 else []).length≤_
 split
 ·rw [dm];exact Nat.le_refl _
 ·exact Nat.zero_le _
theorem ug {b:Nat}:∀ (ls:List (List EN)) (acc:List EN) (rs:List Int),(∀ l∈ls,eK b l)→eK b acc→eK b (cH ls acc rs).1
 | [],_,_,_,h=>h
 | l::r,acc,rs,hl,h=>by
   refine ug r _ _ (fun x hx=>hl x (List.mem_cons_of_mem _ hx)) fun n hn=>?_
   rcases List.mem_append.1 hn with hn | hn
   ·exact h n hn
   ·obtain ⟨m,hm,rfl⟩:=List.mem_map.1 hn
    exact Nat.le_trans (wP _ _) (hl l List.mem_cons_self m hm)
theorem dk {b:Nat} {n:EN} {ls:List (List EN)} (hn:n.l.length≤b) (hl:∀ l∈ls,eK b l):eK b (au n ls):=by
 intro m hm
 rcases List.mem_append.1 hm with hm | hm
 ·exact ug ls [] [] hl (fun _ h=>by cases h) m hm
 ·rw [List.mem_singleton.1 hm]
  exact Nat.le_trans (wP _ _) hn
theorem eK.mono {b c:Nat} {ns:List EN} (h:eK b ns) (hc:b≤c):eK c ns:=fun n hn=>Nat.le_trans (h n hn) hc
structure GP (d:Nat) (s:PS) (r:PR):Prop where
 ss:SS s r.2
 tr:Tr r.1
 sz:r.1.length+4*r.2.l.length≤4*s.l.length+d
 wd:eK (s.l.length+1-r.2.l.length) r.1
theorem GP.pre {d e:Nat} {s s':PS} {r:PR} (h:GP d s' r) (hs:SS s s') (he:4*s'.l.length+d≤4*s.l.length+e):GP e s r :=
 ⟨hs.trans h.ss,h.tr,Nat.le_trans h.sz he,h.wd.mono (by have:=hs.len;omega)⟩
theorem GP.post {d:Nat} {s:PS} {l:List EN} {s' s'':PS} (h:GP d s (l,s')) (hs:SS s' s''):GP d s (l,s'') :=
 ⟨h.ss.trans hs,h.tr,by have:=h.sz;have:=hs.len;simp only at *;omega,h.wd.mono (by have:=hs.len;have:=h.ss.len;simp only at *;omega)⟩
theorem GP.leaf {s s':PS} {n:EN} (hn:bf n=0) (hl:n.l=[]) (hs:SS s s') {d:Nat} (hd:1+4*s'.l.length≤4*s.l.length+d):GP d s (bj n,s') :=
 ⟨hs,.join n [] hn (fun _ h=>by cases h),by show (au n []).length+_≤_;rw [cU];simp only [aT,List.map_nil,List.sum_nil];omega,dk (by rw [hl];exact Nat.zero_le _) (fun _ h=>by cases h)⟩
theorem GP.sI {s s1:PS} {a:PR} {n:EN} {d e:Nat} (ha:GP d s1 a) (hs:SS s s1) (hn:bf n=1) (hl:n.l=[]) (he:4*s1.l.length+d+1≤4*s.l.length+e):GP e s (au n [a.1],a.2):=by
 have h1:=ha.sz
 have h3:=hs.len
 refine ⟨hs.trans ha.ss,.join n _ hn (fun l h=>by rw [List.mem_singleton.1 h];exact ha.tr),?_,dk (by rw [hl];exact Nat.zero_le _) fun l h=>?_⟩
 ·rw [cU]
  simp only [aT,List.map_cons,List.map_nil,List.sum_cons,List.sum_nil]
  omega
 ·rw [List.mem_singleton.1 h]
  exact ha.wd.mono (by simp only;omega)
theorem GP.iZ {s s1 s2:PS} {a b:PR} {n:EN} {d d' e:Nat} (ha:GP d s1 a) (hb:GP d' s2 b) (hs:SS s s1) (hm:SS a.2 s2) (hn:bf n=2) (hl:n.l=[])
  (he:4*s1.l.length+4*s2.l.length+d+d'+1≤4*s.l.length+4*a.2.l.length+e):GP e s (au n [a.1,b.1],b.2):=by
 have h1:=ha.sz
 have h2:=hb.sz
 have h3:=hs.len
 have h4:=hm.len
 have h5:=ha.ss.len
 have h6:=hb.ss.len
 refine ⟨((hs.trans ha.ss).trans hm).trans hb.ss,.join n _ hn (fun l h=>?_),?_,dk (by rw [hl];exact Nat.zero_le _) fun l h=>?_⟩
 ·rcases List.mem_cons.1 h with rfl | h
  ·exact ha.tr
  ·rw [List.mem_singleton.1 h];exact hb.tr
 ·rw [cU]
  simp only [aT,List.map_cons,List.map_nil,List.sum_cons,List.sum_nil]
  omega
 ·rcases List.mem_cons.1 h with rfl | h
  ·exact ha.wd.mono (by simp only;omega)
  ·rw [List.mem_singleton.1 h];exact hb.wd.mono (by simp only;omega)
theorem GP.IE {s s1 s2 s3:PS} {a b c:PR} {n:EN} {d e:Nat} (ha:GP d s1 a) (hb:GP d s2 b) (hc:GP d s3 c) (hs:SS s s1) (hm:SS a.2 s2) (hm':SS b.2 s3) (hn:bf n=3) (hl:n.l=[])
  (he:4*s1.l.length+3*d+1≤4*s.l.length+e):GP e s (au n [a.1,b.1,c.1],c.2):=by
 have h1:=ha.sz
 have h2:=hb.sz
 have h2':=hc.sz
 have h3:=hs.len
 have h4:=hm.len
 have h4':=hm'.len
 have h5:=ha.ss.len
 have h6:=hb.ss.len
 have h7:=hc.ss.len
 refine ⟨((((hs.trans ha.ss).trans hm).trans hb.ss).trans hm').trans hc.ss,.join n _ hn (fun l h=>?_),?_,dk (by rw [hl];exact Nat.zero_le _) fun l h=>?_⟩
 ·simp only [List.mem_cons,List.not_mem_nil,or_false] at h
  rcases h with rfl | rfl | rfl
  ·exact ha.tr
  ·exact hb.tr
  ·exact hc.tr
 ·rw [cU]
  simp only [aT,List.map_cons,List.map_nil,List.sum_cons,List.sum_nil]
  omega
 ·simp only [List.mem_cons,List.not_mem_nil,or_false] at h
  rcases h with rfl | rfl | rfl
  ·exact ha.wd.mono (by simp only;omega)
  ·exact hb.wd.mono (by simp only;omega)
  ·exact hc.wd.mono (by simp only;omega)
end Go.Proofs.YtejpnabbmgpmaaaGreat

namespace Go.Proofs.YtejpnabbmgpmaaaGreat
open Go.Ab
theorem SS.parted (s:PS) (t:Tok) (l:List EF) (h:∀ N,PSo N s→0≤t.pos∧t.pos≤N):SS s (s.parted t l):=by
 unfold PS.parted
 split
 ·exact SS.refl s
 split
 ·exact SS.fail s _ _ h
 split
 ·exact SS.fail s _ _ h
 ·exact SS.refl s
theorem SS.withp {s r:PS} (h:SS s r) (e p:Int) (hp:∀ N,PSo N s→0≤p∧p≤N):SS s (r.fail e p):=by
 unfold PS.fail
 split
 ·exact ⟨h.suf,h.fin,h.nest,hp⟩
 ·exact h
theorem SS.partp {s r:PS} (h:SS s r) (t:Tok) (l:List EF) (hp:∀ N,PSo N s→0≤t.pos∧t.pos≤N):SS s (r.parted t l):=by
 unfold PS.parted
 split
 ·exact h
 split
 ·exact SS.withp h _ _ hp
 split
 ·exact SS.withp h _ _ hp
 ·exact h
theorem SS.field (s:PS) (l:List EF):SS s (du s l).2 :=
 (SS.partp (SS.of s 2) s.peek l fun _ h=>gj h).trans (SS.must _ _ _)
theorem SS.branch (s:PS) (l:List EF):SS s (bI s l).2 :=
 ((SS.partp (SS.of s 3) s.peek l fun _ h=>gj h).trans (SS.of _ _)).trans (SS.must _ _ _)
structure PGood (s:PS) (l:List EF) (ks:List (List EN)) (R:List EF × List (List EN) × PS):Prop where
 ss:SS s R.2.2
 eq:R.1.length=R.2.1.length
 tr:∀ k∈R.2.1,Tr k
 sz:aT R.2.1+4*R.2.2.l.length+3*R.1.length≤aT ks+4*s.l.length+3*l.length+4
 ln:R.1.length+R.2.2.l.length≤l.length+s.l.length+1
 wd:∀ b,(∀ k∈ks,eK b k)→s.l.length+1≤b+R.2.2.l.length→∀ k∈R.2.1,eK b k
theorem pV (ks:List (List EN)) (k:List EN):aT (ks++[k])=aT ks+k.length:=by simp [aT]
theorem p3 (ex:PS→PR) (b:List UInt8) (part:PS→List EF→EF × PS):∀ (m:Nat) (s:PS) (l:List EF) (ks:List (List EN)),1≤(aP ex b part (m+1) s l ks).1.length
 | 0,s,l,ks=>by
   unfold aP;simp only
   split
   ·simp [aP]
   ·simp
 | m+1,s,l,ks=>by
   unfold aP;simp only
   split
   ·exact p3 ex b part m _ _ _
   ·simp
section
variable {ex:PS→PR} (hex:∀ s,GP 1 s (ex s))
include hex
theorem dH (between:List UInt8) (part:PS→List EF→EF × PS) (hp:∀ s l,SS s (part s l).2):∀ (m:Nat) (s:PS) (l:List EF) (ks:List (List EN)),l.length=ks.length→(∀ k∈ks,Tr k) →
  PGood s l ks (aP ex between part m s l ks)
 | 0,s,l,ks,hl,ht=>⟨SS.refl s,hl,ht,by show aT ks+4*s.l.length+3*l.length≤_;omega,by show l.length+s.l.length≤_;omega,fun b h _=>h⟩
 | m+1,s,l,ks,hl,ht=>by
   have hf:=hp s l
   have he:=hex (part s l).2
   have h1:=he.sz
   have h2:=hf.len
   have h3:=he.ss.len
   have hks:∀ k∈ks++[(ex (part s l).2).1],Tr k:=fun k hk=>by
    rcases List.mem_append.1 hk with hk | hk
    ·exact ht k hk
    ·rw [List.mem_singleton.1 hk];exact he.tr
   unfold aP
   simp only
   split
   ·rename_i hs
    have h4:=ax hs
    have ih:=dH between part hp m (ex (part s l).2).2.next (l++[(part s l).1]) (ks++[(ex (part s l).2).1]) (by simp [hl]) hks
    have h5:=ih.ss.len
    have h6:=ih.sz
    have h7:=ih.ln
    rw [pV] at h6
    simp only [List.length_append,List.length_singleton] at h6 h7
    refine ⟨((hf.trans he.ss).trans (SS.next _)).trans ih.ss,ih.eq,ih.tr,by omega,by omega,fun b hb hle=>ih.wd b (fun k hk=>?_) (by omega)⟩
    rcases List.mem_append.1 hk with hk | hk
    ·exact hb k hk
    ·rw [List.mem_singleton.1 hk];exact he.wd.mono (by omega)
   ·refine ⟨hf.trans he.ss,by simp [hl],hks,?_,?_,fun b hb hle k hk=>?_⟩
    ·rw [pV];simp only [List.length_append,List.length_singleton];omega
    ·simp only [List.length_append,List.length_singleton];omega
    ·simp only at hle
     rcases List.mem_append.1 hk with hk | hk
     ·exact hb k hk
     ·rw [List.mem_singleton.1 hk];exact he.wd.mono (by omega)
theorem ga (s:PS) (pos:Int):GP 2 s (cg ex s pos):=by
 unfold cg
 split
 ·exact GP.leaf rfl rfl (SS.next s) (by rename_i h;have:=ax h;omega)
 ·have h:=dH hex [44] du SS.field s.l.length.succ s [] [] rfl (fun _ h=>by cases h)
  generalize aP ex [44] du s.l.length.succ s [] []=R at h
  have h1:=h.sz
  have h2:=h.ln
  have h3:=h.ss.len
  have h4:=(SS.must R.2.2 7 [125]).len
  simp only [aT,List.map_nil,List.sum_nil,List.length_nil] at h1 h2
  refine ⟨h.ss.trans (SS.must _ _ _),.join _ _ (by show 0+R.1.length=_;rw [h.eq];omega) h.tr,?_,dk (by show R.1.length≤_;simp only;omega) (h.wd _ (fun _ h=>by cases h) (by simp only;omega))⟩
  rw [cU]
  simp only [aT]
  have h5:R.1=[]∨1≤R.1.length:=by cases R.1<;>simp
  rcases h5 with h5 | h5
  ·have:R.2.1=[]:=List.length_eq_zero_iff.1 (by rw [← h.eq,h5];rfl)
   rw [this];simp only [List.map_nil,List.sum_nil];omega
  ·omega
theorem j5 (s:PS) (pos:Int):GP 3 s (eX ex s pos):=by
 unfold eX
 have he:=hex s
 have hm:=SS.must (ex s).2 1 bOf
 simp only
 generalize (ex s).2.must 1 bOf=s1 at hm
 have h:=dH hex [124] bI SS.branch s1.l.length.succ s1 [] [] rfl (fun _ h=>by cases h)
 generalize hR:aP ex [124] bI s1.l.length.succ s1 [] []=R at h
 have h1:=h.sz
 have h2:=h.ln
 have h3:=h.ss.len
 have h4:=(SS.must R.2.2 1 vV).len
 have h5:=he.sz
 have h6:=he.ss.len
 have h7:=hm.len
 have h8:1≤R.1.length:=by
  rw [← hR]
  exact p3 _ _ _ _ _ _ _
 simp only [aT,List.map_nil,List.sum_nil,List.length_nil] at h1 h2
 refine ⟨((he.ss.trans hm).trans h.ss).trans (SS.must _ _ _),.join _ _ (by show 1+R.1.length=_;rw [h.eq,List.length_cons];omega) (fun l hl=>?_),?_,dk (by show R.1.length≤_;simp only;omega) fun l hl=>?_⟩
 ·rcases List.mem_cons.1 hl with rfl | hl
  ·exact he.tr
  ·exact h.tr l hl
 ·rw [cU]
  simp only [aT,List.map_cons,List.sum_cons]
  omega
 ·rcases List.mem_cons.1 hl with rfl | hl
  ·exact he.wd.mono (by simp only;omega)
  ·exact h.wd _ (fun _ h=>by cases h) (by simp only;omega) l hl
def GQ (s:PS) (r:PR):Prop:=GP 1 s r∧(r.2.l.length<s.l.length→r.1.length+4*r.2.l.length+1≤4*s.l.length)
theorem lO (s:PS):GQ s (cR ex s):=by
 have lf:∀ n:EN,bf n=0→n.l=[]→s.next.l.length+1=s.l.length→GQ s (bj n,s.next):=fun n h1 h2 h3 =>
  ⟨GP.leaf h1 h2 (SS.next s) (by omega),fun _=>by show (au n []).length+_+1≤_;rw [cU];simp only [aT,List.map_nil,List.sum_nil];omega⟩
 have no:GQ s (noE,s.wrong):=⟨GP.leaf rfl rfl (SS.wrong s) (by have:=(SS.wrong s).len;omega),fun h=>absurd h (by show ¬ s.wrong.l.length<_;unfold PS.wrong PS.fail;split<;>simp)⟩
 unfold cR
 simp only
 split
 ·exact no
 split
 ·rename_i h;exact lf _ rfl rfl (cY h (by decide))
 split
 ·rename_i h;exact lf _ rfl rfl (cY h (by decide))
 split
 ·rename_i h;exact lf _ rfl rfl (cY h (by decide))
 split
 ·rename_i h;exact lf _ rfl rfl (ax h)
 split
 ·rename_i h;exact lf _ rfl rfl (ax h)
 split
 ·rename_i h
  have h1:=ax h
  have he:=hex s.next
  have h2:=he.sz
  have h3:=(SS.must (ex s.next).2 7 [41]).len
  exact ⟨(GP.pre (e:=1) (r:=((ex s.next).1,(ex s.next).2)) he (SS.next s) (by omega)).post (SS.must _ _ _),fun _=>by simp only;omega⟩
 split
 ·rename_i h
  have h1:=ax h
  have he:=ga hex s.next s.peek.pos
  have h2:=he.sz
  exact ⟨he.pre (SS.next s) (by omega),fun _=>by omega⟩
 split
 ·rename_i h
  have h1:=ax h
  have he:=j5 hex s.next s.peek.pos
  have h2:=he.sz
  exact ⟨he.pre (SS.next s) (by omega),fun _=>by omega⟩
 ·exact no
omit hex in
theorem gJ (s0:PS):∀ (m:Nat) (a:List EN) (s:PS),GQ s0 (a,s)→GQ s0 (ch m a s)
 | 0,_,_,h=>h
 | m+1,a,s,h=>by
   unfold ch
   split
   ·rename_i hs
    refine gJ s0 m _ _ ?_
    have h1:=ax hs
    have h2:=(SS.of s.next 2).len
    have h3:=h.1.sz
    have h4:=h.1.ss.len
    simp only at h3 h4
    have hj:(au { nd0 12 s.peek.pos with name:=(s.next.of 2).1 } [a]).length=a.length+1:=by rw [cU];simp [aT]
    refine ⟨⟨(h.1.ss.trans (SS.next s)).trans (SS.of _ _),.join _ _ rfl (fun l hl=>by rw [List.mem_singleton.1 hl];exact h.1.tr),by rw [hj];simp only;omega,dk (Nat.zero_le _) fun l hl=>by rw [List.mem_singleton.1 hl];exact h.1.wd.mono (by simp only;omega)⟩,fun _=>by rw [hj];simp only;omega⟩
   ·exact h
theorem fm (s:PS):GQ s (cK ex s):=gJ s _ _ _ (lO hex s)
omit hex in
theorem oA:∀ (m:Nat) (a:List EN) (s:PS),(ch m a s).2.l.length≤s.l.length
 | 0,_,_=>Nat.le_refl _
 | m+1,a,s=>by
   unfold ch
   split
   ·have:=oA m (au { nd0 12 s.peek.pos with name:=(s.next.of 2).1 } [a]) (s.next.of 2).2
    have:=(SS.of s.next 2).len
    have:=(SS.next s).len
    omega
   ·exact Nat.le_refl _
theorem lJ {s:PS} (he:s.err=0) (hb:s.begins=true):(cK ex s).2.l.length<s.l.length:=by
 have h1:=oA (cR ex s).2.l.length.succ (cR ex s).1 (cR ex s).2
 have key:(cR ex s).2.l.length<s.l.length:=by
  unfold PS.begins at hb
  simp only [Bool.or_eq_true,Bool.and_eq_true,decide_eq_true_eq] at hb
  unfold cR
  simp only [he,ne_eq,not_true_eq_false,if_false]
  have hk:∀ k:Int,s.peek.k=k→k≠0→s.next.l.length<s.l.length:=fun k h h0=>by have:=cY h h0;omega
  have hne:∀ k:Int,s.peek.k=k→k≠0→s.l.isEmpty=false:=fun k h h0=>by
   have:=cY h h0
   cases hl:s.l with
   | nil=>rw [hl] at this;simp at this
   | cons _ _=>rfl
  split
  ·rename_i h;exact hk 4 h (by decide)
  split
  ·rename_i h;exact hk 5 h (by decide)
  split
  ·rename_i h;exact hk 2 h (by decide)
  rename_i g4 g5 g2
  split
  ·rename_i h;have:=ax h;simp only;omega
  rename_i g1
  split
  ·rename_i h;have:=ax h;simp only;omega
  rename_i g3
  split
  ·rename_i h
   have:=ax h
   have:=(hex s.next).ss.len
   have:=(SS.must (ex s.next).2 7 [41]).len
   simp only;omega
  rename_i g6
  split
  ·rename_i h
   have:=ax h
   have:=(ga hex s.next s.peek.pos).ss.len
   omega
  rename_i g7
  split
  ·rename_i h
   have:=ax h
   have:=(j5 hex s.next s.peek.pos).ss.len
   omega
  rename_i g8
  exfalso
  have see:∀ k t,k≠0→s.peek.k=k→s.peek.s=t→s.sees k t=true:=fun k t h0 h h'=>by
   simp [PS.sees,PS.is,he,h,h',hne k h h0]
  rcases hb with (((h | h) | h) | ⟨h,h'⟩) | ⟨h,h'⟩
  ·exact g4 h
  ·exact g5 h
  ·exact g2 h
  ·rcases h' with (h' | h') | h'
   ·exact g1 (see 1 _ (by decide) h h')
   ·exact g3 (see 1 _ (by decide) h h')
   ·exact g8 (see 1 _ (by decide) h h')
  ·rcases h' with h' | h'
   ·exact g6 (see 7 _ (by decide) h h')
   ·exact g7 (see 7 _ (by decide) h h')
 exact Nat.lt_of_le_of_lt h1 key
theorem jF (s0:PS):∀ (m:Nat) (a:List EN) (s:PS),GP 1 s0 (a,s)→GP 1 s0 (gh ex m a s)
 | 0,_,_,h=>h
 | m+1,a,s,h=>by
   unfold gh
   split
   ·rename_i hs
    simp only [Bool.and_eq_true,decide_eq_true_eq] at hs
    have hp:=fm hex s
    have hl:=lJ hex hs.1 hs.2
    have h2:=hp.2 hl
    have h3:=h.sz
    have h4:=h.ss.len
    simp only at h3 h4
    refine jF s0 m _ _ ⟨h.ss.trans hp.1.ss,.join _ _ rfl (fun l hl=>?_),?_,dk (Nat.zero_le _) fun l hl=>?_⟩
    ·rcases List.mem_cons.1 hl with rfl | hl
     ·exact h.tr
     ·rw [List.mem_singleton.1 hl];exact hp.1.tr
    ·rw [cU]
     simp only [aT,List.map_cons,List.map_nil,List.sum_cons,List.sum_nil]
     omega
    ·rcases List.mem_cons.1 hl with rfl | hl
     ·exact h.wd.mono (by simp only;omega)
     ·rw [List.mem_singleton.1 hl];exact hp.1.wd.mono (by simp only;omega)
   ·exact h
theorem iP (s:PS):GP 1 s (kq ex s):=by
 unfold kq
 simp only
 split
 ·rename_i h
  have h1:=v9 h (by decide)
  exact GP.sI (fm hex s.next).1 (SS.next s) rfl rfl (by omega)
 ·exact jF hex s _ _ _ (fm hex s).1
omit hex in
theorem dG {s:PS}:∀ {ops:List (List UInt8 × Int)} {n:Int},opS s ops=some n→s.next.l.length+1=s.l.length
 | [],_,h=>by cases h
 | q::r,n,h=>by
   unfold opS at h
   split at h
   ·rename_i hs;exact ax hs
   ·exact dG h
omit hex in
theorem ji (ops:List (List UInt8 × Int)) (sub:PS→PR) (hsub:∀ s,GP 1 s (sub s)) (s0:PS):∀ (m:Nat) (a:List EN) (s:PS),GP 1 s0 (a,s)→GP 1 s0 (dS ops sub m a s)
 | 0,_,_,h=>h
 | m+1,a,s,h=>by
   unfold dS
   split
   ·rename_i n ho
    have h1:=dG ho
    exact ji ops sub hsub s0 m _ _ (GP.iZ (s1:=s0) (a:=(a,s)) h (hsub s.next) (SS.refl s0) (SS.next s) rfl rfl (by simp only;omega))
   ·exact h
theorem gO (s:PS):GP 1 s (iW ex s):=ji _ _ (iP hex) s _ _ _ (iP hex s)
theorem iU (s:PS):GP 1 s (nW ex s):=ji _ _ (gO hex) s _ _ _ (gO hex s)
theorem sZ (s:PS):GP 1 s (pD ex s):=by
 unfold pD
 simp only
 split
 ·rename_i n ho
  have h1:=dG ho
  exact GP.iZ (iU hex s) (iU hex _) (SS.refl s) (SS.next _) rfl rfl (by omega)
 ·exact iU hex s
omit hex in
theorem md (s:PS) (e p:Int):(s.fail e p).l=s.l:=by unfold PS.fail;split<;>rfl
theorem oE (s:PS) (pos:Int):GP 3 s (lz ex s pos):=by
 unfold lz
 simp only
 obtain ⟨k,hk⟩:∃ k:Int,k=if s.sees 1 gy=true then 8 else 7:=⟨_,rfl⟩
 rw [← hk]
 have h0:=(SS.may s 1 gy).trans ((SS.of (s.may 1 gy) 2).trans (SS.must ((s.may 1 gy).of 2).2 7 [61]))
 generalize (((s.may 1 gy).of 2).2.must 7 [61])=s2 at h0
 have ha:=hex s2
 obtain ⟨s3,hq⟩:∃ s3,s3=if k=8∧(db (ex s2).1).k≠5 then (ex s2).2.fail 5 s2.peek.pos else (ex s2).2:=⟨_,rfl⟩
 rw [← hq]
 have hb:=hex (s3.must 1 bIn)
 have hss:SS s2 s3:=by
  by_cases c:k=8∧(db (ex s2).1).k≠5
  ·rw [if_pos c] at hq;rw [hq];exact SS.withp ha.ss _ _ fun _ h=>gj h
  ·rw [if_neg c] at hq;rw [hq];exact ha.ss
 have hl:s3.l=(ex s2).2.l:=by
  by_cases c:k=8∧(db (ex s2).1).k≠5
  ·rw [if_pos c] at hq;rw [hq];exact md _ _ _
  ·rw [if_neg c] at hq;rw [hq]
 have ha':GP 1 s2 ((ex s2).1,s3):=⟨hss,ha.tr,by simp only [hl];exact ha.sz,by simp only [hl];exact ha.wd⟩
 have h3:=(SS.must s3 1 bIn).len
 have h4:=h0.len
 refine GP.iZ (a:=((ex s2).1,s3)) ha' hb h0 (SS.must _ _ _) ?_ rfl (by simp only;omega)
 rw [hk]
 split<;>rfl
theorem r9 (s:PS) (pos:Int):GP 4 s (ifS ex s pos):=by
 unfold ifS
 simp only
 exact GP.IE (hex s) (hex _) (hex _) (SS.refl s) (SS.must _ _ _) (SS.must _ _ _) rfl rfl (by omega)
theorem yp (s:PS):GP 1 s (lA ex s):=by
 unfold lA
 simp only
 split
 ·rename_i h
  have h1:=ax h
  have h2:=(SS.of s.next 2).len
  have h3:=(SS.must (s.next.of 2).2 7 bTo).len
  exact GP.sI (hex _) ((SS.next s).trans ((SS.of _ _).trans (SS.must _ _ _))) rfl rfl (by omega)
 split
 ·rename_i h
  have h1:=ax h
  exact (oE hex s.next _).pre (SS.next s) (by omega)
 split
 ·rename_i h
  have h1:=ax h
  exact (r9 hex s.next _).pre (SS.next s) (by omega)
 ·exact sZ hex s
end
theorem dK:∀ (m:Nat) (s:PS),GP 1 s (ei m s)
 | 0,s=>GP.leaf rfl rfl (SS.failp s 6) (by have:=(SS.failp s 6).len;omega)
 | m+1,s=>by
   unfold ei
   split
   ·exact GP.leaf rfl rfl (SS.refl s) (by omega)
   ·have h:=yp (dK m) { s with nest:=s.nest+1 }
    refine ⟨⟨h.ss.suf,h.ss.fin,rfl,fun N hN=>h.ss.pos N hN⟩,h.tr,h.sz,h.wd⟩
end Go.Proofs.YtejpnabbmgpmaaaGreat

namespace Go.Proofs.YtejpnabbmgpmaaaGreat
open Go.Ab
theorem Jh:∀ (m:Nat) (ks:List Int),m≤3→ki [.int .i64 0,.int .i64 0,.int .i64 0] ((ks.take m).map i64) 0 3=[i64 (if 0<m then ks.getD 0 0 else 0),i64 (if 1<m then ks.getD 1 0 else 0),i64 (if 2<m then ks.getD 2 0 else 0)]
 | 0,_,_=>rfl
 | 1,[],_=>rfl
 | 2,[],_=>rfl
 | 3,[],_=>rfl
 | 1,[x],_=>rfl
 | 2,[x],_=>rfl
 | 3,[x],_=>rfl
 | 1,x::y::r,_=>by simp [ki,i64]
 | 2,[x,y],_=>rfl
 | 3,[x,y],_=>rfl
 | 2,x::y::z::r,_=>by simp [ki,i64]
 | 3,[x,y,z],_=>rfl
 | 3,x::y::z::w::r,_=>by simp [ki,i64]
theorem A3 {α:Type} (k:Nat) (l:List α) (N:Nat) (h:l.length=N) [Decidable ((N:Int)<(k:Int))]:List.take ((if (N:Int)<(k:Int) then (N:Int) else (k:Int)).toNat-0) l=l.take k:=by
 split
 ·rw [List.take_of_length_le (by omega),List.take_of_length_le (by omega)]
 ·congr 1
theorem CO {G}:HCall Tryz.prog G 156 [.d .nils] [] [] (fun r hp'=>r=.vw [0] 0 0∧hp'=[([0],.arr (some 3) [])]):=by
 refine HCall.thaw (Q:=fun r hp'=>(r=.d .nils∧hp'=[])∨(r=.vw [0] 0 0∧hp'=[([0],.arr (some 3) [])])) ?_ 0 (some 3) (by simp) ?_
 ·refine aq Tryz.func156 rfl (by decide +kernel) (by simp [Tryz.ntmps156]) (veil fun E=>?_)
  simp only [go_sem]
  refine DS E 3 (some 3) rfl ?_
  refine rT E (e:=177) (by simp only [go_sem]) (by simp only [go_sem]) rfl fun b hb=>?_
  simp only [go_sem]
  refine aB E (fun h=>?_) (fun h=>?_)<;>simp only [go_sem]
  ·refine ⟨_,[],[],id,.inl ⟨rfl,rfl⟩,?_⟩
   simp only [go_sem]
  ·refine ⟨_,_,[0],tau [([0],[7])],.inr ⟨rfl,rfl⟩,?_⟩
   simp only [go_sem]
 ·rintro r hp' (⟨rfl,rfl⟩ | h)
  ·exact .inr ⟨rfl,rfl,rfl,rfl⟩
  ·exact .inl h
theorem av {ks:List Int} {k:Nat} (h:k<ks.length):(ks.map i64).getD k .nilp=i64 (ks.getD k 0):=by simp [h]
theorem l5 (ks:List Int) (o:Nat):∀ (a b:List EF) (i:Nat),aX ks o (a++b) i=aX ks o a i++aX ks o b (i+a.length)
 | [],b,i=>by simp [aX]
 | f::r,b,i=>by
   simp only [List.cons_append,aX,l5 ks o r b (i+1),List.length_cons]
   rw [show i+1+r.length=i+(r.length+1) by omega]
def eL (ks:List Int) (o:Nat) (l:List EF) (i:Nat):List EF:=aX ks o (l.take i) 0++l.drop i
theorem yu (ks:List Int) (o:Nat) (l:List EF) (i:Nat):(eL ks o l i).length=l.length:=by
 simp only [eL,List.length_append,dm,List.length_take,List.length_drop];omega
theorem u5 (ks:List Int) (o:Nat) (l:List EF):eL ks o l 0=l:=by simp [eL,aX]
theorem zr (ks:List Int) (o:Nat) (l:List EF):eL ks o l l.length=aX ks o l 0:=by simp [eL]
theorem uQ {ks:List Int} {o:Nat} {l:List EF} {i:Nat} (h:i<l.length):eL ks o l (i+1)=(eL ks o l i).set i (if o+i<ks.length then { fdE l i with to:=ks.getD (o+i) 0 } else fdE l i):=by
 have h1:l.take (i+1)=l.take i++[l[i]]:=by simp
 have h2:l.drop i=l[i]::l.drop (i+1):=List.drop_eq_getElem_cons h
 have hf:fdE l i=l[i]:=by simp [fdE,h]
 unfold eL
 rw [h1,l5,h2,hf]
 have h3:(aX ks o (l.take i) 0).length=i:=by rw [dm,List.length_take];omega
 rw [List.set_append_right _ _ (by omega),h3,Nat.sub_self]
 simp only [aX,Nat.zero_add,List.length_take,Nat.min_eq_left (Nat.le_of_lt h),List.append_assoc,List.singleton_append,List.set_cons_zero]
theorem qu {ks:List Int} {o:Nat} {l:List EF} {i:Nat} (h:i<l.length):(eL ks o l i)[i]?=some (fdE l i):=by
 have h3:(aX ks o (l.take i) 0).length=i:=by rw [dm,List.length_take];omega
 unfold eL
 rw [List.getElem?_append_right (by omega),h3,Nat.sub_self,List.drop_eq_getElem_cons h]
 simp [fdE,h]
theorem wS {G} (n:EN) (ks:List Int) (hl:n.l.length≤1000000) (hks:ks.length≤1000000):HP Tryz.prog G 105 [enD n,.sl none (ks.map i64)] (fun r=>r=.d (enD (bk n ks))):=by
 unfold enD efD
 refine aw Tryz.func105 rfl (by decide +kernel) (by simp [Tryz.ntmps105]) (veil fun E=>?_)
 simp only [go_sem]
 refine ag E (m0 n.k) rfl rfl (by simp) ?_
 rintro _ rfl
 simp only [go_sem]
 have hk3:=bB n.k
 refine IU E [6] 6 77 [.int .i64 0,.int .i64 0,.int .i64 0] ?_ rfl rfl (by decide) rfl ?_
 ·rw [aa];decide
 simp only [go_sem]
 refine kn 8 mixed E (by simp only [List.take_succ_cons,List.take_zero];exact rfl) (by simp only [List.drop_succ_cons,List.drop_zero];exact rfl) rfl rfl (by decide +kernel) fun X=>?_
 simp only [go_sem]
 refine ⟨by split<;>constructor<;>omega,by decide +kernel,?_⟩
 rw [A3 (aF n.k) (ks.map i64) ks.length (by simp),← List.map_take]
 refine Gv E (d:=21) (dT:=95) (e0:=3) (by simp only [go_sem]) (by rw [CT]) (by rw [ti3];decide) rfl rfl rfl ?_
 rw [Jh _ _ hk3]
 obtain ⟨a,ha⟩:∃ a,a=if 0<aF n.k then ks.getD 0 0 else 0:=⟨_,rfl⟩
 obtain ⟨b,hb⟩:∃ b,b=if 1<aF n.k then ks.getD 1 0 else 0:=⟨_,rfl⟩
 obtain ⟨c,hc⟩:∃ c,c=if 2<aF n.k then ks.getD 2 0 else 0:=⟨_,rfl⟩
 rw [← ha,← hb,← hc]
 simp only [go_sem]
 refine ak mixed E fun X=>?_
 simp only [go_sem]
 simp only [List.getD_cons_succ,List.getD_cons_zero]
 simp only [go_sem]
 simp only [List.getD_cons_succ,List.getD_cons_zero]
 simp only [go_sem]
 refine ⟨by decide +kernel,?_⟩
 refine aB E (fun hp=>?_) (fun hp=>?_)<;>simp only [go_sem]
 ·refine ab E [.d .nils] [] [] CO rfl rfl ⟨by simp only [go_sem],by rw [aa];decide⟩ rfl (by simp only [go_sem]) (by simp only [go_sem]) ?_
  rintro _ _ ⟨rfl,rfl⟩
  simp only [go_sem]
  refine az E (X:=Unit) (fun _=>[(1,.d (.sl none (ks.map i64))),(2,.bx [2] 0),(4,.bx [4] 0),(5,.bx [5] 0),(41,.d (i64 0)),(42,.d (i64 0))])
   (fun _=>[([2],.box [.d (i64 n.k),.d (i64 a),.d (i64 b),.d (i64 c),.d (i64 n.n),.d (.str n.name),.d (.str n.s),.vw [37,0] 0 0,.d (i64 n.pos)]),([4],.box [.d (i64 0),.d (i64 0),.d (i64 0),.d (i64 0),.d (i64 0),.d (.str []),.d (.str []),.d .nils,.d (i64 0)]),([5],.box [.d (i64 (aF n.k)),.d (.bool (aH n.k))]),([37,0],.arr (some 3) [])]) [2,4,5,37] (fun _=>0) () id ?_ ?_
  ·simp only [go_sem]
   all_goals rfl
  rintro _ E0
  refine aC E0 fun Q' hQ E'=>?_
  simp only [go_sem]
  rw [hQ]
  simp only [go_sem]
  refine ⟨[([37,0],some 3,[])],?_⟩
  simp only [go_sem]
  have hw:bk n ks={ n with a:=a,b:=b,c:=c,l:=[] }:=by
   have hp':aH n.k=false:=by simpa using hp
   simp [bk,ha,hb,hc,hp']
  rw [hw]
  rfl
 ·refine ab E [.d (efD n.l)] [] [] (zO n.l hl) rfl rfl ⟨by simp only [go_sem],by rw [aa];decide⟩ rfl (by simp only [go_sem]) (by simp only [go_sem]) ?_
  rintro _ _ ⟨rfl,rfl⟩
  simp only [go_sem]
  refine az E (X:={ i:Nat // i≤n.l.length }) (fun x=>[(1,.d (.sl none (ks.map i64))),(2,.bx [2] 0),(4,.bx [4] 0),(5,.bx [5] 0),(41,.d (i64 n.l.length)),(42,.d (i64 x.1))])
   (fun x=>[([2],.box [.d (i64 n.k),.d (i64 a),.d (i64 b),.d (i64 c),.d (i64 n.n),.d (.str n.name),.d (.str n.s),.vw [37,0] 0 n.l.length,.d (i64 n.pos)]),([4],.box [.d (i64 0),.d (i64 0),.d (i64 0),.d (i64 0),.d (i64 0),.d (.str []),.d (.str []),.d .nils,.d (i64 0)]),([5],.box [.d (i64 (aF n.k)),.d (.bool (aH n.k))]),([37,0],.arr (some 3) ((eL ks (aF n.k) n.l x.1).map fD))]) [2,4,5,37] (fun x=>n.l.length-x.1) ⟨0,Nat.zero_le _⟩ id ?_ ?_
  ·simp only [go_sem]
   all_goals (first | rfl | (rw [u5]))
  rintro ⟨i,hi⟩ E0
  refine aC E0 fun Q' hQ E'=>?_
  simp only at hi ⊢
  simp only [go_sem]
  refine ah E' (fun h1=>?_) (fun h1=>?_)<;>simp only [go_sem]
  ·have h1':i<n.l.length:=by omega
   rw [ai ⟨by omega,by omega⟩]
   have hpl:=yu ks (aF n.k) n.l i
   have hst:=uQ (ks:=ks) (o:=aF n.k) h1'
   refine ah E' (fun h2=>?_) (fun h2=>?_)<;>simp only [go_sem]
   ·have h2':aF n.k+i<ks.length:=by omega
    rw [if_pos h2'] at hst
    refine ak mixed E' fun X=>?_
    simp only [go_sem]
    refine ⟨⟨by omega,by omega⟩,?_⟩
    rw [show ((aF n.k:Nat)+(i:Int)).toNat=aF n.k+i by omega,av h2']
    simp only [go_sem]
    have hgt:(List.map fD (eL ks (aF n.k) n.l i)).getD i .nilp=.agg [.str (fdE n.l i).nm,.str (fdE n.l i).var,i64 (fdE n.l i).to]:=by
     rw [List.getD_eq_getElem?_getD,List.getElem?_map,qu h1'];rfl
    refine ⟨⟨by omega,by omega⟩,?_⟩
    rw [hgt]
    simp only [go_sem]
    have hmp:(List.map fD (eL ks (aF n.k) n.l i)).set i (.agg [.str (fdE n.l i).nm,.str (fdE n.l i).var,i64 (ks.getD (aF n.k+i) 0)])=(eL ks (aF n.k) n.l (i+1)).map fD:=by
     rw [hst,List.map_set];rfl
    rw [hmp]
    refine ⟨by decide +kernel,?_⟩
    rw [hQ]
    simp only [go_sem]
    refine ⟨⟨i+1,by omega⟩,by show n.l.length-(i+1)<_;omega,id,?_⟩
    rw [ai ⟨by omega,by omega⟩]
    simp only [go_sem]
    all_goals rfl
   ·have h2':¬ aF n.k+i<ks.length:=by omega
    rw [if_neg h2'] at hst
    have hst2:eL ks (aF n.k) n.l (i+1)=eL ks (aF n.k) n.l i:=by
     rw [hst]
     refine List.ext_getElem? fun j=>?_
     rw [List.getElem?_set]
     split
     ·rename_i e;subst e
      rw [if_pos (by omega),qu h1']
     ·rfl
    rw [hQ]
    simp only [go_sem]
    refine ⟨⟨i+1,by omega⟩,by show n.l.length-(i+1)<_;omega,id,?_⟩
    rw [hst2,ai ⟨by omega,by omega⟩]
    simp only [go_sem]
    all_goals rfl
  ·rw [hQ]
   simp only [go_sem]
   have hi2:i=n.l.length:=by omega
   subst hi2
   rw [zr]
   refine ⟨[([37,0],some 3,(aX ks (aF n.k) n.l 0).map fD)],?_⟩
   simp only [go_sem]
   have hw:bk n ks={ n with a:=a,b:=b,c:=c,l:=aX ks (aF n.k) n.l 0 }:=by
    have hp':aH n.k=true:=by simpa using hp
    simp [bk,ha,hb,hc,hp']
   rw [hw,List.take_of_length_le (by rw [List.length_map,dm];exact Nat.le_refl _)]
end Go.Proofs.YtejpnabbmgpmaaaGreat

namespace Go.Proofs.YtejpnabbmgpmaaaGreat
open Go.Ab
theorem tP (l:List EN):∀ (a:List (List EN)) (acc:List EN) (rs:List Int),cH (a++[l]) acc rs=((cH a acc rs).1++l.map (aU (cH a acc rs).1.length),(cH a acc rs).2++[(((cH a acc rs).1.length+l.length:Nat):Int)-1])
 | [],_,_=>rfl
 | _::r,_,_=>tP l r _ _
def eY (ls:List (List EN)) (i:Nat):List EN × List Int:=cH (ls.take i) [] []
theorem pI {ls:List (List EN)} {i:Nat} (h:i<ls.length):eY ls (i+1)=((eY ls i).1++ls[i].map (aU (eY ls i).1.length),(eY ls i).2++[(((eY ls i).1.length+ls[i].length:Nat):Int)-1]):=by
 unfold eY
 rw [List.take_succ_eq_append_getElem h,tP]
theorem sS (ls:List (List EN)):eY ls ls.length=cH ls [] []:=by rw [eY,List.take_length]
theorem AA (a b:List (List EN)):aT (a++b)=aT a+aT b:=by simp [aT]
theorem tB {ls:List (List EN)} {i:Nat} (h:i<ls.length):(eY ls i).1.length+ls[i].length≤aT ls:=by
 have h1:(eY ls i).1.length=aT (ls.take i):=by unfold eY;rw [kU];simp
 have h2:aT ls=aT (ls.take i)+aT (ls.drop i):=by rw [← AA,List.take_append_drop]
 have h3:aT (ls.drop i)=ls[i].length+aT (ls.drop (i+1)):=by rw [List.drop_eq_getElem_cons h];unfold aT;rw [List.map_cons,List.sum_cons]
 omega
theorem sw:∀ (ls:List (List EN)) (acc:List EN) (rs:List Int),(cH ls acc rs).2.length=rs.length+ls.length
 | [],_,_=>by simp [cH]
 | l::r,acc,rs=>by rw [cH,sw];simp;omega
theorem wm (ls:List (List EN)) (i:Nat):(eY ls i).2.length≤i:=by unfold eY;rw [sw];simp;omega
def mc (off:Nat) (K:List Int) (x:Nat):List Int:=((K.take x).map fun k:Int=>k+off)++K.drop x
theorem Au (off:Nat) (K:List Int):mc off K K.length=K.map fun k:Int=>k+off:=by simp [mc]
theorem Cq (off:Nat) (K:List Int) (x:Nat):(mc off K x).length=K.length:=by
 simp only [mc,List.length_append,List.length_map,List.length_take,List.length_drop];omega
theorem BE {off:Nat} {K:List Int} {x:Nat} (h:x<K.length):(mc off K x).getD x 0=K.getD x 0:=by
 unfold mc
 rw [List.getD_eq_getElem?_getD,List.getElem?_append_right (by simp;omega)]
 simp [Nat.min_eq_left (Nat.le_of_lt h),h]
theorem yx {off:Nat} {K:List Int} {x:Nat} (h:x<K.length):(mc off K x).set x (K.getD x 0+off)=mc off K (x+1):=by
 have h1:K.take (x+1)=K.take x++[K[x]]:=by simp
 have h2:K.drop x=K[x]::K.drop (x+1):=List.drop_eq_getElem_cons h
 unfold mc
 have h3:((K.take x).map fun k:Int=>k+off).length=x:=by simp;omega
 rw [h1,h2,List.set_append_right _ _ (by omega),h3,Nat.sub_self,List.set_cons_zero,List.map_append,List.append_assoc]
 simp [h]
theorem w1 {ls:List (List EN)} {i:Nat} (h:i<ls.length):(ls.map exD).getD i .nilp=.agg [.sl (some 9) (ls[i].map enD)]:=by simp [h,exD]
theorem qA (M:EN):enD M=.agg [i64 M.k,i64 M.a,i64 M.b,i64 M.c,i64 M.n,.str M.name,.str M.s,.sl (some 3) (M.l.map fD),i64 M.pos]:=rfl
theorem qL {G} (n:EN) (ls:List (List EN)) (hn:n.l.length≤1000000) (hL:ls.length≤1000000) (hS:aT ls≤1000000) (hk:∀ l∈ls,∀ m∈l,eC l.length m) (hw:∀ l∈ls,eK 900000 l) :
  HP Tryz.prog G 86 [enD n,.sl (some 1) (ls.map exD)] (fun r=>r=.d (exD (au n ls))):=by
 unfold enD efD
 refine aw Tryz.func86 rfl (by decide +kernel) (by simp [Tryz.ntmps86]) (veil fun E=>?_)
 simp only [go_sem]
 refine vG E 6 98 none rfl (by rw [aa];decide) ?_
 simp only [go_sem]
 refine qD E [5] 0 97 (some 9) [.d .nils] rfl rfl (by rw [aa];decide) ?_
 simp only [go_sem]
 refine az E (X:={ i:Nat // i≤ls.length }) (fun x=>[(2,.bx [2] 0),(4,.bx [4] 0),(5,.bx [5] 0),(6,.vw [98] 0 (eY ls x.1).2.length),(14,.d (.sl (some 1) (ls.map exD))),(15,.d (i64 ls.length)),(16,.d (i64 x.1))])
  (fun x=>[([2],.box [.d (i64 n.k),.d (i64 n.a),.d (i64 n.b),.d (i64 n.c),.d (i64 n.n),.d (.str n.name),.d (.str n.s),.d (.sl (some 3) (n.l.map fD)),.d (i64 n.pos)]),([4],.box [.d .nils]),([5],.box [.vw [97] 0 (eY ls x.1).1.length]),([97],.arr (some 9) ((eY ls x.1).1.map enD)),([98],.arr none ((eY ls x.1).2.map i64))]) [2,4,5,97,98] (fun x=>ls.length-x.1) ⟨0,Nat.zero_le _⟩ id ?_ ?_
 ·simp only [go_sem]
  exact ⟨rfl,rfl,rfl,rfl⟩
 rintro ⟨i,hi⟩ E0
 refine aC E0 fun Q' hQ E'=>?_
 simp only at hi ⊢
 simp only [go_sem]
 refine ah E' (fun h1=>?_) (fun h1=>?_)<;>simp only [go_sem]
 ·have h1':i<ls.length:=by omega
  refine ⟨⟨by omega,by omega⟩,?_⟩
  rw [w1 h1']
  obtain ⟨l,hle⟩:∃ l,l=ls[i]:=⟨_,rfl⟩
  have hmem:l∈ls:=by rw [hle];exact List.getElem_mem h1'
  have hcl:=tB h1'
  have hcs:=pI h1'
  have hcr:=wm ls i
  rw [← hle] at hcl hcs ⊢
  obtain ⟨acc,hacc⟩:∃ acc,acc=(eY ls i).1:=⟨_,rfl⟩
  obtain ⟨rs,hrs⟩:∃ rs,rs=(eY ls i).2:=⟨_,rfl⟩
  rw [← hacc] at hcl hcs
  rw [← hrs] at hcr hcs
  simp only [← hacc,← hrs]
  simp only [go_sem]
  refine az E' (X:={ j:Nat // j≤l.length }) (fun x=>[(2,.bx [2] 0),(4,.bx [4] 0),(5,.bx [5] 0),(6,.vw [98] 0 rs.length),(14,.d (.sl (some 1) (ls.map exD))),(15,.d (i64 ls.length)),(16,.d (i64 i)),(9,.d (i64 acc.length)),(24,.d (.sl (some 9) (l.map enD))),(25,.d (i64 l.length)),(26,.d (i64 x.1))])
   (fun x=>[([2],.box [.d (i64 n.k),.d (i64 n.a),.d (i64 n.b),.d (i64 n.c),.d (i64 n.n),.d (.str n.name),.d (.str n.s),.d (.sl (some 3) (n.l.map fD)),.d (i64 n.pos)]),([4],.box [.d .nils]),([5],.box [.vw [97] 0 (acc.length+x.1)]),([97],.arr (some 9) ((acc++(l.take x.1).map (aU acc.length)).map enD)),([98],.arr none (rs.map i64))]) [2,4,5,97,98] (fun x=>l.length-x.1) ⟨0,Nat.zero_le _⟩ id ?_ ?_
  ·simp only [go_sem]
   all_goals first | rfl | simp
  rintro ⟨j,hj⟩ E2
  refine aC E2 fun Q2 hQ2 E3=>?_
  simp only at hj ⊢
  simp only [go_sem]
  refine ah E3 (fun h2=>?_) (fun h2=>?_)<;>simp only [go_sem]
  ·have h2':j<l.length:=by omega
   refine ⟨⟨by omega,by omega⟩,?_⟩
   rw [aN h2',bG h2']
   obtain ⟨m,hm⟩:∃ m,m=l[j]:=⟨_,rfl⟩
   have hmm:m∈l:=by rw [hm];exact List.getElem_mem h2'
   have hmk:=hk l hmem m hmm
   have hml:=hw l hmem m hmm
   rw [← hm]
   simp only [go_sem]
   refine ab E3 [.d (enD m)] [] [] (gQ m (by omega)) rfl rfl ⟨by simp only [go_sem],by rw [aa];decide⟩ rfl (by simp only [go_sem]) (by simp only [go_sem]) ?_
   rintro _ _ ⟨rfl,rfl⟩
   simp only [go_sem]
   have hKl:(aj m).length≤1000000:=by
    rw [br];unfold bf
    have:=bB m.k
    split<;>omega
   have hKk:∀ q,q<(aj m).length→0≤(aj m).getD q 0∧(aj m).getD q 0<l.length:=fun q hq=>hmk _ (by simp [hq])
   have hwm:bk m ((aj m).map fun k:Int=>k+acc.length)=aU acc.length m:=rfl
   obtain ⟨K,hK⟩:∃ K,K=aj m:=⟨_,rfl⟩
   rw [← hK] at hKl hKk hwm ⊢
   refine az E3 (X:={ q:Nat // q≤K.length }) (fun x=>[(2,.bx [2] 0),(4,.bx [4] 0),(5,.bx [5] 0),(6,.vw [98] 0 rs.length),(11,.bx [11] 0),(12,.vw [96] 0 K.length),(14,.d (.sl (some 1) (ls.map exD))),(15,.d (i64 ls.length)),(16,.d (i64 i)),(9,.d (i64 acc.length)),(24,.d (.sl (some 9) (l.map enD))),(25,.d (i64 l.length)),(26,.d (i64 j)),(33,.d (i64 K.length)),(34,.d (i64 x.1))])
    (fun x=>[([2],.box [.d (i64 n.k),.d (i64 n.a),.d (i64 n.b),.d (i64 n.c),.d (i64 n.n),.d (.str n.name),.d (.str n.s),.d (.sl (some 3) (n.l.map fD)),.d (i64 n.pos)]),([4],.box [.d .nils]),([5],.box [.vw [97] 0 (acc.length+j)]),([97],.arr (some 9) ((acc++(l.take j).map (aU acc.length)).map enD)),([98],.arr none (rs.map i64)),
     ([11],.box [.d (i64 m.k),.d (i64 m.a),.d (i64 m.b),.d (i64 m.c),.d (i64 m.n),.d (.str m.name),.d (.str m.s),.d (.sl (some 3) (m.l.map fD)),.d (i64 m.pos)]),([96],.arr none ((mc acc.length K x.1).map i64))]) [2,4,5,11,96,97,98] (fun x=>K.length-x.1) ⟨0,Nat.zero_le _⟩ (tau [([96],[31,0])]) ?_ ?_
   ·simp only [go_sem]
    all_goals rfl
   rintro ⟨q,hq⟩ E4
   refine aC E4 fun Q4 hQ4 E5=>?_
   simp only at hq ⊢
   simp only [go_sem]
   refine ah E5 (fun h3=>?_) (fun h3=>?_)<;>simp only [go_sem]
   ·have h3':q<K.length:=by omega
    have hpl:=Cq acc.length K q
    have hin:=hKk q h3'
    rw [show ((mc acc.length K q).map i64).getD q .nilp=i64 (K.getD q 0) by rw [← BE h3',av (by omega)]]
    simp only [go_sem]
    refine ⟨⟨by omega,by omega⟩,⟨by omega,by omega⟩,?_⟩
    have hmp:((mc acc.length K q).map i64).set q (.int .i64 (w64 (K.getD q 0+acc.length)))=(mc acc.length K (q+1)).map i64:=by
     rw [ai ⟨by omega,by omega⟩,← yx h3',List.map_set]
    rw [hmp,hQ4]
    simp only [go_sem]
    refine ⟨⟨q+1,by omega⟩,by show K.length-(q+1)<_;omega,id,?_⟩
    rw [ai ⟨by omega,by omega⟩]
    simp only [go_sem]
    all_goals rfl
   ·have hq2:q=K.length:=by omega
    subst hq2
    rw [Au,hQ4]
    simp only [go_sem]
    refine jb E3 [96] none ((K.map fun k:Int=>k+acc.length).map i64) rfl ?_
    simp only [go_sem]
    refine ak mixed E3 fun X=>?_
    simp only [go_sem]
    rw [List.take_of_length_le (l:=List.map i64 _) (by simp)]
    refine bK X (wS m (K.map fun k:Int=>k+acc.length) (by omega) (by rw [List.length_map];exact hKl)) rfl rfl (by simp) ?_
    obtain ⟨M,hM⟩:∃ M,M=aU acc.length m:=⟨_,rfl⟩
    rw [hwm,← hM,qA M]
    simp only [go_sem]
    have hout:List.take (acc.length+j) (List.map enD (acc++List.map (aU acc.length) (List.take j l)))++[.agg [i64 M.k,i64 M.a,i64 M.b,i64 M.c,i64 M.n,.str M.name,.str M.s,.sl (some 3) (M.l.map fD),i64 M.pos]]=(acc++(l.take (j+1)).map (aU acc.length)).map enD:=by
     rw [List.take_of_length_le (by simp;omega),List.take_succ_eq_append_getElem h2',← hm]
     simp only [List.map_append,List.map_cons,List.map_nil,← hM,← qA M,List.append_assoc]
    rw [hout]
    refine ⟨by omega,by decide +kernel,?_⟩
    rw [hQ2]
    simp only [go_sem]
    refine ⟨⟨j+1,by omega⟩,by show l.length-(j+1)<_;omega,tau [([97],[51])],?_⟩
    rw [ai ⟨by omega,by omega⟩]
    simp only [go_sem]
    exact ⟨rfl,rfl⟩
  ·rw [hQ2]
   simp only [go_sem]
   have hj2:j=l.length:=by omega
   subst hj2
   have hro:List.map i64 rs++[.int .i64 (w64 (((acc.length+l.length:Nat):Int)-1))]=(rs++[((acc.length+l.length:Nat):Int)-1]).map i64:=by
    rw [ai ⟨by omega,by omega⟩]
    simp only [List.map_append,List.map_cons,List.map_nil]
   rw [hro]
   refine ⟨by omega,?_⟩
   rw [hQ]
   simp only [go_sem]
   refine ⟨⟨i+1,by omega⟩,by show ls.length-(i+1)<_;omega,tau [([98],[60])],?_⟩
   simp only [hcs]
   rw [ai ⟨by omega,by omega⟩]
   simp only [go_sem]
   simp only [List.length_append,List.length_map,List.length_singleton]
   refine ⟨⟨trivial,rfl⟩,?_⟩
   first | rfl | exact ⟨rfl,rfl⟩ | exact ⟨trivial,rfl⟩ | exact ⟨rfl,trivial⟩ | trivial
 ·rw [hQ]
  have hi2:i=ls.length:=by omega
  subst hi2
  rw [sS]
  obtain ⟨acc,hacc⟩:∃ acc,acc=(cH ls [] []).1:=⟨_,rfl⟩
  obtain ⟨rs,hrs⟩:∃ rs,rs=(cH ls [] []).2:=⟨_,rfl⟩
  have hal:acc.length=aT ls:=by rw [hacc,kU];simp
  have hrl:rs.length=ls.length:=by rw [hrs,sw];simp
  have hj:au n ls=acc++[bk n rs]:=by unfold au;rw [← hacc,← hrs]
  rw [← hacc,← hrs]
  simp only [go_sem]
  refine jb E [98] none (rs.map i64) rfl ?_
  simp only [go_sem]
  refine ak mixed E fun X=>?_
  simp only [go_sem]
  refine bK X (wS n rs hn (by omega)) rfl rfl (by simp) ?_
  obtain ⟨M,hM⟩:∃ M,M=bk n rs:=⟨_,rfl⟩
  rw [← hM,qA M]
  simp only [go_sem]
  have hout:List.map enD acc++[.agg [i64 M.k,i64 M.a,i64 M.b,i64 M.c,i64 M.n,.str M.name,.str M.s,.sl (some 3) (M.l.map fD),i64 M.pos]]=(au n ls).map enD:=by
   rw [hj,← hM,List.map_append,← qA];rfl
  rw [hout]
  refine ⟨by omega,by decide +kernel,[([68],some 9,(au n ls).map enD)],?_⟩
  simp only [go_sem]
  rw [List.take_of_length_le (by rw [hj];simp)]
  rfl
end Go.Proofs.YtejpnabbmgpmaaaGreat

namespace Go.Proofs.YtejpnabbmgpmaaaGreat
open Go.Ab
def ae (l:List Tok):D:=.sl (some 4) (l.map ck)
def TO (l:List Tok) (fin:Int):List (Name × Ob):=[([101],.box [.d (ae l),.d (i64 fin)])]
def bt (l:List Tok) (fin:Int):Tok:=match l with
 | []=>⟨0,[],0,fin⟩
 | t::_=>t
theorem vU {G} (l:List Tok) (fin:Int):HCall Tryz.prog G 54 [.bx [101] 0] (TO l fin) [101] (fun r hp'=>r=.d (.bool l.isEmpty)∧hp'=TO l fin):=by
 unfold TO ae
 refine aq Tryz.func54 rfl (by decide +kernel) (by simp [Tryz.ntmps54]) (veil fun E=>?_)
 simp only [go_sem]
 refine rJ E (e:=157) false (by rw [F4]) (by simp only [go_sem]) rfl ?_
 simp only [go_sem]
 refine ⟨_,_,[101],id,⟨rfl,rfl⟩,?_⟩
 simp only [go_sem]
 cases l with
 | nil=>rfl
 | cons t r=>simp only [List.length_cons,List.length_map,List.isEmpty_cons,decide_eq_false (show ¬ ((r.length+1:Nat):Int)=0 by omega),and_self]
theorem er {G} (l:List Tok) (fin:Int) (hl:l.length≤1000000):HCall Tryz.prog G 90 [.bx [101] 0] (TO l fin) [101] (fun r hp'=>r=.d (.agg [i64 (bt l fin).k,.str (bt l fin).s,i64 (bt l fin).n,i64 (bt l fin).pos])∧hp'=TO l fin):=by
 unfold TO ae
 refine aq Tryz.func90 rfl (by decide +kernel) (by simp [Tryz.ntmps90]) (veil fun E=>?_)
 simp only [go_sem]
 refine rJ E (e:=157) false (by rw [F4]) (by simp only [go_sem]) rfl ?_
 simp only [go_sem]
 refine ah E (fun h=>?_) (fun h=>?_)<;>simp only [go_sem]
 ·cases l with
  | nil =>
    refine ⟨_,_,[101],id,⟨rfl,rfl⟩,?_⟩
    simp only [go_sem]
    rfl
  | cons t r=>simp at h;omega
 ·cases l with
  | nil=>exact absurd (by simp) h
  | cons t r =>
    refine ⟨by simp,?_⟩
    rw [show (List.map ck (t::r)).getD 0 .nilp=.agg [i64 t.k,.str t.s,i64 t.n,i64 t.pos] from rfl]
    simp only [go_sem]
    refine ⟨_,_,[101],id,⟨rfl,rfl⟩,?_⟩
    simp only [go_sem]
    rfl
theorem jR {G} (l:List Tok) (fin:Int) (hl:l.length≤1000000):HCall Tryz.prog G 148 [.bx [101] 0] (TO l fin) [101] (fun r hp'=>r=.d (.agg [i64 (bt l fin).k,.str (bt l fin).s,i64 (bt l fin).n,i64 (bt l fin).pos])∧hp'=TO l.tail fin):=by
 unfold TO ae
 refine aq Tryz.func148 rfl (by decide +kernel) (by simp [Tryz.ntmps148]) (veil fun E=>?_)
 simp only [go_sem]
 refine ab E [.bx [101] 0] (TO l fin) [101] (er l fin hl) rfl rfl ⟨by simp only [go_sem],by rw [aa];decide⟩ rfl (by unfold TO ae;simp only [go_sem]) (by unfold TO;simp only [go_sem]) ?_
 rintro _ _ ⟨rfl,rfl⟩
 unfold TO ae
 simp only [go_sem]
 refine ab E [.bx [101] 0] (TO l fin) [101] (vU l fin) rfl rfl ⟨by simp only [go_sem],by rw [aa];decide⟩ rfl (by unfold TO ae;simp only [go_sem]) (by unfold TO;simp only [go_sem]) ?_
 rintro _ _ ⟨rfl,rfl⟩
 unfold TO ae
 simp only [go_sem]
 refine aB E (fun h=>?_) (fun h=>?_)<;>simp only [go_sem]
 ·cases l with
  | nil=>exact absurd h (by simp)
  | cons t r =>
    refine ⟨by simp only [List.length_cons];omega,_,_,[101],id,⟨rfl,rfl⟩,?_⟩
    simp only [go_sem]
    rfl
 ·cases l with
  | nil =>
    refine ⟨_,_,[101],id,⟨rfl,rfl⟩,?_⟩
    simp only [go_sem]
    rfl
  | cons t r=>exact absurd h (by simp)
def isT (l:List Tok) (fin k:Int) (t:List UInt8):Bool:=!l.isEmpty && decide ((bt l fin).k=k) && decide ((bt l fin).s=t)
theorem E9 {G} (l:List Tok) (fin k:Int) (t:List UInt8) (hl:l.length≤1000000) (hk:k≠0∧k≠4):HCall Tryz.prog G 270 [.bx [101] 0,.d (i64 k),.d (.str t)] (TO l fin) [101] (fun r hp'=>r=.d (.bool (isT l fin k t))∧hp'=TO l fin):=by
 unfold isT
 unfold TO ae
 refine aq Tryz.func270 rfl (by decide +kernel) (by simp [Tryz.ntmps270]) (veil fun E=>?_)
 simp only [go_sem]
 refine ab E [.bx [101] 0] (TO l fin) [101] (er l fin hl) rfl rfl ⟨by simp only [go_sem],by rw [aa];decide⟩ rfl (by unfold TO ae;simp only [go_sem]) (by unfold TO;simp only [go_sem]) ?_
 rintro _ _ ⟨rfl,rfl⟩
 unfold TO ae
 simp only [go_sem]
 refine ab E [.bx [101] 0] (TO l fin) [101] (vU l fin) rfl rfl ⟨by simp only [go_sem],by rw [aa];decide⟩ rfl (by unfold TO ae;simp only [go_sem]) (by unfold TO;simp only [go_sem]) ?_
 rintro _ _ ⟨rfl,rfl⟩
 unfold TO ae
 simp only [go_sem]
 refine bU E (fun h1=>?_) (fun h1=>?_)<;>simp only [go_sem]
 ·refine an E (fun h2=>?_) (fun h2=>?_)<;>simp only [go_sem]
  ·refine an E (fun h3=>?_) (fun h3=>absurd hk.1 h3)
   simp only [go_sem]
   refine bU E (fun h4=>?_) (fun h4=>?_)<;>simp only [go_sem]
   ·refine ⟨_,_,[101],id,⟨rfl,rfl⟩,?_⟩
    simp only [go_sem]
    rw [h1,decide_eq_true h2,decide_eq_true (show (bt l fin).s=t by simpa using h4)]
    rfl
   ·refine ⟨_,_,[101],id,⟨rfl,rfl⟩,?_⟩
    simp only [go_sem]
    rw [h1,decide_eq_true h2,decide_eq_false (show ¬ (bt l fin).s=t by simpa using h4),decide_eq_false hk.2]
    rfl
  ·refine ⟨_,_,[101],id,⟨rfl,rfl⟩,?_⟩
   simp only [go_sem]
   rw [decide_eq_false h2,Bool.and_false,Bool.false_and]
 ·refine ⟨_,_,[101],id,⟨rfl,rfl⟩,?_⟩
  simp only [go_sem]
  rw [h1,Bool.false_and,Bool.false_and]
theorem D2 {G} (l:List Tok) (fin k:Int) (t:List UInt8) (hl:l.length≤1000000) (hk:k≠0∧k≠4):HCall Tryz.prog G 222 [.bx [101] 0,.d (i64 k),.d (.str t)] (TO l fin) [101] (fun r hp'=>r=.d (.bool (isT l fin k t))∧hp'=TO (if isT l fin k t then l.tail else l) fin):=by
 obtain ⟨b,hb⟩:∃ b,b=isT l fin k t:=⟨_,rfl⟩
 have h0:=E9 (G:=G) l fin k t hl hk
 have h1:=jR (G:=G) l fin hl
 rw [← hb] at h0 ⊢
 generalize hX:(if b then l.tail else l)=X
 unfold TO ae at *
 refine aq Tryz.func222 rfl (by decide +kernel) (by simp [Tryz.ntmps222]) (veil fun E=>?_)
 simp only [go_sem]
 refine ab E [.bx [101] 0,.d (i64 k),.d (.str t)] (TO l fin) [101] (h0) rfl rfl ⟨by simp only [go_sem],by rw [aa];decide⟩ rfl (by unfold TO ae;simp only [go_sem]) (by unfold TO;simp only [go_sem]) ?_
 rintro _ _ ⟨rfl,rfl⟩
 unfold TO ae
 simp only [go_sem]
 refine aB E (fun h=>?_) (fun h=>?_)<;>simp only [go_sem]
 ·refine ab E [.bx [101] 0] (TO l fin) [101] (h1) rfl rfl ⟨by simp only [go_sem],by rw [aa];decide⟩ rfl (by unfold TO ae;simp only [go_sem]) (by unfold TO;simp only [go_sem]) ?_
  rintro _ _ ⟨rfl,rfl⟩
  unfold TO ae
  simp only [go_sem]
  refine ⟨_,_,[101],id,⟨rfl,rfl⟩,?_⟩
  simp only [go_sem]
  rw [← hX,h]
  rfl
 ·refine ⟨_,_,[101],id,⟨rfl,rfl⟩,?_⟩
  simp only [go_sem]
  rw [← hX,h]
  rfl
def RO (s:PS):List (Name × Ob):=([100],.box [.bx [101] 0,.d (i64 s.err),.d (i64 s.pos),.d (i64 s.nest)])::TO s.l s.fin
theorem fy {G} (s:PS):HCall Tryz.prog G 92 [.bx [100] 0] (RO s) [100,101] (fun r hp'=>r=.d (.bool (decide (s.err=0)))∧hp'=RO s):=by
 unfold RO TO ae
 refine aq Tryz.func92 rfl (by decide +kernel) (by simp [Tryz.ntmps92]) (veil fun E=>?_)
 simp only [go_sem]
 refine ⟨_,_,[100,101],id,⟨rfl,rfl⟩,?_⟩
 simp only [go_sem]
theorem nO {G} (s:PS) (e p:Int):HCall Tryz.prog G 91 [.bx [100] 0,.d (i64 e),.d (i64 p)] (RO s) [100,101] (fun r hp'=>r=.tup []∧hp'=RO (s.fail e p)):=by
 generalize hX:s.fail e p=X
 unfold PS.fail at hX
 unfold RO TO ae
 refine aq Tryz.func91 rfl (by decide +kernel) (by simp [Tryz.ntmps91]) (veil fun E=>?_)
 simp only [go_sem]
 refine ab E [.bx [100] 0] (RO s) [100,101] (fy s) rfl rfl ⟨by simp only [go_sem],by rw [aa];decide⟩ rfl (by unfold RO TO ae;simp only [go_sem]) (by unfold RO TO;simp only [go_sem]) ?_
 rintro _ _ ⟨rfl,rfl⟩
 unfold RO TO ae
 simp only [go_sem]
 refine ah E (fun h=>?_) (fun h=>?_)<;>simp only [go_sem]
 ·refine ⟨_,_,[100,101],id,⟨rfl,rfl⟩,?_⟩
  rw [← hX,if_pos h]
  simp only [go_sem]
 ·refine ⟨_,_,[100,101],id,⟨rfl,rfl⟩,?_⟩
  rw [← hX,if_neg h]
  simp only [go_sem]
theorem jz (s:PS):s.peek=bt s.l s.fin:=rfl
theorem oC {G} (s:PS) (hl:s.l.length≤1000000):HCall Tryz.prog G 55 [.bx [100] 0] (RO s) [100,101] (fun r hp'=>r=.tup []∧hp'=RO s.wrong):=by
 generalize hX:s.wrong=X
 unfold PS.wrong at hX
 rw [jz] at hX
 unfold RO TO ae
 refine aq Tryz.func55 rfl (by decide +kernel) (by simp [Tryz.ntmps55]) (veil fun E=>?_)
 simp only [go_sem]
 refine ab E [.bx [101] 0] (TO s.l s.fin) [101] (er s.l s.fin hl) rfl rfl ⟨by simp only [go_sem],by rw [aa];decide⟩ rfl (by unfold TO ae;simp only [go_sem]) (by unfold TO;simp only [go_sem]) ?_
 rintro _ _ ⟨rfl,rfl⟩
 unfold TO ae
 simp only [go_sem]
 refine ab E [.bx [100] 0,.d (i64 5),.d (i64 (bt s.l s.fin).pos)] (RO s) [100,101] (nO s 5 (bt s.l s.fin).pos) rfl rfl ⟨by simp only [go_sem],by rw [aa];decide⟩ rfl (by unfold RO TO ae;simp only [go_sem]) (by unfold RO TO;simp only [go_sem]) ?_
 rintro _ _ ⟨rfl,rfl⟩
 unfold RO TO ae
 simp only [go_sem]
 refine ⟨_,_,[100,101],id,⟨rfl,rfl⟩,?_⟩
 rw [← hX]
 simp only [go_sem]
end Go.Proofs.YtejpnabbmgpmaaaGreat

namespace Go.Proofs.YtejpnabbmgpmaaaGreat
open Go.Ab
theorem q6 {G} (s:PS) (k:Int) (t:List UInt8) (hl:s.l.length≤1000000) (hk:k≠0∧k≠4):HCall Tryz.prog G 147 [.bx [100] 0,.d (i64 k),.d (.str t)] (RO s) [100,101] (fun r hp'=>r=.d (.bool (s.sees k t))∧hp'=RO (s.may k t)):=by
 have h0:=D2 (G:=G) s.l s.fin k t hl hk
 generalize hb:isT s.l s.fin k t=b at h0
 obtain ⟨c,hc⟩:∃ c,c=s.sees k t:=⟨_,rfl⟩
 generalize hX:s.may k t=X
 rw [← hc]
 have hc':c=(decide (s.err=0) && b):=by rw [hc,← hb];rfl
 have hX':X=if c then s.next else s:=by rw [hc,← hX];rfl
 unfold PS.next at hX'
 generalize hY:(if b then s.l.tail else s.l)=Y at h0
 unfold RO TO ae
 refine aq Tryz.func147 rfl (by decide +kernel) (by simp [Tryz.ntmps147]) (veil fun E=>?_)
 simp only [go_sem]
 refine ab E [.bx [100] 0] (RO s) [100,101] (fy s) rfl rfl ⟨by simp only [go_sem],by first | (rw [aa];decide) | (simp only [go_sem]<;>(try rw [aa])<;>decide)⟩ rfl (by unfold RO TO ae;simp only [go_sem]) (by unfold RO TO;simp only [go_sem]) ?_
 rintro _ _ ⟨rfl,rfl⟩
 unfold RO TO ae
 simp only [go_sem]
 refine an E (fun h=>?_) (fun h=>?_)<;>simp only [go_sem]
 ·refine ab E [.bx [101] 0,.d (i64 k),.d (.str t)] (TO s.l s.fin) [101] (h0) rfl rfl ⟨by simp only [go_sem],by first | (rw [aa];decide) | (simp only [go_sem]<;>(try rw [aa])<;>decide)⟩ rfl (by unfold TO ae;simp only [go_sem]) (by unfold TO;simp only [go_sem]) ?_
  rintro _ _ ⟨rfl,rfl⟩
  unfold TO ae
  simp only [go_sem]
  refine ⟨_,_,[100,101],id,⟨rfl,rfl⟩,?_⟩
  simp only [go_sem]
  rw [decide_eq_true h,Bool.true_and] at hc'
  rw [hc'] at hX'
  rw [hc']
  subst hX' hY
  cases b<;>exact ⟨rfl,rfl,rfl⟩
 ·refine ⟨_,_,[100,101],id,⟨rfl,rfl⟩,?_⟩
  simp only [go_sem]
  rw [decide_eq_false h,Bool.false_and] at hc'
  rw [hc'] at hX'
  subst hX'
  rw [hc']
  exact ⟨rfl,rfl,rfl⟩
theorem kh {G} (s:PS) (t:List UInt8) (hl:s.l.length≤1000000):HCall Tryz.prog G 95 [.bx [100] 0,.d (.str t)] (RO s) [100,101] (fun r hp'=>r=.d (.bool (s.sees 1 t))∧hp'=RO (s.may 1 t)):=by
 have h0:=q6 (G:=G) s 1 t hl (by decide)
 generalize s.sees 1 t=c at h0 ⊢
 generalize s.may 1 t=X at h0 ⊢
 unfold RO TO ae
 refine aq Tryz.func95 rfl (by decide +kernel) (by simp [Tryz.ntmps95]) (veil fun E=>?_)
 simp only [go_sem]
 refine ab E [.bx [100] 0,.d (i64 1),.d (.str t)] (RO s) [100,101] (h0) rfl rfl ⟨by simp only [go_sem],by first | (rw [aa];decide) | (simp only [go_sem]<;>(try rw [aa])<;>decide)⟩ rfl (by unfold RO TO ae;simp only [go_sem]) (by unfold RO TO;simp only [go_sem]) ?_
 rintro _ _ ⟨rfl,rfl⟩
 unfold RO TO ae
 simp only [go_sem]
 refine ⟨_,_,[100,101],id,⟨rfl,rfl⟩,?_⟩
 simp only [go_sem]
theorem jw {G} (s:PS) (t:List UInt8) (hl:s.l.length≤1000000):HCall Tryz.prog G 224 [.bx [100] 0,.d (.str t)] (RO s) [100,101] (fun r hp'=>r=.d (.bool (s.sees 7 t))∧hp'=RO (s.may 7 t)):=by
 have h0:=q6 (G:=G) s 7 t hl (by decide)
 generalize s.sees 7 t=c at h0 ⊢
 generalize s.may 7 t=X at h0 ⊢
 unfold RO TO ae
 refine aq Tryz.func224 rfl (by decide +kernel) (by simp [Tryz.ntmps224]) (veil fun E=>?_)
 simp only [go_sem]
 refine ab E [.bx [100] 0,.d (i64 7),.d (.str t)] (RO s) [100,101] (h0) rfl rfl ⟨by simp only [go_sem],by first | (rw [aa];decide) | (simp only [go_sem]<;>(try rw [aa])<;>decide)⟩ rfl (by unfold RO TO ae;simp only [go_sem]) (by unfold RO TO;simp only [go_sem]) ?_
 rintro _ _ ⟨rfl,rfl⟩
 unfold RO TO ae
 simp only [go_sem]
 refine ⟨_,_,[100,101],id,⟨rfl,rfl⟩,?_⟩
 simp only [go_sem]
theorem fO {G} (s:PS) (k:Int) (t:List UInt8) (hl:s.l.length≤1000000) (hk:k≠0∧k≠4):HCall Tryz.prog G 97 [.bx [100] 0,.d (i64 k),.d (.str t)] (RO s) [100,101] (fun r hp'=>r=.tup []∧hp'=RO (s.must k t)):=by
 have h0:=q6 (G:=G) s k t hl hk
 have h1:=oC (G:=G) s hl
 generalize hX:s.must k t=X
 generalize hY:s.may k t=Y at h0
 generalize hZ:s.wrong=Z at h1
 generalize hb:s.sees k t=b at h0
 have hX':X=if b then Y else Z:=by rw [← hX,← hY,← hZ,← hb];unfold PS.must PS.may;cases s.sees k t<;>rfl
 have hYs:b=false→Y=s:=by rw [← hY,← hb];unfold PS.may;intro h;rw [h];rfl
 unfold RO TO ae
 refine aq Tryz.func97 rfl (by decide +kernel) (by simp [Tryz.ntmps97]) (veil fun E=>?_)
 simp only [go_sem]
 refine ab E [.bx [100] 0,.d (i64 k),.d (.str t)] (RO s) [100,101] (h0) rfl rfl ⟨by simp only [go_sem],by first | (rw [aa];decide) | (simp only [go_sem]<;>(try rw [aa])<;>decide)⟩ rfl (by unfold RO TO ae;simp only [go_sem]) (by unfold RO TO;simp only [go_sem]) ?_
 rintro _ _ ⟨rfl,rfl⟩
 unfold RO TO ae
 simp only [go_sem]
 refine aB E (fun h=>?_) (fun h=>?_)<;>simp only [go_sem]
 ·have h':b=false:=by simpa using h
  rw [hYs h']
  refine ab E [.bx [100] 0] (RO s) [100,101] (h1) rfl rfl ⟨by simp only [go_sem],by first | (rw [aa];decide) | (simp only [go_sem]<;>(try rw [aa])<;>decide)⟩ rfl (by unfold RO TO ae;simp only [go_sem]) (by unfold RO TO;simp only [go_sem]) ?_
  rintro _ _ ⟨rfl,rfl⟩
  unfold RO TO ae
  simp only [go_sem]
  refine ⟨_,_,[100,101],id,⟨rfl,rfl⟩,?_⟩
  simp only [go_sem]
  rw [hX',h']
  exact ⟨rfl,rfl⟩
 ·have h':b=true:=by simpa using h
  refine ⟨_,_,[100,101],id,⟨rfl,rfl⟩,?_⟩
  simp only [go_sem]
  rw [hX',h']
  exact ⟨rfl,rfl⟩
theorem ml {G} (s:PS) (k:Int) (hl:s.l.length≤1000000):HCall Tryz.prog G 96 [.bx [100] 0,.d (i64 k)] (RO s) [100,101] (fun r hp'=>r=.d (.str (s.of k).1)∧hp'=RO (s.of k).2):=by
 have h0:=oC (G:=G) s hl
 have h1:=jR (G:=G) s.l s.fin hl
 generalize hX:s.of k=X
 unfold PS.of PS.has at hX
 rw [jz] at hX
 unfold RO TO ae
 refine aq Tryz.func96 rfl (by decide +kernel) (by simp [Tryz.ntmps96]) (veil fun E=>?_)
 simp only [go_sem]
 refine ab E [.bx [100] 0] (RO s) [100,101] (fy s) rfl rfl ⟨by simp only [go_sem],by first | (rw [aa];decide) | (simp only [go_sem]<;>(try rw [aa])<;>decide)⟩ rfl (by unfold RO TO ae;simp only [go_sem]) (by unfold RO TO;simp only [go_sem]) ?_
 rintro _ _ ⟨rfl,rfl⟩
 unfold RO TO ae
 simp only [go_sem]
 refine bU E (fun h=>?_) (fun h=>?_)<;>simp only [go_sem]
 ·have h':¬ s.err=0:=by simpa using h
  refine ab E [.bx [100] 0] (RO s) [100,101] (h0) rfl rfl ⟨by simp only [go_sem],by first | (rw [aa];decide) | (simp only [go_sem]<;>(try rw [aa])<;>decide)⟩ rfl (by unfold RO TO ae;simp only [go_sem]) (by unfold RO TO;simp only [go_sem]) ?_
  rintro _ _ ⟨rfl,rfl⟩
  unfold RO TO ae
  simp only [go_sem]
  refine ⟨_,_,[100,101],id,⟨rfl,rfl⟩,?_⟩
  simp only [go_sem]
  rw [← hX,decide_eq_false h']
  exact ⟨rfl,rfl,rfl⟩
 ·have h':s.err=0:=by simpa using h
  refine ab E [.bx [101] 0] (TO s.l s.fin) [101] (er s.l s.fin hl) rfl rfl ⟨by simp only [go_sem],by first | (rw [aa];decide) | (simp only [go_sem]<;>(try rw [aa])<;>decide)⟩ rfl (by unfold TO ae;simp only [go_sem]) (by unfold TO;simp only [go_sem]) ?_
  rintro _ _ ⟨rfl,rfl⟩
  unfold TO ae
  simp only [go_sem]
  refine ah E (fun h2=>?_) (fun h2=>?_)<;>simp only [go_sem]
  ·refine ab E [.bx [100] 0] (RO s) [100,101] (h0) rfl rfl ⟨by simp only [go_sem],by first | (rw [aa];decide) | (simp only [go_sem]<;>(try rw [aa])<;>decide)⟩ rfl (by unfold RO TO ae;simp only [go_sem]) (by unfold RO TO;simp only [go_sem]) ?_
   rintro _ _ ⟨rfl,rfl⟩
   unfold RO TO ae
   simp only [go_sem]
   refine ⟨_,_,[100,101],id,⟨rfl,rfl⟩,?_⟩
   simp only [go_sem]
   rw [← hX,decide_eq_true h',decide_eq_false h2]
   exact ⟨rfl,rfl,rfl⟩
  ·have h2':(bt s.l s.fin).k=k:=by simpa using h2
   refine ab E [.bx [101] 0] (TO s.l s.fin) [101] (h1) rfl rfl ⟨by simp only [go_sem],by first | (rw [aa];decide) | (simp only [go_sem]<;>(try rw [aa])<;>decide)⟩ rfl (by unfold TO ae;simp only [go_sem]) (by unfold TO;simp only [go_sem]) ?_
   rintro _ _ ⟨rfl,rfl⟩
   unfold TO ae
   simp only [go_sem]
   refine ⟨_,_,[100,101],id,⟨rfl,rfl⟩,?_⟩
   simp only [go_sem]
   rw [← hX,decide_eq_true h',decide_eq_true h2']
   exact ⟨rfl,rfl,rfl⟩
inductive DLe:D→D→Prop
 | refl (x):DLe x x
 | nil (w):DLe .nils (.sl w [])
 | agg (cs ds:List D) (hl:cs.length=ds.length) (hc:∀ d∈ds,d.scal=true) (h:∀ (i:Nat) x y,cs[i]?=some x→ds[i]?=some y→x=y∨∃ w,x=.nils∧y=.sl w []):DLe (.agg cs) (.agg ds)
theorem DLe.rep {x y:D} (h:DLe x y) {H own v} (hr:Rep H own v x):Rep H own v y:=by
 cases h with
 | refl=>exact hr
 | nil w=>cases hr;exact .sl0 _ _ _
 | agg cs ds hl hc h =>
   cases hr with
   | agg vs _ hs _ h' =>
     refine .agg vs ds (hs.trans hl) hc fun i d hd=>?_
     have hlt:=(List.getElem?_eq_some_iff.1 hd).1
     have hx:cs[i]?=some (cs[i]'(by omega)):=List.getElem?_eq_getElem _
     have hr:=h' i _ hx
     rcases h i _ _ hx hd with e | ⟨w,e1,e2⟩
     ·rw [← e];exact hr
     ·rw [e1] at hr
      rw [e2]
      generalize vs.getD i undef=v at hr ⊢
      cases hr
      exact .sl0 _ _ _
theorem HP.le {P:Program} {G:List (Nat × Obj)} {f:FuncId} {args args':List D} {Q:AV→Prop} (hl:args.length=args'.length)
  (hr:∀ (i:Nat) x y,args[i]?=some x→args'[i]?=some y→DLe x y) (h:HP P G f args' Q):HP P G f args Q:=by
 refine ⟨h.1,fun B β vs w h1 h2 h3 h4 h5=>h.2 B β vs w (h1.trans (by simpa using hl)) h2 h3 h4 { tms:=h5.tms,io:=h5.io,size:=h5.size,frame:=h5.frame,slots:=fun t=>?_,objs:=h5.objs,blocks:=h5.blocks,inj:=h5.inj,us:=h5.us,stay:=h5.stay }⟩
 have hv:=h5.slots t
 rw [eJ,bg,if_pos (Nat.zero_le _),Nat.sub_zero] at hv ⊢
 show VR w.heap ((mk (aG 0 (args.map .d)) [] []).own B.A β) [] _ β _ _
 rw [List.getElem?_map] at hv ⊢
 cases hx:args[t]? with
 | none => 
   rw [List.getElem?_eq_none (by rw [← hl];exact List.getElem?_eq_none_iff.1 hx)]
   exact .un _
 | some x =>
   have hlt:=(List.getElem?_eq_some_iff.1 hx).1
   have hy:args'[t]?=some args'[t]:=List.getElem?_eq_getElem (by omega)
   rw [hx] at hv
   rw [hy]
   simp only [Option.map_some] at hv ⊢
   generalize vs.getD t undef=v at hv ⊢
   cases hv with
   | d _ _ hv=>exact .d _ _ ((hr t _ _ hx hy).rep hv)
def ndN (n:EN):D:=.agg [i64 n.k,i64 n.a,i64 n.b,i64 n.c,i64 n.n,.str n.name,.str n.s,.nils,i64 n.pos]
theorem qE {n:EN} (h:n.l=[]):DLe (ndN n) (enD n):=by
 unfold ndN enD efD
 rw [h]
 refine .agg _ _ rfl (by simp [D.scal]) fun i x y hx hy=>?_
 by_cases hi:i=7
 ·subst hi
  cases hx;cases hy
  exact .inr ⟨_,rfl,rfl⟩
 ·left
  have:i<9:=by have:=(List.getElem?_eq_some_iff.1 hx).1;simpa using this
  rcases i with _ | _ | _ | _ | _ | _ | _ | _ | _ | i<;>first | omega | (cases hx;cases hy;rfl)
theorem j2 {G} (n:EN) (ls:List (List EN)) (hn:n.l=[]) (hL:ls.length≤1000000) (hS:aT ls≤1000000) (hk:∀ l∈ls,∀ m∈l,eC l.length m) (hw:∀ l∈ls,eK 900000 l) :
  HP Tryz.prog G 86 [ndN n,.sl (some 1) (ls.map exD)] (fun r=>r=.d (exD (au n ls))) :=
 HP.le (args':=[enD n,.sl (some 1) (ls.map exD)]) rfl (h:=qL n ls (by rw [hn];exact Nat.zero_le _) hL hS hk hw) fun i x y hx hy=>by
  rcases i with _ | _ | i
  ·cases hx;cases hy;exact qE hn
  ·cases hx;cases hy;exact .refl _
  ·cases hx
theorem H7 {G} (n:EN) (hn:n.l=[]):HP Tryz.prog G 86 [ndN n,.nils] (fun r=>r=.d (exD (bj n))) :=
 HP.le (args':=[enD n,.sl (some 1) ([].map exD)]) rfl (h:=qL n [] (by rw [hn];exact Nat.zero_le _) (Nat.zero_le _) (Nat.zero_le _) (fun l h=>by cases h) (fun l h=>by cases h)) fun i x y hx hy=>by
  rcases i with _ | _ | i
  ·cases hx;cases hy;exact qE hn
  ·cases hx;cases hy;exact .nil _
  ·cases hx
theorem gx {G} (n:EN) (hn:n.l=[]):HP Tryz.prog G 93 [ndN n] (fun r=>r=.d (exD (bj n))):=by
 have h0:=H7 (G:=G) n hn
 generalize bj n=X at h0 ⊢
 unfold ndN at *
 refine aw Tryz.func93 rfl (by decide +kernel) (by simp [Tryz.ntmps93]) (veil fun E=>?_)
 simp only [go_sem]
 refine ag E h0 rfl rfl (by simp) ?_
 rintro _ rfl
 unfold exD
 simp only [go_sem]
 refine ⟨[],?_⟩
 simp only [go_sem]
 rfl
end Go.Proofs.YtejpnabbmgpmaaaGreat

namespace Go.Proofs.YtejpnabbmgpmaaaGreat
open Go.Ab
section
variable (ex:PS→PR)
def iA (s:PS) (pos:Int):PR :=
 let e:=ex s
 let s1:=e.2.must 1 bOf
 if s1.err≠0 then (au (nd0 14 pos) [e.1],s1) else
 let r:=aP ex [124] bI s1.l.length.succ s1 [] []
 (au { nd0 14 pos with l:=r.1 } (e.1::r.2.1),r.2.2.must 1 vV)
def cQ (s:PS):PR :=
 let t:=s.peek
 if s.err≠0 then (noE,s.wrong)
 else if t.k=4 then (bj { nd0 1 t.pos with n:=t.n },s.next)
 else if t.k=5 then (bj { nd0 3 t.pos with s:=t.s },s.next)
 else if t.k=2 then (bj { nd0 4 t.pos with name:=t.s },s.next)
 else if s.sees 1 eI then (bj { nd0 2 t.pos with n:=1 },s.next)
 else if s.sees 1 cZ then (bj (nd0 2 t.pos),s.next)
 else if s.sees 7 [40] then
  let e:=ex s.next
  (e.1,e.2.must 7 [41])
 else if s.sees 7 [123] then cg ex s.next t.pos
 else if s.sees 1 e9 then iA ex s.next t.pos
 else (noE,s.wrong)
def dO (s:PS):PR :=
 let r:=cQ ex s
 ch r.2.l.length.succ r.1 r.2
def iN:Nat→List EN→PS→PR
 | 0,a,s=>(a,s)
 | m+1,a,s=>if decide (s.err=0) && s.begins then iN m (au (nd0 6 (db a).pos) [a,(dO ex s).1]) (dO ex s).2 else (a,s)
def mg (s:PS):PR :=
 if s.has 3 then
  let r:=dO ex s.next
  (au { nd0 13 s.peek.pos with name:=s.peek.s } [r.1],r.2)
 else
  let r:=dO ex s
  iN ex r.2.l.length.succ r.1 r.2
def jZ (s:PS):PR:=dS bP (mg ex) (mg ex s).2.l.length.succ (mg ex s).1 (mg ex s).2
def rm (s:PS):PR:=dS cl (jZ ex) (jZ ex s).2.l.length.succ (jZ ex s).1 (jZ ex s).2
def yj (s:PS):PR :=
 let a:=rm ex s
 match opS a.2 dE with
 | some n =>
   let b:=rm ex a.2.next
   (au { nd0 10 a.2.peek.pos with n:=n } [a.1,b.1],b.2)
 | none=>a
def fx (s:PS):PR :=
 let t:=s.peek
 if s.sees 1 yn then
  let x:=s.next.of 2
  let b:=ex (x.2.must 7 bTo)
  (au { nd0 5 t.pos with name:=x.1 } [b.1],b.2)
 else if s.sees 1 yY then lz ex s.next t.pos
 else if s.sees 1 bIf then ifS ex s.next t.pos
 else yj ex s
end
def fJ:Nat→PS→PR
 | 0,s=>(noE,s.fail 6 s.peek.pos)
 | m+1,s=>if s.err≠0 then (noE,s) else
   let r:=fx (fJ m) { s with nest:=s.nest+1 }
   (r.1,{ r.2 with nest:=s.nest })
def gm (s:PS) (r a:PR):Prop:=r.2=a.2∧(a.2.err=0→s.err=0∧r.1=a.1)
theorem pP {s:PS} {e p:Int} (he:e≠0):(s.fail e p).err≠0:=by
 unfold PS.fail
 split
 ·exact he
 ·assumption
theorem cL {s:PS} {k:Int} {t:List UInt8} (h:(s.must k t).err=0):s.err=0:=by
 unfold PS.must at h
 split at h
 ·exact h
 ·exact absurd h (pP (by decide))
theorem oq {s:PS} {k:Int} (h:(s.of k).2.err=0):s.err=0:=by
 unfold PS.of at h
 split at h
 ·exact h
 ·exact absurd h (pP (by decide))
theorem n9 {s:PS} {t:Tok} {l:List EF} (h:(s.parted t l).err=0):s.err=0:=by
 unfold PS.parted at h
 split at h
 ·exact h
 ·rename_i g;simpa using g
theorem DZ {s:PS} {k:Int} {t:List UInt8} (h:(s.may k t).err=0):s.err=0:=by
 unfold PS.may at h
 split at h<;>exact h
theorem zI {s:PS} {l:List EF} (h:(du s l).2.err=0):s.err=0:=oq (n9 (cL h))
theorem vi {s:PS} {l:List EF} (h:(bI s l).2.err=0):s.err=0:=oq (n9 (oq (cL h)))
theorem eS {s:PS} {k:Int} {t:List UInt8} (h:s.sees k t=true):s.err=0:=by
 unfold PS.sees at h
 rw [Bool.and_eq_true] at h
 simpa using h.1
theorem u6 {s:PS}:∀ {ops:List (List UInt8 × Int)} {n:Int},opS s ops=some n→s.err=0
 | [],_,h=>by cases h
 | q::r,n,h=>by
   unfold opS at h
   split at h
   ·rename_i g;exact eS g
   ·exact u6 h
theorem b8 {s:PS} {e p:Int} (h:s.err≠0):s.fail e p=s:=by
 unfold PS.fail
 rw [if_neg h]
theorem kY {s:PS} {k:Int} {t:List UInt8} (h:s.err≠0):s.sees k t=false:=by
 unfold PS.sees
 rw [decide_eq_false h,Bool.false_and]
theorem l6 {s:PS} {k:Int} {t:List UInt8} (h:s.err≠0):s.must k t=s:=by
 unfold PS.must
 rw [kY h,if_neg (by decide)]
 exact b8 h
theorem xO {s:PS} {k:Int} (h:s.err≠0):(s.of k).2=s:=by
 unfold PS.of PS.has
 rw [decide_eq_false h,Bool.false_and,if_neg (by decide)]
 exact b8 h
theorem tW {s:PS} {l:List EF} (h:s.err≠0):(bI s l).2=s:=by
 unfold bI
 simp only
 rw [xO h]
 have:s.parted s.peek l=s:=by unfold PS.parted;rw [if_pos h]
 rw [this,xO h,l6 h]
section
variable {ex exr:PS→PR} (hex:∀ s,gm s (exr s) (ex s))
include hex
theorem lY (b:List UInt8) (part:PS→List EF→EF × PS) (hp:∀ s l,(part s l).2.err=0→s.err=0):∀ (m:Nat) (s:PS) (l:List EF) (ks:List (List EN)),
  (aP exr b part m s l ks).2.2=(aP ex b part m s l ks).2.2∧((aP ex b part m s l ks).2.2.err=0→s.err=0∧aP exr b part m s l ks=aP ex b part m s l ks)
 | 0,s,l,ks=>⟨rfl,fun h=>⟨h,rfl⟩⟩
 | m+1,s,l,ks=>by
   obtain ⟨h1,h2⟩:=hex (part s l).2
   unfold aP
   simp only
   rw [h1]
   split
   ·rename_i hs
    obtain ⟨g1,g2⟩:=h2 (eS hs)
    rw [g2]
    obtain ⟨k1,k2⟩:=lY b part hp m (ex (part s l).2).2.next (l++[(part s l).1]) (ks++[(ex (part s l).2).1])
    exact ⟨k1,fun h=>⟨hp s l g1,(k2 h).2⟩⟩
   ·refine ⟨rfl,fun h=>?_⟩
    obtain ⟨g1,g2⟩:=h2 h
    exact ⟨hp s l g1,by rw [g2]⟩
theorem vR (s:PS) (pos:Int):gm s (cg exr s pos) (cg ex s pos):=by
 unfold cg
 split
 ·rename_i h
  exact ⟨rfl,fun _=>⟨eS h,rfl⟩⟩
 ·obtain ⟨h1,h2⟩:=lY hex [44] du (fun s l h=>zI h) s.l.length.succ s [] []
  simp only
  refine ⟨by rw [h1],fun h=>?_⟩
  obtain ⟨g1,g2⟩:=h2 (cL h)
  exact ⟨g1,by rw [g2]⟩
theorem yS (hst:∀ s,s.err≠0→(ex s).2=s) (s:PS) (pos:Int):gm s (iA exr s pos) (eX ex s pos):=by
 obtain ⟨h1,h2⟩:=hex s
 unfold iA eX
 simp only
 rw [h1]
 generalize hs1:(ex s).2.must 1 bOf=s1
 split
 ·rename_i he
  have hb:=tW (l:=[]) he
  have hp:(aP ex [124] bI s1.l.length.succ s1 [] []).2.2=s1:=by
   unfold aP
   simp only
   rw [hb,hst s1 he,kY he,if_neg (by decide)]
  refine ⟨?_,fun h=>?_⟩
  ·show s1=_
   simp only
   rw [hp,l6 he]
  ·simp only at h
   rw [hp,l6 he] at h
   exact absurd h he
 ·rename_i he
  obtain ⟨k1,k2⟩:=lY hex [124] bI (fun s l h=>vi h) s1.l.length.succ s1 [] []
  refine ⟨by simp only;rw [k1],fun h=>?_⟩
  have he:(ex s).2.err=0:=by
   refine cL (k:=1) (t:=bOf) ?_
   rw [hs1]
   simpa using he
  obtain ⟨g1,g2⟩:=h2 he
  obtain ⟨_,g3⟩:=k2 (cL h)
  exact ⟨g1,by simp only;rw [g2,g3]⟩
theorem zN (hst:∀ s,s.err≠0→(ex s).2=s) (s:PS):gm s (cQ exr s) (cR ex s):=by
 by_cases he:s.err=0
 ·have key:∀ {r a:PR} {q:PS},gm q r a→gm s r a:=fun h=>⟨h.1,fun e=>⟨he,(h.2 e).2⟩⟩
  have same:∀ r:PR,gm s r r:=fun r=>⟨rfl,fun _=>⟨he,rfl⟩⟩
  unfold cQ cR
  simp only
  split
  ·exact same _
  split
  ·exact same _
  split
  ·exact same _
  split
  ·exact same _
  split
  ·exact same _
  split
  ·exact same _
  split
  ·obtain ⟨h1,h2⟩:=hex s.next
   refine ⟨by simp only;rw [h1],fun h=>⟨he,(h2 (cL h)).2⟩⟩
  split
  ·exact key (vR hex s.next s.peek.pos)
  split
  ·exact key (yS hex hst s.next s.peek.pos)
  ·exact same _
 ·unfold cQ cR
  simp only
  rw [if_pos he,if_pos he]
  exact ⟨rfl,fun h=>absurd h (pP (by decide))⟩
omit hex in
theorem CQ:∀ (m:Nat) (a:List EN) (s:PS),(ch m a s).2.err=0→s.err=0
 | 0,_,_,h=>h
 | m+1,a,s,h=>by
   unfold ch at h
   split at h
   ·rename_i g;exact eS g
   ·exact h
omit hex in
theorem s6:∀ (m:Nat) (a b:List EN) (s:PS),(ch m b s).2=(ch m a s).2∧((s.err=0→b=a)→(ch m a s).2.err=0→ch m b s=ch m a s)
 | 0,a,b,s=>⟨rfl,fun h e=>by
  have e:s.err=0:=e
  rw [h e]⟩
 | m+1,a,b,s=>by
   unfold ch
   split
   ·rename_i g
    obtain ⟨k1,_⟩:=s6 m (au { nd0 12 s.peek.pos with name:=(s.next.of 2).1 } [a]) (au { nd0 12 s.peek.pos with name:=(s.next.of 2).1 } [b]) (s.next.of 2).2
    exact ⟨k1,fun h _=>by rw [h (eS g)]⟩
   ·exact ⟨rfl,fun h e=>by
     have e:s.err=0:=e
     rw [h e]⟩
theorem oP (hst:∀ s,s.err≠0→(ex s).2=s) (s:PS):gm s (dO exr s) (cK ex s):=by
 obtain ⟨h1,h2⟩:=zN hex hst s
 unfold dO cK
 simp only
 rw [h1]
 obtain ⟨k1,k2⟩:=s6 (cR ex s).2.l.length.succ (cR ex s).1 (cQ exr s).1 (cR ex s).2
 refine ⟨k1,fun h=>?_⟩
 have e:=CQ _ _ _ h
 exact ⟨(h2 e).1,by rw [k2 (fun e=>(h2 e).2) h]⟩
theorem uk (hst:∀ s,s.err≠0→(ex s).2=s):∀ (m:Nat) (a b:List EN) (s:PS),(s.err=0→b=a)→gm s (iN exr m b s) (gh ex m a s)
 | 0,a,b,s,h=>⟨rfl,fun e=>⟨e,h e⟩⟩
 | m+1,a,b,s,h=>by
   unfold iN gh
   split
   ·rename_i g
    simp only [Bool.and_eq_true,decide_eq_true_eq] at g
    obtain ⟨k1,k2⟩:=oP hex hst s
    rw [k1,h g.1]
    obtain ⟨q1,q2⟩:=uk hst m (au (nd0 6 (db a).pos) [a,(cK ex s).1]) (au (nd0 6 (db a).pos) [a,(dO exr s).1]) (cK ex s).2 (fun e=>by rw [(k2 e).2])
    exact ⟨q1,fun e=>⟨g.1,(q2 e).2⟩⟩
   ·exact ⟨rfl,fun e=>⟨e,h e⟩⟩
theorem D1 (hst:∀ s,s.err≠0→(ex s).2=s) (s:PS):gm s (mg exr s) (kq ex s):=by
 unfold mg kq
 split
 ·rename_i g
  obtain ⟨h1,h2⟩:=oP hex hst s.next
  exact ⟨h1,fun e=>⟨(h2 e).1,by simp only;rw [(h2 e).2]⟩⟩
 ·obtain ⟨h1,h2⟩:=oP hex hst s
  simp only
  rw [h1]
  obtain ⟨k1,k2⟩:=uk hex hst (cK ex s).2.l.length.succ (cK ex s).1 (dO exr s).1 (cK ex s).2 (fun e=>(h2 e).2)
  exact ⟨k1,fun e=>⟨(h2 (k2 e).1).1,(k2 e).2⟩⟩
omit hex in
theorem wC (ops:List (List UInt8 × Int)) {sub subr:PS→PR} (hs:∀ s,gm s (subr s) (sub s)):∀ (m:Nat) (a b:List EN) (s:PS),(s.err=0→b=a)→gm s (dS ops subr m b s) (dS ops sub m a s)
 | 0,a,b,s,h=>⟨rfl,fun e=>⟨e,h e⟩⟩
 | m+1,a,b,s,h=>by
   unfold dS
   split
   ·rename_i n g
    have he:=u6 g
    obtain ⟨k1,k2⟩:=hs s.next
    rw [k1,h he]
    obtain ⟨q1,q2⟩:=wC ops hs m (au { nd0 10 s.peek.pos with n:=n } [a,(sub s.next).1]) (au { nd0 10 s.peek.pos with n:=n } [a,(subr s.next).1]) (sub s.next).2 (fun e=>by rw [(k2 e).2])
    exact ⟨q1,fun e=>⟨he,(q2 e).2⟩⟩
   ·exact ⟨rfl,fun e=>⟨e,h e⟩⟩
omit hex in
theorem sV (ops:List (List UInt8 × Int)) {sub subr:PS→PR} (hs:∀ s,gm s (subr s) (sub s)) (s:PS):gm s (dS ops subr (subr s).2.l.length.succ (subr s).1 (subr s).2) (dS ops sub (sub s).2.l.length.succ (sub s).1 (sub s).2):=by
 obtain ⟨h1,h2⟩:=hs s
 rw [h1]
 obtain ⟨k1,k2⟩:=wC ops hs (sub s).2.l.length.succ (sub s).1 (subr s).1 (sub s).2 (fun e=>(h2 e).2)
 exact ⟨k1,fun e=>⟨(h2 (k2 e).1).1,(k2 e).2⟩⟩
theorem Br (hst:∀ s,s.err≠0→(ex s).2=s) (s:PS):gm s (jZ exr s) (iW ex s):=sV _ (D1 hex hst) s
theorem wL (hst:∀ s,s.err≠0→(ex s).2=s) (s:PS):gm s (rm exr s) (nW ex s):=sV _ (Br hex hst) s
theorem Fb (hst:∀ s,s.err≠0→(ex s).2=s) (s:PS):gm s (yj exr s) (pD ex s):=by
 obtain ⟨h1,h2⟩:=wL hex hst s
 unfold yj pD
 simp only
 rw [h1]
 cases g:opS (nW ex s).2 dE with
 | some n =>
   have he:=u6 g
   obtain ⟨k1,k2⟩:=wL hex hst (nW ex s).2.next
   refine ⟨k1,fun e=>⟨(h2 he).1,?_⟩⟩
   simp only
   rw [(h2 he).2,(k2 e).2]
 | none=>exact ⟨h1,h2⟩
theorem D9 (s:PS) (pos:Int):gm s (lz exr s pos) (lz ex s pos):=by
 unfold lz
 simp only
 generalize (if s.sees 1 gy=true then (8:Int) else 7)=k
 obtain ⟨s2,hs2⟩:∃ q,q=((s.may 1 gy).of 2).2.must 7 [61]:=⟨_,rfl⟩
 rw [← hs2]
 obtain ⟨h1,h2⟩:=hex s2
 have e3:(if k=8∧(db (exr s2).1).k≠5 then (exr s2).2.fail 5 s2.peek.pos else (exr s2).2)=(if k=8∧(db (ex s2).1).k≠5 then (ex s2).2.fail 5 s2.peek.pos else (ex s2).2):=by
  rw [h1]
  by_cases he:(ex s2).2.err=0
  ·rw [(h2 he).2]
  ·rw [b8 he]
   split<;>split<;>rfl
 rw [e3]
 obtain ⟨s3,hs3⟩:∃ q,q=(if k=8∧(db (ex s2).1).k≠5 then (ex s2).2.fail 5 s2.peek.pos else (ex s2).2):=⟨_,rfl⟩
 rw [← hs3]
 obtain ⟨k1,k2⟩:=hex (s3.must 1 bIn)
 refine ⟨k1,fun e=>?_⟩
 obtain ⟨g1,g2⟩:=k2 e
 have g3:=cL g1
 rw [hs3] at g3
 have g4:(ex s2).2.err=0:=by
  split at g3
  ·exact absurd g3 (pP (by decide))
  ·exact g3
 obtain ⟨g5,g6⟩:=h2 g4
 rw [hs2] at g5
 exact ⟨DZ (oq (cL g5)),by simp only;rw [g6,g2]⟩
theorem Hc (s:PS) (pos:Int):gm s (ifS exr s pos) (ifS ex s pos):=by
 unfold ifS
 simp only
 obtain ⟨a1,a2⟩:=hex s
 rw [a1]
 obtain ⟨b1,b2⟩:=hex ((ex s).2.must 1 gN)
 rw [b1]
 obtain ⟨c1,c2⟩:=hex ((ex ((ex s).2.must 1 gN)).2.must 1 iF)
 refine ⟨c1,fun e=>?_⟩
 obtain ⟨e1,e2⟩:=c2 e
 obtain ⟨e3,e4⟩:=b2 (cL e1)
 obtain ⟨e5,e6⟩:=a2 (cL e3)
 exact ⟨e5,by simp only;rw [e2,e4,e6]⟩
theorem Aq (hst:∀ s,s.err≠0→(ex s).2=s) (s:PS):gm s (fx exr s) (lA ex s):=by
 unfold fx lA
 simp only
 split
 ·rename_i g
  obtain ⟨h1,h2⟩:=hex ((s.next.of 2).2.must 7 bTo)
  exact ⟨h1,fun e=>⟨eS g,by simp only;rw [(h2 e).2]⟩⟩
 split
 ·exact D9 hex s.next s.peek.pos
 split
 ·exact Hc hex s.next s.peek.pos
 ·exact Fb hex hst s
end
theorem yk:∀ (m:Nat) (s:PS),s.err≠0→(ei m s).2=s
 | 0,s,h=>b8 h
 | m+1,s,h=>by
   unfold ei
   rw [if_pos h]
theorem sU:∀ (m:Nat) (s:PS),gm s (fJ m s) (ei m s)
 | 0,s=>⟨rfl,fun e=>absurd e (pP (by decide))⟩
 | m+1,s=>by
   unfold fJ ei
   by_cases he:s.err=0
   ·rw [if_neg (by simp [he]),if_neg (by simp [he])]
    obtain ⟨h1,h2⟩:=Aq (sU m) (yk m) { s with nest:=s.nest+1 }
    exact ⟨by simp only;rw [h1],fun e=>⟨he,(h2 e).2⟩⟩
   ·rw [if_pos he,if_pos he]
    exact ⟨rfl,fun e=>absurd e he⟩
end Go.Proofs.YtejpnabbmgpmaaaGreat

namespace Go.Proofs.YtejpnabbmgpmaaaGreat
open Go.Ab
section
variable {ex:PS→PR} (hex:∀ s,GP 1 s (ex s))
include hex
theorem mH (s:PS) (pos:Int):GP 3 s (iA ex s pos):=by
 unfold iA
 simp only
 split
 ·exact (GP.sI (hex s) (SS.refl s) rfl rfl (by omega)).post (SS.must _ _ _)
 ·have:=j5 hex s pos
  unfold eX at this
  exact this
theorem nB (s:PS):GQ s (cQ ex s):=by
 have lf:∀ n:EN,bf n=0→n.l=[]→s.next.l.length+1=s.l.length→GQ s (bj n,s.next):=fun n h1 h2 h3 =>
  ⟨GP.leaf h1 h2 (SS.next s) (by omega),fun _=>by show (au n []).length+_+1≤_;rw [cU];simp only [aT,List.map_nil,List.sum_nil];omega⟩
 have no:GQ s (noE,s.wrong):=⟨GP.leaf rfl rfl (SS.wrong s) (by have:=(SS.wrong s).len;omega),fun h=>absurd h (by show ¬ s.wrong.l.length<_;unfold PS.wrong PS.fail;split<;>simp)⟩
 unfold cQ
 simp only
 split
 ·exact no
 split
 ·rename_i h;exact lf _ rfl rfl (cY h (by decide))
 split
 ·rename_i h;exact lf _ rfl rfl (cY h (by decide))
 split
 ·rename_i h;exact lf _ rfl rfl (cY h (by decide))
 split
 ·rename_i h;exact lf _ rfl rfl (ax h)
 split
 ·rename_i h;exact lf _ rfl rfl (ax h)
 split
 ·rename_i h
  have h1:=ax h
  have he:=hex s.next
  have h2:=he.sz
  have h3:=(SS.must (ex s.next).2 7 [41]).len
  exact ⟨(GP.pre (e:=1) (r:=((ex s.next).1,(ex s.next).2)) he (SS.next s) (by omega)).post (SS.must _ _ _),fun _=>by simp only;omega⟩
 split
 ·rename_i h
  have h1:=ax h
  have he:=ga hex s.next s.peek.pos
  have h2:=he.sz
  exact ⟨he.pre (SS.next s) (by omega),fun _=>by omega⟩
 split
 ·rename_i h
  have h1:=ax h
  have he:=mH hex s.next s.peek.pos
  have h2:=he.sz
  exact ⟨he.pre (SS.next s) (by omega),fun _=>by omega⟩
 ·exact no
theorem iz (s:PS):GQ s (dO ex s):=gJ s _ _ _ (nB hex s)
theorem oR {s:PS} (he:s.err=0) (hb:s.begins=true):(dO ex s).2.l.length<s.l.length:=by
 have h1:=oA (cQ ex s).2.l.length.succ (cQ ex s).1 (cQ ex s).2
 have key:(cQ ex s).2.l.length<s.l.length:=by
  unfold PS.begins at hb
  simp only [Bool.or_eq_true,Bool.and_eq_true,decide_eq_true_eq] at hb
  unfold cQ
  simp only [he,ne_eq,not_true_eq_false,if_false]
  have hk:∀ k:Int,s.peek.k=k→k≠0→s.next.l.length<s.l.length:=fun k h h0=>by have:=cY h h0;omega
  have hne:∀ k:Int,s.peek.k=k→k≠0→s.l.isEmpty=false:=fun k h h0=>by
   have:=cY h h0
   cases hl:s.l with
   | nil=>rw [hl] at this;simp at this
   | cons _ _=>rfl
  split
  ·rename_i h;exact hk 4 h (by decide)
  split
  ·rename_i h;exact hk 5 h (by decide)
  split
  ·rename_i h;exact hk 2 h (by decide)
  rename_i g4 g5 g2
  split
  ·rename_i h;have:=ax h;simp only;omega
  rename_i g1
  split
  ·rename_i h;have:=ax h;simp only;omega
  rename_i g3
  split
  ·rename_i h
   have:=ax h
   have:=(hex s.next).ss.len
   have:=(SS.must (ex s.next).2 7 [41]).len
   simp only;omega
  rename_i g6
  split
  ·rename_i h
   have:=ax h
   have:=(ga hex s.next s.peek.pos).ss.len
   omega
  rename_i g7
  split
  ·rename_i h
   have:=ax h
   have:=(mH hex s.next s.peek.pos).ss.len
   omega
  rename_i g8
  exfalso
  have see:∀ k t,k≠0→s.peek.k=k→s.peek.s=t→s.sees k t=true:=fun k t h0 h h'=>by
   simp [PS.sees,PS.is,he,h,h',hne k h h0]
  rcases hb with (((h | h) | h) | ⟨h,h'⟩) | ⟨h,h'⟩
  ·exact g4 h
  ·exact g5 h
  ·exact g2 h
  ·rcases h' with (h' | h') | h'
   ·exact g1 (see 1 _ (by decide) h h')
   ·exact g3 (see 1 _ (by decide) h h')
   ·exact g8 (see 1 _ (by decide) h h')
  ·rcases h' with h' | h'
   ·exact g6 (see 7 _ (by decide) h h')
   ·exact g7 (see 7 _ (by decide) h h')
 exact Nat.lt_of_le_of_lt h1 key
theorem kc (s0:PS):∀ (m:Nat) (a:List EN) (s:PS),GP 1 s0 (a,s)→GP 1 s0 (iN ex m a s)
 | 0,_,_,h=>h
 | m+1,a,s,h=>by
   unfold iN
   split
   ·rename_i hs
    simp only [Bool.and_eq_true,decide_eq_true_eq] at hs
    have hp:=iz hex s
    have hl:=oR hex hs.1 hs.2
    have h2:=hp.2 hl
    have h3:=h.sz
    have h4:=h.ss.len
    simp only at h3 h4
    refine kc s0 m _ _ ⟨h.ss.trans hp.1.ss,.join _ _ rfl (fun l hl=>?_),?_,dk (Nat.zero_le _) fun l hl=>?_⟩
    ·rcases List.mem_cons.1 hl with rfl | hl
     ·exact h.tr
     ·rw [List.mem_singleton.1 hl];exact hp.1.tr
    ·rw [cU]
     simp only [aT,List.map_cons,List.map_nil,List.sum_cons,List.sum_nil]
     omega
    ·rcases List.mem_cons.1 hl with rfl | hl
     ·exact h.wd.mono (by simp only;omega)
     ·rw [List.mem_singleton.1 hl];exact hp.1.wd.mono (by simp only;omega)
   ·exact h
theorem l8 (s:PS):GP 1 s (mg ex s):=by
 unfold mg
 simp only
 split
 ·rename_i h
  have h1:=v9 h (by decide)
  exact GP.sI (iz hex s.next).1 (SS.next s) rfl rfl (by omega)
 ·exact kc hex s _ _ _ (iz hex s).1
theorem kg (s:PS):GP 1 s (jZ ex s):=ji _ _ (l8 hex) s _ _ _ (l8 hex s)
theorem gS (s:PS):GP 1 s (rm ex s):=ji _ _ (kg hex) s _ _ _ (kg hex s)
theorem yh (s:PS):GP 1 s (yj ex s):=by
 unfold yj
 simp only
 split
 ·rename_i n ho
  have h1:=dG ho
  exact GP.iZ (gS hex s) (gS hex _) (SS.refl s) (SS.next _) rfl rfl (by omega)
 ·exact gS hex s
theorem ou (s:PS):GP 1 s (fx ex s):=by
 unfold fx
 simp only
 split
 ·rename_i h
  have h1:=ax h
  have h2:=(SS.of s.next 2).len
  have h3:=(SS.must (s.next.of 2).2 7 bTo).len
  exact GP.sI (hex _) ((SS.next s).trans ((SS.of _ _).trans (SS.must _ _ _))) rfl rfl (by omega)
 split
 ·rename_i h
  have h1:=ax h
  exact (oE hex s.next _).pre (SS.next s) (by omega)
 split
 ·rename_i h
  have h1:=ax h
  exact (r9 hex s.next _).pre (SS.next s) (by omega)
 ·exact yh hex s
end
theorem ko:∀ (m:Nat) (s:PS),GP 1 s (fJ m s)
 | 0,s=>GP.leaf rfl rfl (SS.failp s 6) (by have:=(SS.failp s 6).len;omega)
 | m+1,s=>by
   unfold fJ
   split
   ·exact GP.leaf rfl rfl (SS.refl s) (by omega)
   ·have h:=ou (ko m) { s with nest:=s.nest+1 }
    refine ⟨⟨h.ss.suf,h.ss.fin,rfl,fun N hN=>h.ss.pos N hN⟩,h.tr,h.sz,h.wd⟩
end Go.Proofs.YtejpnabbmgpmaaaGreat

namespace Go.Proofs.YtejpnabbmgpmaaaGreat
open Go.Ab
def TX (L:List Tok) (a:Nat) (fin:Int):List (Name × Ob):=[([101],.box [.d (ae L),.d (i64 a),.d (i64 fin)])]
theorem yF {L:List Tok} {a:Nat} {fin:Int} (h:a<L.length):bt (L.drop a) fin=L[a]:=by
 rw [List.drop_eq_getElem_cons h];rfl
theorem yi {L:List Tok} {a:Nat} {fin:Int} (h:L.length≤a):bt (L.drop a) fin=⟨0,[],0,fin⟩:=by
 rw [List.drop_eq_nil_of_le h];rfl
theorem Gp {L:List Tok} {a:Nat} (h:a<L.length):(L.map ck).getD a .nilp=.agg [i64 L[a].k,.str L[a].s,i64 L[a].n,i64 L[a].pos]:=by
 rw [List.getD_eq_getElem?_getD,List.getElem?_map,List.getElem?_eq_getElem h];rfl
theorem vE {G} (L:List Tok) (a:Nat) (fin:Int) (_hl:L.length≤1000000):HCall Tryz.prog G 72 [.bx [101] 0] (TX L a fin) [101] (fun r hp'=>r=.d (.agg [i64 (bt (L.drop a) fin).k,.str (bt (L.drop a) fin).s,i64 (bt (L.drop a) fin).n,i64 (bt (L.drop a) fin).pos])∧hp'=TX L a fin):=by
 unfold TX ae
 refine aq Tryz.func72 rfl (by decide +kernel) (by simp [Tryz.ntmps72]) (veil fun E=>?_)
 simp only [go_sem]
 refine ak mixed E fun X=>?_
 simp only [go_sem]
 refine cD X (d:=4) [101] 0 none _ (by simp only [go_sem]) rfl rfl ?_
 simp only [go_sem]
 refine cD X (d:=8) [101] 0 none _ (by simp only [go_sem]) rfl rfl ?_
 simp only [go_sem]
 refine ⟨by decide +kernel,?_⟩
 refine ah E (fun h=>?_) (fun h=>?_)<;>simp only [go_sem]
 ·refine ak mixed E fun X=>?_
  simp only [go_sem]
  refine cD X (d:=14) [101] 0 none _ (by simp only [go_sem]) rfl rfl ?_
  simp only [go_sem]
  refine cD X (d:=18) [101] 0 none _ (by simp only [go_sem]) rfl rfl ?_
  simp only [go_sem]
  refine ⟨⟨by omega,by omega⟩,?_⟩
  have h':a<L.length:=by omega
  have ht:=Gp h'
  generalize (L.map ck).getD a .nilp=g at *
  subst ht
  simp only [go_sem]
  refine ⟨by decide +kernel,?_⟩
  rw [yF h']
  refine ⟨_,_,[101],id,⟨rfl,rfl⟩,?_⟩
  simp only [go_sem]
 ·rw [yi (by omega)]
  refine ⟨_,_,[101],id,⟨rfl,rfl⟩,?_⟩
  simp only [go_sem]
theorem FK {G} (L:List Tok) (a:Nat) (fin:Int) (hl:L.length≤1000000):HCall Tryz.prog G 138 [.bx [101] 0] (TX L a fin) [101] (fun r hp'=>r=.d (.agg [i64 (bt (L.drop a) fin).k,.str (bt (L.drop a) fin).s,i64 (bt (L.drop a) fin).n,i64 (bt (L.drop a) fin).pos])∧hp'=TX L (if a<L.length then a+1 else a) fin):=by
 unfold TX ae
 refine aq Tryz.func138 rfl (by decide +kernel) (by simp [Tryz.ntmps138]) (veil fun E=>?_)
 simp only [go_sem]
 refine ab E [.bx [101] 0] (TX L a fin) [101] (vE L a fin hl) rfl rfl ⟨by simp only [go_sem],by first | (rw [aa];decide) | (simp only [go_sem]<;>(try rw [aa])<;>decide)⟩ rfl (by unfold TX ae;simp only [go_sem]) (by unfold TX;simp only [go_sem]) ?_
 rintro _ _ ⟨rfl,rfl⟩
 unfold TX ae
 simp only [go_sem]
 refine ak mixed E fun X=>?_
 simp only [go_sem]
 refine cD X (d:=7) [101] 0 none _ (by simp only [go_sem]) rfl rfl ?_
 simp only [go_sem]
 refine cD X (d:=11) [101] 0 none _ (by simp only [go_sem]) rfl rfl ?_
 simp only [go_sem]
 refine ⟨by decide +kernel,?_⟩
 refine ah E (fun h=>?_) (fun h=>?_)<;>simp only [go_sem]
 ·rw [if_pos (by omega),ai (n:=(a:Int)+1) ⟨by omega,by omega⟩]
  refine ⟨_,_,[101],id,⟨rfl,rfl⟩,?_⟩
  simp only [go_sem]
  rfl
 ·rw [if_neg (by omega)]
  refine ⟨_,_,[101],id,⟨rfl,rfl⟩,?_⟩
  simp only [go_sem]
theorem Dq {G} (L:List Tok) (a:Nat) (fin k:Int) (t:List UInt8) (hl:L.length≤1000000) (hk:k≠0∧k≠4):HCall Tryz.prog G 211 [.bx [101] 0,.d (i64 k),.d (.str t)] (TX L a fin) [101] (fun r hp'=>r=.d (.bool (isT (L.drop a) fin k t))∧hp'=TX L a fin):=by
 have hno:(L.drop a).isEmpty=true→(bt (L.drop a) fin).k=0:=fun h=>by rw [List.isEmpty_iff.1 h];rfl
 unfold isT
 unfold TX ae
 refine aq Tryz.func211 rfl (by decide +kernel) (by simp [Tryz.ntmps211]) (veil fun E=>?_)
 simp only [go_sem]
 refine ab E [.bx [101] 0] (TX L a fin) [101] (vE L a fin hl) rfl rfl ⟨by simp only [go_sem],by first | (rw [aa];decide) | (simp only [go_sem]<;>(try rw [aa])<;>decide)⟩ rfl (by unfold TX ae;simp only [go_sem]) (by unfold TX;simp only [go_sem]) ?_
 rintro _ _ ⟨rfl,rfl⟩
 unfold TX ae
 simp only [go_sem]
 generalize bt (L.drop a) fin=tk at *
 generalize (L.drop a).isEmpty=em at *
 refine an E (fun h1=>?_) (fun h1=>?_)<;>simp only [go_sem]
 ·refine an E (fun h2=>?_) (fun h2=>?_)<;>simp only [go_sem]
  ·have hem:em=false:=by
    cases em
    ·rfl
    ·exact absurd (hno rfl) h2
   refine bU E (fun h3=>?_) (fun h3=>?_)<;>simp only [go_sem]
   ·have h3:tk.s=t:=by simpa using h3
    rw [decide_eq_true h1,decide_eq_true h3,hem]
    refine ⟨_,_,[101],id,⟨rfl,rfl⟩,?_⟩
    simp only [go_sem]
   ·have h3:¬ tk.s=t:=by simpa using h3
    rw [decide_eq_true h1,decide_eq_false h3,hem,decide_eq_false hk.2]
    refine ⟨_,_,[101],id,⟨rfl,rfl⟩,?_⟩
    simp only [go_sem]
  ·exact absurd (h1.symm.trans (by omega)) hk.1
 ·rw [decide_eq_false h1,Bool.and_false,Bool.false_and]
  refine ⟨_,_,[101],id,⟨rfl,rfl⟩,?_⟩
  simp only [go_sem]
theorem Ar {L:List Tok} {a:Nat} {fin k:Int} {t:List UInt8} (h:isT (L.drop a) fin k t=true):a<L.length:=by
 unfold isT at h
 simp only [Bool.and_eq_true,Bool.not_eq_true'] at h
 have:=List.isEmpty_eq_false_iff.1 h.1.1
 by_cases hl:a<L.length
 ·exact hl
 ·exact absurd (List.drop_eq_nil_of_le (by omega)) this
theorem Ey {G} (L:List Tok) (a:Nat) (fin k:Int) (t:List UInt8) (hl:L.length≤1000000) (hk:k≠0∧k≠4):HCall Tryz.prog G 137 [.bx [101] 0,.d (i64 k),.d (.str t)] (TX L a fin) [101] (fun r hp'=>r=.d (.bool (isT (L.drop a) fin k t))∧hp'=TX L (if isT (L.drop a) fin k t then a+1 else a) fin):=by
 have hlt:=Ar (L:=L) (a:=a) (fin:=fin) (k:=k) (t:=t)
 have h0:=Dq (G:=G) L a fin k t hl hk
 generalize isT (L.drop a) fin k t=b at *
 unfold TX ae at *
 refine aq Tryz.func137 rfl (by decide +kernel) (by simp [Tryz.ntmps137]) (veil fun E=>?_)
 simp only [go_sem]
 refine ab E [.bx [101] 0,.d (i64 k),.d (.str t)] (TX L a fin) [101] (h0) rfl rfl ⟨by simp only [go_sem],by first | (rw [aa];decide) | (simp only [go_sem]<;>(try rw [aa])<;>decide)⟩ rfl (by unfold TX ae;simp only [go_sem]) (by unfold TX;simp only [go_sem]) ?_
 rintro _ _ ⟨rfl,rfl⟩
 unfold TX ae
 simp only [go_sem]
 refine aB E (fun h=>?_) (fun h=>?_)<;>simp only [go_sem]
 ·have h':b=false:=by simpa using h
  subst h'
  refine ⟨_,_,[101],id,⟨rfl,rfl⟩,?_⟩
  simp only [go_sem]
 ·have h':b=true:=by simpa using h
  have:=hlt h'
  subst h'
  rw [ai (n:=(a:Int)+1) ⟨by omega,by omega⟩]
  refine ⟨_,_,[101],id,⟨rfl,rfl⟩,?_⟩
  simp only [go_sem]
  rfl
end Go.Proofs.YtejpnabbmgpmaaaGreat

namespace Go.Proofs.YtejpnabbmgpmaaaGreat
open Go.Ab
theorem FA (l:List EF):decide (0<(l.length:Int))=!l.isEmpty:=by cases l<;>simp<;>omega
theorem Fu (s:List UInt8):decide (200<(s.length:Int))=!decide (s.length≤200):=by
 by_cases h:s.length≤200
 ·rw [decide_eq_true h,decide_eq_false (by omega)];rfl
 ·rw [decide_eq_false h,decide_eq_true (by omega)];rfl
theorem Gy (m:Int):decide (m<1)=!decide (1≤m):=by
 by_cases h:1≤m
 ·rw [decide_eq_true h,decide_eq_false (by omega)];rfl
 ·rw [decide_eq_false h,decide_eq_true (by omega)];rfl
theorem Jn (m:Int):decide (7<m)=!decide (m≤7):=by
 by_cases h:m≤7
 ·rw [decide_eq_true h,decide_eq_false (by omega)];rfl
 ·rw [decide_eq_false h,decide_eq_true (by omega)];rfl
theorem tI (n:EN) (hp:0≤n.pos∧n.pos≤1048576) (hk:1≤n.k∧n.k≤14) :
  bL n=(!(decide (¬n.k=1) && decide (¬n.k=2) && decide (¬n.k=10) && decide (¬n.n=0) || decide (¬n.k=3) && !n.s == [] || decide (¬n.k=11) && decide (¬n.k=14) && decide (0<(n.l.length:Int)))
   && (!(!(decide (n.k=5) || decide (n.k=12) || decide (n.k=13) || decide (n.k=14)) && !(decide (n.k=6) || decide (n.k=7) || decide (n.k=8) || decide (n.k=10)) && decide (¬n.k=9) && decide (¬n.a=0) || !(decide (n.k=6) || decide (n.k=7) || decide (n.k=8) || decide (n.k=10)) && decide (¬n.k=9) && decide (¬n.b=0) || decide (¬n.k=9) && decide (¬n.c=0))
   && (!((decide (n.k=4) || decide (n.k=5) || decide (n.k=7) || decide (n.k=8) || decide (n.k=12)) && !dQ n.name || decide (n.k=13) && !kl n.name || !(decide (n.k=4) || decide (n.k=5) || decide (n.k=7) || decide (n.k=8) || decide (n.k=12)) && decide (¬n.k=13) && !n.name == [])
   && (!(decide (n.k=2) && decide (¬n.n=0) && decide (¬n.n=1) || decide (n.k=10) && (decide (n.n<1) || decide (7<n.n)) || decide (n.k=3) && decide (200<(n.s.length:Int)))
   && (decide (¬n.k=11) && decide (¬n.k=14) || bY n))))):=by
 have hr:bL n=(ib n && dY n && bY n && ff n):=by
  unfold bL
  rw [decide_eq_true hk.1,decide_eq_true hk.2,decide_eq_true hp.1,decide_eq_true hp.2]
  simp
 have hk':n.k=1∨n.k=2∨n.k=3∨n.k=4∨n.k=5∨n.k=6∨n.k=7∨n.k=8∨n.k=9∨n.k=10∨n.k=11∨n.k=12∨n.k=13∨n.k=14:=by omega
 rw [hr,FA,Fu,Gy,Jn]
 clear hr hk hp
 obtain ⟨k,a,b,c,m,nm,s,l,p⟩:=n
 simp only [kH] at hk' ⊢
 unfold ib dY ff
 have hpt:∀ k,aH k=false→bY ⟨k,a,b,c,m,nm,s,l,p⟩=l.isEmpty:=fun k h=>by unfold bY;rw [h];rfl
 rcases hk' with rfl | rfl | rfl | rfl | rfl | rfl | rfl | rfl | rfl | rfl | rfl | rfl | rfl | rfl
 all_goals
  first | rw [hpt _ rfl] | skip
  try generalize bY _=y
  generalize s.isEmpty=b1
  generalize nm.isEmpty=b2
  try generalize l.isEmpty=b3
  try generalize dQ nm=b4
  try generalize kl nm=b5
  simp [aF]
  first | done | ac_rfl | (generalize decide (m=0)=d0;generalize decide (m=1)=d1;cases d0<;>cases d1<;>simp<;>ac_rfl) | (generalize decide (1≤m)=d0;generalize decide (m≤7)=d1;cases d0<;>cases d1<;>simp<;>ac_rfl)
end Go.Proofs.YtejpnabbmgpmaaaGreat

