/-
  States and automata as data; whether a place is a state on a side; what a state has not; rising numbers; names. (with the parts that follow it)
-/
import Derived.Test.YthfodompfpdmgaaGreatDoorSOE
import Derived.Test.YthfodompfpdmgaaGreatDoorSOG
import Derived.Test.YthfodompfpdmgaaGreatDoorSOF
import Derived.Test.YthfodompfpdmgaaGreatDoorSOD
import Derived.Lib.ItoaLen
import Derived.Shelf.SlSortCmp.WholeK
import Derived.Shelf.Sort.Plain
import Derived.Shelf.Slices.In.SortNone
import Derived.Shelf.LaysM
import Derived.Shelf.Sort.AssemblyIn
import Derived.Shelf.SlLaysF0
import Derived.Ground.NamesProg
set_option linter.all false
namespace Go.Proofs.YthfodompfpdmgaaGreatDoor
open Go.Ab
def stD (s:EA):D:=.agg [.bool s.plus,.bool s.al,.bool s.int,.bool s.bool,.bool s.str,.bool s.arr,.bool s.rc,.bool s.tg,aj s.vars,i64 s.dom,i64 s.cod,bP s.fl,bP s.tl]
def auD (l:List EA) (start:Int):D:=.agg [.sl (some 13) (l.map stD),i64 start]
theorem mM {l:List EA} {i:Nat} (h:i<l.length):(l.map stD).getD i .nilp=stD l[i]:=by simp [h]
def onA (l:List EA) (k:Int) (p:Bool):Bool:=(decide (0≤k) && decide (k<l.length)) && ((l.getD k.toNat default).plus == p)
theorem qi {G} (l:List EA) (st k:Int) (p:Bool):HP Tryz.prog G 32 [auD l st,i64 k,.bool p] (fun r=>r=.d (.bool (onA l k p))):=by
 unfold auD
 refine ao Tryz.func32 rfl (by decide +kernel) (by simp [Tryz.ntmps32]) (veil fun E=>?_)
 simp only [go_sem]
 refine aC E (fun h1=>?_) (fun h1=>?_)<;>simp only [go_sem]
 ·refine aC E (fun h2=>?_) (fun h2=>?_)<;>simp only [go_sem]
  ·refine ⟨⟨h1,h2⟩,?_⟩
   have hk:k.toNat<l.length:=by omega
   rw [mM hk,stD]
   simp only [go_sem]
   simp [onA,h1,h2,hk]
  ·simp [onA,h2]
 ·simp [onA,h1]
def gh (s:EA):Bool :=
 !(s.al && (s.int || s.bool || s.str || s.arr || s.rc || s.tg || !s.vars.isEmpty)) && !(!s.arr && (!decide (s.dom=0) || !decide (s.cod=0))) && ((s.rc || s.fl.isEmpty) && (s.tg || s.tl.isEmpty))
theorem Ii {α:Type} (l:List α):decide ((0:Int)<(l.length:Int))=!l.isEmpty:=by cases l<;>simp
theorem Eg {α:Type} (l:List α):decide ((l.length:Int)=0)=l.isEmpty:=by cases l<;>simp;omega
theorem F3 {G} (s:EA):HP Tryz.prog G 61 [stD s] (fun r=>r=.d (.bool (gh s))):=by
 unfold stD aj bP
 refine ao Tryz.func61 rfl (by decide +kernel) (by simp [Tryz.ntmps61]) (veil fun E=>?_)
 simp only [go_sem]
 repeat (first
  | (apply a8 E;(· simp only [go_sem]);(· intro h;(try simp only [bq] at h);simp only [↓h,go_sem];rfl);simp only [go_sem])
  | (apply aJ E;(· simp only [go_sem]);(· intro h;(try simp only [bq] at h);simp only [↓h,go_sem];rfl);(· intro h;(try simp only [bq] at h);simp only [↓h,go_sem];rfl);simp only [go_sem])
  | (apply aH E;(· simp only [go_sem]);(· rfl);(· intro h h';(try simp only [bq] at h h');simp only [↓h,↓h',go_sem];rfl);simp only [go_sem])
  | (apply aA E;(· simp only [go_sem]);(· rfl);(· intro h h';(try simp only [bq] at h h');simp only [↓h,↓h',go_sem];rfl);(· intro h h';(try simp only [bq] at h h');simp only [↓h,↓h',go_sem];rfl);simp only [go_sem])
  | (apply bj E;(· decide);simp only [go_sem]))
 have h0:=Ii s.vars
 have h1:=Eg s.fl
 have h2:=Eg s.tl
 refine aX E (fun h=>?_) (fun h=>?_)<;>simp only [go_sem]
 ·unfold gh
  rw [h0] at h
  rw [h];rfl
 rw [h0] at h
 repeat (first
  | (apply a8 E;(· simp only [go_sem]);(· intro h;(try simp only [bq] at h);simp only [↓h,go_sem];rfl);simp only [go_sem])
  | (apply aJ E;(· simp only [go_sem]);(· intro h;(try simp only [bq] at h);simp only [↓h,go_sem];rfl);(· intro h;(try simp only [bq] at h);simp only [↓h,go_sem];rfl);simp only [go_sem])
  | (apply aH E;(· simp only [go_sem]);(· rfl);(· intro h h';(try simp only [bq] at h h');simp only [↓h,↓h',go_sem];rfl);simp only [go_sem])
  | (apply aA E;(· simp only [go_sem]);(· rfl);(· intro h h';(try simp only [bq] at h h');simp only [↓h,↓h',go_sem];rfl);(· intro h h';(try simp only [bq] at h h');simp only [↓h,↓h',go_sem];rfl);simp only [go_sem])
  | (apply bj E;(· decide);simp only [go_sem]))
 refine aX E (fun h3=>?_) (fun h3=>?_)<;>simp only [go_sem]
 ·unfold gh
  rw [h]
  revert h3
  cases s.arr<;>by_cases g1:s.dom=0<;>by_cases g2:s.cod=0<;>simp [g1,g2]
 repeat (first
  | (apply a8 E;(· simp only [go_sem]);(· intro h;(try simp only [bq] at h);simp only [↓h,go_sem];rfl);simp only [go_sem])
  | (apply aJ E;(· simp only [go_sem]);(· intro h;(try simp only [bq] at h);simp only [↓h,go_sem];rfl);(· intro h;(try simp only [bq] at h);simp only [↓h,go_sem];rfl);simp only [go_sem])
  | (apply aH E;(· simp only [go_sem]);(· rfl);(· intro h h';(try simp only [bq] at h h');simp only [↓h,↓h',go_sem];rfl);simp only [go_sem])
  | (apply aA E;(· simp only [go_sem]);(· rfl);(· intro h h';(try simp only [bq] at h h');simp only [↓h,↓h',go_sem];rfl);(· intro h h';(try simp only [bq] at h h');simp only [↓h,↓h',go_sem];rfl);simp only [go_sem])
  | (apply bj E;(· decide);simp only [go_sem]))
 unfold gh
 rw [h,h1,h2]
 revert h3
 cases s.arr<;>by_cases g1:s.dom=0<;>by_cases g2:s.cod=0<;>simp [g1,g2]
theorem j8 {p:Nat→Bool} {i:Nat} (h:(List.range i).all p=true) (hp:p i=true):(List.range (i+1)).all p=true:=by
 rw [List.range_succ,List.all_append,h];simp [hp]
theorem jy {p:Nat→Bool} {i n:Nat} (hi:i<n) (hp:p i=false):(List.range n).all p=false:=by
 rw [List.all_eq_false]
 exact ⟨i,List.mem_range.2 hi,by simp [hp]⟩
def rv (l:List Int) (i:Nat):Bool:=(decide (0≤l.getD i 0) && decide (l.getD i 0≤999)) && (decide (i=0) || decide (l.getD (i-1) 0<l.getD i 0))
def nv (l:List Int):Bool:=(List.range l.length).all (rv l)
theorem ef {l:List Int} {i:Nat} (h:i<l.length):(l.map i64).getD i .nilp=i64 (l.getD i 0):=by simp [h]
theorem Gp {G} (l:List Int) (hl:l.length≤1000000):HP Tryz.prog G 62 [aj l] (fun r=>r=.d (.bool (nv l))):=by
 unfold aj
 refine ao Tryz.func62 rfl (by decide +kernel) (by simp [Tryz.ntmps62]) (veil fun E=>?_)
 simp only [go_sem]
 refine bc E (X:={ i:Nat // i≤l.length∧(List.range i).all (rv l)=true }) (fun x=>[(0,.d (.sl none (l.map i64))),(5,.d (.sl none (l.map i64))),(6,.d (i64 l.length)),(7,.d (i64 x.1))]) (fun x=>l.length-x.1) rfl ⟨0,Nat.zero_le _,by simp⟩ ?_ ?_
 ·simp only [go_sem]
  all_goals rfl
 rintro ⟨i,hi,hab⟩ E'
 simp only [go_sem]
 refine ai E' (fun h1=>?_) (fun h1=>?_)<;>simp only [go_sem]
 ·have h1':i<l.length:=by omega
  refine ⟨by omega,?_⟩
  rw [ef h1']
  simp only [go_sem]
  refine aC E' (fun h2=>?_) (fun h2=>?_)<;>simp only [go_sem]
  ·rw [show nv l=false from jy h1' (by simp only [rv,Bool.and_eq_false_iff,decide_eq_false_iff_not];exact .inl (.inl (by omega)))]
  refine aC E' (fun h3=>?_) (fun h3=>?_)<;>simp only [go_sem]
  ·rw [show nv l=false from jy h1' (by simp only [rv,Bool.and_eq_false_iff,decide_eq_false_iff_not];exact .inl (.inr (by omega)))]
  refine aC E' (fun h4=>?_) (fun h4=>?_)<;>simp only [go_sem]
  ·have hw:w64 ((i:Int)-1)=((i-1:Nat):Int):=by rw [ab ⟨by omega,by omega⟩];omega
   rw [hw]
   refine ⟨by omega,?_⟩
   rw [Int.toNat_natCast,ef (show i-1<l.length by omega)]
   simp only [go_sem]
   refine ai E' (fun h5=>?_) (fun h5=>?_)<;>simp only [go_sem]
   ·rw [show nv l=false from jy h1' (by simp only [rv,Bool.and_eq_false_iff,Bool.or_eq_false_iff,decide_eq_false_iff_not];exact .inr ⟨by omega,by omega⟩)]
   ·refine ⟨⟨i+1,by omega,j8 hab ?_⟩,by show l.length-(i+1)<_;omega,?_⟩
    ·simp only [rv,Bool.and_eq_true,Bool.or_eq_true,decide_eq_true_eq]
     exact ⟨⟨by omega,by omega⟩,.inr (by omega)⟩
    ·rw [ab ⟨by omega,by omega⟩];rfl
  ·refine ⟨⟨i+1,by omega,j8 hab ?_⟩,by show l.length-(i+1)<_;omega,?_⟩
   ·simp only [rv,Bool.and_eq_true,Bool.or_eq_true,decide_eq_true_eq]
    exact ⟨⟨by omega,by omega⟩,.inl (by omega)⟩
   ·rw [ab ⟨by omega,by omega⟩];rfl
 ·have h3:i=l.length:=by omega
  subst h3
  rw [show nv l=true from hab]
def hZ (is:List UInt8→Bool) (l:List Fld):Bool:=(List.range l.length).all fun i=>is (fnm l i) && !dQ l i
theorem yj {G} (l:List Fld) (is:List UInt8→Bool) (f:Nat) (hl:l.length≤1000000) (hs:∀ x∈l,x.1.length≤9223372036854775807) (hf:∀ s:List UInt8,s.length≤9223372036854775807→HP Tryz.prog G f [.str s] (fun r=>r=.d (.bool (is s)))) :
  HP Tryz.prog G 63 [bP l,.clo f []] (fun r=>r=.d (.bool (hZ is l && decide (l.length≤30)))):=by
 unfold bP
 refine ao Tryz.func63 rfl (by decide +kernel) (by simp [Tryz.ntmps63]) (veil fun E=>?_)
 simp only [go_sem]
 refine bc E (X:={ i:Nat // i≤l.length∧((List.range i).all fun i=>is (fnm l i) && !dQ l i)=true }) (fun x=>[(0,.d (.sl (some 2) (l.map aG))),(1,.d (.clo f [])),(7,.d (.sl (some 2) (l.map aG))),(8,.d (i64 l.length)),(9,.d (i64 x.1))]) (fun x=>l.length-x.1) rfl ⟨0,Nat.zero_le _,by simp⟩ ?_ ?_
 ·simp only [go_sem]
  all_goals rfl
 rintro ⟨i,hi,hab⟩ E'
 simp only [go_sem]
 refine ai E' (fun h1=>?_) (fun h1=>?_)<;>simp only [go_sem]
 ·have h1':i<l.length:=by omega
  have hlen:(fnm l i).length≤9223372036854775807:=by
   have:=hs l[i] (List.getElem_mem h1')
   simp only [fnm,List.getD_eq_getElem?_getD,List.getElem?_eq_getElem h1',Option.getD_some]
   omega
  refine ⟨by omega,?_⟩
  rw [ei h1']
  simp only [go_sem]
  refine ag mixed E' fun X=>?_
  simp only [go_sem]
  refine DU X (ds:=[.str (fnm l i)]) (hf _ hlen) rfl rfl (by simp) rfl (by simp) ?_
  simp only [go_sem]
  refine Eb X (fun h2=>?_) (fun h2=>?_)<;>simp only [go_sem]
  ·refine ⟨by decide +kernel,?_⟩
   have h2:is (fnm l i)=false:=by simpa using h2
   rw [show hZ is l=false from jy h1' (by simp only [h2,Bool.false_and]),Bool.false_and]
  ·have h2:is (fnm l i)=true:=by simpa using h2
   refine cQ X (fun h3=>?_) (fun h3=>?_)<;>simp only [go_sem]
   ·have hw:w64 ((i:Int)-1)=((i-1:Nat):Int):=by rw [ab ⟨by omega,by omega⟩];omega
    have h4:i-1<l.length:=by omega
    rw [hw]
    refine ⟨by omega,?_⟩
    rw [Int.toNat_natCast,ei h4]
    simp only [go_sem]
    refine ⟨by decide +kernel,?_⟩
    refine aX E' (fun h5=>?_) (fun h5=>?_)<;>simp only [go_sem]
    ·have h5:Op.bytesLess (fnm l (i-1)) (fnm l i)=false:=by simpa using h5
     rw [show hZ is l=false from jy h1' (by simp only [dQ,h5,Bool.not_false,Bool.and_true,decide_eq_true h3,Bool.not_true,Bool.and_false,show 0<i by omega,decide_true]),Bool.false_and]
    ·have h5:Op.bytesLess (fnm l (i-1)) (fnm l i)=true:=by simpa using h5
     refine ⟨⟨i+1,by omega,j8 hab (by simp only [dQ,h5,h2,Bool.not_true,Bool.and_false,Bool.not_false,Bool.and_true])⟩,by show l.length-(i+1)<_;omega,?_⟩
     rw [ab ⟨by omega,by omega⟩];rfl
   ·refine ⟨by decide +kernel,?_⟩
    refine ⟨⟨i+1,by omega,j8 hab (by simp only [dQ,h2,show ¬ 0<i by omega,decide_false,Bool.false_and,Bool.not_false,Bool.and_true])⟩,by show l.length-(i+1)<_;omega,?_⟩
    rw [ab ⟨by omega,by omega⟩];rfl
 ·have h3:i=l.length:=by omega
  subst h3
  have:hZ is l=true:=hab
  rw [this,Bool.true_and]
  exact congrArg (fun b=>AV.d (.bool b)) (by simp [decide_eq_decide];omega)
theorem zj {G} (l:List Fld) (hl:l.length≤1000000):HP Tryz.prog G 68 [bP l] (fun r=>r=.d (aj (l.map (·.2)))):=by
 refine fc ?_
 unfold bP
 refine aP Tryz.func68 rfl (by decide +kernel) (by simp [Tryz.ntmps68]) (veil fun E=>?_)
 simp only [go_sem]
 refine fZ E 3 99 none rfl (by rw [aa];decide) ?_
 simp only [go_sem]
 refine au E (X:={ i:Nat // i≤l.length }) (fun x=>[(3,.vw [99] 0 x.1),(6,.d (.sl (some 2) (l.map aG))),(7,.d (i64 l.length)),(8,.d (i64 x.1))]) (fun x=>[([99],.arr none ((l.take x.1).map fun f=>i64 f.2))]) [99] (fun x=>l.length-x.1) ⟨0,Nat.zero_le _⟩ id ?_ ?_
 ·simp only [go_sem]
  all_goals rfl
 rintro ⟨i,hi⟩ E'
 simp only [go_sem]
 refine ai E' (fun h1=>?_) (fun h1=>?_)<;>simp only [go_sem]
 ·have h1':i<l.length:=by omega
  have hx:(l.map aG).getD i .nilp=.agg [.str l[i].1,i64 l[i].2]:=by simp [h1',aG]
  refine ⟨by omega,?_⟩
  rw [hx]
  simp only [go_sem]
  refine ⟨by omega,⟨i+1,by omega⟩,by show l.length-(i+1)<_;omega,tau [([99],[16])],?_⟩
  simp only [go_sem]
  refine ⟨by rw [ab ⟨by omega,by omega⟩];rfl,?_⟩
  rw [List.take_of_length_le (by simp;omega),← mA h1']
 ·refine ⟨[([99],none,(l.take i).map fun f=>i64 f.2)],?_⟩
  simp only [go_sem]
  refine ⟨_,rfl,?_⟩
  have:i=l.length:=by omega
  subst this
  simp only [aj,List.take_length,List.map_map]
  rw [List.take_of_length_le (by simp)]
  exact .refl _
theorem EV {G} (k:Int) (l:List EA) (st:Int) (s:EA):HP Tryz.prog G 69 [i64 k,.ptr (auD l st),.ptr (stD s)] (fun r=>r=.d (.bool (!onA l k s.plus))):=by
 refine ao Tryz.func69 rfl (by decide +kernel) (by simp [Tryz.ntmps69]) (veil fun E=>?_)
 unfold auD stD
 simp only [go_sem]
 refine ae E (qi l st k s.plus) rfl rfl (by simp) ?_
 rintro _ rfl
 simp only [go_sem]
end Go.Proofs.YthfodompfpdmgaaGreatDoor

namespace Go.Proofs.YthfodompfpdmgaaGreatDoor
open Go.Ab
theorem Gm {G}:HP Tryz.prog G 103 [.nils,i64 0] (fun r=>r=.d .nils):=by
 refine ao Tryz.func103 rfl (by decide +kernel) (by simp [Tryz.ntmps103]) (veil fun E=>?_)
 simp only [go_sem]
 refine Bh E _ _ (tE (e:=3) (by rw [tZ]) (by simp only [go_sem]) rfl) (by simp [ef0]) ?_
 simp only [go_sem]
 rw [show w64 (0-w64 0)=0 from by decide]
 simp only [go_sem]
theorem FN {G} (n:Nat) (h0:0<n) (hn:n≤10000000):HCall Tryz.prog G 103 [.d .nils,.d (i64 n)] [] [] (fun r hp'=>r=.vw [22] 0 0∧hp'=[([22],.arr none (List.replicate n (i64 0)))]):=by
 refine aL Tryz.func103 rfl (by decide +kernel) (by simp [Tryz.ntmps103]) (veil fun E=>?_)
 simp only [go_sem]
 refine ai E (fun h=>absurd h (by omega)) (fun _=>?_)
 simp only [go_sem]
 refine Bh E _ _ (tE (e:=3) (by rw [tZ]) (by simp only [go_sem]) rfl) (by simp [ef0]) ?_
 simp only [go_sem]
 rw [show w64 ((n:Int)-w64 0)=(n:Int) from by rw [show w64 0=0 from by decide,ab ⟨by omega,by omega⟩];omega]
 refine ai E (fun _=>?_) (fun h=>absurd h (by omega))
 simp only [go_sem]
 refine Bh E _ _ (tE (e:=3) (by rw [tZ]) (by simp only [go_sem]) rfl) (by simp [ef0]) ?_
 simp only [go_sem]
 refine Bh E _ _ (Gb (d:=22) (e:=3) (kk:=.i64) (n:=n) (i64 0) (by rw [tZ]) (by rw [ti3]) (by rw [ti3]) (by rw [ti3];rfl) ⟨by simp only [go_sem],by rw [aa];decide⟩ rfl rfl h0 (by rw [ti3];simp [TI.by1];omega)) (by rw [aa];simp) ?_
 simp only [go_sem]
 refine ⟨by omega,_,_,[22],id,⟨rfl,rfl⟩,?_⟩
 simp only [go_sem]
theorem fe {α:Type} {ls:List (List α)} {i:Nat} (h:i<ls.length):(ls.take (i+1)).flatten=(ls.take i).flatten++ls[i]:=by
 rw [List.take_succ_eq_append_getElem h,List.flatten_append];simp
theorem iR {α:Type} (ls:List (List α)) (i:Nat):(ls.take i).flatten.length≤ls.flatten.length:=by
 have:=congrArg List.length (congrArg List.flatten (List.take_append_drop i ls))
 rw [List.flatten_append,List.length_append] at this
 omega
theorem mR {ls:List (List Int)} {i:Nat} (h:i<ls.length):(ls.map aj).getD i .nilp=.sl none (ls[i].map i64):=by simp [h,aj]
set_option maxHeartbeats 2000000 in
theorem Gt {G} (ls:List (List Int)) (hn:ls.length≤100) (hl:ls.flatten.length≤10000000):HP Tryz.prog G 67 [.sl none (ls.map aj)] (fun r=>r=.d (aj ls.flatten)):=by
 refine fc ?_
 refine aP Tryz.func67 rfl (by decide +kernel) (by simp [Tryz.ntmps67]) (veil fun E=>?_)
 simp only [go_sem]
 refine bc E (X:={ i:Nat // i≤ls.length }) (fun x=>[(0,.d (.sl none (ls.map aj))),(3,.d (i64 (ls.take x.1).flatten.length)),(9,.d (.sl none (ls.map aj))),(10,.d (i64 ls.length)),(11,.d (i64 x.1))]) (fun x=>ls.length-x.1) rfl ⟨0,Nat.zero_le _⟩ ?_ ?_
 ·simp only [go_sem]
  all_goals rfl
 rintro ⟨i,hi⟩ E'
 simp only [go_sem]
 refine ai E' (fun h1=>?_) (fun h1=>?_)<;>simp only [go_sem]
 ·have h1':i<ls.length:=by omega
  refine ⟨by omega,?_⟩
  rw [mR h1']
  simp only [go_sem]
  have h2:=iR ls i
  have h3:=iR ls (i+1)
  have h4:=congrArg List.length (fe h1')
  rw [List.length_append] at h4
  rw [ab ⟨by omega,by omega⟩]
  refine ai E' (fun h=>absurd h (by omega)) (fun _=>?_)
  simp only [go_sem]
  refine ⟨⟨i+1,by omega⟩,by show ls.length-(i+1)<_;omega,?_⟩
  rw [ab ⟨by omega,by omega⟩]
  refine ⟨?_,rfl⟩
  show AV.d (i64 _)=AV.d (i64 _)
  refine congrArg (fun z=>AV.d (i64 z)) ?_
  show _=(((ls.take (i+1)).flatten.length:Nat):Int)
  omega
 have h2:i=ls.length:=by omega
 subst h2
 rw [List.take_length]
 by_cases h0:ls.flatten.length=0
 ·rw [h0]
  refine ae E Gm rfl rfl (by simp) ?_
  rintro _ rfl
  simp only [go_sem]
  refine fZ E 6 99 none rfl (by rw [aa];decide) ?_
  simp only [go_sem]
  refine au E (X:={ x:Nat × List D // x.1≤ls.length∧(ls.take x.1).flatten.length≤x.2.length∧x.2.take (ls.take x.1).flatten.length=(ls.take x.1).flatten.map i64 }) (fun x=>[(0,.d (.sl none (ls.map aj))),(6,.vw [99] 0 (ls.take x.1.1).flatten.length),(25,.d (.sl none (ls.map aj))),(26,.d (i64 ls.length)),(27,.d (i64 x.1.1))]) (fun x=>[([99],.arr none x.1.2)]) [99] (fun x=>ls.length-x.1.1) ⟨(0,[]),Nat.zero_le _,by simp,by simp⟩ id ?_ ?_
  ·simp only [go_sem]
   all_goals (first | rfl | ((repeat' apply And.intro)<;>first | rfl | trivial))
  rintro ⟨⟨i,c⟩,hi,hc1,hc2⟩ E2
  simp only at hi hc1 hc2 ⊢
  simp only [go_sem]
  refine ai E2 (fun h3=>?_) (fun h3=>?_)<;>simp only [go_sem]
  ·have h3':i<ls.length:=by omega
   refine ⟨by omega,?_⟩
   rw [mR h3']
   simp only [go_sem]
   have h4:=iR ls i
   have h5:=iR ls (i+1)
   have h6:=congrArg List.length (fe h3')
   rw [List.length_append] at h6
   have h7:List.take (ls.take i).flatten.length c++ls[i].map i64=(ls.take (i+1)).flatten.map i64:=by rw [hc2,fe h3',List.map_append]
   refine ⟨by omega,⟨(i+1,(ls.take (i+1)).flatten.map i64),by omega,by rw [List.length_map];exact Nat.le_refl _,List.take_of_length_le (by rw [List.length_map];exact Nat.le_refl _)⟩,by show ls.length-(i+1)<_;omega,tau [([99],[33])],?_⟩
   simp only [go_sem]
   rw [h7,h6,ab ⟨by omega,by omega⟩]
   (repeat' apply And.intro)<;>first | rfl | trivial
  ·have h4:i=ls.length:=by omega
   subst h4
   rw [List.take_length] at hc1 hc2 ⊢
   refine ⟨[([99],none,c)],?_⟩
   simp only [go_sem]
   refine ⟨_,rfl,?_⟩
   rw [hc2]
   exact .refl _
 ·refine bn E [.d .nils,.d (i64 ls.flatten.length)] [] [] (FN ls.flatten.length (by omega) hl) rfl rfl ⟨by simp only [go_sem],by rw [aa];decide⟩ rfl (by simp only [go_sem]) (by simp only [go_sem]) ?_
  rintro _ _ ⟨rfl,rfl⟩
  simp only [go_sem]
  refine au E (X:={ x:Nat × List D // x.1≤ls.length∧(ls.take x.1).flatten.length≤x.2.length∧x.2.take (ls.take x.1).flatten.length=(ls.take x.1).flatten.map i64 }) (fun x=>[(0,.d (.sl none (ls.map aj))),(6,.vw [99] 0 (ls.take x.1.1).flatten.length),(25,.d (.sl none (ls.map aj))),(26,.d (i64 ls.length)),(27,.d (i64 x.1.1))]) (fun x=>[([99],.arr none x.1.2)]) [99] (fun x=>ls.length-x.1.1) ⟨(0,List.replicate ls.flatten.length (i64 0)),Nat.zero_le _,by simp,by simp⟩ (tau [([99],[24,22])]) ?_ ?_
  ·simp only [go_sem]
   all_goals (first | rfl | ((repeat' apply And.intro)<;>first | rfl | trivial))
  rintro ⟨⟨i,c⟩,hi,hc1,hc2⟩ E2
  simp only at hi hc1 hc2 ⊢
  simp only [go_sem]
  refine ai E2 (fun h3=>?_) (fun h3=>?_)<;>simp only [go_sem]
  ·have h3':i<ls.length:=by omega
   refine ⟨by omega,?_⟩
   rw [mR h3']
   simp only [go_sem]
   have h4:=iR ls i
   have h5:=iR ls (i+1)
   have h6:=congrArg List.length (fe h3')
   rw [List.length_append] at h6
   have h7:List.take (ls.take i).flatten.length c++ls[i].map i64=(ls.take (i+1)).flatten.map i64:=by rw [hc2,fe h3',List.map_append]
   refine ⟨by omega,⟨(i+1,(ls.take (i+1)).flatten.map i64),by omega,by rw [List.length_map];exact Nat.le_refl _,List.take_of_length_le (by rw [List.length_map];exact Nat.le_refl _)⟩,by show ls.length-(i+1)<_;omega,tau [([99],[33])],?_⟩
   simp only [go_sem]
   rw [h7,h6,ab ⟨by omega,by omega⟩]
   (repeat' apply And.intro)<;>first | rfl | trivial
  ·have h4:i=ls.length:=by omega
   subst h4
   rw [List.take_length] at hc1 hc2 ⊢
   refine ⟨[([99],none,c)],?_⟩
   simp only [go_sem]
   refine ⟨_,rfl,?_⟩
   rw [hc2]
   exact .refl _
def r3 (s:EA):List Int:=s.fl.map (·.2)++s.tl.map (·.2)
def cT (l:List EA) (s:EA):Bool :=
 (gh s && nv s.vars && (hZ cE s.fl && decide (s.fl.length≤30)) && (hZ fG s.tl && decide (s.tl.length≤30))) &&
 !(s.arr && (!onA l s.dom (!s.plus) || !onA l s.cod s.plus)) && !(r3 s).any fun k=>!onA l k s.plus
structure InS (s:EA):Prop where
 v:s.vars.length≤1000000
 f:s.fl.length≤400000
 t:s.tl.length≤400000
 fs:∀ x∈s.fl,x.1.length≤9223372036854775807
 ts:∀ x∈s.tl,x.1.length≤9223372036854775807
set_option maxHeartbeats 2000000 in
theorem FA {G} (l:List EA) (st:Int) (s:EA) (hs:InS s):HP Tryz.prog G 35 [auD l st,stD s] (fun r=>r=.d (.bool (cT l s))):=by
 obtain ⟨hv,hf,ht,hfs,hts⟩:=hs
 have c1:=F3 (G:=G) s
 have c2:=Gp (G:=G) s.vars hv
 have c3:=yj (G:=G) s.fl cE 64 (by omega) hfs fun x hx=>uM x hx
 have c4:=yj (G:=G) s.tl fG 65 (by omega) hts fun x hx=>uj x hx
 have c5:=zj (G:=G) s.fl (by omega)
 have c6:=zj (G:=G) s.tl (by omega)
 have c7:=Gt (G:=G) [s.fl.map (·.2),s.tl.map (·.2)] (by simp) (by simp;omega)
 rw [show [s.fl.map (·.2),s.tl.map (·.2)].flatten=r3 s from by simp [r3]] at c7
 have c8:=Au (G:=G) (r3 s) (fun k=>!onA l k s.plus) 69 [.ptr (auD l st),.ptr (stD s)] (by simp [r3];omega) fun x _=>EV x l st s
 refine ao Tryz.func35 rfl (by decide +kernel) (by simp [Tryz.ntmps35]) (veil fun E=>?_)
 have c9:=qi (G:=G) l st s.dom (!s.plus)
 have c10:=qi (G:=G) l st s.cod s.plus
 have es:stD s=.agg [.bool s.plus,.bool s.al,.bool s.int,.bool s.bool,.bool s.str,.bool s.arr,.bool s.rc,.bool s.tg,.sl none (s.vars.map i64),i64 s.dom,i64 s.cod,.sl (some 2) (s.fl.map aG),.sl (some 2) (s.tl.map aG)]:=rfl
 rw [es] at c1 c8 ⊢
 unfold auD aj bP at *
 simp only [go_sem]
 refine ae E (c1) rfl rfl (by simp) ?_
 rintro _ rfl
 simp only [go_sem]
 repeat (first
  | (apply a8 E;(· simp only [go_sem]);(· intro h;(try simp only [bq] at h);simp only [↓h,go_sem];rfl);simp only [go_sem])
  | (apply aJ E;(· simp only [go_sem]);(· intro h;(try simp only [bq] at h);simp only [↓h,go_sem];rfl);(· intro h;(try simp only [bq] at h);simp only [↓h,go_sem];rfl);simp only [go_sem])
  | (apply aH E;(· simp only [go_sem]);(· rfl);(· intro h h';(try simp only [bq] at h h');simp only [↓h,↓h',go_sem];rfl);simp only [go_sem])
  | (apply aA E;(· simp only [go_sem]);(· rfl);(· intro h h';(try simp only [bq] at h h');simp only [↓h,↓h',go_sem];rfl);(· intro h h';(try simp only [bq] at h h');simp only [↓h,↓h',go_sem];rfl);simp only [go_sem])
  | (apply bj E;(· decide);simp only [go_sem]))
 (first | (apply eh E;(· simp only [go_sem]);(· intro h hk;(try simp only [bq] at h);refine ae E (c2) rfl (by simp only [↓h,go_sem]<;>rfl) (by simp) ?_;rintro _ rfl;exact hk);simp only [go_sem]) | (apply dt E;(· simp only [go_sem]);(· rfl);(· intro h h' hk;(try simp only [bq] at h h');refine ae E (c2) rfl (by simp only [↓h,↓h',go_sem]<;>rfl) (by simp) ?_;rintro _ rfl;exact hk);simp only [go_sem]))
 repeat (first
  | (apply a8 E;(· simp only [go_sem]);(· intro h;(try simp only [bq] at h);simp only [↓h,go_sem];rfl);simp only [go_sem])
  | (apply aJ E;(· simp only [go_sem]);(· intro h;(try simp only [bq] at h);simp only [↓h,go_sem];rfl);(· intro h;(try simp only [bq] at h);simp only [↓h,go_sem];rfl);simp only [go_sem])
  | (apply aH E;(· simp only [go_sem]);(· rfl);(· intro h h';(try simp only [bq] at h h');simp only [↓h,↓h',go_sem];rfl);simp only [go_sem])
  | (apply aA E;(· simp only [go_sem]);(· rfl);(· intro h h';(try simp only [bq] at h h');simp only [↓h,↓h',go_sem];rfl);(· intro h h';(try simp only [bq] at h h');simp only [↓h,↓h',go_sem];rfl);simp only [go_sem])
  | (apply bj E;(· decide);simp only [go_sem]))
 (first | (apply eh E;(· simp only [go_sem]);(· intro h hk;(try simp only [bq] at h);refine iC E (c3) rfl (by simp only [↓h,go_sem]<;>rfl) (by simp) ?_;rintro _ rfl;exact hk);simp only [go_sem]) | (apply dt E;(· simp only [go_sem]);(· rfl);(· intro h h' hk;(try simp only [bq] at h h');refine iC E (c3) rfl (by simp only [↓h,↓h',go_sem]<;>rfl) (by simp) ?_;rintro _ rfl;exact hk);simp only [go_sem]))
 repeat (first
  | (apply a8 E;(· simp only [go_sem]);(· intro h;(try simp only [bq] at h);simp only [↓h,go_sem];rfl);simp only [go_sem])
  | (apply aJ E;(· simp only [go_sem]);(· intro h;(try simp only [bq] at h);simp only [↓h,go_sem];rfl);(· intro h;(try simp only [bq] at h);simp only [↓h,go_sem];rfl);simp only [go_sem])
  | (apply aH E;(· simp only [go_sem]);(· rfl);(· intro h h';(try simp only [bq] at h h');simp only [↓h,↓h',go_sem];rfl);simp only [go_sem])
  | (apply aA E;(· simp only [go_sem]);(· rfl);(· intro h h';(try simp only [bq] at h h');simp only [↓h,↓h',go_sem];rfl);(· intro h h';(try simp only [bq] at h h');simp only [↓h,↓h',go_sem];rfl);simp only [go_sem])
  | (apply bj E;(· decide);simp only [go_sem]))
 (first | (apply eh E;(· simp only [go_sem]);(· intro h hk;(try simp only [bq] at h);refine iC E (c4) rfl (by simp only [↓h,go_sem]<;>rfl) (by simp) ?_;rintro _ rfl;exact hk);simp only [go_sem]) | (apply dt E;(· simp only [go_sem]);(· rfl);(· intro h h' hk;(try simp only [bq] at h h');refine iC E (c4) rfl (by simp only [↓h,↓h',go_sem]<;>rfl) (by simp) ?_;rintro _ rfl;exact hk);simp only [go_sem]))
 repeat (first
  | (apply a8 E;(· simp only [go_sem]);(· intro h;(try simp only [bq] at h);simp only [↓h,go_sem];rfl);simp only [go_sem])
  | (apply aJ E;(· simp only [go_sem]);(· intro h;(try simp only [bq] at h);simp only [↓h,go_sem];rfl);(· intro h;(try simp only [bq] at h);simp only [↓h,go_sem];rfl);simp only [go_sem])
  | (apply aH E;(· simp only [go_sem]);(· rfl);(· intro h h';(try simp only [bq] at h h');simp only [↓h,↓h',go_sem];rfl);simp only [go_sem])
  | (apply aA E;(· simp only [go_sem]);(· rfl);(· intro h h';(try simp only [bq] at h h');simp only [↓h,↓h',go_sem];rfl);(· intro h h';(try simp only [bq] at h h');simp only [↓h,↓h',go_sem];rfl);simp only [go_sem])
  | (apply bj E;(· decide);simp only [go_sem]))
 refine aX E (fun h=>?_) (fun h=>?_)<;>simp only [go_sem]
 ·have:(gh s && nv s.vars && (hZ cE s.fl && decide (s.fl.length≤30)) && (hZ fG s.tl && decide (s.tl.length≤30)))=false:=by
   rw [← Bool.not_eq_true',← h]
   simp only [Bool.not_and]
  rw [cT,this]
  rfl
 have h':(gh s && nv s.vars && (hZ cE s.fl && decide (s.fl.length≤30)) && (hZ fG s.tl && decide (s.tl.length≤30)))=true:=by
  rw [← Bool.not_eq_false',← h]
  simp only [Bool.not_and]
 repeat (first
  | (apply a8 E;(· simp only [go_sem]);(· intro h;(try simp only [bq] at h);simp only [↓h,go_sem];rfl);simp only [go_sem])
  | (apply aJ E;(· simp only [go_sem]);(· intro h;(try simp only [bq] at h);simp only [↓h,go_sem];rfl);(· intro h;(try simp only [bq] at h);simp only [↓h,go_sem];rfl);simp only [go_sem])
  | (apply aH E;(· simp only [go_sem]);(· rfl);(· intro h h';(try simp only [bq] at h h');simp only [↓h,↓h',go_sem];rfl);simp only [go_sem])
  | (apply aA E;(· simp only [go_sem]);(· rfl);(· intro h h';(try simp only [bq] at h h');simp only [↓h,↓h',go_sem];rfl);(· intro h h';(try simp only [bq] at h h');simp only [↓h,↓h',go_sem];rfl);simp only [go_sem])
  | (apply bj E;(· decide);simp only [go_sem]))
 (first | (apply eh E;(· simp only [go_sem]);(· intro h hk;(try simp only [bq] at h);refine ae E (c9) rfl (by simp only [↓h,go_sem]<;>rfl) (by simp) ?_;rintro _ rfl;exact hk);simp only [go_sem]) | (apply dt E;(· simp only [go_sem]);(· rfl);(· intro h h' hk;(try simp only [bq] at h h');refine ae E (c9) rfl (by simp only [↓h,↓h',go_sem]<;>rfl) (by simp) ?_;rintro _ rfl;exact hk);simp only [go_sem]))
 repeat (first
  | (apply a8 E;(· simp only [go_sem]);(· intro h;(try simp only [bq] at h);simp only [↓h,go_sem];rfl);simp only [go_sem])
  | (apply aJ E;(· simp only [go_sem]);(· intro h;(try simp only [bq] at h);simp only [↓h,go_sem];rfl);(· intro h;(try simp only [bq] at h);simp only [↓h,go_sem];rfl);simp only [go_sem])
  | (apply aH E;(· simp only [go_sem]);(· rfl);(· intro h h';(try simp only [bq] at h h');simp only [↓h,↓h',go_sem];rfl);simp only [go_sem])
  | (apply aA E;(· simp only [go_sem]);(· rfl);(· intro h h';(try simp only [bq] at h h');simp only [↓h,↓h',go_sem];rfl);(· intro h h';(try simp only [bq] at h h');simp only [↓h,↓h',go_sem];rfl);simp only [go_sem])
  | (apply bj E;(· decide);simp only [go_sem]))
 (first | (apply eh E;(· simp only [go_sem]);(· intro h hk;(try simp only [bq] at h);refine ae E (c10) rfl (by simp only [↓h,go_sem]<;>rfl) (by simp) ?_;rintro _ rfl;exact hk);simp only [go_sem]) | (apply dt E;(· simp only [go_sem]);(· rfl);(· intro h h' hk;(try simp only [bq] at h h');refine ae E (c10) rfl (by simp only [↓h,↓h',go_sem]<;>rfl) (by simp) ?_;rintro _ rfl;exact hk);simp only [go_sem]))
 repeat (first
  | (apply a8 E;(· simp only [go_sem]);(· intro h;(try simp only [bq] at h);simp only [↓h,go_sem];rfl);simp only [go_sem])
  | (apply aJ E;(· simp only [go_sem]);(· intro h;(try simp only [bq] at h);simp only [↓h,go_sem];rfl);(· intro h;(try simp only [bq] at h);simp only [↓h,go_sem];rfl);simp only [go_sem])
  | (apply aH E;(· simp only [go_sem]);(· rfl);(· intro h h';(try simp only [bq] at h h');simp only [↓h,↓h',go_sem];rfl);simp only [go_sem])
  | (apply aA E;(· simp only [go_sem]);(· rfl);(· intro h h';(try simp only [bq] at h h');simp only [↓h,↓h',go_sem];rfl);(· intro h h';(try simp only [bq] at h h');simp only [↓h,↓h',go_sem];rfl);simp only [go_sem])
  | (apply bj E;(· decide);simp only [go_sem]))
 refine aX E (fun g=>?_) (fun g=>?_)<;>simp only [go_sem]
 ·rw [cT,h',g]
  rfl
 refine bL E [2] (.agg [.sl (some 13) (l.map stD),i64 st]) rfl rfl ?_
 simp only [go_sem]
 refine bL E [3] (stD s) rfl rfl ?_
 rw [es]
 simp only [go_sem]
 refine ag mixed E fun X=>?_
 simp only [go_sem]
 refine bo X c5 rfl rfl (by simp) ?_
 simp only [go_sem]
 refine bo X c6 rfl rfl (by simp) ?_
 simp only [go_sem]
 refine wg X 53 [53] none [.sl none ((s.fl.map (·.2)).map i64),.sl none ((s.tl.map (·.2)).map i64)] c7 (fun _=>rfl) rfl rfl rfl (by simp) rfl (by simp only [go_sem]) ?_
 simp only [go_sem]
 refine Cp X c8 rfl rfl (by simp) ?_
 simp only [go_sem]
 refine ⟨by decide +kernel,?_⟩
 rw [cT,h',g]
 rfl
end Go.Proofs.YthfodompfpdmgaaGreatDoor

namespace Go.Proofs.YthfodompfpdmgaaGreatDoor
open Go.Ab
theorem bb (s:EA):stD s=.agg [.bool s.plus,.bool s.al,.bool s.int,.bool s.bool,.bool s.str,.bool s.arr,.bool s.rc,.bool s.tg,.sl none (s.vars.map i64),i64 s.dom,i64 s.cod,.sl (some 2) (s.fl.map aG),.sl (some 2) (s.tl.map aG)]:=rfl
theorem Gd {G} (l:List EA) (p:EA→Bool) (f:Nat) (caps:List D) (hl:l.length≤1000000) (hc:∀ x∈l,HP Tryz.prog G f (stD x::caps) (fun r=>r=.d (.bool (p x)))) :
  HP Tryz.prog G 60 [.sl (some 13) (l.map stD),.clo f caps] (fun r=>∃ z:Int,r=.d (i64 z)∧decide (0≤z)=l.any p):=by
 refine ao Tryz.func60 rfl (by decide +kernel) (by simp [Tryz.ntmps60]) (veil fun E=>?_)
 simp only [go_sem]
 refine bc E (X:={ i:Nat // i≤l.length∧(l.take i).any p=false }) (fun x=>[(0,.d (.sl (some 13) (l.map stD))),(1,.d (.clo f caps)),(6,.d (.sl (some 13) (l.map stD))),(7,.d (i64 l.length)),(8,.d (i64 x.1))]) (fun x=>l.length-x.1) rfl ⟨0,Nat.zero_le _,by simp⟩ ?_ ?_
 ·simp only [go_sem]
  all_goals rfl
 rintro ⟨i,hi,hab⟩ E'
 simp only [go_sem]
 refine ai E' (fun h1=>?_) (fun h1=>?_)<;>simp only [go_sem]
 ·have h1':i<l.length:=by omega
  have hcx:=hc l[i] (List.getElem_mem h1')
  refine ⟨by omega,?_⟩
  rw [mM h1']
  rw [bb] at hcx ⊢
  simp only [go_sem]
  refine jZ E' hcx rfl rfl (by simp) ?_
  rintro _ rfl
  simp only [go_sem]
  refine aX E' (fun h2=>?_) (fun h2=>?_)<;>simp only [go_sem]
  ·refine ⟨_,rfl,?_⟩
   have:l.any p=true:=List.any_eq_true.2 ⟨l[i],List.getElem_mem h1',h2⟩
   rw [this]
   exact decide_eq_true (Int.natCast_nonneg _)
  ·refine ⟨⟨i+1,by omega,gG h1' hab h2⟩,by show l.length-(i+1)<_;omega,?_⟩
   rw [ab ⟨by omega,by omega⟩];rfl
 ·have h3:i=l.length:=by omega
  subst h3
  rw [List.take_length] at hab
  refine ⟨_,rfl,?_⟩
  rw [hab]
  decide
theorem FG {G} (l:List EA) (p:EA→Bool) (f:Nat) (caps:List D) (hl:l.length≤1000000) (hc:∀ x∈l,HP Tryz.prog G f (stD x::caps) (fun r=>r=.d (.bool (p x)))) :
  HP Tryz.prog G 33 [.sl (some 13) (l.map stD),.clo f caps] (fun r=>r=.d (.bool (l.any p))):=by
 refine ao Tryz.func33 rfl (by decide +kernel) (by simp [Tryz.ntmps33]) (veil fun E=>?_)
 simp only [go_sem]
 refine ae E (Gd l p f caps hl hc) rfl rfl (by simp) ?_
 rintro _ ⟨z,rfl,hz⟩
 simp only [go_sem]
 rw [hz]
theorem EY {G} (s:EA) (l:List EA) (st:Int) (hs:InS s):HP Tryz.prog G 34 [stD s,.ptr (auD l st)] (fun r=>r=.d (.bool (!cT l s))):=by
 have c:=FA (G:=G) l st s hs
 rw [bb] at c ⊢
 unfold auD at *
 refine ao Tryz.func34 rfl (by decide +kernel) (by simp [Tryz.ntmps34]) (veil fun E=>?_)
 simp only [go_sem]
 refine ae E (c) rfl rfl (by simp) ?_
 rintro _ rfl
 simp only [go_sem]
def sZ (l:List EA) (st:Int):Int:=if l.length=0∨2000<l.length then 8 else if !onA l st true || l.any (fun s=>!cT l s) then 4 else 0
theorem ED {G} (l:List EA) (st:Int) (hl:l.length≤1000000) (hs:∀ s∈l,InS s):HP Tryz.prog G 12 [auD l st] (fun r=>r=.d (i64 (sZ l st))):=by
 have c1:=qi (G:=G) l st st true
 have c2:=FG (G:=G) l (fun s=>!cT l s) 34 [.ptr (auD l st)] hl fun x hx=>EY x l st (hs x hx)
 generalize hR:sZ l st=R
 unfold sZ at hR
 unfold auD at *
 refine ao Tryz.func12 rfl (by decide +kernel) (by simp [Tryz.ntmps12]) (veil fun E=>?_)
 simp only [go_sem]
 repeat (first
  | (apply a8 E;(· simp only [go_sem]);(· intro h;(try simp only [bq] at h);simp only [↓h,go_sem];rfl);simp only [go_sem])
  | (apply aJ E;(· simp only [go_sem]);(· intro h;(try simp only [bq] at h);simp only [↓h,go_sem];rfl);(· intro h;(try simp only [bq] at h);simp only [↓h,go_sem];rfl);simp only [go_sem])
  | (apply aH E;(· simp only [go_sem]);(· rfl);(· intro h h';(try simp only [bq] at h h');simp only [↓h,↓h',go_sem];rfl);simp only [go_sem])
  | (apply aA E;(· simp only [go_sem]);(· rfl);(· intro h h';(try simp only [bq] at h h');simp only [↓h,↓h',go_sem];rfl);(· intro h h';(try simp only [bq] at h h');simp only [↓h,↓h',go_sem];rfl);simp only [go_sem])
  | (apply bj E;(· decide);simp only [go_sem]))
 refine aX E (fun h=>?_) (fun h=>?_)<;>simp only [go_sem]
 ·simp only [Bool.or_eq_true,decide_eq_true_eq] at h
  rw [if_pos (by omega)] at hR
  rw [← hR]
 have h':¬ (l.length=0∨2000<l.length):=by
  simp only [Bool.or_eq_false_iff,decide_eq_false_iff_not] at h
  omega
 rw [if_neg h'] at hR
 refine nh E [1] (.agg [.sl (some 13) (l.map stD),i64 st]) rfl rfl ?_
 simp only [go_sem]
 refine ae E (c1) rfl rfl (by simp) ?_
 rintro _ rfl
 simp only [go_sem]
 repeat (first
  | (apply a8 E;(· simp only [go_sem]);(· intro h;(try simp only [bq] at h);simp only [↓h,go_sem];rfl);simp only [go_sem])
  | (apply aJ E;(· simp only [go_sem]);(· intro h;(try simp only [bq] at h);simp only [↓h,go_sem];rfl);(· intro h;(try simp only [bq] at h);simp only [↓h,go_sem];rfl);simp only [go_sem])
  | (apply aH E;(· simp only [go_sem]);(· rfl);(· intro h h';(try simp only [bq] at h h');simp only [↓h,↓h',go_sem];rfl);simp only [go_sem])
  | (apply aA E;(· simp only [go_sem]);(· rfl);(· intro h h';(try simp only [bq] at h h');simp only [↓h,↓h',go_sem];rfl);(· intro h h';(try simp only [bq] at h h');simp only [↓h,↓h',go_sem];rfl);simp only [go_sem])
  | (apply bj E;(· decide);simp only [go_sem]))
 (first | (apply eh E;(· simp only [go_sem]);(· intro h hk;(try simp only [bq] at h);refine iC E (c2) rfl (by simp only [↓h,go_sem]<;>rfl) (by simp) ?_;rintro _ rfl;exact hk);simp only [go_sem]) | (apply dt E;(· simp only [go_sem]);(· rfl);(· intro h h' hk;(try simp only [bq] at h h');refine iC E (c2) rfl (by simp only [↓h,↓h',go_sem]<;>rfl) (by simp) ?_;rintro _ rfl;exact hk);simp only [go_sem]))
 repeat (first
  | (apply a8 E;(· simp only [go_sem]);(· intro h;(try simp only [bq] at h);simp only [↓h,go_sem];rfl);simp only [go_sem])
  | (apply aJ E;(· simp only [go_sem]);(· intro h;(try simp only [bq] at h);simp only [↓h,go_sem];rfl);(· intro h;(try simp only [bq] at h);simp only [↓h,go_sem];rfl);simp only [go_sem])
  | (apply aH E;(· simp only [go_sem]);(· rfl);(· intro h h';(try simp only [bq] at h h');simp only [↓h,↓h',go_sem];rfl);simp only [go_sem])
  | (apply aA E;(· simp only [go_sem]);(· rfl);(· intro h h';(try simp only [bq] at h h');simp only [↓h,↓h',go_sem];rfl);(· intro h h';(try simp only [bq] at h h');simp only [↓h,↓h',go_sem];rfl);simp only [go_sem])
  | (apply bj E;(· decide);simp only [go_sem]))
 refine aX E (fun g=>?_) (fun g=>?_)<;>simp only [go_sem]
 ·rw [if_pos g] at hR
  rw [← hR]
 ·rw [if_neg (by rw [g];decide)] at hR
  rw [← hR]
end Go.Proofs.YthfodompfpdmgaaGreatDoor

namespace Go.Proofs.YthfodompfpdmgaaGreatDoor
open Go.Ab
theorem DJ (s:EA):s.next=(if s.arr then [s.dom,s.cod] else [])++r3 s:=rfl
end Go.Proofs.YthfodompfpdmgaaGreatDoor

namespace Go.Proofs.YthfodompfpdmgaaGreatDoor
open Go.Ab
end Go.Proofs.YthfodompfpdmgaaGreatDoor

namespace Go.Proofs.YthfodompfpdmgaaGreatDoor
open Go.Ab
theorem GU:Tryz.prog.dF 92=true:=by kernel_rfl
theorem zB {G} (l:List Fld) (hl:l.length≤1000000):HP Tryz.prog G 70 [bP l,bP l] (fun r=>r=.d (.bool true)):=by
 unfold bP
 refine ao Tryz.func70 rfl (by decide +kernel) (by simp [Tryz.ntmps70]) (veil fun E=>?_)
 simp only [go_sem]
 refine bc E (X:={ i:Nat // i≤l.length }) (fun x=>[(0,.d (.sl (some 2) (l.map aG))),(1,.d (.sl (some 2) (l.map aG))),(5,.d (i64 x.1))]) (fun x=>l.length-x.1) rfl ⟨0,Nat.zero_le _⟩ ?_ ?_
 ·simp only [go_sem]
  all_goals rfl
 rintro ⟨i,hi⟩ E'
 simp only [go_sem]
 refine ai E' (fun h1=>?_) (fun h1=>?_)<;>simp only [go_sem]
 ·have h1':i<l.length:=by omega
  refine ag mixed E' fun X=>?_
  simp only [go_sem]
  refine ⟨by omega,?_⟩
  rw [ei h1']
  simp only [go_sem]
  refine ⟨by omega,?_⟩
  rw [ei h1']
  simp only [go_sem]
  refine Hq X (b:=true) GU (by rw [He]) (by simp only [go_sem]) rfl rfl (by simp [eqS,eqP,kOk,ti9,ti3]) ?_
  simp only [go_sem]
  refine ⟨by decide +kernel,?_⟩
  refine ⟨⟨i+1,by omega⟩,by show l.length-(i+1)<_;omega,?_⟩
  rw [ab ⟨by omega,by omega⟩];rfl
set_option maxRecDepth 20000 in
theorem Gj {G} (s:EA) (hs:InS s):HP Tryz.prog G 36 [stD s,stD s] (fun r=>r=.d (.bool true)):=by
 obtain ⟨hv,hf,ht,hfs,hts⟩:=hs
 have c1:=zq (G:=G) s.vars s.vars hv
 have c2:=zB (G:=G) s.fl (by omega)
 have c3:=zB (G:=G) s.tl (by omega)
 rw [decide_eq_true rfl] at c1
 rw [bb]
 unfold aj bP at *
 refine ao Tryz.func36 rfl (by decide +kernel) (by simp [Tryz.ntmps36]) (veil fun E=>?_)
 simp only [go_sem]
 dsimp only [List.append_eq,List.cons_append,List.nil_append]
 simp only [go_sem]
 refine ae E (c1) rfl rfl (by simp) ?_
 rintro _ rfl
 simp only [go_sem]
 refine ae E (c2) rfl rfl (by simp) ?_
 rintro _ rfl
 simp only [go_sem]
 refine ae E (c3) rfl rfl (by simp) ?_
 rintro _ rfl
 simp only [go_sem]
theorem Ey {G} (l:List Int) (hl:l.length≤1000000):HP Tryz.prog G 37 [aj l] (fun r=>r=.d (aj l)):=by
 refine fc ?_
 unfold aj
 refine aP Tryz.func37 rfl (by decide +kernel) (by simp [Tryz.ntmps37]) (veil fun E=>?_)
 simp only [go_sem]
 refine ⟨by omega,[([5],none,l.map i64)],?_⟩
 simp only [go_sem]
 refine ⟨_,rfl,?_⟩
 exact .refl _
theorem F1 {G} (l:List EA) (st:Int) (hl:l.length≤1000000) (hs:∀ s∈l,InS s):HP Tryz.prog G 13 [auD l st,auD l st] (fun r=>r=.d (.bool true)):=by
 unfold auD
 refine ao Tryz.func13 rfl (by decide +kernel) (by simp [Tryz.ntmps13]) (veil fun E=>?_)
 simp only [go_sem]
 repeat (first
  | (apply a8 E;(· simp only [go_sem]);(· intro h;(try simp only [bq] at h);simp only [↓h,go_sem];rfl);simp only [go_sem])
  | (apply aJ E;(· simp only [go_sem]);(· intro h;(try simp only [bq] at h);simp only [↓h,go_sem];rfl);(· intro h;(try simp only [bq] at h);simp only [↓h,go_sem];rfl);simp only [go_sem])
  | (apply aH E;(· simp only [go_sem]);(· rfl);(· intro h h';(try simp only [bq] at h h');simp only [↓h,↓h',go_sem];rfl);simp only [go_sem])
  | (apply aA E;(· simp only [go_sem]);(· rfl);(· intro h h';(try simp only [bq] at h h');simp only [↓h,↓h',go_sem];rfl);(· intro h h';(try simp only [bq] at h h');simp only [↓h,↓h',go_sem];rfl);simp only [go_sem])
  | (apply bj E;(· decide);simp only [go_sem]))
 refine bL E [2] (.agg [.sl (some 13) (l.map stD),i64 st]) rfl rfl ?_
 simp only [go_sem]
 refine bL E [3] (.agg [.sl (some 13) (l.map stD),i64 st]) rfl rfl ?_
 simp only [go_sem]
 refine bc E (X:={ i:Nat // i≤l.length }) (fun x=>[(2,.d (.ptr (.agg [.sl (some 13) (l.map stD),i64 st]))),(3,.d (.ptr (.agg [.sl (some 13) (l.map stD),i64 st]))),(5,.d (i64 x.1))]) (fun x=>l.length-x.1) rfl ⟨0,Nat.zero_le _⟩ ?_ ?_
 ·simp only [go_sem]
  all_goals rfl
 rintro ⟨i,hi⟩ E'
 simp only [go_sem]
 refine ai E' (fun h1=>?_) (fun h1=>?_)<;>simp only [go_sem]
 ·have h1':i<l.length:=by omega
  have c:=Gj (G:=G) l[i] (hs _ (List.getElem_mem h1'))
  rw [bb] at c
  refine ag mixed E' fun X=>?_
  simp only [go_sem]
  refine ⟨by omega,?_⟩
  rw [mM h1']
  simp only [bb]
  simp only [go_sem]
  refine ⟨by omega,?_⟩
  rw [mM h1']
  simp only [bb]
  simp only [go_sem]
  refine bo X c rfl rfl (by simp) ?_
  simp only [go_sem]
  refine ⟨by decide +kernel,?_⟩
  refine ⟨⟨i+1,by omega⟩,by show l.length-(i+1)<_;omega,?_⟩
  rw [ab ⟨by omega,by omega⟩];rfl
end Go.Proofs.YthfodompfpdmgaaGreatDoor

namespace Go.Proofs.YthfodompfpdmgaaGreatDoor
open Go.Ab
theorem iH {l:List Fld} {i:Nat} (h:i<l.length):(l.map aG).getD i .nilp=.agg [.str l[i].1,i64 l[i].2]:=by simp [h,aG]
theorem qF {α:Type} {β:Type} {f:α→β} {l:List α} {i:Nat} (h:i<l.length):(l.take i).map f++[f l[i]]=(l.take (i+1)).map f:=by
 rw [List.take_succ_eq_append_getElem h,List.map_append]
 rfl
def bx6 (s:EA) (a b:AV):List AV:=[.d (.bool s.plus),.d (.bool s.al),.d (.bool s.int),.d (.bool s.bool),.d (.bool s.str),.d (.bool s.arr),.d (.bool s.rc),.d (.bool s.tg),.d (.sl none (s.vars.map i64)),.d (i64 s.dom),.d (i64 s.cod),a,b]
set_option maxHeartbeats 4000000 in
theorem FE {G} (l:List EA) (st:Int) (hl:l.length≤1000000) (hs:∀ s∈l,InS s):HP Tryz.prog G 14 [auD l st] (fun r=>r=.d (auD l st)):=by
 refine fc ?_
 unfold auD
 refine aP Tryz.func14 rfl (by decide +kernel) (by simp [Tryz.ntmps14]) (veil fun E=>?_)
 simp only [go_sem]
 refine bL E [1] (.agg [.sl (some 13) (l.map stD),i64 st]) rfl rfl ?_
 simp only [go_sem]
 refine cR E [3] 0 99 (some 13) [.d .nils,.d (i64 st)] rfl rfl (by rw [aa];decide) ?_
 simp only [go_sem]
 refine au E (X:={ i:Nat // i≤l.length }) (fun x=>[(1,.d (.ptr (.agg [.sl (some 13) (l.map stD),i64 st]))),(2,.bx [2] 0),(3,.bx [3] 0),(4,.d (i64 x.1))])
  (fun x=>[([2],.box [.d .nils,.d (i64 0)]),([3],.box [.vw [99] 0 x.1,.d (i64 st)]),([99],.arr (some 13) ((l.take x.1).map stD))]) [99,3,2] (fun x=>l.length-x.1) ⟨0,Nat.zero_le _⟩ id ?_ ?_
 ·simp only [go_sem]
  all_goals ((repeat' apply And.intro)<;>first | rfl | trivial)
 rintro ⟨i,hi⟩ E0
 refine aR E0 fun Q' hQ E'=>?_
 simp only at hi ⊢
 simp only [go_sem]
 refine ai E' (fun h1=>?_) (fun h1=>?_)<;>simp only [go_sem]
 ·have h1':i<l.length:=by omega
  obtain ⟨hv,hf,ht,hfs,hts⟩:=hs _ (List.getElem_mem h1')
  have c1:=Ey (G:=G) l[i].vars hv
  unfold aj at c1
  refine ⟨by omega,?_⟩
  rw [mM h1']
  simp only [bb]
  simp only [go_sem]
  refine bL E' [5] (stD l[i]) rfl rfl ?_
  simp only [bb]
  simp only [go_sem]
  refine ag mixed E' fun X=>?_
  simp only [go_sem]
  refine bo X c1 rfl rfl (by simp) ?_
  simp only [go_sem]
  refine ⟨by decide +kernel,?_⟩
  generalize hsi:l[i]=s at *
  refine cR E' [6] 11 98 (some 2) (bx6 s (.d .nils) (.d .nils)) rfl rfl (by rw [aa];decide) ?_
  simp only [bx6]
  simp only [go_sem]
  refine au E' (X:={ j:Nat // j≤(s.fl).length }) (fun x=>[(1,.d (.ptr (.agg [.sl (some 13) (l.map stD),i64 st]))),(2,.bx [2] 0),(3,.bx [3] 0),(4,.d (i64 i)),(5,.d (.ptr (stD s))),(6,.bx [6] 0)]++[(7,.d (i64 x.1))])
   (fun x=>[([2],.box [.d .nils,.d (i64 0)]),([3],.box [.vw [99] 0 i,.d (i64 st)]),([99],.arr (some 13) ((l.take i).map stD))]++[([6],.box (bx6 s (.vw [98] 0 x.1) (.d .nils))),([98],.arr (some 2) (((s.fl).take x.1).map aG))]) [98,6,99,3,2] (fun x=>(s.fl).length-x.1) ⟨0,Nat.zero_le _⟩ id ?_ ?_
  ·simp only [bx6,List.cons_append,List.nil_append]
   simp only [go_sem]
   all_goals ((repeat' apply And.intro)<;>first | rfl | trivial)
  rintro ⟨j,hj⟩ E3
  refine aR E3 fun Q3 hQ3 E4=>?_
  simp only [bx6,List.cons_append,List.nil_append,bb] at hj ⊢
  simp only [go_sem]
  refine ai E4 (fun h4=>?_) (fun h4=>?_)<;>simp only [go_sem]
  ·have h4':j<(s.fl).length:=by omega
   refine ag mixed E4 fun X=>?_
   simp only [go_sem]
   refine ⟨by omega,?_⟩
   rw [iH h4']
   simp only [go_sem]
   refine ⟨by omega,?_⟩
   rw [iH h4']
   simp only [go_sem]
   refine ⟨by omega,?_⟩
   refine ⟨by decide +kernel,?_⟩
   rw [hQ3]
   simp only [go_sem]
   refine ⟨⟨j+1,by omega⟩,by show (s.fl).length-(j+1)<_;omega,tau [([98],[71])],?_⟩
   simp only [bx6,List.cons_append,List.nil_append]
   simp only [go_sem]
   rw [show List.take j (((s.fl).take j).map aG)=((s.fl).take j).map aG from List.take_of_length_le (by simp;omega),← qF h4',ab ⟨by omega,by omega⟩]
   (repeat' apply And.intro)<;>first | rfl | trivial
  have h5:j=(s.fl).length:=by omega
  subst h5
  rw [List.take_length,hQ3]
  simp only [go_sem]
  refine cU E' [98] (some 2) (s.fl.map aG) rfl ?_
  simp only [go_sem]
  refine cR E' [6] 12 97 (some 2) (bx6 s (.d (.sl (some 2) (s.fl.map aG))) (.d .nils)) rfl rfl (by rw [aa];decide) ?_
  simp only [bx6]
  simp only [go_sem]
  refine au E' (X:={ j:Nat // j≤(s.tl).length }) (fun x=>[(1,.d (.ptr (.agg [.sl (some 13) (l.map stD),i64 st]))),(2,.bx [2] 0),(3,.bx [3] 0),(4,.d (i64 i)),(5,.d (.ptr (stD s))),(6,.bx [6] 0)]++[(8,.d (i64 x.1))])
   (fun x=>[([2],.box [.d .nils,.d (i64 0)]),([3],.box [.vw [99] 0 i,.d (i64 st)]),([99],.arr (some 13) ((l.take i).map stD))]++[([6],.box (bx6 s (.d (.sl (some 2) (s.fl.map aG))) (.vw [97] 0 x.1))),([97],.arr (some 2) (((s.tl).take x.1).map aG))]) [97,6,99,3,2] (fun x=>(s.tl).length-x.1) ⟨0,Nat.zero_le _⟩ id ?_ ?_
  ·simp only [bx6,List.cons_append,List.nil_append]
   simp only [go_sem]
   all_goals ((repeat' apply And.intro)<;>first | rfl | trivial)
  rintro ⟨j,hj⟩ E3
  refine aR E3 fun Q3 hQ3 E4=>?_
  simp only [bx6,List.cons_append,List.nil_append,bb] at hj ⊢
  simp only [go_sem]
  refine ai E4 (fun h4=>?_) (fun h4=>?_)<;>simp only [go_sem]
  ·have h4':j<(s.tl).length:=by omega
   refine ag mixed E4 fun X=>?_
   simp only [go_sem]
   refine ⟨by omega,?_⟩
   rw [iH h4']
   simp only [go_sem]
   refine ⟨by omega,?_⟩
   rw [iH h4']
   simp only [go_sem]
   refine ⟨by omega,?_⟩
   refine ⟨by decide +kernel,?_⟩
   rw [hQ3]
   simp only [go_sem]
   refine ⟨⟨j+1,by omega⟩,by show (s.tl).length-(j+1)<_;omega,tau [([97],[96])],?_⟩
   simp only [bx6,List.cons_append,List.nil_append]
   simp only [go_sem]
   rw [show List.take j (((s.tl).take j).map aG)=((s.tl).take j).map aG from List.take_of_length_le (by simp;omega),← qF h4',ab ⟨by omega,by omega⟩]
   (repeat' apply And.intro)<;>first | rfl | trivial
  have h5:j=(s.tl).length:=by omega
  subst h5
  rw [List.take_length,hQ3]
  simp only [go_sem]
  refine bt E' [97] (some 2) (s.tl.map aG) rfl rfl ?_
  simp only [go_sem]
  refine ⟨by omega,?_⟩
  rw [hQ]
  simp only [go_sem]
  refine ⟨⟨i+1,by omega⟩,by show l.length-(i+1)<_;omega,tau [([99],[102])],?_⟩
  simp only [go_sem]
  rw [show List.take i ((l.take i).map stD)=(l.take i).map stD from List.take_of_length_le (by simp;omega),← qF h1',hsi,ab ⟨by omega,by omega⟩]
  exact ⟨rfl,rfl⟩
 ·rw [hQ]
  have h5:i=l.length:=by omega
  subst h5
  simp only [go_sem]
  refine ⟨[([99],some 13,l.map stD)],?_⟩
  simp only [go_sem]
  exact ⟨_,rfl,.refl _⟩
end Go.Proofs.YthfodompfpdmgaaGreatDoor

namespace Go.Proofs.YthfodompfpdmgaaGreatDoor
open Go.Ab
structure InB (s:EA):Prop where
 v:s.vars.length≤9223372036854775807
 f:s.fl.length≤9223372036854775807
 t:s.tl.length≤9223372036854775807
 fs:∀ x∈s.fl,x.1.length≤9223372036854775807
 ts:∀ x∈s.tl,x.1.length≤9223372036854775807
end Go.Proofs.YthfodompfpdmgaaGreatDoor

namespace Go.Proofs.YthfodompfpdmgaaGreatDoor
open Go.Ab
end Go.Proofs.YthfodompfpdmgaaGreatDoor

namespace Go.Proofs.YthfodompfpdmgaaGreatDoor
open Go.Ab
def nD (k:Nat):D:=i64 (k:Int)
def Queue (c:List D) (o i:Nat) (L:List Nat):Prop:=i≤L.length∧o+(L.length-i)≤c.length∧(c.drop o).take (L.length-i)=(L.drop i).map nD
theorem Queue.get {c:List D} {o i:Nat} {L:List Nat} (h:Queue c o i L) (hi:i<L.length):c.getD o .nilp=i64 (L[i]:Nat):=by
 have h1:=congrArg (fun l:List D=>l.getD 0 .nilp) h.2.2
 simp only [List.getD_eq_getElem?_getD] at h1 ⊢
 rw [List.getElem?_take,if_pos (by omega),List.getElem?_drop,List.getElem?_map,List.getElem?_drop,Nat.add_zero,Nat.add_zero,List.getElem?_eq_getElem hi] at h1
 exact h1
theorem Queue.push {c:List D} {o i:Nat} {L:List Nat} (h:Queue c o i L) (k:Nat):Queue (((c.drop o).take (L.length-i))++[nD k]) 0 i (L++[k]):=by
 obtain ⟨h1,h2,h3⟩:=h
 have hl:=congrArg List.length h3
 rw [h3]
 refine ⟨by simp;omega,by simp;omega,?_⟩
 rw [List.drop_zero,List.take_of_length_le (by simp;omega),List.drop_append_of_le_length h1]
 simp [nD]
structure Bf (l:List EA) (ord:List Nat) (i:Nat) (L:List Nat):Prop where
 nd:L.Nodup
 lt:∀ x∈L,x<l.length
 go:rL (nxA l) (l.length-i) i L=ord
theorem Bf.init {l:List EA} {start:Nat} (h:start<l.length):Bf l (Iy l start) 0 [start]:=⟨by simp,by simpa using h,rfl⟩
theorem Bf.next {l:List EA} {ord L:List Nat} {i:Nat} (h:Bf l ord i L) (hin:InA l) (hi:i<L.length):Bf l ord (i+1) (kU L (nxA l L[i])):=by
 have hn:=eC h.nd h.lt
 refine ⟨mD _ _ h.nd,Gk h.lt (BL hin _ (h.lt _ (List.getElem_mem hi))),?_⟩
 have h1:=h.go
 rw [show l.length-i=(l.length-(i+1))+1 by omega,rL,List.getElem?_eq_getElem hi] at h1
 exact h1
theorem Bf.pre {l:List EA} {ord L:List Nat} {i:Nat} (h:Bf l ord i L):∃ r,ord=L++r:=by
 rw [← h.go];exact rY _ _ _
theorem Bf.done {l:List EA} {ord L:List Nat} {i:Nat} (h:Bf l ord i L) (hi:L.length≤i):ord=L:=by
 rw [← h.go]
 cases l.length-i with
 | zero=>rfl
 | succ f=>rw [rL,List.getElem?_eq_none_iff.2 hi]
end Go.Proofs.YthfodompfpdmgaaGreatDoor

namespace Go.Proofs.YthfodompfpdmgaaGreatDoor
open Go.Ab
end Go.Proofs.YthfodompfpdmgaaGreatDoor

namespace Go.Proofs.YthfodompfpdmgaaGreatDoor
open Go.Ab
theorem pC {l:List EA} {k:Int} {p:Bool} (h:onA l k p=true):0≤k∧k<l.length:=by
 simp only [onA,Bool.and_eq_true,decide_eq_true_eq] at h
 exact h.1
theorem AU {l:List EA} {s:EA} (h:cT l s=true):∀ z∈s.next,0≤z∧z<l.length:=by
 simp only [cT,Bool.and_eq_true,Bool.not_eq_true'] at h
 obtain ⟨⟨_,h1⟩,h2⟩:=h
 intro z hz
 rw [DJ] at hz
 rcases List.mem_append.1 hz with hz | hz
 ·cases ha:s.arr with
  | false=>rw [ha] at hz;simp at hz
  | true =>
    rw [ha] at hz h1
    simp only [Bool.true_and,Bool.or_eq_false_iff,Bool.not_eq_false'] at h1
    simp only [if_true,List.mem_cons,List.not_mem_nil,or_false] at hz
    rcases hz with rfl | rfl
    ·exact pC h1.1
    ·exact pC h1.2
 ·have:=List.any_eq_false.1 h2 z hz
  simp only [Bool.not_eq_true',Bool.not_eq_false] at this
  exact pC this
structure Good (l:List EA) (st:Int):Prop where
 n0:0<l.length
 n1:l.length≤2000
 s0:0≤st
 s1:st<l.length
 inA:InA l
 rt:∀ s∈l,cT l s=true
theorem DH {l:List EA} {st:Int} (h:sZ l st=0):Good l st:=by
 unfold sZ at h
 split at h
 ·cases h
 ·rename_i h1
  split at h
  ·cases h
  ·rename_i h2
   simp only [Bool.or_eq_true,Bool.not_eq_true',not_or,Bool.not_eq_false,Bool.not_eq_true] at h2
   obtain ⟨h2,h3⟩:=h2
   obtain ⟨h4,h5⟩:=pC h2
   have hr:∀ s∈l,cT l s=true:=fun s hs=>by
    have:=List.any_eq_false.1 h3 s hs
    simpa using this
   exact ⟨by omega,by omega,h4,h5,fun s hs=>AU (hr s hs),hr⟩
end Go.Proofs.YthfodompfpdmgaaGreatDoor

namespace Go.Proofs.YthfodompfpdmgaaGreatDoor
open Go.Ab
end Go.Proofs.YthfodompfpdmgaaGreatDoor

namespace Go.Proofs.YthfodompfpdmgaaGreatDoor
open Go.Ab
end Go.Proofs.YthfodompfpdmgaaGreatDoor

namespace Go.Proofs.YthfodompfpdmgaaGreatDoor
open Go.Ab
def GV (l:List Fld):List (List UInt8):=l.map (·.1)
end Go.Proofs.YthfodompfpdmgaaGreatDoor

namespace Go.Proofs.YthfodompfpdmgaaGreatDoor
open Go.Ab
def tY (n:Nat) (S:Nat→Bool):Nat:=((List.range n).filter fun q=>!S q).length
theorem CQ {n:Nat} {S:Nat→Bool} {q:Nat} (hq:q<n) (h:S q=false):tY n (fun x=>S x || decide (x=q))<tY n S:=by
 have hle:∀ L:List Nat,(L.filter fun x=>!S x && !decide (x=q)).length≤(L.filter fun x=>!S x).length:=by
  intro L
  induction L with
  | nil=>simp
  | cons a r ih =>
    simp only [List.filter_cons]
    by_cases e:a=q
    ·subst e
     simp only [decide_true,Bool.not_true,Bool.and_false,Bool.false_eq_true,if_false]
     split<;>(try simp only [List.length_cons])<;>omega
    ·cases hS:S a<;>simp [e]<;>omega
 have key:∀ (L:List Nat),q∈L→(L.filter fun x=>!S x && !decide (x=q)).length<(L.filter fun x=>!S x).length:=by
  intro L
  induction L with
  | nil=>simp
  | cons a r ih =>
    intro hm
    by_cases e:a=q
    ·subst e
     have:=hle r
     simp [h]
     omega
    ·have:=ih (by rcases List.mem_cons.1 hm with h | h;exact absurd h.symm e;exact h)
     cases hS:S a<;>simp [hS,e] at *<;>omega
 have:=key _ (List.mem_range.2 hq)
 simp only [tY,Bool.not_or]
 exact this
theorem EJ {i j N:Nat} (hi:i<N) (hj:j<N):i*N+j<N*N:=by
 have h1:(i+1)*N≤N*N:=Nat.mul_le_mul_right N hi
 rw [Nat.succ_mul] at h1
 omega
theorem Cn {i j a b N:Nat} (hj:j<N) (hb:b<N) (h:i*N+j=a*N+b):i=a∧j=b:=by
 have hN:0<N:=by omega
 have h1:(i*N+j) / N=i:=by rw [Nat.mul_comm,Nat.mul_add_div hN,Nat.div_eq_of_lt hj];rfl
 have h2:(a*N+b) / N=a:=by rw [Nat.mul_comm,Nat.mul_add_div hN,Nat.div_eq_of_lt hb];rfl
 have:i=a:=by rw [← h1,h,h2]
 subst this
 exact ⟨rfl,by omega⟩
def Ho (l:List EA) (S:Nat→Bool):Prop:=∀ i j,i<l.length→j<l.length→S (i*l.length+j)=true→¬ alike l i j
def Fj (l:List EA) (S:Nat→Bool) (i j:Nat):Prop:=S (i*l.length+j)=true∨(sfA l i=sfA l j∧∀ (k a b:Nat),(nxA l i)[k]?=some a→(nxA l j)[k]?=some b→S (a*l.length+b)=false)
structure Mk (l:List EA) (S0 S:Nat→Bool) (ch:Bool) (i j:Nat):Prop where
 ok:Ho l S
 le:tY (l.length*l.length) S≤tY (l.length*l.length) S0
 lt:ch=true→tY (l.length*l.length) S<tY (l.length*l.length) S0
 same:ch=false→S=S0∧∀ a b,a<l.length→b<l.length→(a<i∨(a=i∧b<j))→Fj l S a b
theorem Mk.mark {l:List EA} {S0 S:Nat→Bool} {ch:Bool} {i j:Nat} (h:Mk l S0 S ch i j) (hi:i<l.length) (hj:j<l.length) (hS:S (i*l.length+j)=false) (hn:¬ alike l i j):Mk l S0 (fun x=>S x || decide (x=i*l.length+j)) true i (j+1):=by
 have hc:=CQ (EJ hi hj) hS
 refine ⟨fun a b ha hb hab=>?_,by have:=h.le;omega,fun _=>by have:=h.le;omega,fun h=>by cases h⟩
 simp only [Bool.or_eq_true,decide_eq_true_eq] at hab
 rcases hab with hab | hab
 ·exact h.ok a b ha hb hab
 ·obtain ⟨rfl,rfl⟩:=Cn hb hj hab
  exact hn
theorem Mk.init {l:List EA} {S:Nat→Bool} (h:Ho l S):Mk l S S false 0 0:=⟨h,Nat.le_refl _,(fun h=>by cases h),fun _=>⟨rfl,(fun a b _ _ h=>by omega)⟩⟩
end Go.Proofs.YthfodompfpdmgaaGreatDoor

namespace Go.Proofs.YthfodompfpdmgaaGreatDoor
open Go.Ab
end Go.Proofs.YthfodompfpdmgaaGreatDoor

namespace Go.Proofs.YthfodompfpdmgaaGreatDoor
open Go.Ab
theorem Fc {s:EA} (h:InS s) (f:Int→Int):InS (s.mv f):=by
 obtain ⟨h1,h2,h3,h4,h5⟩:=h
 refine ⟨h1,by simpa [EA.mv] using h2,by simpa [EA.mv] using h3,fun x hx=>?_,fun x hx=>?_⟩
 ·obtain ⟨q,hq,rfl⟩:=List.mem_map.1 hx
  exact h4 q hq
 ·obtain ⟨q,hq,rfl⟩:=List.mem_map.1 hx
  exact h5 q hq
end Go.Proofs.YthfodompfpdmgaaGreatDoor

namespace Go.Proofs.YthfodompfpdmgaaGreatDoor
open Go.Ab
abbrev Ltr:=Int × List UInt8
abbrev Stp':=Ltr × Int
def Em (s:EA):List Stp':=if s.arr then [((0,[]),s.dom),((1,[]),s.cod)] else []
def yh (k:Int) (l:List Fld):List Stp':=l.map fun q=>((k,q.1),q.2)
def e9 (s:EA):List Stp':=Em s++yh 2 s.fl++yh 3 s.tl
theorem ur (s:EA):(e9 s).map (·.2)=s.next:=by
 unfold e9 Em yh EA.next
 cases s.arr<;>simp [Function.comp_def]
end Go.Proofs.YthfodompfpdmgaaGreatDoor

namespace Go.Proofs.YthfodompfpdmgaaGreatDoor
open Go.Ab
structure PS where
 cls:List Nat
 sets:List (List Nat)
 wait:List Nat
def jx (cls less:List Nat) (n:Nat):List Nat:=less.foldl (fun c x=>c.set x n) cls
theorem mj:∀ (less cls:List Nat) (n:Nat),(jx cls less n).length=cls.length
 | [],_,_=>rfl
 | x::r,cls,n=>by
   show (jx (cls.set x n) r n).length=_
   rw [mj r];simp
theorem mY:∀ (less cls:List Nat) (n x:Nat),x<cls.length→(jx cls less n).getD x 0=if x∈less then n else cls.getD x 0
 | [],_,_,_,_=>by simp [jx]
 | y::r,cls,n,x,hx=>by
   show (jx (cls.set y n) r n).getD x 0=_
   rw [mY r (cls.set y n) n x (by simpa using hx)]
   by_cases h:x∈r
   ·simp [h]
   ·rw [if_neg h]
    by_cases e:x=y
    ·subst e
     simp [List.getD_eq_getElem?_getD,hx]
    ·have e':¬ y=x:=fun h=>e h.symm
     simp [List.getD_eq_getElem?_getD,h,e,List.getElem?_set_ne e']
def dL (hit:Nat→Bool) (s:PS) (i:Nat):List Nat:=(s.sets.getD i []).filter hit
def dN (hit:Nat→Bool) (s:PS) (i:Nat):List Nat:=(s.sets.getD i []).filter fun x=>!hit x
def bz (hit:Nat→Bool) (s:PS) (i:Nat):List Nat:=if (dN hit s i).length<(dL hit s i).length then dN hit s i else dL hit s i
def eJ (hit:Nat→Bool) (s:PS) (i:Nat):List Nat:=if (dN hit s i).length<(dL hit s i).length then dL hit s i else dN hit s i
def bh (hit:Nat→Bool) (s:PS) (i:Nat):PS :=
 if dL hit s i=[]∨dN hit s i=[] then s
 else { cls:=jx s.cls (bz hit s i) s.sets.length,sets:=s.sets.set i (eJ hit s i)++[bz hit s i],wait:=s.wait++[s.sets.length] }
structure Wf (N:Nat) (s:PS):Prop where
 len:s.cls.length=N
 at':∀ x,x<N→s.cls.getD x 0<s.sets.length∧x∈s.sets.getD (s.cls.getD x 0) []
 in':∀ c,c<s.sets.length→s.sets.getD c []≠[]∧∀ x∈s.sets.getD c [],x<N∧s.cls.getD x 0=c
 dn:∀ c,c<s.sets.length→(s.sets.getD c []).Nodup
 wt:∀ c∈s.wait,c<s.sets.length
 wn:s.wait.Nodup
theorem Wf.le {N:Nat} {s:PS} (h:Wf N s):s.sets.length≤N:=by
 have hn:((List.range s.sets.length).map fun c=>(s.sets.getD c []).headD 0).Nodup:=by
  have hh:∀ c,c<s.sets.length→(s.sets.getD c []).headD 0∈s.sets.getD c []:=by
   intro c hc
   have:=(h.in' c hc).1
   cases hs:s.sets.getD c [] with
   | nil=>exact absurd hs this
   | cons a r=>simp
  rw [List.Nodup,List.pairwise_map]
  refine List.pairwise_lt_range.imp_of_mem fun {i j} hi hj hij e=>?_
  have hi:=List.mem_range.1 hi
  have hj:=List.mem_range.1 hj
  have h1:=((h.in' i hi).2 _ (hh i hi)).2
  have h2:=((h.in' j hj).2 _ (hh j hj)).2
  rw [e,h2] at h1
  omega
 have:=eC (n:=N) hn (fun x hx=>by
  obtain ⟨c,hc,rfl⟩:=List.mem_map.1 hx
  have hc:=List.mem_range.1 hc
  have:=(h.in' c hc).1
  cases hs:s.sets.getD c [] with
  | nil=>exact absurd hs this
  | cons a r =>
    have:=((h.in' c hc).2 a (by rw [hs];simp)).1
    simpa using this)
 simpa using this
theorem bN (hit:Nat→Bool) (s:PS) (i:Nat) (x:Nat):(x∈bz hit s i∨x∈eJ hit s i)↔x∈s.sets.getD i []:=by
 unfold bz eJ dL dN
 split
 ·simp only [List.mem_filter]
  cases hit x<;>simp
 ·simp only [List.mem_filter]
  cases hit x<;>simp
theorem Ag {hit:Nat→Bool} {s:PS} {i:Nat} {x y:Nat} (hx:x∈bz hit s i) (hy:y∈bz hit s i):hit x=hit y:=by
 unfold bz dL dN at hx hy
 by_cases hc:((s.sets.getD i []).filter fun x=>!hit x).length<((s.sets.getD i []).filter hit).length
 ·rw [if_pos hc,List.mem_filter] at hx hy
  have h1:=hx.2
  have h2:=hy.2
  simp_all
 ·rw [if_neg hc,List.mem_filter] at hx hy
  rw [hx.2,hy.2]
theorem zo {hit:Nat→Bool} {s:PS} {i:Nat} {x y:Nat} (hx:x∈eJ hit s i) (hy:y∈eJ hit s i):hit x=hit y:=by
 unfold eJ dL dN at hx hy
 by_cases hc:((s.sets.getD i []).filter fun x=>!hit x).length<((s.sets.getD i []).filter hit).length
 ·rw [if_pos hc,List.mem_filter] at hx hy
  rw [hx.2,hy.2]
 ·rw [if_neg hc,List.mem_filter] at hx hy
  have h1:=hx.2
  have h2:=hy.2
  simp_all
theorem nE {hit:Nat→Bool} {s:PS} {i:Nat} {x y:Nat} (hx:x∈bz hit s i) (hy:y∈eJ hit s i):hit x≠hit y:=by
 unfold bz dL dN at hx
 unfold eJ dL dN at hy
 by_cases hc:((s.sets.getD i []).filter fun x=>!hit x).length<((s.sets.getD i []).filter hit).length
 ·rw [if_pos hc,List.mem_filter] at hx hy
  have h1:=hx.2
  have h2:=hy.2
  simp_all
 ·rw [if_neg hc,List.mem_filter] at hx hy
  have h1:=hx.2
  have h2:=hy.2
  simp_all
theorem oe {hit:Nat→Bool} {s:PS} {i:Nat} {x:Nat} (hx:x∈bz hit s i):x ∉ eJ hit s i:=fun hm=>nE hx hm rfl
section
variable {N:Nat} {hit:Nat→Bool} {s:PS} {i:Nat}
theorem cK (h:dL hit s i=[]∨dN hit s i=[]):bh hit s i=s:=by rw [bh,if_pos h]
theorem cB (h:¬ (dL hit s i=[]∨dN hit s i=[])):bh hit s i={ cls:=jx s.cls (bz hit s i) s.sets.length,sets:=s.sets.set i (eJ hit s i)++[bz hit s i],wait:=s.wait++[s.sets.length] }:=by rw [bh,if_neg h]
theorem DE (h:¬ (dL hit s i=[]∨dN hit s i=[])):bz hit s i≠[]∧eJ hit s i≠[]:=by
 simp only [not_or] at h
 unfold bz eJ
 split
 ·exact ⟨h.2,h.1⟩
 ·exact ⟨h.1,h.2⟩
theorem bH (w:Wf N s) (_hi:i<s.sets.length) {x:Nat} (hx:x<N) (h:¬ (dL hit s i=[]∨dN hit s i=[])) :
  (bh hit s i).cls.getD x 0=if x∈bz hit s i then s.sets.length else s.cls.getD x 0:=by
 rw [cB h]
 exact mY _ _ _ _ (by rw [w.len];exact hx)
theorem yZ (w:Wf N s) (hi:i<s.sets.length):Wf N (bh hit s i):=by
 by_cases h:dL hit s i=[]∨dN hit s i=[]
 ·rw [cK h];exact w
 have hc:=fun x hx=>bH (x:=x) w hi hx h
 obtain ⟨n1,n2⟩:=DE h
 have hsl:(bh hit s i).sets.length=s.sets.length+1:=by rw [cB h];simp
 have hset:∀ c,(bh hit s i).sets.getD c []=if c=s.sets.length then bz hit s i else if c=i then eJ hit s i else s.sets.getD c []:=by
  intro c
  rw [cB h]
  simp only [List.getD_eq_getElem?_getD]
  by_cases e:c=s.sets.length
  ·subst e
   rw [List.getElem?_append_right (by simp)]
   simp
  ·rw [if_neg e]
   by_cases hlt:c<s.sets.length
   ·rw [List.getElem?_append_left (by simpa using hlt)]
    by_cases e2:c=i
    ·subst e2
     simp [hlt]
    ·have:¬ i=c:=fun h=>e2 h.symm
     rw [if_neg e2,List.getElem?_set_ne this]
   ·have e2:c≠i:=by omega
    rw [if_neg e2,List.getElem?_eq_none_iff.2 (by simp;omega),List.getElem?_eq_none_iff.2 (by omega)]
 refine ⟨by rw [cB h];exact (mj _ _ _).trans w.len,fun x hx=>?_,fun c hcl=>?_,fun c hcl=>?_,fun c hcw=>?_,?_⟩
 ·rw [hc x hx,hsl,hset]
  obtain ⟨a1,a2⟩:=w.at' x hx
  by_cases hl:x∈bz hit s i
  ·rw [if_pos hl,if_pos rfl]
   exact ⟨by omega,hl⟩
  ·rw [if_neg hl,if_neg (by omega)]
   refine ⟨by omega,?_⟩
   by_cases e:s.cls.getD x 0=i
   ·rw [if_pos e]
    rw [e] at a2
    exact ((bN hit s i x).2 a2).resolve_left hl
   ·rw [if_neg e];exact a2
 ·rw [hset]
  rw [hsl] at hcl
  by_cases e:c=s.sets.length
  ·rw [if_pos e]
   refine ⟨n1,fun x hx=>?_⟩
   have hx':=(bN hit s i x).1 (.inl hx)
   have:=((w.in' i hi).2 x hx').1
   exact ⟨this,by rw [hc x this,if_pos hx,e]⟩
  ·rw [if_neg e]
   by_cases e2:c=i
   ·rw [if_pos e2]
    refine ⟨n2,fun x hx=>?_⟩
    have hx':=(bN hit s i x).1 (.inr hx)
    have:=(w.in' i hi).2 x hx'
    exact ⟨this.1,by rw [hc x this.1,if_neg (fun hl=>oe hl hx),this.2,e2]⟩
   ·rw [if_neg e2]
    obtain ⟨b1,b2⟩:=w.in' c (by omega)
    refine ⟨b1,fun x hx=>?_⟩
    have:=b2 x hx
    refine ⟨this.1,?_⟩
    rw [hc x this.1,if_neg,this.2]
    intro hl
    have hx':=(bN hit s i x).1 (.inl hl)
    have:=((w.in' i hi).2 x hx').2
    omega
 ·have hd:∀ p:Nat→Bool,((s.sets.getD i []).filter p).Nodup:=fun p=>(w.dn i hi).sublist List.filter_sublist
  rw [hset]
  rw [hsl] at hcl
  by_cases e:c=s.sets.length
  ·rw [if_pos e]
   unfold bz dL dN
   split<;>exact hd _
  ·rw [if_neg e]
   by_cases e2:c=i
   ·rw [if_pos e2]
    unfold eJ dL dN
    split<;>exact hd _
   ·rw [if_neg e2]
    exact w.dn c (by omega)
 ·rw [hsl]
  rw [cB h] at hcw
  rcases List.mem_append.1 hcw with hcw | hcw
  ·have:=w.wt c hcw;omega
  ·rw [List.mem_singleton.1 hcw];omega
 ·rw [cB h]
  show (s.wait++[s.sets.length]).Nodup
  rw [List.nodup_append]
  refine ⟨w.wn,by simp,fun a ha b hb=>?_⟩
  rw [List.mem_singleton.1 hb]
  have:=w.wt a ha
  omega
theorem fp (w:Wf N s) (hi:i<s.sets.length) {x y:Nat} (hx:x<N) (hy:y<N) (he:(bh hit s i).cls.getD x 0=(bh hit s i).cls.getD y 0):s.cls.getD x 0=s.cls.getD y 0:=by
 by_cases h:dL hit s i=[]∨dN hit s i=[]
 ·rw [cK h] at he;exact he
 rw [bH w hi hx h,bH w hi hy h] at he
 have a1:=(w.at' x hx).1
 have a2:=(w.at' y hy).1
 have hin:∀ z,z∈bz hit s i→s.cls.getD z 0=i:=fun z hz=>((w.in' i hi).2 z ((bN hit s i z).1 (.inl hz))).2
 by_cases h1:x∈bz hit s i<;>by_cases h2:y∈bz hit s i
 ·rw [hin x h1,hin y h2]
 ·rw [if_pos h1,if_neg h2] at he;omega
 ·rw [if_neg h1,if_pos h2] at he;omega
 ·rw [if_neg h1,if_neg h2] at he;exact he
theorem xH (w:Wf N s) (hi:i<s.sets.length) {x y:Nat} (hx:x<N) (hy:y<N) (hxi:s.cls.getD x 0=i) (he:(bh hit s i).cls.getD x 0=(bh hit s i).cls.getD y 0):hit x=hit y:=by
 have hyi:s.cls.getD y 0=i:=(fp w hi hx hy he).symm.trans hxi
 have mx:=(w.at' x hx).2
 have my:=(w.at' y hy).2
 rw [hxi] at mx
 rw [hyi] at my
 by_cases h:dL hit s i=[]∨dN hit s i=[]
 ·unfold dL dN at h
  rcases h with h | h
  ·rw [List.filter_eq_nil_iff] at h
   have:=h x mx
   have:=h y my
   simp_all
  ·rw [List.filter_eq_nil_iff] at h
   have:=h x mx
   have:=h y my
   simp_all
 ·rw [bH w hi hx h,bH w hi hy h] at he
  have a1:=(w.at' x hx).1
  have a2:=(w.at' y hy).1
  by_cases h1:x∈bz hit s i<;>by_cases h2:y∈bz hit s i
  ·exact Ag h1 h2
  ·rw [if_pos h1,if_neg h2] at he;omega
  ·rw [if_neg h1,if_pos h2] at he;omega
  ·exact zo (((bN hit s i x).2 mx).resolve_left h1) (((bN hit s i y).2 my).resolve_left h2)
theorem ub (w:Wf N s) (hi:i<s.sets.length) {x y:Nat} (hx:x<N) (hy:y<N) (he:s.cls.getD x 0=s.cls.getD y 0) (hh:hit x=hit y):(bh hit s i).cls.getD x 0=(bh hit s i).cls.getD y 0:=by
 by_cases h:dL hit s i=[]∨dN hit s i=[]
 ·rw [cK h];exact he
 rw [bH w hi hx h,bH w hi hy h]
 have hin:∀ z,z∈bz hit s i→s.cls.getD z 0=i:=fun z hz=>((w.in' i hi).2 z ((bN hit s i z).1 (.inl hz))).2
 have mx:=(w.at' x hx).2
 have my:=(w.at' y hy).2
 by_cases h1:x∈bz hit s i<;>by_cases h2:y∈bz hit s i
 ·rw [if_pos h1,if_pos h2]
 ·have e:=hin x h1
  rw [he] at e
  rw [e] at my
  exact absurd hh (nE h1 (((bN hit s i y).2 my).resolve_left h2))
 ·have e:=hin y h2
  rw [← he] at e
  rw [e] at mx
  exact absurd hh.symm (nE h2 (((bN hit s i x).2 mx).resolve_left h1))
 ·rw [if_neg h1,if_neg h2];exact he
theorem uA (w:Wf N s) (hi:i<s.sets.length) {k m:Nat} (hk:k<N) (hm:m<N) (hne:(bh hit s i).cls.getD k 0≠(bh hit s i).cls.getD m 0) :
  s.cls.getD k 0=s.cls.getD m 0→((bh hit s i).cls.getD k 0∈(bh hit s i).wait∨(bh hit s i).cls.getD m 0∈(bh hit s i).wait):=by
 intro he
 by_cases h:dL hit s i=[]∨dN hit s i=[]
 ·rw [cK h] at hne;exact absurd he hne
 have hw:(bh hit s i).wait=s.wait++[s.sets.length]:=by rw [cB h]
 rw [bH w hi hk h,bH w hi hm h] at hne ⊢
 rw [hw]
 by_cases h1:k∈bz hit s i
 ·rw [if_pos h1];exact .inl (by simp)
 ·by_cases h2:m∈bz hit s i
  ·rw [if_pos h2];exact .inr (by simp)
  ·rw [if_neg h1,if_neg h2] at hne;exact absurd he hne
theorem mE (w:Wf N s) (hi:i<s.sets.length) {k:Nat} (hk:k<N) (hw0:s.cls.getD k 0∈s.wait):(bh hit s i).cls.getD k 0∈(bh hit s i).wait:=by
 by_cases h:dL hit s i=[]∨dN hit s i=[]
 ·rw [cK h];exact hw0
 have hw:(bh hit s i).wait=s.wait++[s.sets.length]:=by rw [cB h]
 rw [bH w hi hk h,hw]
 by_cases h1:k∈bz hit s i
 ·rw [if_pos h1];simp
 ·rw [if_neg h1];exact List.mem_append_left _ hw0
end
end Go.Proofs.YthfodompfpdmgaaGreatDoor

namespace Go.Proofs.YthfodompfpdmgaaGreatDoor
open Go.Ab
def jt (l:List EA) (i:Nat):List (Ltr × Nat):=(e9 (l.getD i default)).map fun q=>(q.1,q.2.toNat)
theorem A4 (l:List EA) (i:Nat):(jt l i).map (·.2)=nxA l i:=by
 unfold jt nxA
 rw [List.map_map,← ur,List.map_map]
 rfl
theorem nk {s u:EA} (h:s.self=u.self):(e9 s).map (·.1)=(e9 u).map (·.1):=by
 simp only [EA.self,Prod.mk.injEq,List.cons.injEq] at h
 have e:∀ (k:Int) (l:List Fld),(yh k l).map (·.1)=(l.map (·.1)).map fun n=>(k,n):=fun k l=>by simp [yh,Function.comp_def]
 unfold e9
 rw [List.map_append,List.map_append,List.map_append,List.map_append,e,e,e,e,h.2.1,h.2.2]
 congr 2
 unfold Em
 rw [h.1.1.2.2.2.2.2.1]
 split<;>rfl
theorem zy {l:List EA} {i j:Nat} (h:sfA l i=sfA l j):(jt l i).map (·.1)=(jt l j).map (·.1):=by
 unfold jt
 rw [List.map_map,List.map_map]
 exact nk h
def Il (l:List EA):Prop:=∀ i,i<l.length→∀ (a:Ltr) k m,(a,k)∈jt l i→(a,m)∈jt l i→k=m
def mH (l:List EA) (a:Ltr) (T:List Nat) (x:Nat):Bool:=(jt l x).any fun q=>decide (q.1=a) && decide (q.2∈T)
theorem vy {l:List EA} {a:Ltr} {T:List Nat} {x:Nat}:mH l a T x=true↔∃ k,(a,k)∈jt l x∧k∈T:=by
 unfold mH
 rw [List.any_eq_true]
 constructor
 ·rintro ⟨⟨b,k⟩,h1,h2⟩
  simp only [Bool.and_eq_true,decide_eq_true_eq] at h2
  exact ⟨k,h2.1 ▸ h1,h2.2⟩
 ·rintro ⟨k,h1,h2⟩
  exact ⟨(a,k),h1,by simp [h2]⟩
theorem qf {l:List EA} (hin:InA l) {x:Nat} (hx:x<l.length) {a:Ltr} {k:Nat} (h:(a,k)∈jt l x):k<l.length:=by
 have:k∈nxA l x:=by rw [← A4];exact List.mem_map.2 ⟨(a,k),h,rfl⟩
 exact BL hin x hx k this
structure Hop (l:List EA) (s:PS) (T:List Nat) (Ls:List Ltr):Prop where
 wf:Wf l.length s
 al:∀ p q,p<l.length→q<l.length→alike l p q→s.cls.getD p 0=s.cls.getD q 0
 sf:∀ p q,p<l.length→q<l.length→s.cls.getD p 0=s.cls.getD q 0→sfA l p=sfA l q
 pd:∀ p q,p<l.length→q<l.length→s.cls.getD p 0=s.cls.getD q 0→∀ (a:Ltr) k m,(a,k)∈jt l p→(a,m)∈jt l q→s.cls.getD k 0≠s.cls.getD m 0 →
  s.cls.getD k 0∈s.wait∨s.cls.getD m 0∈s.wait∨(a∈Ls∧¬ (k∈T↔m∈T))
section
variable {l:List EA} {s:PS} {T:List Nat} {Ls:List Ltr}
theorem Hop.split (h:Hop l s T Ls) (hin:InA l) {hit:Nat→Bool} (hr:∀ p q,p<l.length→q<l.length→alike l p q→hit p=hit q) {i:Nat} (hi:i<s.sets.length):Hop l (bh hit s i) T Ls:=by
 have w:=h.wf
 refine ⟨yZ w hi,fun p q hp hq ha=>ub w hi hp hq (h.al p q hp hq ha) (hr p q hp hq ha),fun p q hp hq he=>h.sf p q hp hq (fp w hi hp hq he),fun p q hp hq he a k m hk hm hne=>?_⟩
 have hkl:=qf hin hp hk
 have hml:=qf hin hq hm
 by_cases e:s.cls.getD k 0=s.cls.getD m 0
 ·rcases uA w hi hkl hml hne e with g | g
  ·exact .inl g
  ·exact .inr (.inl g)
 ·rcases h.pd p q hp hq (fp w hi hp hq he) a k m hk hm e with g | g | g
  ·exact .inl (mE w hi hkl g)
  ·exact .inr (.inl (mE w hi hml g))
  ·exact .inr (.inr g)
structure ByI (l:List EA) (s0 s:PS) (hit:Nat→Bool) (done:List Nat):Prop where
 sub:∀ x y,x<l.length→y<l.length→s.cls.getD x 0=s.cls.getD y 0→s0.cls.getD x 0=s0.cls.getD y 0
 hom:∀ x y,x<l.length→y<l.length→s.cls.getD x 0=s.cls.getD y 0→s0.cls.getD x 0∈done→hit x=hit y
 rest:∀ x,x<l.length→s0.cls.getD x 0 ∉ done→s.cls.getD x 0=s0.cls.getD x 0
 le:s0.sets.length≤s.sets.length
theorem ByI.init (l:List EA) (s:PS) (hit:Nat→Bool):ByI l s s hit []:=⟨fun _ _ _ _ h=>h,fun _ _ _ _ _ h=>by simp at h,fun _ _ _=>rfl,Nat.le_refl _⟩
theorem ByI.step {s0:PS} {hit:Nat→Bool} {done:List Nat} (h:ByI l s0 s hit done) (w:Wf l.length s) {c:Nat} (hc:c<s0.sets.length) (_w0:Wf l.length s0):ByI l s0 (bh hit s c) hit (done++[c]):=by
 have hcs:c<s.sets.length:=by have:=h.le;omega
 refine ⟨fun x y hx hy he=>h.sub x y hx hy (fp w hcs hx hy he),fun x y hx hy he hm=>?_,fun x hx hm=>?_,?_⟩
 ·by_cases hd:s0.cls.getD x 0∈done
  ·exact h.hom x y hx hy (fp w hcs hx hy he) hd
  ·have e:s0.cls.getD x 0=c:=by
    rcases List.mem_append.1 hm with g | g
    ·exact absurd g hd
    ·exact List.mem_singleton.1 g
   exact xH w hcs hx hy ((h.rest x hx hd).trans e) he
 ·have hd:s0.cls.getD x 0 ∉ done:=fun g=>hm (List.mem_append_left _ g)
  have hcx:s0.cls.getD x 0≠c:=fun g=>hm (List.mem_append_right _ (List.mem_singleton.2 g))
  have h1:=h.rest x hx hd
  by_cases hs:dL hit s c=[]∨dN hit s c=[]
  ·rw [cK hs];exact h1
  ·rw [bH w hcs hx hs,if_neg,h1]
   intro hl
   have:=((w.in' c hcs).2 x ((bN hit s c x).1 (.inl hl))).2
   omega
 ·by_cases hs:dL hit s c=[]∨dN hit s c=[]
  ·rw [cK hs];exact h.le
  ·have:=h.le
   rw [cB hs];simp;omega
theorem Hop.done {s0:PS} {a:Ltr} {done:List Nat} (h:Hop l s T (a::Ls)) (hdet:Il l) (hb:ByI l s0 s (mH l a T) done) (hd:∀ x,x<l.length→mH l a T x=true→s0.cls.getD x 0∈done):Hop l s T Ls:=by
 refine ⟨h.wf,h.al,h.sf,fun p q hp hq he b k m hk hm hne=>?_⟩
 rcases h.pd p q hp hq he b k m hk hm hne with g | g | ⟨g1,g2⟩
 ·exact .inl g
 ·exact .inr (.inl g)
 rcases List.mem_cons.1 g1 with rfl | g1
 ·exfalso
  have hh:mH l b T p=mH l b T q:=by
   by_cases e:s0.cls.getD p 0∈done
   ·exact hb.hom p q hp hq he e
   ·have h1:mH l b T p=false:=by
     cases g:mH l b T p with
     | false=>rfl
     | true=>exact absurd (hd p hp g) e
    have h2:mH l b T q=false:=by
     cases g:mH l b T q with
     | false=>rfl
     | true=>exact absurd (hd q hq g) (by rw [← hb.sub p q hp hq he];exact e)
    rw [h1,h2]
  apply g2
  have key:∀ {x k:Nat},x<l.length→(b,k)∈jt l x→(mH l b T x=true↔k∈T):=by
   intro x k hx hk
   constructor
   ·intro g
    obtain ⟨k',h1,h2⟩:=vy.1 g
    rw [hdet x hx b k k' hk h1];exact h2
   ·exact fun g=>vy.2 ⟨k,hk,g⟩
  rw [← key hp hk,← key hq hm,hh]
 ·exact .inr (.inr ⟨g1,g2⟩)
theorem Hop.alike (h:Hop l s [] []) (hin:InA l) (hw:s.wait=[]) {i j:Nat} (hi:i<l.length) (hj:j<l.length):alike l i j↔s.cls.getD i 0=s.cls.getD j 0:=by
 constructor
 ·exact h.al i j hi hj
 ·intro he
  refine ⟨fun p q=>p<l.length∧q<l.length∧s.cls.getD p 0=s.cls.getD q 0,?_,hi,hj,he⟩
  rintro p q ⟨hp,hq,he⟩
  have e:=h.sf p q hp hq he
  refine ⟨e,fun n k m hk hm=>?_⟩
  have e1:=zy e
  rw [← A4,List.getElem?_map,Option.map_eq_some_iff] at hk hm
  obtain ⟨⟨a,k'⟩,h1,rfl⟩:=hk
  obtain ⟨⟨b,m'⟩,h2,rfl⟩:=hm
  have hab:a=b:=by
   have:=congrArg (fun L:List Ltr=>L[n]?) e1
   simp only [List.getElem?_map,h1,h2,Option.map_some,Option.some.injEq] at this
   exact this
  subst hab
  have m1:=List.mem_of_getElem? h1
  have m2:=List.mem_of_getElem? h2
  refine ⟨qf hin hp m1,qf hin hq m2,?_⟩
  by_cases g:s.cls.getD k' 0=s.cls.getD m' 0
  ·exact g
  ·rcases h.pd p q hp hq he a k' m' m1 m2 g with g | g | ⟨g,_⟩<;>simp [hw] at g
end
end Go.Proofs.YthfodompfpdmgaaGreatDoor

namespace Go.Proofs.YthfodompfpdmgaaGreatDoor
open Go.Ab
def Is (b:Bool):UInt8:=if b then 49 else 48
def Hc (s:EA):List UInt8:=[s.plus,s.al,s.int,s.bool,s.str,s.arr,s.rc,s.tg].map Is
def Hz (l:List (List UInt8)):List UInt8:=l.flatMap fun t=>32::t
def Ib (s:EA):List (List UInt8):=s.vars.map Lib.itoa++(GV s.fl++GV s.tl)
def lj (s:EA):List UInt8:=Hc s++Hz (Ib s)
structure Nice (s:EA):Prop where
 v:∀ n∈s.vars,0≤n∧n≤999
 f:∀ q∈s.fl,cE q.1=true
 t:∀ q∈s.tl,fG q.1=true
end Go.Proofs.YthfodompfpdmgaaGreatDoor

namespace Go.Proofs.YthfodompfpdmgaaGreatDoor
open Go.Ab
def rH:List (Name × Ob):=[([0],.boxT (some 177) [.d .nilp,.d .nils])]
def tv (l:List UInt8):List (Name × Ob):=[([0],.boxT (some 177) [.bx [0] 0,.vw [2] 0 l.length]),([2],.arrT (some 5) none (l.map byD))]
def eE (l:List UInt8):List (Name × Ob):=[([0],.boxT (some 177) [.bx [0] 0,.vw [1] 0 l.length]),([1],.arrT (some 5) none (l.map byD))]
theorem noesc (v:Value) (w:World):(callFunc 172 #[v]).run Tryz.prog w=.ok (.value v) w:=by
 rw [run_callFunc_extern Tryz.func172 (by kernel_rfl) (by kernel_rfl) (by kernel_rfl) (e:=Extern.AbiNoEscape.same) (by kernel_rfl)]
 rw [Lib.run_noEscape]
 rfl
theorem Hr:(Tryz.prog.ti 220).k=.oth:=by kernel_rfl
theorem Hk:Tryz.prog.underlying 220=some .unsafePointer:=by kernel_rfl
theorem AJ {G} (l:List UInt8):HCall Tryz.prog G 147 [.bx [0] 0] (eE l) [0,1] (fun r hp'=>r=.tup []∧hp'=eE l):=by
 unfold eE
 refine aL Tryz.func147 rfl (by decide +kernel) (by simp [Tryz.ntmps147]) (veil fun E=>?_)
 simp only [go_sem]
 refine tP E (e:=177) false (by rw [k5]) (by simp only [go_sem]) rfl ?_
 simp only [go_sem]
 refine wB E (e:=177) [0] 0 (by rw [k5]) (by kernel_rfl) (by simp only [go_sem]) rfl rfl rfl ?_
 simp only [go_sem]
 refine ⟨_,_,[0,1],id,⟨rfl,rfl⟩,?_⟩
 simp only [go_sem]
theorem Es:Tryz.prog.cellsOf 5=1:=by kernel_rfl
theorem IB:Tryz.prog.underlying 198=some (.pointer 5):=by kernel_rfl
theorem AL {G} (l:List UInt8) (h0:l≠[]) (hl:l.length≤1000000000):HCall Tryz.prog G 125 [.bx [0] 0] (eE l) [0,1] (fun r hp'=>r=.d (.str l)∧hp'=[]):=by
 unfold eE
 refine aL Tryz.func125 rfl (by decide +kernel) (by simp [Tryz.ntmps125]) (veil fun E=>?_)
 simp only [go_sem]
 refine tJ 10 mixed E (by simp only [List.take_succ_cons,List.take_zero];exact rfl) (by simp only [List.drop_succ_cons,List.drop_zero];exact rfl) rfl rfl (by decide +kernel) fun X=>?_
 simp only [go_sem]
 refine aI X (d:=4) [0] 0 (some 177) [.bx [0] 0,.vw [1] 0 l.length] (by simp only [go_sem]) rfl rfl ?_
 simp only [go_sem]
 refine HC X (d:=7) [1] (some 5) none (l.map byD) l.length (by simp only [go_sem]) rfl rfl (List.length_pos_iff.2 h0) ?_
 simp only [go_sem]
 refine aI X (d:=9) [0] 0 (some 177) [.bx [0] 0,.vw [1] 0 l.length] (by simp only [go_sem]) rfl rfl ?_
 simp only [go_sem]
 refine ⟨by decide +kernel,?_⟩
 refine EM E (e:=5) [1] l (by simp only [go_sem]) IB Es h0 (by omega) rfl rfl rfl ?_
 simp only [go_sem]
 refine ⟨_,_,[0,1],id,⟨rfl,rfl⟩,?_⟩
 simp only [go_sem]
end Go.Proofs.YthfodompfpdmgaaGreatDoor

namespace Go.Proofs.YthfodompfpdmgaaGreatDoor
open Go.Ab
theorem rP {G} (l s:List UInt8) (hl:l.length+s.length≤1000000000):HCall Tryz.prog G 124 [.bx [0] 0,.d (.str s)] (eE l) [0,1] (fun r hp'=>r=.tup [.d (i64 (s.length:Nat)),.d .nili]∧hp'=tv (l++s)):=by
 have h0:=AJ (G:=G) l
 unfold eE at *
 unfold tv
 refine aL Tryz.func124 rfl (by decide +kernel) (by simp [Tryz.ntmps124]) (veil fun E=>?_)
 simp only [go_sem]
 refine bn E [.bx [0] 0] [([0],.boxT (some 177) [.bx [0] 0,.vw [1] 0 l.length]),([1],.arrT (some 5) none (l.map byD))] [0,1] h0 rfl rfl ⟨by simp only [go_sem],by rw [aa];decide⟩ rfl (by simp only [go_sem]) (by simp only [go_sem]) ?_
 rintro _ _ ⟨rfl,rfl⟩
 simp only [go_sem]
 refine ⟨Nat.le_refl _,?_⟩
 have hlm:(l.map byD).length=l.length:=by simp
 refine xd E (d:=14) (e:=5) (some 5) [1] (l.map byD) s (by rw [mP]) (by rw [ti9]) (by rw [ti5];rfl) (by rw [ti5];rfl) (by rw [ti5];rfl) rfl ⟨by simp only [go_sem],by rw [aa];decide⟩ (by rw [hlm];rfl) rfl rfl (by rw [ti5,hlm];simp [TI.by1];omega) ?_
 rw [hlm,← List.map_append]
 simp only [go_sem]
 refine ⟨_,_,[0,1,2],tau [([2],[14])],⟨rfl,rfl⟩,?_⟩
 rw [show (l++s).length=l.length+s.length by simp]
 simp only [go_sem]
end Go.Proofs.YthfodompfpdmgaaGreatDoor

namespace Go.Proofs.YthfodompfpdmgaaGreatDoor
open Go.Ab
variable {t:TypeId} {fz:Nat × Nat}
theorem Cm (n:Int) (hn:inR n):HP Tryz.prog (GT t fz) 122 [i64 n] (fun r=>r=.d (.str (Lib.itoa n))):=by
 refine ao Tryz.func122 rfl (by decide +kernel) (by simp [Tryz.ntmps122]) (veil fun E=>?_)
 simp only [go_sem]
 refine ae E (B5 n hn) rfl rfl (by simp) ?_
 rintro _ rfl
 simp only [go_sem]
theorem Ff (n:Int) (hn:inR n):HP Tryz.prog (GT t fz) 84 [i64 n] (fun r=>r=.d (.str (Lib.itoa n))):=by
 refine ao Tryz.func84 rfl (by decide +kernel) (by simp [Tryz.ntmps84]) (veil fun E=>?_)
 simp only [go_sem]
 refine ae E (Cm n hn) rfl rfl (by simp) ?_
 rintro _ rfl
 simp only [go_sem]
structure Fit (s:EA):Prop where
 v:s.vars.length≤1000000
 r:∀ n∈s.vars,inR n
 f:s.fl.length≤400
 t:s.tl.length≤400
 fs:∀ q∈s.fl,q.1.length≤20
 ts:∀ q∈s.tl,q.1.length≤20
end Go.Proofs.YthfodompfpdmgaaGreatDoor

namespace Go.Proofs.YthfodompfpdmgaaGreatDoor
open Go.Ab
theorem Hn:gA Tryz.prog 3=some (i64 0):=by kernel_rfl
theorem jn {κ:Type} [DecidableEq κ] (a b:κ) (d:D):∀ ms:List (κ × D),mlook (mset ms a d) b=if b=a then some d else mlook ms b
 | []=>by
   simp only [mset,mlook]
   by_cases e:a=b
   ·rw [if_pos e,if_pos e.symm]
   ·rw [if_neg e,if_neg (fun h=>e h.symm)]
 | q::r=>by
   simp only [mset]
   split
   ·rename_i e
    simp only [mlook]
    by_cases e2:a=b
    ·rw [if_pos e2,if_pos e2.symm]
    ·rw [if_neg e2,if_neg (fun h=>e2 h.symm),if_neg (fun h=>e2 (e.symm.trans h))]
   ·rename_i e
    simp only [mlook,jn a b d r]
    by_cases e2:q.1=b
    ·rw [if_pos e2,if_neg (fun h=>e (e2.trans h)),if_pos e2]
    ·rw [if_neg e2,if_neg e2]
def HI (es:List (Int × D)) (wait:List Nat):Prop:=(∀ k:Nat,mlook es (k:Int)=if k∈wait then some (.bool true) else none)∧(es.map (·.1)).Nodup
def Ir (x:List Nat):D:=.sl none (x.map nD)
end Go.Proofs.YthfodompfpdmgaaGreatDoor

namespace Go.Proofs.YthfodompfpdmgaaGreatDoor
open Go.Ab
end Go.Proofs.YthfodompfpdmgaaGreatDoor

namespace Go.Ab
open Go.Sort Go.Lib Go.Proofs Go.Shelf Go.RowKit
theorem Sim.grown {B:Base} {β:Name→Option Blk} {s:St} {tm:Array Value} {w w':World} (h:Sim B β s tm w) (hs:w.heap.size≤w'.heap.size) (ho:∀ b,b<w.heap.size→w'.heap[b]?=w.heap[b]?) (hio:wio w'=wio w):Sim B β s tm w':=by
 have hr:∀ v d,Rep w.heap (s.own B.A β) v d→Rep w'.heap (s.own B.A β) v d:=fun v d hd=>hd.mono (fun b _ hb=>ho b hb) (fun _ _ h=>h)
 have hst:∀ p,nm s.used p→Stays s.hp s.hp β β p:=fun p _ o' ho'=>⟨o',ho',Ob.br _,rfl⟩
 refine { tms:=h.tms,io:=hio.trans h.io,size:=Nat.le_trans h.size hs,frame:=fun b hb hn=>(ho b (Nat.lt_of_lt_of_le hb h.size)).trans (h.frame b hb hn),slots:=fun t=>(h.slots t).mono hr (fun _ h=>h) hst,objs:=fun p o ho'=>?_,blocks:=fun p k hp hk=>?_,inj:=h.inj,us:=h.us,stay:=h.stay }
 ·obtain ⟨h1,h2⟩:=h.objs p o ho'
  exact ⟨h1,h2.mono hr (fun _ h=>h) hst rfl fun k hk=>ho k.b (h.blocks p k (by rw [ho'];simp) hk).1⟩
 ·obtain ⟨h1,h2⟩:=h.blocks p k hp hk
  exact ⟨Nat.lt_of_lt_of_le h1 hs,h2⟩
section
variable {P:Program} {α:Type} [Inhabited α]
end
end Go.Ab

namespace Go.Ab
open Go.Sort Go.Lib Go.Proofs Go.Shelf Go.RowKit
section
variable {P:Program}
theorem x1 {G:List (Nat × Obj)} {f:Nat} (he:∀ vs w,(callFunc f vs).run P w=.ok (.enter f vs) w)
  (hcon:∀ (blk off cap:Nat) (zs:List Int) (w:World),Holds (Value.int .i64) w blk off zs.toArray→blk<w.heap.size→zs.length<4611686018427387904→Calls P f #[.slice (some ⟨blk,off,none⟩) zs.length cap] w fun e w' =>
   e=.returned (.tuple #[])∧∃ n os,w'=grow (putRow (Value.int .i64) (Go.Sort.ahead w n) blk off (zs.mergeSort fun x y=>decide (x≤y)).toArray) os)
  (hnone:∀ (p:Option Addr) (cap:Nat) (w:World),Calls P f #[.slice p 0 cap] w fun e w'=>e=.returned (.tuple #[])∧w'=w)
  (a:Nat) (l:List Int) (hl:l.length<4611686018427387904) :
  HCall P G f [.vw [a] 0 l.length] [([a],.arr none (l.map fun z=>D.int .i64 z))] [a] (fun r hp'=>r=.tup []∧hp'=[([a],.arr none ((l.mergeSort fun x y=>decide (x≤y)).map fun z=>D.int .i64 z))]):=by
 refine ⟨he,fun B β vs w h1 h2 h3 h4 hs=>?_⟩
 have hsz:vs.size=1:=by rw [hs.tms,h1];rfl
 obtain ⟨v0,rfl⟩:∃ v0,vs=#[v0]:=by
  rcases vs with ⟨_ | ⟨x,_ | ⟨y,r⟩⟩⟩<;>simp at hsz
  exact ⟨x,rfl⟩
 have hs0:=hs.slots 0
 have hhp:(mk (aO 0 [.vw [a] 0 l.length]) [([a],.arr none (l.map fun z=>D.int .i64 z))] [a]).hp [a]=some (.arr none (l.map fun z=>D.int .i64 z)):=by simp [mk,lkA]
 have e0:(#[v0]:Array Value).getD 0 undef=v0:=rfl
 rw [e0] at hs0
 have hlm:(l.mergeSort fun x y=>decide (x≤y)).length=l.length:=List.length_mergeSort _
 obtain ⟨av,cap,hv0,hv0'⟩:∃ av cap,v0=.slice av l.length cap∧(l.length=0∧cap=0∨∃ kk,β [a]=some kk∧av=some ⟨kk.b,kk.o+0*wd none,none⟩∧l.length≤cap∧kk.o+(0+cap)*wd none≤kk.z):=by
  have hs0':VR w.heap _ _ _ β v0 (.vw [a] 0 l.length):=hs0
  cases hs0' with
  | vw _ _ _ _ _ _ h=>exact (h _ _ _ hhp).2
 subst hv0
 by_cases hl0:l=[]
 ·subst hl0
  have hn:(([]:List Int).mergeSort fun x y=>decide (x≤y))=[]:=List.mergeSort_nil
  rw [hn]
  refine ((callsIn_wide (n:=0)).2 (hnone av cap w)).mono ?_
  rintro e w' ⟨rfl,rfl⟩
  refine ⟨_,.tup [],_,[a],β,rfl,⟨rfl,rfl⟩,?_⟩
  refine { tms:=rfl,io:=hs.io,size:=hs.size,frame:=hs.frame,slots:=fun t=>?_,objs:=hs.objs,blocks:=hs.blocks,inj:=hs.inj,us:=hs.us,stay:=hs.stay }
  rw [dP,bB,iJ]
  by_cases ht:t=0
  ·subst ht
   rw [if_pos rfl]
   exact .tup _ _ rfl fun i x hi=>by simp at hi
  ·rw [if_neg ht];exact .un _
 have hpos:0<l.length:=List.length_pos_iff.2 hl0
 obtain ⟨kk,hkk,rfl,hcap,hz⟩:=hv0'.resolve_left (by omega)
 obtain ⟨k',c,e,hk',hc,hcz,hlz,hw,hrep⟩:=((hs.objs [a] _ hhp).2).resolve_left (fun h=>by rw [hkk] at h;cases h.1)
 obtain rfl:=Option.some.inj (hkk.symm.trans hk')
 have hblk:=aN hc
 have hwd:wd none=1:=rfl
 rw [hwd] at hlz hz
 rw [List.length_map] at hlz
 have hcell:∀ i,(hi:i<l.length)→c.getD (kk.o+i) undef=.int .i64 l[i]:=by
  intro i hi
  have h1:(l.map fun z=>D.int .i64 z)[i]?=some (.int .i64 l[i]):=by simp [hi]
  have h2:=hrep i _ 0 (.int .i64 l[i]) h1 rfl
  rw [hwd,Nat.mul_one,Nat.add_zero] at h2
  cases hv:c.getD (kk.o+i) undef<;>rw [hv] at h2<;>cases h2
  rfl
 have hH:Holds (Value.int .i64) w kk.b kk.o l.toArray:=by
  intro t ht
  have ht':t<l.length:=by simpa using ht
  have:=hcell t ht'
  have hlt:kk.o+t<c.size:=by omega
  refine ⟨?_,?_⟩
  ·simp only [World.cell?,hc]
   rw [Array.getD_eq_getD_getElem?,Array.getElem?_eq_getElem hlt,Option.getD_some] at this
   rw [Array.getElem?_eq_getElem hlt,this]
   simp [ht']
  ·simp [World.frozen?,hc]
 have hcl:=(callsIn_wide (n:=0)).2 (hcon kk.b kk.o cap l w hH hblk hl)
 have e3:(⟨kk.b,kk.o+0*wd none,none⟩:Addr)=⟨kk.b,kk.o,none⟩:=by rw [Nat.zero_mul,Nat.add_zero]
 rw [e3]
 refine hcl.mono ?_
 rintro _ w' ⟨rfl,n,os,rfl⟩
 obtain ⟨m,hm⟩:∃ m,(l.mergeSort fun x y=>decide (x≤y))=m:=⟨_,rfl⟩
 rw [hm] at hlm ⊢
 refine ⟨_,.tup [],_,[a],β,rfl,⟨rfl,rfl⟩,?_⟩
 have hlike:(Ob.arr none (l.map fun z=>D.int .i64 z)).like (.arr none (m.map fun z=>D.int .i64 z)):=by
  refine ⟨⟨rfl,rfl⟩,?_⟩
  simp only [List.length_map,hlm]
  exact Nat.le_refl _
 have hw1:(putRow (Value.int .i64) (Go.Sort.ahead w n) kk.b kk.o m.toArray).heap=w.heap.modify kk.b (onCells (putCells (Value.int .i64) kk.o m.toArray)):=rfl
 obtain ⟨hsim,_⟩:=hs.modify (p:=[a]) (ob':=.arr none (m.map fun z=>D.int .i64 z)) hhp hlike (w':=putRow (Value.int .i64) (Go.Sort.ahead w n) kk.b kk.o m.toArray) rfl (by rw [hw1];simp)
  (fun b hb=>by
   have:=hb kk hkk
   rw [hw1,Array.getElem?_modify,if_neg (Ne.symm this)])
  (fun _ _=>by
   refine .inr ⟨kk,putCells (Value.int .i64) kk.o m.toArray c,e,hkk,?_,?_,?_,?_,?_⟩
   ·rw [hw1,Array.getElem?_modify,if_pos rfl,hc];rfl
   ·simp [putCells,hcz]
   ·simp only [List.length_map,hlm,hwd];omega
   ·intro x hx
    obtain ⟨y,_,rfl⟩:=List.mem_map.1 hx
    rfl
   ·intro i x j dd hi hj
    rw [List.getElem?_map,Option.map_eq_some_iff] at hi
    obtain ⟨y,hy,rfl⟩:=hi
    have hil:i<m.length:=(List.getElem?_eq_some_iff.1 hy).1
    have hj:[D.int .i64 y][j]?=some dd:=hj
    have hj0:j=0:=by
     have:=(List.getElem?_eq_some_iff.1 hj).1
     simpa using this
    subst hj0
    obtain rfl:=Option.some.inj hj
    have hlt:kk.o+i<c.size:=by omega
    have hget:(putCells (Value.int .i64) kk.o m.toArray c).getD (kk.o+i*wd none+0) undef=.int .i64 y:=by
     rw [hwd,Nat.mul_one,Nat.add_zero]
     simp only [putCells,Array.getD_eq_getD_getElem?,Array.getElem?_mapIdx,Array.getElem?_eq_getElem hlt,Option.map_some,Option.getD_some]
     rw [if_pos ⟨by omega,by simp;omega⟩,show kk.o+i-kk.o=i by omega]
     have:=(List.getElem?_eq_some_iff.1 hy).2
     simp [hil,this]
    rw [hget]
    exact .int _ _)
 have hgr:=hsim.grown (w':=grow (putRow (Value.int .i64) (Go.Sort.ahead w n) kk.b kk.o m.toArray) os) (by simp) (fun b hb=>heap_grow_old _ _ hb) rfl
 have hst:(mk (aO 0 [.vw [a] 0 l.length]) [([a],.arr none (l.map fun z=>D.int .i64 z))] [a]).set [a] (some (.arr none (m.map fun z=>D.int .i64 z)))=mk (aO 0 [.vw [a] 0 l.length]) [([a],.arr none (m.map fun z=>D.int .i64 z))] [a]:=by
  rw [zl]
  simp [fY]
 rw [hst] at hgr
 refine { tms:=rfl,io:=hgr.io,size:=hgr.size,frame:=hgr.frame,slots:=fun t=>?_,objs:=hgr.objs,blocks:=hgr.blocks,inj:=hgr.inj,us:=hgr.us,stay:=hgr.stay }
 rw [dP,bB,iJ]
 by_cases ht:t=0
 ·subst ht
  rw [if_pos rfl]
  exact .tup _ _ rfl fun i x hi=>by simp at hi
 ·rw [if_neg ht];exact .un _
end
end Go.Ab

namespace Go.Proofs
open Go.Shelf
def Tryz.rD:Go.Shelf.Ren:=⟨fun | 189=>87 | 125=>127 | 257=>126 | 128=>158 | 129=>159 | 294=>149 | 295=>150 | 296=>151 | 297=>152 | 298=>153 | 299=>154 | 216=>155 | 300=>156 | 301=>157 | 328=>174 | 329=>175 | 330=>176 | 331=>177 | 332=>178 | 215=>179 | 343=>202 | n=>n,fun | 28=>46 | 3=>3 | 46=>184 | 0=>0 | 51=>208 | 53=>210 | 4=>4 | 183=>201 | 182=>200 | 131=>100 | 5=>5 | 9=>9 | 218=>223 | 222=>227 | 228=>243 | 229=>102 | n=>n,fun | n=>n⟩
theorem Tryz.v8:Go.Proofs.Lays.n189 Tryz.prog Tryz.rD:={
 mixed:=by kernel_rfl
 f125:=Tryz.func127.trans (congrArg some (by kernel_rfl))
 f128:=Tryz.func158.trans (congrArg some (by kernel_rfl))
 f129:=Tryz.func159.trans (congrArg some (by kernel_rfl))
 f189:=Tryz.func87.trans (congrArg some (by kernel_rfl))
 f215:=Tryz.func179.trans (congrArg some (by kernel_rfl))
 f216:=Tryz.func155.trans (congrArg some (by kernel_rfl))
 f257:=Tryz.func126.trans (congrArg some (by kernel_rfl))
 f294:=Tryz.func149.trans (congrArg some (by kernel_rfl))
 f295:=Tryz.func150.trans (congrArg some (by kernel_rfl))
 f296:=Tryz.func151.trans (congrArg some (by kernel_rfl))
 f297:=Tryz.func152.trans (congrArg some (by kernel_rfl))
 f298:=Tryz.func153.trans (congrArg some (by kernel_rfl))
 f299:=Tryz.func154.trans (congrArg some (by kernel_rfl))
 f300:=Tryz.func156.trans (congrArg some (by kernel_rfl))
 f301:=Tryz.func157.trans (congrArg some (by kernel_rfl))
 f328:=Tryz.func174.trans (congrArg some (by kernel_rfl))
 f329:=Tryz.func175.trans (congrArg some (by kernel_rfl))
 f330:=Tryz.func176.trans (congrArg some (by kernel_rfl))
 f331:=Tryz.func177.trans (congrArg some (by kernel_rfl))
 f332:=Tryz.func178.trans (congrArg some (by kernel_rfl))
 f343:=Tryz.func202.trans (congrArg some (by kernel_rfl))
 t0:=Tryz.underlying0
 a0:=Tryz.isAgg0
 z0:=Tryz.sizeOf0
 v0:=Tryz.zeroValue0
 t3:=Tryz.underlying3
 a3:=Tryz.isAgg3
 z3:=Tryz.sizeOf3
 v3:=Tryz.zeroValue3
 t4:=Tryz.underlying4
 a4:=Tryz.isAgg4
 z4:=Tryz.sizeOf4
 v4:=Tryz.zeroValue4
 t5:=Tryz.underlying5
 a5:=Tryz.isAgg5
 z5:=Tryz.sizeOf5
 v5:=Tryz.zeroValue5
 t9:=Tryz.underlying9
 a9:=Tryz.isAgg9
 z9:=Tryz.sizeOf9
 v9:=Tryz.zeroValue9
 t28:=Tryz.underlying46
 a28:=Tryz.isAgg46
 z28:=Tryz.sizeOf46
 v28:=Tryz.zeroValue46
 t46:=Tryz.underlying184
 a46:=Tryz.isAgg184
 z46:=Tryz.sizeOf184
 v46:=Tryz.zeroValue184
 t51:=Tryz.underlying208
 a51:=Tryz.isAgg208
 z51:=Tryz.sizeOf208
 v51:=Tryz.zeroValue208
 t53:=Tryz.underlying210
 a53:=Tryz.isAgg210
 z53:=Tryz.sizeOf210
 v53:=Tryz.zeroValue210
 t131:=Tryz.underlying100
 a131:=Tryz.isAgg100
 z131:=Tryz.sizeOf100
 v131:=Tryz.zeroValue100
 t182:=Tryz.underlying200
 a182:=Tryz.isAgg200
 z182:=Tryz.sizeOf200
 v182:=Tryz.zeroValue200
 t183:=Tryz.underlying201
 a183:=Tryz.isAgg201
 z183:=Tryz.sizeOf201
 v183:=Tryz.zeroValue201
 t218:=Tryz.underlying223
 a218:=Tryz.isAgg223
 z218:=Tryz.sizeOf223
 v218:=Tryz.zeroValue223
 t222:=Tryz.underlying227
 a222:=Tryz.isAgg227
 z222:=Tryz.sizeOf227
 v222:=Tryz.zeroValue227
 t228:=Tryz.underlying243
 a228:=Tryz.isAgg243
 z228:=Tryz.sizeOf243
 v228:=Tryz.zeroValue243
 t229:=Tryz.underlying102
 a229:=Tryz.isAgg102
 z229:=Tryz.sizeOf102
 v229:=Tryz.zeroValue102 }
end Go.Proofs

namespace Go.Proofs.YthfodompfpdmgaaGreatDoor
open Go.Ab
theorem CL:∀ args w,(callFunc 87 args).run Tryz.prog w=.ok (.enter 87 args) w:=fun args w=>cP Tryz.func87 rfl (by decide +kernel) args w
theorem za {G} (a:Nat) (l:List Int) (hl:l.length≤1000000):HCall Tryz.prog G 87 [.vw [a] 0 l.length] [([a],.arr none (l.map i64))] [a] (fun r hp'=>r=.tup []∧hp'=[([a],.arr none ((l.mergeSort fun x y=>decide (x≤y)).map i64))]) :=
 x1 (P:=Tryz.prog) CL (fun blk off cap zs w h1 h2 h3=>Any.slices_Sort_int Tryz.v8 blk off cap zs w h1 h2 h3) (fun p cap w=>Any.slices_Sort_int_none Tryz.v8 p cap w) a l (by omega)
structure H4 (l:List EA) (FM:List (KISI × D)):Prop where
 val:∀ key v,(key,v)∈FM→∃ L:List Nat,v=Ir L∧L.length≤l.length∧0≤key.2∧key.2<l.length∧∀ x,x∈L↔x<l.length∧(key.1,key.2.toNat)∈jt l x
 all:∀ x,x<l.length→∀ (a:Ltr) k,(a,k)∈jt l x→∃ v,((a,(k:Int)),v)∈FM
 nd:(FM.map (·.1)).Nodup
end Go.Proofs.YthfodompfpdmgaaGreatDoor

namespace Go.Proofs.YthfodompfpdmgaaGreatDoor
open Go.Ab
def tM (ns:List TN) (l:List Int) (s:List Int × List Int):Prop:=Wlk ns [] s.1 s.2∧∀ z,z∈s.2↔∃ i∈l,Opn ns i z
theorem A9 (ns:List TN):tM ns [] ([],[]):=⟨⟨by simp,by simp,.nil,.nil,by simp⟩,by simp⟩
theorem tM.next {ns:List TN} (h:Inn ns) {l:List Int} {s:List Int × List Int} (ho:tM ns l s) {i:Int} (hi:okP ns i):tM ns (l++[i]) (ek ns (ns.length+1) i s):=by
 have t:=jQ h (ns.length+1) i [] s.1 s.2 hi (px h hi) (by simp) ho.1
 refine ⟨t.w,fun z=>⟨fun hz=>?_,?_⟩⟩
 ·rcases t.org z hz with g | g
  ·obtain ⟨j,hj,hz⟩:=(ho.2 z).1 g
   exact ⟨j,List.mem_append_left _ hj,hz⟩
  ·exact ⟨i,by simp,g⟩
 ·rintro ⟨j,hj,hz⟩
  rcases List.mem_append.1 hj with hj | hj
  ·exact t.sub z ((ho.2 z).2 ⟨j,hj,hz⟩)
  ·rw [List.mem_singleton.1 hj] at hz
   exact t.all z hz
theorem tM.srt {ns:List TN} {l:List Int} {s:List Int × List Int} (ho:tM ns l s):srt s.2=cM ns l :=
 (fk ⟨DD ho.1.nd,fun x=>by rw [uW,ho.2]⟩).symm
set_option maxHeartbeats 4000000 in
theorem FD {G} (ns:List TN) (root:Int) (l:List Int) (h:Inn ns) (hl:l.length≤10000000) (hk:∀ x∈l,okP ns x) :
  HCall Tryz.prog G 49 [.d (.ptr (bD ns root)),.d (aj l)] [] [] (fun r hp'=>r=.vw [0] 0 (cM ns l).length∧hp'=[([0],.arr none ((cM ns l).map i64))]):=by
 unfold aj
 refine aL Tryz.func49 rfl (by decide +kernel) (by simp [Tryz.ntmps49]) (veil fun E=>?_)
 simp only [go_sem]
 refine kE E (by simp only [go_sem]) (by rw [aa];decide) ?_
 simp only [go_sem]
 refine bL E [2] (.ptr (bD ns root)) rfl rfl ?_
 simp only [go_sem]
 refine cR E [5] 0 98 none [.d .nils] rfl rfl (by rw [aa];decide) ?_
 simp only [go_sem]
 obtain ⟨Bp,hBp⟩:∃ Bp,Bp=(bD ns root).ptr.ptr:=⟨_,rfl⟩
 rw [← hBp]
 refine au E (X:={ x:Nat × (List Int × List Int) // x.1≤l.length∧tM ns (l.take x.1) x.2 }) (fun x=>[(7,.bx [7] 0),(5,.bx [5] 0),(12,.d (.sl none (l.map i64))),(13,.d (i64 l.length)),(14,.d (i64 x.1.1))])
  (fun x=>[([5],.box [.vw [98] 0 x.1.2.2.length]),([10],.map (menc (fun n:Int=>i64 n) (seM x.1.2.1))),([6],.box [.mp [10]]),([7],.box [.clo 86 [.bx [6] 0,.d Bp,.bx [7] 0,.bx [5] 0]]),([98],.arr none (x.1.2.2.map i64))])
  [98,7,6,10,5,2] (fun x=>l.length-x.1.1) ⟨(0,([],[])),Nat.zero_le _,A9 ns⟩ id ?_ ?_
 ·simp only [go_sem]
  all_goals first | rfl | ((repeat' apply And.intro)<;>first | rfl | trivial)
 rintro ⟨⟨k,s⟩,hkl,ho⟩ E0
 refine aR E0 fun Q' hQ E'=>?_
 simp only at hkl ho ⊢
 simp only [go_sem]
 refine ai E' (fun h1=>?_) (fun h1=>?_)<;>simp only [go_sem]
 ·have hk':k<l.length:=by omega
  refine ⟨by omega,?_⟩
  rw [aD hk']
  simp only [go_sem]
  have hok:=hk _ (List.getElem_mem hk')
  have c1:=tS (G:=G) ns root h (ns.length+1) l[k] [] s.1 s.2 hok (px h hok) (by simp) ho.1
  have ho':=ho.next h hok
  rw [← List.take_succ_eq_append_getElem hk'] at ho'
  obtain ⟨s',hs'⟩:∃ s',s'=ek ns (ns.length+1) l[k] s:=⟨_,rfl⟩
  rw [show ek ns (ns.length+1) l[k] (s.1,s.2)=s' from hs'.symm] at c1
  rw [← hs'] at ho'
  unfold opA opO at c1
  rw [← hBp] at c1
  refine aM E' (tau [([101],[6]),([102],[10]),([103],[7]),([104],[5]),([105],[98])]) _ _ _ c1 rfl rfl ⟨by simp only [go_sem],by rw [aa];decide⟩ rfl (by simp only [go_sem]) (by simp only [go_sem]) ?_
  rintro _ _ ⟨rfl,rfl⟩
  refine ⟨by simp only [go_sem];try omega,?_⟩
  simp only [go_sem]
  rw [hQ]
  simp only [go_sem]
  refine ⟨⟨(k+1,s'),hk',ho'⟩,by show l.length-(k+1)<l.length-k;omega,tau [([98],[20,106])],?_⟩
  simp only [go_sem]
  rw [ab ⟨by omega,by omega⟩]
  (repeat' apply And.intro)<;>first | rfl | trivial
 ·have hke:k=l.length:=by omega
  subst hke
  rw [List.take_length] at ho
  have hlen:=ho.1.len h
  rw [hQ]
  simp only [go_sem]
  refine bn E _ _ _ (za 98 s.2 (by omega)) rfl rfl ⟨by simp only [go_sem],by rw [aa];decide⟩ (by simp only [go_sem]) (by simp only [go_sem]) (by simp only [go_sem]) ?_
  rintro _ _ ⟨rfl,rfl⟩
  refine ⟨by simp only [go_sem];try simp,?_⟩
  simp only [go_sem]
  rw [show s.2.mergeSort (fun x y=>decide (x≤y))=cM ns l from ho.srt]
  have hol:(cM ns l).length=s.2.length:=by rw [← ho.srt,j6]
  refine ⟨_,_,[0],tau [([0],[98])],⟨rfl,rfl⟩,?_⟩
  rw [hol]
  simp only [go_sem]
end Go.Proofs.YthfodompfpdmgaaGreatDoor

namespace Go.Ab
section
variable {P:Program} {cf:Cf} {Q:Exit→St→Prop} {s:St} {k:List It}
theorem Fm (E:Eng P cf Q) {d:Option Nat} {op:Op} {ty:TypeId} {ps:String} {af:Array Edge} (t:Nat) (f:FuncId) (caps:List D) (ht:s.fr t=.clo f (caps.map .d)) {s':St} (he:s.put t (.d (.clo f caps))=s') (h:E.stp { dst:=d,op:=op,type:=ty,pos:=ps,after:=af,guard:=none } s' k (opR P.ti cf.n op d s')) :
  E.stp { dst:=d,op:=op,type:=ty,pos:=ps,after:=af,guard:=none } s k .no:=by
 subst he
 rw [aK]
 rw [E.stp_eq] at h
 have h0:=cg (o:={ dst:=d,op:=op,type:=ty,pos:=ps,after:=af,guard:=none }) rfl h
 intro B hB ds β a w' hds hs Q'
 refine h0 B hB ds β a w' hds (hs.setv ?_) Q'
 have hv:=hs.slots t
 rw [ht] at hv
 generalize a.tmps.getD t undef=v at hv
 cases hv with
 | clo _ vs _ hsz hc=>exact .d _ _ (.clo _ _ _ (by simpa using hsz) fun i x hi=>(hc i (.d x) (by simp [hi])).toD)
end
section
variable {P:Program} {cf:Cf} {s:St} {κ:Type} [DecidableEq κ] {ke:κ→D} {kv:κ→Value}
theorem rN {xt kt et:Nat} {x y z:Operand} {ty:TypeId} {pos:String} {af:Array Edge} (p:Name) (ms:List (κ × D)) (key:κ) (d:D) (hm:(P.ti xt).k=.map kt et) (K:fJ P kt ke kv)
  (hx:ev s x=.mp p) (hp:s.hp p=some (.map (menc ke ms))) (hy:ev s y=.d (ke key)) (hd:ev s z=.d d) :
  QE P cf { dst:=none,op:=.mapUpdate xt x y z,type:=ty,pos:=pos,after:=af,guard:=none } s .un ([p],⟨[(p,some (.map (menc ke (mset ms key d))))],[]⟩):=by
 intro s' _ hh he B hB ds β a w hds hs Q'
 obtain ⟨E⟩:=Aa P cf (fun _ s2=>s2=s'.set p (some (.map (menc ke (mset ms key d)))))
 have h1:=gz E (k:=[]) (s:=s') (ty:=ty) (pos:=pos) (af:=af) (dst:=none) p ms key d hm K ((he x (by simp [Op.operands])).trans hx) ((hh p (by simp)).trans hp) ((he y (by simp [Op.operands])).trans hy) ((he z (by simp [Op.operands])).trans hd) rfl (by rw [E.run_eq,bG])
 rw [aK] at h1
 refine Oper.wpIn_mono ?_ (h1 B hB ds β a w hds hs Q')
 rintro a' w' ⟨hd',s2,β',hrun,hs2⟩
 obtain ⟨_,s3,β3,rfl,hs3⟩:=hrun B hB ds β' a' w' hd' hs2
 exact ⟨hd',β3,by
  have e:s'.go none .un ⟨[(p,some (.map (menc ke (mset ms key d))))],[]⟩=s'.set p (some (.map (menc ke (mset ms key d)))):=by unfold St.go;rw [jS];rfl
  rw [e];exact hs3⟩
theorem rB {ops:Array Oper} {K0:St→Ns→Prop} {r:List Oper} {ns:Ns} (E:XEng P cf ops K0) {xt kt et:Nat} {x y z:Operand} {ty:TypeId} {pos:String} {af:Array Edge} (p:Name) (ms:List (κ × D)) (key:κ) (d:D) (hm:(P.ti xt).k=.map kt et) (K:fJ P kt ke kv)
  (hx:ev s x=.mp p) (hp:s.hp p=some (.map (menc ke ms))) (hy:ev s y=.d (ke key)) (hd:ev s z=.d d) (hk:E.run r (s.set p (some (.map (menc ke (mset ms key d))))) (ns++[([p],[p],[])])) :
  E.stp { dst:=none,op:=.mapUpdate xt x y z,type:=ty,pos:=pos,after:=af,guard:=none } r s ns .no:=by
 refine zu E .un ([p],⟨[(p,some (.map (menc ke (mset ms key d))))],[]⟩) (rN p ms key d hm K hx hp hy hd) (by simp) ?_
 rw [kZ]
 exact hk
end
theorem rp {H:Array Obj} {own:Nat→Prop} {used:List Nat} {hp:Name→Option Ob} {β:Name→Option Blk} {v:Value} {p:Name} {w:W} {pre post:List D} (hu:nm used p) (ho:hp p=some (.arr w [])) (h:VR H own used hp β v (.d (.agg (pre++.nils::post)))) :
  VR H own used hp β v (.agg (pre.map .d++.vw p 0 0::post.map .d)):=by
 have h1:=h.toD
 cases h1 with
 | agg vs _ hs hc hg =>
 refine .agg vs _ (by simpa using hs) (fun x hx=>?_) fun i x hi=>?_
 ·obtain ⟨i,hi,rfl⟩:=Array.getElem_of_mem hx
  have hi':i<(pre++D.nils::post).length:=by rw [← hs];exact hi
  have:=hg i _ (List.getElem?_eq_getElem hi')
  have h2:=this.iL (hc _ (List.getElem_mem hi'))
  rwa [show vs.getD i undef=vs[i] by simp [hi]] at h2
 ·by_cases hlt:i<pre.length
  ·rw [List.getElem?_append_left (by simpa using hlt),List.getElem?_map,Option.map_eq_some_iff] at hi
   obtain ⟨d,hd,rfl⟩:=hi
   exact .d _ _ (hg i d (by rw [List.getElem?_append_left hlt];exact hd))
  ·rw [List.getElem?_append_right (by simpa using Nat.le_of_not_lt hlt),List.length_map] at hi
   have hi2:(pre++D.nils::post)[i]?=(D.nils::post)[i-pre.length]?:=List.getElem?_append_right (Nat.le_of_not_lt hlt)
   cases hj:i-pre.length with
   | zero =>
     rw [hj] at hi hi2
     simp only [List.getElem?_cons_zero,Option.some.injEq] at hi hi2
     subst hi
     exact jO (w:=w) hu ho (.d _ _ (hg i _ hi2))
   | succ j =>
     rw [hj] at hi hi2
     simp only [List.getElem?_cons_succ,List.getElem?_map,Option.map_eq_some_iff] at hi hi2
     obtain ⟨d,hd,rfl⟩:=hi
     exact .d _ _ (hg i d (by rw [hi2];exact hd))
theorem HCall.Hy {P:Program} {G:List (Nat × Obj)} {f:FuncId} {args:List AV} {hp:List (Name × Ob)} {u:List Nat} {Q Q':AV→List (Name × Ob)→Prop} (h:HCall P G f args hp u Q) (n:Nat) (w:W) (hn:n ∉ u)
  (hQ:∀ r hp',Q r hp'→Q' r hp'∨∃ pre post,r=.d (.agg (pre++.nils::post))∧hp'=[]∧Q' (.agg (pre.map .d++.vw [n] 0 0::post.map .d)) [([n],.arr w [])]):HCall P G f args hp u Q':=by
 refine ⟨h.1,fun B β vs W h1 h2 h3 h4 h5=>?_⟩
 refine (h.2 B β vs W h1 h2 h3 h4 h5).mono ?_
 rintro e w' ⟨v,r,hp',u',β',he,hq,hs⟩
 rcases hQ r hp' hq with hq' | ⟨pre,post,rfl,rfl,hq'⟩
 ·exact ⟨v,r,hp',u',β',he,hq',hs⟩
 ·have hle:Le ({ B with n:=1 }:Base).U0 id (mk [(0,.d (.agg (pre++.nils::post)))] [] u') (mk [(0,.d (.agg (pre++.nils::post)))] [] u):=by
   refine LeL.le ?_
   refine ⟨⟨⟨rfl,rfl⟩,trivial⟩,trivial,trivial,?_,trivial⟩
   rw [show ({ B with n:=1 }:Base).U0=u from h3]
   simp
  obtain ⟨β2,hs2,_⟩:=hs.le hle
  have h6:=hs2.eU (t:=n) (by rw [aa];exact hn) none w
  have h7:=h6.slots 0
  rw [show ((mk [(0,AV.d (.agg (pre++.nils::post)))] [] u).add n (.arr w [])).fr 0=.d (.agg (pre++.nils::post)) from rfl] at h7
  have h8:=h6.setv (rp (p:=[n]) (w:=w) ⟨n,[],rfl,List.mem_cons_self⟩ (by simp [St.add,ax]) h7)
  have e2:((mk [(0,AV.d (.agg (pre++.nils::post)))] [] u).add n (.arr w [])).put 0 (.agg (pre.map .d++.vw [n] 0 0::post.map .d))=mk [(0,.agg (pre.map .d++.vw [n] 0 0::post.map .d))] [([n],.arr w [])] (n::u):=by
   rw [um,tF];rfl
  rw [e2] at h8
  exact ⟨v,_,_,_,_,he,hq',h8⟩
end Go.Ab

namespace Go.Proofs.YthfodompfpdmgaaGreatDoor
open Go.Ab
abbrev Clu:=Bool × Bool × List Int
def cH (c:Clu):D:=.agg [.bool c.1,.bool c.2.1,.sl none (c.2.2.map i64)]
def kdI (ns:List TN) (i:Int):Int:=(nd ns i.toNat).k
theorem dO {ns:List TN} {i:Int} (hi:okP ns i):(ns.map ah).getD i.toNat .nilp=.agg [i64 (nd ns i.toNat).k,i64 (nd ns i.toNat).a,i64 (nd ns i.toNat).b,.sl (some 2) ((nd ns i.toNat).l.map aG)] :=
 bJ (by have:=hi.1;have:=hi.2;omega)
theorem DI {G} (l:List Int) (hl:l.length≤1000000):HCall Tryz.prog G 89 [.d (aj l)] [] [] (fun r hp'=>r=.vw [0] 0 l.length∧hp'=[([0],.arr none (l.map i64))]):=by
 refine HCall.thaw (Q:=fun r hp'=>(r=.d .nils∧hp'=[]∧l=[])∨(r=.vw [0] 0 l.length∧hp'=[([0],.arr none (l.map i64))])) ?_ 0 none (by simp) ?_
 ·unfold aj
  refine aL Tryz.func89 rfl (by decide +kernel) (by simp [Tryz.ntmps89]) (veil fun E=>?_)
  simp only [go_sem]
  refine Dl E (e:=3) (by simp only [go_sem]) (by simp only [go_sem]) rfl fun b hb=>?_
  simp only [go_sem]
  refine aX E (fun h=>?_) (fun h=>?_)<;>simp only [go_sem]
  ·have:l=[]:=by simpa using hb h
   subst this
   refine ⟨_,[],[],id,.inl ⟨rfl,rfl,rfl⟩,?_⟩
   simp only [go_sem]
  ·refine ⟨by omega,_,_,[0],tau [([0],[7])],.inr ⟨rfl,rfl⟩,?_⟩
   simp only [go_sem]
 ·rintro r hp' (⟨rfl,rfl,rfl⟩ | h)
  ·exact .inr ⟨rfl,rfl,rfl,rfl⟩
  ·exact .inl h
set_option maxHeartbeats 2000000 in
theorem EN {G} (ns:List TN) (root k:Int) (h:Inn ns) (x:Int) (hx:okP ns x):HP Tryz.prog G 90 [i64 x,.ptr (.ptr (bD ns root)),.ptr (i64 k)] (fun r=>r=.d (.bool (!decide (kdI ns x=k)))):=by
 refine fc ?_
 unfold bD
 refine aP Tryz.func90 rfl (by decide +kernel) (by simp [Tryz.ntmps90]) (veil fun E=>?_)
 simp only [go_sem]
 refine ag mixed E fun X=>?_
 simp only [go_sem]
 refine Eo X (by simp) rfl ?_
 simp only [go_sem]
 have hx1:=hx.1
 have hx2:=hx.2
 have hl:=h.len
 refine ⟨by omega,?_⟩
 rw [dO hx]
 simp only [go_sem]
 refine ⟨by decide +kernel,[],?_⟩
 simp only [go_sem]
 refine ⟨_,rfl,?_⟩
 rw [kdI,decide_not]
 exact .refl _
def aw (ns:List TN) (k:Int) (l:List Int):List Int:=l.filter fun x=>decide (kdI ns x=k)
theorem xO (ns:List TN) (k:Int) (l:List Int):l.filter (fun x=>!!decide (kdI ns x=k))=aw ns k l:=by
 unfold aw;congr 1;funext x;simp
set_option maxHeartbeats 2000000 in
theorem eA {G} (ns:List TN) (root k:Int) (h:Inn ns) (c:Clu) (hl:c.2.2.length≤1000000) (hk:∀ x∈c.2.2,okP ns x) :
  HCall Tryz.prog G 50 [.d (.ptr (bD ns root)),.d (cH c),.d (i64 k)] [] [] (fun r hp'=>∃ zs,r=.vw [0] 0 (aw ns k c.2.2).length∧hp'=[([0],.arr none zs)]∧zs.take (aw ns k c.2.2).length=(aw ns k c.2.2).map i64∧aS zs=true):=by
 have c1:=DI (G:=G) c.2.2 hl
 have c2:=Er (G:=G) c.2.2 (fun x=>!decide (kdI ns x=k)) 90 [.ptr (.ptr (bD ns root)),.ptr (i64 k)] hl fun x hx=>EN ns root k h x (hk x hx)
 rw [xO] at c2
 unfold aj at c1
 unfold cH
 refine aL Tryz.func50 rfl (by decide +kernel) (by simp [Tryz.ntmps50]) (veil fun E=>?_)
 simp only [go_sem]
 refine nh E [3] (.ptr (bD ns root)) rfl rfl ?_
 simp only [go_sem]
 refine nh E [5] (i64 k) rfl rfl ?_
 simp only [go_sem]
 refine bn E _ _ _ c1 rfl rfl ⟨by simp only [go_sem],by first | (rw [aa];decide) | (simp only [go_sem]<;>(try rw [aa])<;>decide)⟩ (by simp only [go_sem]) (by simp only [go_sem]) (by simp only [go_sem]) ?_
 rintro _ _ ⟨rfl,rfl⟩
 refine ⟨by simp only [go_sem];try simp,?_⟩
 simp only [go_sem]
 refine Fm E 10 90 [.ptr (.ptr (bD ns root)),.ptr (i64 k)] rfl rfl ?_
 simp only [go_sem]
 refine aM E (tau [([0],[9,0])]) _ _ _ c2 rfl rfl ⟨by simp only [go_sem],by first | (rw [aa];decide) | (simp only [go_sem]<;>(try rw [aa])<;>decide)⟩ rfl (by simp only [go_sem]) (by simp only [go_sem]) ?_
 rintro _ _ ⟨zs,rfl,rfl,hz,hf,hzl⟩
 refine ⟨by simp only [go_sem];omega,?_⟩
 simp only [go_sem]
 refine ⟨_,_,[0],tau [([0],[9,0])],⟨zs,rfl,rfl,hz,hf⟩,?_⟩
 simp only [go_sem]
theorem AH (l:List Int):cA (srt l)=gp l:=rfl
def gj (ns:List TN) (l:List Int):List Int:=gp (l.map fun x=>(nd ns x.toNat).a)
set_option maxHeartbeats 2000000 in
theorem F7 {G} (ns:List TN) (root:Int) (h:Inn ns) (l:List Int) (hl:l.length≤1000000) (hk:∀ x∈l,okP ns x) :
  HCall Tryz.prog G 51 [.d (.ptr (bD ns root)),.d (aj l)] [] [] (fun r hp'=>∃ zs,r=.vw [0] 0 (gj ns l).length∧hp'=[([0],.arr none zs)]∧zs.take (gj ns l).length=(gj ns l).map i64∧aS zs=true):=by
 unfold aj bD
 refine aL Tryz.func51 rfl (by decide +kernel) (by simp [Tryz.ntmps51]) (veil fun E=>?_)
 simp only [go_sem]
 refine fZ E 5 98 none rfl (by rw [aa];decide) ?_
 simp only [go_sem]
 refine au E (X:={ i:Nat // i≤l.length }) (fun x=>[(0,.d (.ptr (.agg [.sl (some 4) (ns.map ah),i64 root,.unk,.unk,.unk]))),(5,.vw [98] 0 x.1),(8,.d (.sl none (l.map i64))),(9,.d (i64 l.length)),(10,.d (i64 x.1))])
  (fun x=>[([98],.arr none ((l.take x.1).map fun x=>i64 (nd ns x.toNat).a))]) [98] (fun x=>l.length-x.1) ⟨0,Nat.zero_le _⟩ id ?_ ?_
 ·simp only [go_sem]
  all_goals first | rfl | ((repeat' apply And.intro)<;>first | rfl | trivial)
 rintro ⟨i,hi⟩ E0
 refine aR E0 fun Q' hQ E'=>?_
 simp only at hi ⊢
 simp only [go_sem]
 refine ai E' (fun h1=>?_) (fun h1=>?_)<;>simp only [go_sem]
 ·have hi':i<l.length:=by omega
  have hx:=hk _ (List.getElem_mem hi')
  have hx1:=hx.1
  have hx2:=hx.2
  have hn:=h.len
  refine ⟨by omega,?_⟩
  rw [aD hi']
  simp only [go_sem]
  refine pf E' (by simp) rfl ?_
  simp only [go_sem]
  refine ⟨by omega,?_⟩
  rw [dO hx]
  simp only [go_sem]
  refine ⟨by omega,?_⟩
  rw [hQ]
  refine ⟨⟨i+1,hi'⟩,by show l.length-(i+1)<l.length-i;omega,tau [([98],[25])],?_⟩
  simp only [go_sem]
  rw [ab ⟨by omega,by omega⟩,List.take_of_length_le (by simp;omega),List.take_succ_eq_append_getElem hi',List.map_append]
  (repeat' apply And.intro)<;>first | rfl | trivial
 ·have hie:i=l.length:=by omega
  subst hie
  rw [hQ]
  simp only [go_sem]
  obtain ⟨l',hl'⟩:∃ l',l'=l.map fun x=>(nd ns x.toNat).a:=⟨_,rfl⟩
  have hlen:l'.length=l.length:=by rw [hl',List.length_map]
  have c1:=za (G:=G) 98 l' (by omega)
  have c2:=EF (G:=G) (srt l') (by rw [j6];omega)
  rw [AH,show gp l'=gj ns l by rw [hl',gj],j6] at c2
  rw [hlen] at c1 c2
  rw [show l.map (fun x=>i64 (nd ns x.toNat).a)=l'.map i64 by rw [hl',List.map_map];rfl]
  refine bn E _ _ _ c1 rfl rfl ⟨by simp only [go_sem],by rw [aa];decide⟩ (by simp only [go_sem]) (by simp only [go_sem]) (by simp only [go_sem]) ?_
  rintro _ _ ⟨rfl,rfl⟩
  refine ⟨by simp only [go_sem];try simp,?_⟩
  simp only [go_sem]
  rw [show l'.mergeSort (fun x y=>decide (x≤y))=srt l' from rfl]
  refine aM E (tau [([0],[98])]) _ _ _ c2 rfl rfl ⟨by simp only [go_sem],by rw [aa];decide⟩ rfl (by simp only [go_sem]) (by simp only [go_sem]) ?_
  rintro _ _ ⟨zs,rfl,rfl,hz,hf,hzl⟩
  refine ⟨by simp only [go_sem];rw [j6];omega,?_⟩
  simp only [go_sem]
  refine ⟨_,_,[0],tau [([0],[98])],⟨zs,rfl,rfl,hz,hf⟩,?_⟩
  simp only [go_sem]
end Go.Proofs.YthfodompfpdmgaaGreatDoor

namespace Go.Proofs.YthfodompfpdmgaaGreatDoor
open Go.Ab
def evK (p:Bool):Int:=if p then 1 else 2
def noK (p:Bool):Int:=if p then 2 else 1
def evB (ns:List TN) (p:Bool) (x:Int):Bool:=decide (kdI ns x=evK p)
def noB (ns:List TN) (p:Bool) (x:Int):Bool:=decide (kdI ns x=noK p)
noncomputable def ofC (ns:List TN) (p:Bool) (l:List Int):Clu:=if (cM ns l).any (evB ns p) then (p,true,[]) else (p,false,(cM ns l).filter fun x=>!noB ns p x)
theorem ie {ns:List TN} {l:List Int} (h:Inn ns) (hk:∀ x∈l,okP ns x):∀ x∈cM ns l,okP ns x:=fun x hx=>by
 by_cases he:∃ out,jo ns l out
 ·obtain ⟨out,ho⟩:=he
  rw [fk ho] at hx
  obtain ⟨i,hi,hio⟩:=(ho.2 x).1 hx
  exact hio.ok h (hk i hi)
 ·unfold cM at hx
  rw [dif_neg he] at hx
  cases hx
theorem xS (ns:List TN) (l:List Int):Ris (cM ns l):=by
 by_cases he:∃ out,jo ns l out
 ·obtain ⟨out,ho⟩:=he
  rw [fk ho]
  exact ho.1
 ·unfold cM
  rw [dif_neg he]
  exact .nil
theorem iU {ns:List TN} {l:List Int} (h:Inn ns) (hk:∀ x∈l,okP ns x):(cM ns l).length≤2000 :=
 Nat.le_trans (nU ((xS ns l).imp fun hab e=>by omega) (ie h hk)) h.len
theorem df {α:Type} {p:α→Bool} {l:List α} {i:Nat} (h:i<l.length):(l.take (i+1)).filter p=(l.take i).filter p++(if p l[i] then [l[i]] else []):=by
 rw [List.take_succ_eq_append_getElem h,List.filter_append]
 cases hp:p l[i]<;>simp [hp]
theorem dJ {ns:List TN} {p:Bool} {x:Int} {k:Int} (hk:evK p=k):evB ns p x=decide ((nd ns x.toNat).k=k):=by rw [evB,hk];rfl
theorem gN {ns:List TN} {p:Bool} {x:Int} {k:Int} (hk:noK p=k):noB ns p x=decide ((nd ns x.toNat).k=k):=by rw [noB,hk];rfl
theorem dy {q:Int→Bool} {l:List Int} {i:Nat} (h:i<l.length) (ha:(l.take i).any q=false) (hq:q l[i]=false):(l.take (i+1)).any q=false:=by
 rw [List.take_succ_eq_append_getElem h,List.any_append,ha]
 simp [hq]
set_option maxHeartbeats 4000000 in
theorem Gg {G} (ns:List TN) (root:Int) (h:Inn ns) (p:Bool) (l:List Int) (hl:l.length≤10000000) (hk:∀ x∈l,okP ns x) :
  HCall Tryz.prog G 25 [.d (.ptr (bD ns root)),.d (.bool p),.d (aj l)] [] [] (fun r hp'=>((ofC ns p l)=(p,true,[])∧r=.d (.agg [.bool p,.bool true,.nils])∧hp'=[]) ∨
   ∃ L,ofC ns p l=(p,false,L)∧r=.agg [.d (.bool p),.d (.bool false),.vw [0] 0 L.length]∧hp'=[([0],.arr none (L.map i64))]):=by
 have c1:=FD (G:=G) ns root l h hl hk
 have ho1:=ie h hk
 have ho2:=iU h hk
 generalize hC:ofC ns p l=C
 unfold ofC at hC
 generalize cM ns l=O at c1 ho1 ho2 hC
 unfold aj at c1 ⊢
 unfold bD at c1 ⊢
 refine aL Tryz.func25 rfl (by decide +kernel) (by simp [Tryz.ntmps25]) (veil fun E=>?_)
 simp only [go_sem]
 refine aX E (fun hp=>?_) (fun hp=>?_)<;>simp only [go_sem]
 ·have hev:evK p=1:=by rw [evK,if_pos (by simpa using hp)]
  have hno:noK p=2:=by rw [noK,if_pos (by simpa using hp)]
  refine bn E _ _ _ c1 rfl rfl ⟨by simp only [go_sem],by rw [aa];decide⟩ (by simp only [go_sem]) (by simp only [go_sem]) (by simp only [go_sem]) ?_
  rintro _ _ ⟨rfl,rfl⟩
  refine ⟨by simp only [go_sem];try simp,?_⟩
  simp only [go_sem]
  refine cU E [19,0] none (O.map i64) rfl ?_
  simp only [go_sem]
  refine cR E [9] 2 98 none [.d (.bool p),.d (.bool false),.d .nils] rfl rfl (by rw [aa];decide) ?_
  simp only [go_sem]
  refine au E (X:={ i:Nat // i≤O.length∧(O.take i).any (evB ns p)=false }) (fun x=>[(0,.d (.ptr (.agg [.sl (some 4) (ns.map ah),i64 root,.unk,.unk,.unk]))),(1,.d (.bool p)),(6,.bx [6] 0),(7,.d (i64 2)),(8,.d (i64 1)),(9,.bx [9] 0),(19,.d (.sl none (O.map i64))),(20,.d (i64 O.length)),(21,.d (i64 x.1))])
   (fun x=>[([6],.box [.d (.bool false),.d (.bool false),.d .nils]),([9],.box [.d (.bool p),.d (.bool false),.vw [98] 0 ((O.take x.1).filter fun x=>!noB ns p x).length]),([98],.arr none (((O.take x.1).filter fun x=>!noB ns p x).map i64))]) [98,9,6] (fun x=>O.length-x.1) ⟨0,Nat.zero_le _,rfl⟩ id ?_ ?_
  ·simp only [go_sem]
   all_goals first | rfl | ((repeat' apply And.intro)<;>first | rfl | trivial)
  rintro ⟨i,hi,ha⟩ E0
  refine aR E0 fun Q' hQ E'=>?_
  simp only at hi ha ⊢
  simp only [go_sem]
  refine ai E' (fun h1=>?_) (fun h1=>?_)<;>simp only [go_sem]
  ·have hi':i<O.length:=by omega
   have hx:=ho1 _ (List.getElem_mem hi')
   have hx1:=hx.1
   have hx2:=hx.2
   have hn:=h.len
   have hfl:((O.take i).filter fun x=>!noB ns p x).length≤2000:=Nat.le_trans (List.length_filter_le _ _) (by simp;omega)
   have hnx:=df (p:=fun x=>!noB ns p x) hi'
   refine ⟨by omega,?_⟩
   rw [aD hi']
   simp only [go_sem]
   refine pf E' (by simp) rfl ?_
   simp only [go_sem]
   refine ⟨by omega,?_⟩
   rw [dO hx]
   simp only [go_sem]
   refine ai E' (fun h2=>?_) (fun h2=>?_)<;>simp only [go_sem]
   ·rw [hQ]
    simp only [go_sem]
    have hany:O.any (evB ns p)=true:=List.any_eq_true.2 ⟨O[i],List.getElem_mem hi',by rw [dJ hev];exact decide_eq_true h2⟩
    rw [if_pos hany] at hC
    refine ⟨_,_,[],id,.inl ⟨hC.symm,rfl,rfl⟩,?_⟩
    simp only [go_sem]
   refine ai E' (fun h3=>?_) (fun h3=>?_)<;>simp only [go_sem]
   ·rw [show noB ns p O[i]=true by rw [gN hno];exact decide_eq_true h3] at hnx
    rw [hQ]
    simp only [go_sem]
    refine ⟨⟨i+1,hi',dy hi' ha (by rw [dJ hev];exact decide_eq_false h2)⟩,by show O.length-(i+1)<O.length-i;omega,id,?_⟩
    simp only [go_sem]
    rw [ab ⟨by omega,by omega⟩]
    simp only [hnx,Bool.not_true,Bool.false_eq_true,if_false,List.append_nil]
    (repeat' apply And.intro)<;>first | rfl | trivial
   ·rw [show noB ns p O[i]=false by rw [gN hno];exact decide_eq_false h3] at hnx
    refine ⟨by omega,?_⟩
    rw [hQ]
    refine ⟨⟨i+1,hi',dy hi' ha (by rw [dJ hev];exact decide_eq_false h2)⟩,by show O.length-(i+1)<O.length-i;omega,tau [([98],[38])],?_⟩
    simp only [go_sem]
    rw [ab ⟨by omega,by omega⟩]
    simp only [hnx,Bool.not_false,if_true,List.map_append,List.length_append,List.map_cons,List.map_nil,List.length_cons,List.length_nil]
    (repeat' apply And.intro)<;>first | rfl | trivial
  ·have hie:i=O.length:=by omega
   subst hie
   rw [List.take_length] at ha
   rw [if_neg (by rw [ha];simp)] at hC
   rw [hQ]
   simp only [go_sem]
   refine ⟨_,_,[0],tau [([0],[98])],.inr ⟨_,hC.symm,rfl,rfl⟩,?_⟩
   simp only [go_sem]
 ·have hev:evK p=2:=by rw [evK,if_neg (by simpa using hp)]
  have hno:noK p=1:=by rw [noK,if_neg (by simpa using hp)]
  refine bn E _ _ _ c1 rfl rfl ⟨by simp only [go_sem],by rw [aa];decide⟩ (by simp only [go_sem]) (by simp only [go_sem]) (by simp only [go_sem]) ?_
  rintro _ _ ⟨rfl,rfl⟩
  refine ⟨by simp only [go_sem];try simp,?_⟩
  simp only [go_sem]
  refine cU E [19,0] none (O.map i64) rfl ?_
  simp only [go_sem]
  refine cR E [9] 2 98 none [.d (.bool p),.d (.bool false),.d .nils] rfl rfl (by rw [aa];decide) ?_
  simp only [go_sem]
  refine au E (X:={ i:Nat // i≤O.length∧(O.take i).any (evB ns p)=false }) (fun x=>[(0,.d (.ptr (.agg [.sl (some 4) (ns.map ah),i64 root,.unk,.unk,.unk]))),(1,.d (.bool p)),(6,.bx [6] 0),(7,.d (i64 1)),(8,.d (i64 2)),(9,.bx [9] 0),(19,.d (.sl none (O.map i64))),(20,.d (i64 O.length)),(21,.d (i64 x.1))])
   (fun x=>[([6],.box [.d (.bool false),.d (.bool false),.d .nils]),([9],.box [.d (.bool p),.d (.bool false),.vw [98] 0 ((O.take x.1).filter fun x=>!noB ns p x).length]),([98],.arr none (((O.take x.1).filter fun x=>!noB ns p x).map i64))]) [98,9,6] (fun x=>O.length-x.1) ⟨0,Nat.zero_le _,rfl⟩ id ?_ ?_
  ·simp only [go_sem]
   all_goals first | rfl | ((repeat' apply And.intro)<;>first | rfl | trivial)
  rintro ⟨i,hi,ha⟩ E0
  refine aR E0 fun Q' hQ E'=>?_
  simp only at hi ha ⊢
  simp only [go_sem]
  refine ai E' (fun h1=>?_) (fun h1=>?_)<;>simp only [go_sem]
  ·have hi':i<O.length:=by omega
   have hx:=ho1 _ (List.getElem_mem hi')
   have hx1:=hx.1
   have hx2:=hx.2
   have hn:=h.len
   have hfl:((O.take i).filter fun x=>!noB ns p x).length≤2000:=Nat.le_trans (List.length_filter_le _ _) (by simp;omega)
   have hnx:=df (p:=fun x=>!noB ns p x) hi'
   refine ⟨by omega,?_⟩
   rw [aD hi']
   simp only [go_sem]
   refine pf E' (by simp) rfl ?_
   simp only [go_sem]
   refine ⟨by omega,?_⟩
   rw [dO hx]
   simp only [go_sem]
   refine ai E' (fun h2=>?_) (fun h2=>?_)<;>simp only [go_sem]
   ·rw [hQ]
    simp only [go_sem]
    have hany:O.any (evB ns p)=true:=List.any_eq_true.2 ⟨O[i],List.getElem_mem hi',by rw [dJ hev];exact decide_eq_true h2⟩
    rw [if_pos hany] at hC
    refine ⟨_,_,[],id,.inl ⟨hC.symm,rfl,rfl⟩,?_⟩
    simp only [go_sem]
   refine ai E' (fun h3=>?_) (fun h3=>?_)<;>simp only [go_sem]
   ·rw [show noB ns p O[i]=true by rw [gN hno];exact decide_eq_true h3] at hnx
    rw [hQ]
    simp only [go_sem]
    refine ⟨⟨i+1,hi',dy hi' ha (by rw [dJ hev];exact decide_eq_false h2)⟩,by show O.length-(i+1)<O.length-i;omega,id,?_⟩
    simp only [go_sem]
    rw [ab ⟨by omega,by omega⟩]
    simp only [hnx,Bool.not_true,Bool.false_eq_true,if_false,List.append_nil]
    (repeat' apply And.intro)<;>first | rfl | trivial
   ·rw [show noB ns p O[i]=false by rw [gN hno];exact decide_eq_false h3] at hnx
    refine ⟨by omega,?_⟩
    rw [hQ]
    refine ⟨⟨i+1,hi',dy hi' ha (by rw [dJ hev];exact decide_eq_false h2)⟩,by show O.length-(i+1)<O.length-i;omega,tau [([98],[38])],?_⟩
    simp only [go_sem]
    rw [ab ⟨by omega,by omega⟩]
    simp only [hnx,Bool.not_false,if_true,List.map_append,List.length_append,List.map_cons,List.map_nil,List.length_cons,List.length_nil]
    (repeat' apply And.intro)<;>first | rfl | trivial
  ·have hie:i=O.length:=by omega
   subst hie
   rw [List.take_length] at ha
   rw [if_neg (by rw [ha];simp)] at hC
   rw [hQ]
   simp only [go_sem]
   refine ⟨_,_,[0],tau [([0],[98])],.inr ⟨_,hC.symm,rfl,rfl⟩,?_⟩
   simp only [go_sem]
end Go.Proofs.YthfodompfpdmgaaGreatDoor

