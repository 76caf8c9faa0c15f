/-
  An automaton turned from the other's kind: no more than forty of a state's variables, fields and tags, no more than fourteen states unless there are more than two thousand. (with the parts that follow it)
-/
import Derived.Test.YthfodompfpdmgaaGreatDoorVPG
import Derived.Test.YthfodompfpdmgaaGreatDoorVPF
set_option linter.all false
namespace Go.Proofs.YthfodompfpdmgaaGreatDoor
open Go.Ab
theorem zK {P:Program} {cf:Cf} {Q:Exit→St→Prop} (E:Eng P cf Q) {rest:Prop} {c:Code} {k:List It} {S:St} (p:Prop) (h1:(p→bM E c S k)→rest) (h2:p→bM E c S k):rest:=h1 h2
structure InB (s:EA):Prop where
 v:s.vars.length≤9223372036854775807
 f:s.fl.length≤9223372036854775807
 t:s.tl.length≤9223372036854775807
 fs:∀ x∈s.fl,x.1.length≤9223372036854775807
 ts:∀ x∈s.tl,x.1.length≤9223372036854775807
def xz (s:EA):EA:={ s with vars:=s.vars.take 40 }
def gK (s:EA):EA:={ s with vars:=s.vars.take 40,fl:=s.fl.take 40,tl:=s.tl.take 40 }
def gG (n:Nat):Nat:=if 2000<n then 2001 else min 14 n
def dT (l:List EA):List EA:=(l.take (gG l.length)).map gK
set_option maxHeartbeats 8000000 in
theorem zV {G} (l:List EA) (st:Int) (hl:l.length≤9223372036854775807) (hs:∀ s∈l,InB s):HP Tryz.prog G 15 [auD l st,i64 14] (fun r=>r=.d (auD (dT l) st)):=by
 refine il ?_
 unfold auD
 refine aV Tryz.func15 rfl (by decide +kernel) (by simp [Tryz.ntmps15]) (veil fun E=>?_)
 simp only [go_sem]
 refine ck E [2] (.agg [.sl (some 13) (l.map stD),i64 st]) rfl rfl ?_
 simp only [go_sem]
 refine bP E [5] 0 134 (some 13) [.d .nils,.d (i64 st)] rfl rfl (by rw [ag];decide) ?_
 simp only [go_sem]
 refine an E (X:={ i:Nat // i≤gG l.length }) (fun x=>[(1,.d (i64 14)),(2,.d (.ptr (.agg [.sl (some 13) (l.map stD),i64 st]))),(4,.bx [4] 0),(5,.bx [5] 0),(6,.d (i64 x.1))])
  (fun x=>[([4],.box [.d .nils,.d (i64 0)]),([5],.box [.vw [134] 0 x.1,.d (i64 st)]),([134],.arr (some 13) (((l.take x.1).map gK).map stD))]) [134,5,4] (fun x=>l.length-x.1) ⟨0,Nat.zero_le _⟩ id ?_ ?_
 ·simp only [go_sem]
  all_goals ((repeat' apply And.intro)<;>first | rfl | trivial)
 rintro ⟨i,hi⟩ E0
 refine aK E0 fun Q' hQ E'=>?_
 simp only at hi ⊢
 have hgv:gG l.length=if 2000<l.length then 2001 else min 14 l.length:=rfl
 have hil:gG l.length≤l.length:=by rw [hgv];split<;>omega
 have hi2:i≤2001:=by
  have h:=hi
  rw [hgv] at h
  split at h<;>omega
 obtain ⟨s,hsi⟩:∃ s:EA,∀ h:i<l.length,l[i]=s:=⟨l.getD i default,fun h=>by simp [h]⟩
 simp only [go_sem]
 apply zK E' (i<gG l.length)
 ·intro HB
  refine aI E' (fun h1=>?_) (fun h1=>?_)<;>simp only [go_sem]
  ·have h1':i<l.length:=by omega
   refine aI E' (fun h2=>?_) (fun h2=>?_)<;>simp only [go_sem]
   ·refine ⟨by omega,?_⟩
    rw [bJ h1',hsi h1']
    simp only [ab]
    simp only [go_sem]
    refine xJ E' (τ:=id) (LeL.le (fr:=[(1,.d (i64 14)),(2,.d (.ptr (.agg [.sl (some 13) (l.map stD),i64 st]))),(4,.bx [4] 0),(5,.bx [5] 0),(6,.d (i64 i)),(7,.bx [7] 0)]) (hp:=[([4],.box [.d .nils,.d (i64 0)]),([5],.box [.vw [134] 0 i,.d (i64 st)]),([134],.arr (some 13) (((l.take i).map gK).map stD)),([7],.box (bx6 s (.d (bk s.fl)) (.d (bk s.tl))))]) (u:=[7,134,5,4]) ?_) (HB (by rw [hgv];split<;>omega))
    ·simp only [bx6,ab,List.cons_append,List.nil_append]
     simp only [go_sem]
     all_goals ((repeat' apply And.intro)<;>first | rfl | trivial)
   ·refine aI E' (fun h3=>?_) (fun h3=>?_)<;>simp only [go_sem]
    ·refine ak E' (fun h6=>?_) (fun h6=>?_)<;>simp only [go_sem]
     ·refine ⟨by omega,?_⟩
      rw [bJ h1',hsi h1']
      simp only [ab]
      simp only [go_sem]
      refine xJ E' (τ:=id) (LeL.le (fr:=[(1,.d (i64 14)),(2,.d (.ptr (.agg [.sl (some 13) (l.map stD),i64 st]))),(4,.bx [4] 0),(5,.bx [5] 0),(6,.d (i64 i)),(7,.bx [7] 0)]) (hp:=[([4],.box [.d .nils,.d (i64 0)]),([5],.box [.vw [134] 0 i,.d (i64 st)]),([134],.arr (some 13) (((l.take i).map gK).map stD)),([7],.box (bx6 s (.d (bk s.fl)) (.d (bk s.tl))))]) (u:=[7,134,5,4]) ?_) (HB (by rw [hgv];split<;>omega))
      ·simp only [bx6,ab,List.cons_append,List.nil_append]
       simp only [go_sem]
       all_goals ((repeat' apply And.intro)<;>first | rfl | trivial)
     ·rw [hQ]
      have h5:i=gG l.length:=by rw [hgv];split<;>(rw [hgv] at hi;revert hi;split<;>omega)
      simp only [go_sem]
      refine ⟨[([134],some 13,(dT l).map stD)],?_⟩
      simp only [go_sem]
      refine ⟨by rw [h5];rfl,?_⟩
      rw [List.take_of_length_le (by rw [List.length_map,dT,List.length_map,List.length_take];omega)]
      exact ⟨_,rfl,.refl _⟩
    ·rw [hQ]
     have h5:i=gG l.length:=by rw [hgv];split<;>(rw [hgv] at hi;revert hi;split<;>omega)
     simp only [go_sem]
     refine ⟨[([134],some 13,(dT l).map stD)],?_⟩
     simp only [go_sem]
     refine ⟨by rw [h5];rfl,?_⟩
     rw [List.take_of_length_le (by rw [List.length_map,dT,List.length_map,List.length_take];omega)]
     exact ⟨_,rfl,.refl _⟩
  ·rw [hQ]
   have h5:i=gG l.length:=by rw [hgv];split<;>(rw [hgv] at hi;revert hi;split<;>omega)
   simp only [go_sem]
   refine ⟨[([134],some 13,(dT l).map stD)],?_⟩
   simp only [go_sem]
   refine ⟨by rw [h5];rfl,?_⟩
   rw [List.take_of_length_le (by rw [List.length_map,dT,List.length_map,List.length_take];omega)]
   exact ⟨_,rfl,.refl _⟩
 ·intro hib
  have h1':i<l.length:=by omega
  have hsi':=hsi h1'
  obtain ⟨hv,hf,ht,hfs,hts⟩:=hs _ (List.getElem_mem h1')
  rw [hsi'] at hv hf ht hfs hts
  have c1:=zx (G:=G) (s.vars.take 40) (by rw [List.length_take];omega)
  unfold ay at c1
  refine ck E' [7] (stD s) rfl rfl ?_
  simp only [ab]
  simp only [go_sem]
  refine ai mixed E' fun X=>?_
  simp only [go_sem]
  rw [A3 i64 40 (by decide)]
  rw [show Int.toNat 40=40 from rfl]
  refine ⟨Ec 40 _ (by decide) (by omega),?_⟩
  refine aO X c1 rfl rfl (by simp) ?_
  simp only [go_sem]
  refine ⟨by decide +kernel,?_⟩
  refine bP E' [8] 11 98 (some 2) (bx6 (xz s) (.d .nils) (.d .nils)) rfl rfl (by rw [ag];decide) ?_
  simp only [bx6]
  simp only [go_sem]
  refine an E' (X:={ j:Nat // j≤(s.fl).length∧j≤40 }) (fun x=>[(1,.d (i64 14)),(2,.d (.ptr (.agg [.sl (some 13) (l.map stD),i64 st]))),(4,.bx [4] 0),(5,.bx [5] 0),(6,.d (i64 i)),(7,.d (.ptr (stD s))),(8,.bx [8] 0)]++[(9,.d (i64 x.1))])
   (fun x=>[([4],.box [.d .nils,.d (i64 0)]),([5],.box [.vw [134] 0 i,.d (i64 st)]),([134],.arr (some 13) (((l.take i).map gK).map stD))]++[([8],.box (bx6 (xz s) (.vw [98] 0 x.1) (.d .nils))),([98],.arr (some 2) (((s.fl).take x.1).map au))]) [98,8,134,5,4] (fun x=>(s.fl).length-x.1) ⟨0,Nat.zero_le _,Nat.zero_le _⟩ id ?_ ?_
  ·simp only [bx6,List.cons_append,List.nil_append]
   simp only [go_sem]
   all_goals ((repeat' apply And.intro)<;>first | rfl | trivial)
  rintro ⟨j,hj,hj40⟩ E3
  refine aK E3 fun Q3 hQ3 E4=>?_
  simp only [bx6,List.cons_append,List.nil_append,ab] at hj hj40 ⊢
  simp only [go_sem]
  refine aI E4 (fun h4=>?_) (fun h4=>?_)<;>simp only [go_sem]
  rotate_left
  ·have h5:(s.fl).take j=(s.fl).take 40:=by rw [List.take_of_length_le (by omega),List.take_of_length_le (by omega)]
   rw [h5,hQ3]
   simp only [go_sem]
   refine eR E' [98] (some 2) ((s.fl.take 40).map au) rfl ?_
   simp only [go_sem]
   simp only [show List.take j ((s.fl.take 40).map au)=(s.fl.take 40).map au from List.take_of_length_le (by rw [List.length_map,List.length_take];omega)]
   refine bP E' [8] 12 97 (some 2) (bx6 (xz s) (.d (.sl (some 2) ((s.fl.take 40).map au))) (.d .nils)) rfl rfl (by rw [ag];decide) ?_
   simp only [bx6]
   simp only [go_sem]
   refine an E' (X:={ j:Nat // j≤(s.tl).length∧j≤40 }) (fun x=>[(1,.d (i64 14)),(2,.d (.ptr (.agg [.sl (some 13) (l.map stD),i64 st]))),(4,.bx [4] 0),(5,.bx [5] 0),(6,.d (i64 i)),(7,.d (.ptr (stD s))),(8,.bx [8] 0)]++[(10,.d (i64 x.1))])
    (fun x=>[([4],.box [.d .nils,.d (i64 0)]),([5],.box [.vw [134] 0 i,.d (i64 st)]),([134],.arr (some 13) (((l.take i).map gK).map stD))]++[([8],.box (bx6 (xz s) (.d (.sl (some 2) ((s.fl.take 40).map au))) (.vw [97] 0 x.1))),([97],.arr (some 2) (((s.tl).take x.1).map au))]) [97,8,134,5,4] (fun x=>(s.tl).length-x.1) ⟨0,Nat.zero_le _,Nat.zero_le _⟩ id ?_ ?_
   ·simp only [bx6,List.cons_append,List.nil_append]
    simp only [go_sem]
    all_goals ((repeat' apply And.intro)<;>first | rfl | trivial)
   rintro ⟨j,hj,hj40⟩ E3
   refine aK E3 fun Q3 hQ3 E4=>?_
   simp only [bx6,List.cons_append,List.nil_append,ab] at hj hj40 ⊢
   simp only [go_sem]
   refine aI E4 (fun h4=>?_) (fun h4=>?_)<;>simp only [go_sem]
   rotate_left
   ·have h5:(s.tl).take j=(s.tl).take 40:=by rw [List.take_of_length_le (by omega),List.take_of_length_le (by omega)]
    rw [h5,hQ3]
    simp only [go_sem]
    refine dr E' [97] (some 2) ((s.tl.take 40).map au) rfl rfl ?_
    simp only [go_sem]
    simp only [show List.take j ((s.tl.take 40).map au)=(s.tl.take 40).map au from List.take_of_length_le (by rw [List.length_map,List.length_take];omega)]
    refine ⟨by omega,?_⟩
    rw [hQ]
    simp only [go_sem]
    refine ⟨⟨i+1,by omega⟩,by show l.length-(i+1)<_;omega,tau [([134],[132])],?_⟩
    simp only [go_sem]
    rw [show List.take i (((l.take i).map gK).map stD)=((l.take i).map gK).map stD from List.take_of_length_le (by simp;omega),List.map_map,List.map_map,← bh h1',hsi,aa ⟨by omega,by omega⟩]
    exact ⟨rfl,rfl⟩
   refine ak E4 (fun h40=>?_) (fun h40=>?_)<;>simp only [go_sem]
   rotate_left
   ·have h5:(s.tl).take j=(s.tl).take 40:=by rw [show j=40 by omega]
    rw [h5,hQ3]
    simp only [go_sem]
    refine dr E' [97] (some 2) ((s.tl.take 40).map au) rfl rfl ?_
    simp only [go_sem]
    simp only [show List.take j ((s.tl.take 40).map au)=(s.tl.take 40).map au from List.take_of_length_le (by rw [List.length_map,List.length_take];omega)]
    refine ⟨by omega,?_⟩
    rw [hQ]
    simp only [go_sem]
    refine ⟨⟨i+1,by omega⟩,by show l.length-(i+1)<_;omega,tau [([134],[132])],?_⟩
    simp only [go_sem]
    rw [show List.take i (((l.take i).map gK).map stD)=((l.take i).map gK).map stD from List.take_of_length_le (by simp;omega),List.map_map,List.map_map,← bh h1',hsi,aa ⟨by omega,by omega⟩]
    exact ⟨rfl,rfl⟩
   have h4':j<(s.tl).length:=by omega
   refine ai mixed E4 fun X=>?_
   simp only [go_sem]
   refine ⟨by omega,?_⟩
   rw [aw h4']
   simp only [go_sem]
   refine ⟨by omega,?_⟩
   rw [aw h4']
   simp only [go_sem]
   refine ⟨by omega,?_⟩
   refine ⟨by decide +kernel,?_⟩
   rw [hQ3]
   simp only [go_sem]
   refine ⟨⟨j+1,by omega,by omega⟩,by show (s.tl).length-(j+1)<_;omega,tau [([97],[126])],?_⟩
   simp only [bx6,List.cons_append,List.nil_append]
   simp only [go_sem]
   rw [show List.take j (((s.tl).take j).map au)=((s.tl).take j).map au from List.take_of_length_le (by simp;omega),← bh h4',aa ⟨by omega,by omega⟩]
   (repeat' apply And.intro)<;>first | rfl | trivial
  refine ak E4 (fun h40=>?_) (fun h40=>?_)<;>simp only [go_sem]
  rotate_left
  ·have h5:(s.fl).take j=(s.fl).take 40:=by rw [show j=40 by omega]
   rw [h5,hQ3]
   simp only [go_sem]
   refine eR E' [98] (some 2) ((s.fl.take 40).map au) rfl ?_
   simp only [go_sem]
   simp only [show List.take j ((s.fl.take 40).map au)=(s.fl.take 40).map au from List.take_of_length_le (by rw [List.length_map,List.length_take];omega)]
   refine bP E' [8] 12 97 (some 2) (bx6 (xz s) (.d (.sl (some 2) ((s.fl.take 40).map au))) (.d .nils)) rfl rfl (by rw [ag];decide) ?_
   simp only [bx6]
   simp only [go_sem]
   refine an E' (X:={ j:Nat // j≤(s.tl).length∧j≤40 }) (fun x=>[(1,.d (i64 14)),(2,.d (.ptr (.agg [.sl (some 13) (l.map stD),i64 st]))),(4,.bx [4] 0),(5,.bx [5] 0),(6,.d (i64 i)),(7,.d (.ptr (stD s))),(8,.bx [8] 0)]++[(10,.d (i64 x.1))])
    (fun x=>[([4],.box [.d .nils,.d (i64 0)]),([5],.box [.vw [134] 0 i,.d (i64 st)]),([134],.arr (some 13) (((l.take i).map gK).map stD))]++[([8],.box (bx6 (xz s) (.d (.sl (some 2) ((s.fl.take 40).map au))) (.vw [97] 0 x.1))),([97],.arr (some 2) (((s.tl).take x.1).map au))]) [97,8,134,5,4] (fun x=>(s.tl).length-x.1) ⟨0,Nat.zero_le _,Nat.zero_le _⟩ id ?_ ?_
   ·simp only [bx6,List.cons_append,List.nil_append]
    simp only [go_sem]
    all_goals ((repeat' apply And.intro)<;>first | rfl | trivial)
   rintro ⟨j,hj,hj40⟩ E3
   refine aK E3 fun Q3 hQ3 E4=>?_
   simp only [bx6,List.cons_append,List.nil_append,ab] at hj hj40 ⊢
   simp only [go_sem]
   refine aI E4 (fun h4=>?_) (fun h4=>?_)<;>simp only [go_sem]
   rotate_left
   ·have h5:(s.tl).take j=(s.tl).take 40:=by rw [List.take_of_length_le (by omega),List.take_of_length_le (by omega)]
    rw [h5,hQ3]
    simp only [go_sem]
    refine dr E' [97] (some 2) ((s.tl.take 40).map au) rfl rfl ?_
    simp only [go_sem]
    simp only [show List.take j ((s.tl.take 40).map au)=(s.tl.take 40).map au from List.take_of_length_le (by rw [List.length_map,List.length_take];omega)]
    refine ⟨by omega,?_⟩
    rw [hQ]
    simp only [go_sem]
    refine ⟨⟨i+1,by omega⟩,by show l.length-(i+1)<_;omega,tau [([134],[132])],?_⟩
    simp only [go_sem]
    rw [show List.take i (((l.take i).map gK).map stD)=((l.take i).map gK).map stD from List.take_of_length_le (by simp;omega),List.map_map,List.map_map,← bh h1',hsi,aa ⟨by omega,by omega⟩]
    exact ⟨rfl,rfl⟩
   refine ak E4 (fun h40=>?_) (fun h40=>?_)<;>simp only [go_sem]
   rotate_left
   ·have h5:(s.tl).take j=(s.tl).take 40:=by rw [show j=40 by omega]
    rw [h5,hQ3]
    simp only [go_sem]
    refine dr E' [97] (some 2) ((s.tl.take 40).map au) rfl rfl ?_
    simp only [go_sem]
    simp only [show List.take j ((s.tl.take 40).map au)=(s.tl.take 40).map au from List.take_of_length_le (by rw [List.length_map,List.length_take];omega)]
    refine ⟨by omega,?_⟩
    rw [hQ]
    simp only [go_sem]
    refine ⟨⟨i+1,by omega⟩,by show l.length-(i+1)<_;omega,tau [([134],[132])],?_⟩
    simp only [go_sem]
    rw [show List.take i (((l.take i).map gK).map stD)=((l.take i).map gK).map stD from List.take_of_length_le (by simp;omega),List.map_map,List.map_map,← bh h1',hsi,aa ⟨by omega,by omega⟩]
    exact ⟨rfl,rfl⟩
   have h4':j<(s.tl).length:=by omega
   refine ai mixed E4 fun X=>?_
   simp only [go_sem]
   refine ⟨by omega,?_⟩
   rw [aw h4']
   simp only [go_sem]
   refine ⟨by omega,?_⟩
   rw [aw h4']
   simp only [go_sem]
   refine ⟨by omega,?_⟩
   refine ⟨by decide +kernel,?_⟩
   rw [hQ3]
   simp only [go_sem]
   refine ⟨⟨j+1,by omega,by omega⟩,by show (s.tl).length-(j+1)<_;omega,tau [([97],[126])],?_⟩
   simp only [bx6,List.cons_append,List.nil_append]
   simp only [go_sem]
   rw [show List.take j (((s.tl).take j).map au)=((s.tl).take j).map au from List.take_of_length_le (by simp;omega),← bh h4',aa ⟨by omega,by omega⟩]
   (repeat' apply And.intro)<;>first | rfl | trivial
  have h4':j<(s.fl).length:=by omega
  refine ai mixed E4 fun X=>?_
  simp only [go_sem]
  refine ⟨by omega,?_⟩
  rw [aw h4']
  simp only [go_sem]
  refine ⟨by omega,?_⟩
  rw [aw h4']
  simp only [go_sem]
  refine ⟨by omega,?_⟩
  refine ⟨by decide +kernel,?_⟩
  rw [hQ3]
  simp only [go_sem]
  refine ⟨⟨j+1,by omega,by omega⟩,by show (s.fl).length-(j+1)<_;omega,tau [([98],[97])],?_⟩
  simp only [bx6,List.cons_append,List.nil_append]
  simp only [go_sem]
  rw [show List.take j (((s.fl).take j).map au)=((s.fl).take j).map au from List.take_of_length_le (by simp;omega),← bh h4',aa ⟨by omega,by omega⟩]
  (repeat' apply And.intro)<;>first | rfl | trivial
end Go.Proofs.YthfodompfpdmgaaGreatDoor

namespace Go.Proofs.YthfodompfpdmgaaGreatDoor
open Go.Ab
theorem vn {G} (l:List Fld) (hl:l.length≤1000000):HCall Tryz.prog G 75 [.d (bk l)] [] [] (fun r hp'=>r=.vw [0] 0 l.length∧hp'=[([0],.arr (some 2) (l.map au))]):=by
 refine HCall.thaw (Q:=fun r hp'=>(r=.d .nils∧hp'=[]∧l=[])∨(r=.vw [0] 0 l.length∧hp'=[([0],.arr (some 2) (l.map au))])) ?_ 0 (some 2) (by simp) ?_
 ·unfold bk
  refine bQ Tryz.func75 rfl (by decide +kernel) (by simp [Tryz.ntmps75]) (veil fun E=>?_)
  simp only [go_sem]
  refine vD E (e:=91) (by simp only [go_sem]) (by simp only [go_sem]) rfl fun b hb=>?_
  simp only [go_sem]
  refine bG E (fun h=>?_) (fun h=>?_)<;>simp only [go_sem]
  ·have:l=[]:=by simpa using hb h
   subst this
   refine ⟨_,[],[],id,.inl ⟨rfl,rfl,rfl⟩,?_⟩
   simp only [go_sem]
  ·refine ⟨by omega,_,_,[0],tau [([0],[7])],.inr ⟨rfl,rfl⟩,?_⟩
   simp only [go_sem]
 ·rintro r hp' (⟨rfl,rfl,rfl⟩ | h)
  ·exact .inr ⟨rfl,rfl,rfl,rfl⟩
  ·exact .inl h
theorem yA {G} (l:List Int) (hl:l.length≤1000000):HP Tryz.prog G 89 [ay l] (fun r=>r=.d (ay l)):=by
 refine il ?_
 unfold ay
 refine aV Tryz.func89 rfl (by decide +kernel) (by simp [Tryz.ntmps89]) (veil fun E=>?_)
 simp only [go_sem]
 refine vD E (e:=3) (by simp only [go_sem]) (by simp only [go_sem]) rfl fun b hb=>?_
 simp only [go_sem]
 refine bG E (fun h=>?_) (fun h=>?_)<;>simp only [go_sem]
 ·have:l=[]:=by simpa using hb h
  subst this
  refine ⟨[],?_⟩
  simp only [go_sem]
  exact ⟨_,rfl,.nils none⟩
 ·refine ⟨by omega,[([7],none,l.map i64)],?_⟩
  simp only [go_sem]
  refine ⟨_,rfl,?_⟩
  exact .refl _
def je (f:Int→Int) (l:List Fld) (i:Nat):List Fld:=(l.take i).map (fun q=>(q.1,f q.2))++l.drop i
theorem rF (f:Int→Int) (l:List Fld) (i:Nat):(je f l i).length=l.length:=by simp [je];omega
theorem oD (f:Int→Int) (l:List Fld):je f l 0=l:=by simp [je]
theorem rL (f:Int→Int) (l:List Fld):je f l l.length=l.map fun q=>(q.1,f q.2):=by simp [je]
theorem jQ {f:Int→Int} {l:List Fld} {i:Nat} (h:i<l.length):((je f l i).map au).getD i .nilp=.agg [.str l[i].1,i64 l[i].2]:=by
 have h1:i≤l.length:=by omega
 simp [je,List.getElem?_append_right,h1,h,au]
theorem sk {f:Int→Int} {l:List Fld} {i:Nat} (h:i<l.length):((je f l i).map au).set i (.agg [.str l[i].1,i64 (f l[i].2)])=(je f l (i+1)).map au:=by
 have h1:(l.take i).length=i:=by simp;omega
 have h2:(l.drop i)=l[i]::l.drop (i+1):=List.drop_eq_getElem_cons h
 have h3:l.take (i+1)=l.take i++[l[i]]:=by rw [List.take_succ_eq_append_getElem h]
 simp only [je,h2,h3,List.map_append,List.map_cons,List.map_nil]
 rw [List.set_append_right _ _ (by simp;omega)]
 simp [au,Nat.min_eq_left (Nat.le_of_lt h)]
def atL (m:List Int) (z:Int):Int:=m.getD z.toNat 0
theorem Ah {G} (l:List Fld) (m:List Int) (hl:l.length≤1000000) (hm:∀ q∈l,0≤q.2∧q.2<m.length):HP Tryz.prog G 40 [bk l,ay m] (fun r=>r=.d (bk (l.map fun q=>(q.1,atL m q.2)))):=by
 refine il ?_
 have hgx:∀ {k:Int},0≤k→k<m.length→(m.map i64).getD k.toNat .nilp=i64 (atL m k):=fun {k} h0 h1=>aN (show k.toNat<m.length by omega)
 unfold ay
 refine aV Tryz.func40 rfl (by decide +kernel) (by simp [Tryz.ntmps40]) (veil fun E=>?_)
 simp only [go_sem]
 refine bn E [.d (bk l)] [] [] (vn l hl) rfl rfl ⟨by simp only [go_sem],by rw [ag];decide⟩ rfl (by simp only [go_sem]) (by simp only [go_sem]) ?_
 rintro _ _ ⟨rfl,rfl⟩
 simp only [go_sem]
 refine vR E (X:={ i:Nat // i≤l.length }) (fun x=>[(1,.d (.sl none (m.map i64))),(5,.vw [8,0] 0 l.length),(10,.d (i64 l.length)),(11,.d (i64 x.1))])
  (fun x=>[([8,0],.arr (some 2) ((je (atL m) l x.1).map au))]) [8] (fun x=>l.length-x.1) ⟨0,Nat.zero_le _⟩ ?_ ?_
 ·simp only [go_sem]
  rw [oD]
  all_goals rfl
 rintro ⟨i,hi⟩ E'
 simp only at hi ⊢
 simp only [go_sem]
 refine ak E' (fun h1=>?_) (fun h1=>?_)<;>simp only [go_sem]
 ·have h1':i<l.length:=by omega
  obtain ⟨hz0,hz1⟩:=hm l[i] (List.getElem_mem h1')
  refine ⟨by omega,?_⟩
  rw [jQ h1']
  simp only [go_sem]
  refine ⟨by omega,?_⟩
  rw [hgx hz0 hz1]
  simp only [go_sem]
  refine ⟨by omega,?_⟩
  rw [jQ h1']
  simp only [go_sem]
  rw [sk h1']
  refine ⟨⟨i+1,by omega⟩,by show l.length-(i+1)<_;omega,?_⟩
  rw [aa ⟨by omega,by omega⟩]
  exact ⟨rfl,rfl⟩
 ·have h3:i=l.length:=by omega
  subst h3
  refine ⟨[([8,0],some 2,(je (atL m) l l.length).map au)],?_⟩
  simp only [go_sem]
  refine ⟨_,rfl,?_⟩
  rw [List.take_of_length_le (by rw [List.length_map,rF];exact Nat.le_refl _),rL]
  exact .refl _
theorem uT {G} (l:List Fld) (m:List Int) (hl:l.length≤1000000) (hm:∀ q∈l,0≤q.2∧q.2<m.length):HP Tryz.prog G 110 [bk l,ay m] (fun r=>r=.d (bk (l.map fun q=>(q.1,atL m q.2)))):=by
 refine il ?_
 have hgx:∀ {k:Int},0≤k→k<m.length→(m.map i64).getD k.toNat .nilp=i64 (atL m k):=fun {k} h0 h1=>aN (show k.toNat<m.length by omega)
 unfold ay
 refine aV Tryz.func110 rfl (by decide +kernel) (by simp [Tryz.ntmps110]) (veil fun E=>?_)
 simp only [go_sem]
 refine bn E [.d (bk l)] [] [] (vn l hl) rfl rfl ⟨by simp only [go_sem],by rw [ag];decide⟩ rfl (by simp only [go_sem]) (by simp only [go_sem]) ?_
 rintro _ _ ⟨rfl,rfl⟩
 simp only [go_sem]
 refine vR E (X:={ i:Nat // i≤l.length }) (fun x=>[(1,.d (.sl none (m.map i64))),(5,.vw [8,0] 0 l.length),(10,.d (i64 l.length)),(11,.d (i64 x.1))])
  (fun x=>[([8,0],.arr (some 2) ((je (atL m) l x.1).map au))]) [8] (fun x=>l.length-x.1) ⟨0,Nat.zero_le _⟩ ?_ ?_
 ·simp only [go_sem]
  rw [oD]
  all_goals rfl
 rintro ⟨i,hi⟩ E'
 simp only at hi ⊢
 simp only [go_sem]
 refine ak E' (fun h1=>?_) (fun h1=>?_)<;>simp only [go_sem]
 ·have h1':i<l.length:=by omega
  obtain ⟨hz0,hz1⟩:=hm l[i] (List.getElem_mem h1')
  refine ⟨by omega,?_⟩
  rw [jQ h1']
  simp only [go_sem]
  refine ⟨by omega,?_⟩
  rw [hgx hz0 hz1]
  simp only [go_sem]
  refine ⟨by omega,?_⟩
  rw [jQ h1']
  simp only [go_sem]
  rw [sk h1']
  refine ⟨⟨i+1,by omega⟩,by show l.length-(i+1)<_;omega,?_⟩
  rw [aa ⟨by omega,by omega⟩]
  exact ⟨rfl,rfl⟩
 ·have h3:i=l.length:=by omega
  subst h3
  refine ⟨[([8,0],some 2,(je (atL m) l l.length).map au)],?_⟩
  simp only [go_sem]
  refine ⟨_,rfl,?_⟩
  rw [List.take_of_length_le (by rw [List.length_map,rF];exact Nat.le_refl _),rL]
  exact .refl _
end Go.Proofs.YthfodompfpdmgaaGreatDoor

namespace Go.Proofs.YthfodompfpdmgaaGreatDoor
open Go.Ab
def yX (l:List EA) (st:Int):List D:=[.ptr (.agg [.sl (some 13) (l.map stD),i64 st])]
theorem BX {G} (l:List EA) (st:Int):HP Tryz.prog G 109 [auD l st] (fun r=>r=.d (.clo 143 (yX l st))):=by
 unfold auD yX
 have h:HCall Tryz.prog G 109 [.d (.agg [.sl (some 13) (l.map stD),i64 st])] [] [] (fun r hp'=>r=.clo 143 [.bx [1] 0]∧hp'=[([1],.box [.d (.sl (some 13) (l.map stD)),.d (i64 st)])]):=by
  refine bQ Tryz.func109 rfl (by decide +kernel) (by simp [Tryz.ntmps109]) (veil fun E=>?_)
  simp only [go_sem]
  refine ⟨_,_,[1],id,⟨rfl,rfl⟩,?_⟩
  simp only [go_sem]
 have h2:=HCall.fB (Q':=fun r hp'=>r=.d (.clo 143 [.ptr (.agg [.sl (some 13) (l.map stD),i64 st])])∧hp'=[]) h [1] (.agg [.sl (some 13) (l.map stD),i64 st]) (by
  rintro r hp' ⟨rfl,rfl⟩
  refine ⟨rfl,rfl,?_,?_⟩
  ·simp only [go_sem]
  ·simp only [go_sem])
 exact h2.FR (ds:=[_]) fun r hp' ⟨h1,h2⟩=>⟨⟨h1,by rw [h1];rfl⟩,h2⟩
def fg (N:Nat) (L:List Nat):List D:=(List.range N).map fun (j:Nat)=>D.bool (decide (j∈L))
theorem uI (N:Nat):List.replicate N (D.bool false)=fg N []:=by
 refine List.ext_getElem (by simp [fg]) fun q h1 h2=>?_
 simp [fg]
theorem xu {N:Nat} {L:List Nat} {x:Nat} (hx:x<N):(fg N L).getD x .nilp=.bool (decide (x∈L)):=by simp [fg,hx]
theorem oH {N:Nat} {L:List Nat} {x:Nat} (_hx:x<N):(fg N L).set x (.bool true)=fg N (L++[x]):=by
 refine List.ext_getElem (by simp [fg]) fun q h1 h2=>?_
 have hq:q<N:=by simpa [fg] using h2
 simp only [List.getElem_set]
 by_cases e:x=q
 ·subst e;simp [fg]
 ·rw [if_neg e]
  have:¬ (q=x):=by omega
  simp [fg,this]
theorem s8:∀ (a b L:List Nat),cA L (a++b)=cA (cA L a) b
 | [],b,L=>rfl
 | k::a,b,L=>by
   simp only [List.cons_append,cA]
   exact s8 a b _
def nD (k:Nat):D:=i64 (k:Int)
def Queue (c:List D) (o i:Nat) (L:List Nat):Prop:=i≤L.length∧o+(L.length-i)≤c.length∧(c.drop o).take (L.length-i)=(L.drop i).map nD
theorem Queue.get {c:List D} {o i:Nat} {L:List Nat} (h:Queue c o i L) (hi:i<L.length):c.getD o .nilp=i64 (L[i]:Nat):=by
 have h1:=congrArg (fun l:List D=>l.getD 0 .nilp) h.2.2
 simp only [List.getD_eq_getElem?_getD] at h1 ⊢
 rw [List.getElem?_take,if_pos (by omega),List.getElem?_drop,List.getElem?_map,List.getElem?_drop,Nat.add_zero,Nat.add_zero,List.getElem?_eq_getElem hi] at h1
 exact h1
theorem Queue.pop {c:List D} {o i:Nat} {L:List Nat} (h:Queue c o i L) (hi:i<L.length):Queue c (o+1) (i+1) L:=by
 refine ⟨by omega,by have:=h.2.1;omega,?_⟩
 have h1:=congrArg (List.drop 1) h.2.2
 rw [List.drop_take,List.drop_drop,← List.map_drop,List.drop_drop] at h1
 rw [show L.length-(i+1)=L.length-i-1 by omega]
 exact h1
theorem Queue.push {c:List D} {o i:Nat} {L:List Nat} (h:Queue c o i L) (k:Nat):Queue (((c.drop o).take (L.length-i))++[nD k]) 0 i (L++[k]):=by
 obtain ⟨h1,h2,h3⟩:=h
 have hl:=congrArg List.length h3
 rw [h3]
 refine ⟨by simp;omega,by simp;omega,?_⟩
 rw [List.drop_zero,List.take_of_length_le (by simp;omega),List.drop_append_of_le_length h1]
 simp [nD]
structure Bf (l:List EA) (ord:List Nat) (i:Nat) (L:List Nat):Prop where
 nd:L.Nodup
 lt:∀ x∈L,x<l.length
 go:eu (nxA l) (l.length-i) i L=ord
theorem pC {ks L:List Nat} {j:Nat} (h:j<ks.length):cA L (ks.take (j+1))=if ks[j]∈cA L (ks.take j) then cA L (ks.take j) else cA L (ks.take j)++[ks[j]]:=by
 rw [List.take_succ_eq_append_getElem h,s8]
 rfl
theorem Bf.init {l:List EA} {start:Nat} (h:start<l.length):Bf l (aU l start) 0 [start]:=⟨by simp,by simpa using h,rfl⟩
theorem Bf.next {l:List EA} {ord L:List Nat} {i:Nat} (h:Bf l ord i L) (hin:InA l) (hi:i<L.length):Bf l ord (i+1) (cA L (nxA l L[i])):=by
 have hn:=aH h.nd h.lt
 refine ⟨cZ _ _ h.nd,j8 h.lt (gx hin _ (h.lt _ (List.getElem_mem hi))),?_⟩
 have h1:=h.go
 rw [show l.length-i=(l.length-(i+1))+1 by omega,eu,List.getElem?_eq_getElem hi] at h1
 exact h1
theorem Bf.pre {l:List EA} {ord L:List Nat} {i:Nat} (h:Bf l ord i L):∃ r,ord=L++r:=by
 rw [← h.go];exact mE _ _ _
theorem Bf.done {l:List EA} {ord L:List Nat} {i:Nat} (h:Bf l ord i L) (hi:L.length≤i):ord=L:=by
 rw [← h.go]
 cases l.length-i with
 | zero=>rfl
 | succ f=>rw [eu,List.getElem?_eq_none_iff.2 hi]
set_option maxHeartbeats 2000000 in
theorem Cj {G} (l:List EA) (st:Nat) (hN:l.length≤1000000) (hs:∀ s∈l,InS s) (hin:InA l) (hst:st<l.length) :
  ItC Tryz.prog G 143 (yX l st) (aU l st).length (fun n=>[nD ((aU l st).getD n 0)]):=by
 refine A1 Tryz.func143 rfl (by decide +kernel) (by simp [Tryz.ntmps143,yX]) rfl fun z hz=>?_
 unfold yX
 refine fO (cr fun E=>?_)
 simp only [go_sem]
 refine ⟨⟨by omega,by omega,by omega,by omega⟩,?_⟩
 rw [show List.replicate l.length (D.bool false)=fg l.length [] from uI _]
 refine fO (cr fun E=>?_)
 simp only [go_sem]
 refine ⟨by omega,?_⟩
 rw [oH hst]
 refine fO (cr fun E=>?_)
 simp only [go_sem]
 refine qE (Di (X:={ x:(Nat × List Nat) × (List D × Nat) // Bf l (aU l st) x.1.1 x.1.2∧Queue x.2.1 x.2.2 x.1.1 x.1.2 }) (fun x=>mk [(0,.d (.yl z.l)),(1,.d (.ptr (.agg [.sl (some 13) (l.map stD),i64 st]))),(3,.vw [98] 0 l.length),(4,.vw [99] x.1.2.2 (x.1.1.2.length-x.1.1.1))]
  [([98],.arr none (fg l.length x.1.1.2)),([99],.arr none x.1.2.1)] [98,99]) (fun x=>II z x.1.1.1) (fun x=>l.length-x.1.1.1) ⟨((0,[st]),([nD st],0)),.init hst,by simp [Queue]⟩ ⟨tau [([98],[11]),([99],[18])],LeL.le ?_⟩ (fun _ _ h=>h) ?_)
 ·simp only [go_sem]
  all_goals rfl
 rintro ⟨⟨⟨i,L⟩,c,o⟩,hbf,hqu⟩
 simp only at hbf hqu ⊢
 generalize hΦ:lpY _ _ _ _ _ _ _ _=Φ'
 refine fO (cr fun E=>?_)
 simp only [go_sem]
 refine ak E (fun h1=>?_) (fun h1=>?_)<;>simp only [go_sem]
 ·have hi:i<L.length:=by omega
  obtain ⟨z2,hz2⟩:=hbf.pre
  have hq1:=hqu.get hi
  have hil:i<(aU l st).length:=by rw [hz2];simp;omega
  have hgl:(aU l st).getD i 0=L[i]:=by rw [hz2,List.getD_eq_getElem?_getD,List.getElem?_append_left hi,List.getElem?_eq_getElem hi];rfl
  have hx:L[i]<l.length:=hbf.lt _ (List.getElem_mem hi)
  refine qE (fO (cr fun E=>?_))
  simp only [go_sem]
  refine ⟨by omega,?_⟩
  rw [hq1]
  simp only [go_sem]
  refine fO (cr fun E=>?_)
  simp only [go_sem]
  refine ⟨by omega,?_⟩
  refine fO (fO (yd (Bq rfl ?_)))
  simp only [go_sem]
  refine Bq rfl ?_
  simp only [go_sem]
  refine Ct hz hil (by simp) rfl (by simp only [go_sem];rw [hgl];rfl) ?_ ?_
  ·refine Bq rfl ?_
   simp only [go_sem]
   refine oR (cr fun E=>?_)
   simp only [go_sem]
   refine cr fun E=>?_
   simp only [go_sem]
   refine ⟨by omega,?_⟩
   rw [bJ hx]
   have hsx:=hs _ (List.getElem_mem hx)
   have c1:=BI (G:=G) l[L[i]] hsx
   have hnx:nxA l L[i]=l[L[i]].next.map Int.toNat:=by rw [nxA,List.getD_eq_getElem?_getD,List.getElem?_eq_getElem hx];rfl
   have hni:∀ z∈l[L[i]].next,0≤z∧z<l.length:=hin _ (List.getElem_mem hx)
   have hnl:l[L[i]].next.length≤900000:=by
    have:=hsx.f
    have:=hsx.t
    rw [cN,dV]
    split<;>simp<;>omega
   generalize l[L[i]]=s at *
   obtain ⟨K,hK⟩:∃ K,K=s.next:=⟨_,rfl⟩
   rw [← hK] at hnx hni hnl c1
   unfold ay at c1
   simp only [ab] at c1 ⊢
   simp only [go_sem]
   refine ae E c1 rfl rfl (by simp) ?_
   rintro _ rfl
   simp only [go_sem]
   refine an E (X:={ y:Nat × (List D × Nat) // y.1≤K.length∧Queue y.2.1 y.2.2 (i+1) (cA L ((nxA l L[i]).take y.1))∧∀ x∈cA L ((nxA l L[i]).take y.1),x<l.length }) (fun y=>[(0,.d (.yl z.l)),(1,.d (.ptr (.agg [.sl (some 13) (l.map stD),i64 st]))),(3,.vw [98] 0 l.length),(4,.vw [99] y.1.2.2 ((cA L ((nxA l L[i]).take y.1.1)).length-(i+1))),(36,.d (.sl none (K.map i64))),(37,.d (i64 K.length)),(38,.d (i64 y.1.1))])
    (fun y=>[([98],.arr none (fg l.length (cA L ((nxA l L[i]).take y.1.1)))),([99],.arr none y.1.2.1)]) [98,99] (fun y=>K.length-y.1.1) ⟨(0,(c,o+1)),Nat.zero_le _,hqu.pop hi,hbf.lt⟩ id ?_ ?_
   ·simp only [go_sem]
    all_goals first | rfl | ((repeat' apply And.intro)<;>first | rfl | trivial)
   rintro ⟨⟨j,c2,o2⟩,hj,hq2,hlt2⟩ E0
   refine aK E0 fun Q2 hQ2 E2=>?_
   simp only at hj hq2 hlt2 ⊢
   obtain ⟨L2,hL2⟩:∃ L2,cA L ((nxA l L[i]).take j)=L2:=⟨_,rfl⟩
   have hq3:Queue c2 o2 (i+1) L2:=by rw [← hL2];exact hq2
   have hlt3:∀ x∈L2,x<l.length:=by rw [← hL2];exact hlt2
   rw [hL2]
   simp only [go_sem]
   refine ak E2 (fun h3=>?_) (fun h3=>?_)<;>simp only [go_sem]
   ·have hj':j<K.length:=by omega
    have hjn:j<(nxA l L[i]).length:=by rw [hnx];simpa using hj'
    have hst2:=pC (L:=L) hjn
    rw [hL2] at hst2
    obtain ⟨hz0,hz1⟩:=hni _ (List.getElem_mem hj')
    have hkj:(nxA l L[i])[j]=K[j].toNat:=by simp only [hnx,List.getElem_map]
    rw [hkj] at hst2
    refine ⟨by omega,?_⟩
    rw [dU hj']
    simp only [go_sem]
    obtain ⟨y,hy⟩:∃ y,K[j].toNat=y:=⟨_,rfl⟩
    have hyl:y<l.length:=by omega
    have hyK:K[j]=(y:Int):=by omega
    rw [hy] at hst2
    refine ⟨by omega,?_⟩
    rw [hyK,Int.toNat_natCast,xu hyl]
    simp only [go_sem]
    refine bG E2 (fun hm=>?_) (fun hm=>?_)<;>simp only [go_sem]
    ·have hm:y ∉ L2:=by simpa using hm
     rw [if_neg hm] at hst2
     refine ⟨by omega,?_⟩
     rw [oH hyl]
     have hq4:=hq3.push y
     have hn2:L2.Nodup:=by rw [← hL2];exact cZ _ _ hbf.nd
     have hl2:=aH hn2 hlt3
     refine ⟨by omega,?_⟩
     rw [hQ2]
     simp only [go_sem]
     refine ⟨⟨(j+1,(((c2.drop o2).take (L2.length-(i+1)))++[nD y],0)),by show j+1≤K.length;omega,by show Queue _ 0 (i+1) (cA L ((nxA l L[i]).take (j+1)));rw [hst2];exact hq4,by
      show ∀ x∈cA L ((nxA l L[i]).take (j+1)),_
      rw [hst2]
      intro x hx
      rcases List.mem_append.1 hx with hx | hx
      ·exact hlt3 x hx
      ·rw [List.mem_singleton.1 hx];exact hyl⟩,by show K.length-(j+1)<_;omega,tau [([99],[53])],?_⟩
     simp only [go_sem]
     have hq0:=hq3.1
     rw [hst2,aa ⟨by omega,by omega⟩,List.length_append,show L2.length+[y].length-(i+1)=L2.length-(i+1)+1 by rw [List.length_singleton];omega]
     (repeat' apply And.intro)<;>first | rfl | trivial
    ·have hm:y∈L2:=by simpa using hm
     rw [if_pos hm] at hst2
     rw [hQ2]
     simp only [go_sem]
     refine ⟨⟨(j+1,(c2,o2)),by show j+1≤K.length;omega,by show Queue c2 o2 (i+1) (cA L ((nxA l L[i]).take (j+1)));rw [hst2];exact hq3,by show ∀ x∈cA L ((nxA l L[i]).take (j+1)),_;rw [hst2];exact hlt3⟩,by show K.length-(j+1)<_;omega,id,?_⟩
     simp only [go_sem]
     rw [hst2,aa ⟨by omega,by omega⟩]
     (repeat' apply And.intro)<;>first | rfl | trivial
   ·have hje:j=(nxA l L[i]).length:=by rw [hnx,List.length_map];omega
    subst hje
    rw [List.take_length] at hL2
    have hnext:=hbf.next hin hi
    rw [hL2] at hnext
    rw [hQ2]
    simp only [go_sem]
    refine CP ?_
    subst hΦ
    refine rZ (show { x:(Nat × List Nat) × (List D × Nat) // Bf l (aU l st) x.1.1 x.1.2∧Queue x.2.1 x.2.2 x.1.1 x.1.2 } from ⟨((i+1,L2),(c2,o2)),hnext,hq3⟩) ?_ id (LeL.le ?_) (fun _ _ h=>h)
    ·show l.length-(i+1)<l.length-i
     have:=aH hbf.nd hbf.lt
     omega
    ·simp only [go_sem]
  ·refine Bq rfl ?_
   simp only [go_sem]
   refine oR (cr fun E=>?_)
   simp only [go_sem]
   subst hΦ
   exact ux (D5 hz (.inr rfl))
 ·subst hΦ
  refine sU ?_
  simp only [go_sem]
  refine EE ?_
  have hd:=hbf.done (by omega)
  have hli:i=(aU l st).length:=by rw [hd];have:=hqu.1;omega
  subst hli
  exact Da hz (.inl rfl)
end Go.Proofs.YthfodompfpdmgaaGreatDoor

namespace Go.Proofs.YthfodompfpdmgaaGreatDoor
open Go.Ab
def ef (N:Nat) (ord:List Nat):List Int:=(List.range N).map fun k=>fI ord k
theorem fS (N:Nat) (ord:List Nat):(ef N ord).length=N:=by simp [ef]
theorem pw (N:Nat):List.replicate N (i64 0)=(ef N []).map i64:=by
 refine List.ext_getElem (by simp [ef]) fun q h1 h2=>?_
 simp [ef,fI]
theorem si {N:Nat} {ord:List Nat} {n:Nat} (hd:ord.Nodup) (hn:n<ord.length):((ef N (ord.take n)).map i64).set ord[n] (i64 n)=(ef N (ord.take (n+1))).map i64:=by
 have e:ord.take (n+1)=ord.take n++[ord[n]]:=by rw [List.take_succ_eq_append_getElem hn]
 have hnm:ord[n] ∉ ord.take n:=by
  intro h
  have h2:(ord.take (n+1)).Nodup:=hd.sublist (List.take_sublist _ _)
  rw [e,List.nodup_append] at h2
  exact h2.2.2 _ h _ (by simp) rfl
 refine List.ext_getElem (by simp [ef]) fun q h1 h2=>?_
 simp only [List.getElem_set,ef,List.getElem_map,List.getElem_range]
 by_cases hq:ord[n]=q
 ·subst hq
  rw [if_pos rfl]
  have h3:fI (ord.take (n+1)) ord[n]=(n:Nat):=by
   have h4:=dX (ord:=ord.take (n+1)) (hd.sublist (List.take_sublist _ _)) (j:=n) (by simp;omega)
   rw [List.getElem_take] at h4
   exact h4
  rw [h3]
 ·rw [if_neg hq,e]
  congr 1
  unfold fI
  by_cases hm:q∈ord.take n
  ·rw [if_pos hm,if_pos (List.mem_append_left _ hm),List.idxOf_append,if_pos hm]
  ·rw [if_neg hm,if_neg]
   intro h
   rcases List.mem_append.1 h with h | h
   ·exact hm h
   ·exact hq (List.mem_singleton.1 h).symm
theorem BR {N:Nat} {ord:List Nat} {z:Int} (h:z.toNat<N):atL (ef N ord) z=fI ord z.toNat:=by
 unfold atL ef
 rw [List.getD_eq_getElem?_getD,List.getElem?_map,List.getElem?_range h]
 rfl
def nS (l:List EA) (st:Int) (N:Nat) (ord:List Nat) (n:Nat):List (Name × Ob):=[([1],.box [.d (.sl (some 13) (l.map stD)),.d (i64 st)]),([2],.box [.d .nils,.d (i64 0)]),([3],.box [.vw [13] 0 N]),([13],.arr none ((ef N (ord.take n)).map i64)),([4],.box [.vw [99] 0 n]),([99],.arr none ((ord.take n).map nD))]
def dN (m:List Int) (s:EA):EA:=s.mv (atL m)
theorem rP {f g:Int→Int} {s:EA} (h:∀ z∈s.next,f z=g z):s.mv f=s.mv g:=by
 unfold EA.next at h
 unfold EA.mv
 have e:∀ l:List (List UInt8 × Int),(∀ z∈l.map (·.2),f z=g z)→l.map (fun q=>(q.1,f q.2))=l.map (fun q=>(q.1,g q.2)):=by
  intro l hl
  refine List.map_congr_left fun q hq=>?_
  rw [hl q.2 (List.mem_map_of_mem hq)]
 rw [e s.fl fun z hz=>h z (List.mem_append_right _ (List.mem_append_left _ hz)),e s.tl fun z hz=>h z (List.mem_append_right _ (List.mem_append_right _ hz))]
 cases ha:s.arr with
 | false=>rfl
 | true =>
   have h1:=h s.dom (by simp [ha])
   have h2:=h s.cod (by simp [ha])
   simp only [if_true,h1,h2]
theorem sH {l:List EA} {st:Nat} (hin:InA l) (hst:st<l.length):(aU l st).map (fun y=>stD (dN (ef l.length (aU l st)) (l.getD y default)))=(aG l st).map stD:=by
 rw [aG,List.map_map]
 refine List.map_congr_left fun y hy=>?_
 have:=eC hin hst y hy
 show stD _=stD _
 congr 1
 refine rP fun z hz=>BR ?_
 have:=hin _ (cC this) z hz
 omega
set_option maxHeartbeats 4000000 in
theorem DW {G} (l:List EA) (st:Nat) (hN:l.length≤1000000) (hs:∀ s∈l,InS s) (hin:InA l) (hst:st<l.length):HP Tryz.prog G 74 [auD l st] (fun r=>r=.d (auD (aG l st) 0)):=by
 refine Cn Tryz.func74 rfl (by decide +kernel) (by simp [Tryz.ntmps74]) fun B0 hB0=>?_
 have c1:=BX (G:=G) l st
 unfold auD at *
 have hnd:(aU l st).Nodup:=bK
 have hlt:=eC hin hst
 have hll:=dp hin hst
 refine fO (cr fun E=>?_)
 simp only [go_sem]
 refine fO (cr fun E=>?_)
 simp only [go_sem]
 refine ⟨⟨by omega,by omega,by omega,by omega⟩,?_⟩
 rw [show List.replicate l.length (D.int IntKind.i64 0)=(ef l.length []).map i64 from pw _]
 refine fO (cr fun E=>?_)
 simp only [go_sem]
 refine fO (fO (cr fun E=>?_))
 simp only [go_sem]
 refine ae E c1 rfl rfl (by simp) ?_
 rintro _ rfl
 simp only [go_sem]
 refine A8 [4] 0 99 none [.d .nils] rfl rfl (by rw [ag];decide) ?_
 simp only [go_sem]
 refine qE (Cv rfl (Cj l st hN hs hin hst) rfl (X:=Unit) (fun n _=>mk [(1,.bx [1] 0),(2,.bx [2] 0),(3,.bx [3] 0),(4,.bx [4] 0)] (nS l st l.length (aU l st) n) [1,2,3,13,4,99]) (by simp) (fun n hn=>rfl) ⟨(),id,LeL.le ?_⟩ ?_ ?_)
 ·unfold nS
  simp only [go_sem]
  all_goals first | rfl | ((repeat' apply And.intro)<;>first | rfl | trivial)
 ·rintro n ⟨⟩ hn lb
  unfold nS nD
  have hgn:(aU l st).getD n 0=(aU l st)[n]:=by simp [hn]
  rw [hgn]
  have hxl:=hlt _ (List.getElem_mem hn)
  refine veil fun E=>?_
  simp only [go_sem]
  refine FE fun E=>?_
  simp only [go_sem]
  rw [si hnd hn]
  refine ⟨⟨by omega,by omega⟩,by omega,?_⟩
  have htk:List.take n (List.map nD (List.take n (aU l st)))++[nD (aU l st)[n]]=List.map nD (List.take (n+1) (aU l st)):=by
   rw [List.take_of_length_le (by simp;omega),List.take_succ_eq_append_getElem hn,List.map_append]
   rfl
  unfold nD at htk
  rw [htk]
  refine Ff ?_ () (tau [([99],[25])]) rfl ?_
  ·simp only [go_sem]
   rw [fS,fS]
   exact Nat.le_refl _
  ·simp only [go_sem]
 ·rintro ⟨⟩
  refine CP ?_
  unfold nS
  rw [List.take_length]
  obtain ⟨ord,hord⟩:∃ ord,aU l st=ord:=⟨_,rfl⟩
  rw [hord] at hnd hlt hll ⊢
  refine CS [13] none ((ef l.length ord).map i64) rfl ?_
  simp only [go_sem]
  refine CS [99] none (ord.map nD) rfl ?_
  simp only [go_sem]
  simp only [List.take_of_length_le (Nat.le_of_eq (show ((ef l.length ord).map i64).length=l.length by simp [ef])),List.take_of_length_le (Nat.le_of_eq (show (ord.map nD).length=ord.length by simp))]
  refine y8 [3] (.sl none ((ef l.length ord).map i64)) rfl rfl ?_
  simp only [go_sem]
  refine y8 [4] (.sl none (ord.map nD)) rfl rfl ?_
  simp only [go_sem]
  refine y8 [1] (.agg [.sl (some 13) (l.map stD),i64 st]) rfl rfl ?_
  simp only [go_sem]
  refine cr fun E=>?_
  simp only [go_sem]
  obtain ⟨m,hm⟩:∃ m,ef l.length ord=m:=⟨_,rfl⟩
  have hml:m.length=l.length:=by rw [← hm,fS]
  rw [hm]
  refine bP E [6] 0 97 (some 13) [.d .nils,.d (i64 0)] rfl rfl (by rw [ag];decide) ?_
  simp only [go_sem]
  refine an E (X:={ k:Nat // k≤ord.length }) (fun x=>[(1,.d (.ptr (.agg [.sl (some 13) (l.map stD),i64 st]))),(2,.bx [2] 0),(3,.d (.ptr (.sl none (m.map i64)))),(6,.bx [6] 0),(26,.d (.sl none (ord.map nD))),(27,.d (i64 ord.length)),(28,.d (i64 x.1))])
   (fun x=>[([2],.box [.d .nils,.d (i64 0)]),([6],.box [.vw [97] 0 x.1,.d (i64 0)]),([97],.arr (some 13) ((ord.take x.1).map fun y=>stD (dN m (l.getD y default))))]) [2,6,97] (fun x=>ord.length-x.1) ⟨0,Nat.zero_le _⟩ id ?_ ?_
  ·simp only [go_sem]
   all_goals first | rfl | ((repeat' apply And.intro)<;>first | rfl | trivial)
  rintro ⟨k,hkl⟩ E0
  refine aK E0 fun Q' hQ E'=>?_
  simp only at hkl ⊢
  simp only [go_sem]
  refine ak E' (fun h1=>?_) (fun h1=>?_)<;>simp only [go_sem]
  ·have h1':k<ord.length:=by omega
   have hxl:=hlt _ (List.getElem_mem h1')
   have hmem:=cC hxl
   have hgx:(ord.map nD).getD k .nilp=i64 (ord[k]:Nat):=by simp [h1',nD]
   have hgs:l[ord[k]]=l.getD ord[k] default:=by simp [hxl]
   have hsx:=hs _ hmem
   have hinx:=hin _ hmem
   refine ⟨by omega,?_⟩
   rw [hgx]
   simp only [go_sem]
   refine ⟨by omega,?_⟩
   rw [bJ hxl,hgs]
   generalize hse:l.getD ord[k] default=s at hgs hmem hsx hinx ⊢
   have c2:=yA (G:=G) s.vars hsx.v
   have c3:=uT (G:=G) s.fl m (by have:=hsx.f;omega) fun q hq=>by
    have:=hinx q.2 (by rw [cN,dV];exact List.mem_append_right _ (List.mem_append_left _ (List.mem_map_of_mem hq)))
    omega
   have c4:=uT (G:=G) s.tl m (by have:=hsx.t;omega) fun q hq=>by
    have:=hinx q.2 (by rw [cN,dV];exact List.mem_append_right _ (List.mem_append_right _ (List.mem_map_of_mem hq)))
    omega
   unfold ay at c2 c3 c4
   unfold bk at c3 c4
   simp only [ab]
   simp only [go_sem]
   refine bG E' (fun ha=>?_) (fun ha=>?_)<;>simp only [go_sem]
   ·obtain ⟨d0,d1⟩:=hinx s.dom (by simp [EA.next,ha])
    obtain ⟨d2,d3⟩:=hinx s.cod (by simp [EA.next,ha])
    refine ai mixed E' fun X=>?_
    simp only [go_sem]
    have hgx:∀ {z:Int},0≤z→z<m.length→(m.map i64).getD z.toNat .nilp=i64 (atL m z):=fun {z} h0 h1=>aN (show z.toNat<m.length by omega)
    refine ⟨by omega,?_⟩
    rw [hgx d0 (by omega)]
    simp only [go_sem]
    refine ⟨by omega,?_⟩
    rw [hgx d2 (by omega)]
    simp only [go_sem]
    refine ⟨by decide +kernel,?_⟩
    refine ae E' c2 rfl rfl (by simp) ?_
    rintro _ rfl
    simp only [go_sem]
    refine ai mixed E' fun X=>?_
    simp only [go_sem]
    refine aO X c3 rfl rfl (by simp) ?_
    simp only [go_sem]
    refine aO X c4 rfl rfl (by simp) ?_
    simp only [go_sem]
    refine ⟨by decide +kernel,?_⟩
    have e1:stD (dN m s)=.agg [.bool s.plus,.bool s.al,.bool s.int,.bool s.bool,.bool s.str,.bool s.arr,.bool s.rc,.bool s.tg,.sl none (s.vars.map i64),i64 (atL m s.dom),i64 (atL m s.cod),.sl (some 2) ((s.fl.map fun q=>(q.1,atL m q.2)).map au),.sl (some 2) ((s.tl.map fun q=>(q.1,atL m q.2)).map au)]:=by
     rw [ab]
     simp only [dN,EA.mv,ha,if_true,if_false,Bool.false_eq_true]
    refine ⟨by omega,?_⟩
    rw [hQ]
    simp only [go_sem]
    refine ⟨⟨k+1,by omega⟩,by show ord.length-(k+1)<_;omega,tau [([97],[69])],?_⟩
    simp only [go_sem]
    rw [← bh h1',List.take_of_length_le (by rw [List.length_map,List.length_take];omega),hse,e1,aa ⟨by omega,by omega⟩]
    (repeat' apply And.intro)<;>first | rfl | trivial
   ·refine ae E' c2 rfl rfl (by simp) ?_
    rintro _ rfl
    simp only [go_sem]
    refine ai mixed E' fun X=>?_
    simp only [go_sem]
    refine aO X c3 rfl rfl (by simp) ?_
    simp only [go_sem]
    refine aO X c4 rfl rfl (by simp) ?_
    simp only [go_sem]
    refine ⟨by decide +kernel,?_⟩
    have e1:stD (dN m s)=.agg [.bool s.plus,.bool s.al,.bool s.int,.bool s.bool,.bool s.str,.bool s.arr,.bool s.rc,.bool s.tg,.sl none (s.vars.map i64),i64 s.dom,i64 s.cod,.sl (some 2) ((s.fl.map fun q=>(q.1,atL m q.2)).map au),.sl (some 2) ((s.tl.map fun q=>(q.1,atL m q.2)).map au)]:=by
     rw [ab]
     simp only [dN,EA.mv,ha,if_true,if_false,Bool.false_eq_true]
    refine ⟨by omega,?_⟩
    rw [hQ]
    simp only [go_sem]
    refine ⟨⟨k+1,by omega⟩,by show ord.length-(k+1)<_;omega,tau [([97],[69])],?_⟩
    simp only [go_sem]
    rw [← bh h1',List.take_of_length_le (by rw [List.length_map,List.length_take];omega),hse,e1,aa ⟨by omega,by omega⟩]
    (repeat' apply And.intro)<;>first | rfl | trivial
  ·have h3:k=ord.length:=by omega
   subst h3
   rw [hQ]
   simp only [go_sem]
   refine Dz (.inl rfl) hB0 ?_
   simp only [go_sem]
   refine ⟨[([97],some 13,(ord.map fun y=>stD (dN m (l.getD y default))))],?_⟩
   simp only [go_sem]
   rw [← sH hin hst,hord,hm]
end Go.Proofs.YthfodompfpdmgaaGreatDoor

namespace Go.Proofs.YthfodompfpdmgaaGreatDoor
open Go.Ab
theorem lV {l:List EA} {k:Int} {p:Bool} (h:onA l k p=true):0≤k∧k<l.length:=by
 simp only [onA,Bool.and_eq_true,decide_eq_true_eq] at h
 exact h.1
theorem AR {l:List EA} {s:EA} (h:bu l s=true):∀ z∈s.next,0≤z∧z<l.length:=by
 simp only [bu,Bool.and_eq_true,Bool.not_eq_true'] at h
 obtain ⟨⟨_,h1⟩,h2⟩:=h
 intro z hz
 rw [cN] at hz
 rcases List.mem_append.1 hz with hz | hz
 ·cases ha:s.arr with
  | false=>rw [ha] at hz;simp at hz
  | true =>
    rw [ha] at hz h1
    simp only [Bool.true_and,Bool.or_eq_false_iff,Bool.not_eq_false'] at h1
    simp only [if_true,List.mem_cons,List.not_mem_nil,or_false] at hz
    rcases hz with rfl | rfl
    ·exact lV h1.1
    ·exact lV h1.2
 ·have:=List.any_eq_false.1 h2 z hz
  simp only [Bool.not_eq_true',Bool.not_eq_false] at this
  exact lV this
structure Good (l:List EA) (st:Int):Prop where
 n0:0<l.length
 n1:l.length≤2000
 s0:0≤st
 s1:st<l.length
 inA:InA l
 rt:∀ s∈l,bu l s=true
theorem cW {l:List EA} {st:Int} (h:cx l st=0):Good l st:=by
 unfold cx at h
 split at h
 ·cases h
 ·rename_i h1
  split at h
  ·cases h
  ·rename_i h2
   simp only [Bool.or_eq_true,Bool.not_eq_true',not_or,Bool.not_eq_false,Bool.not_eq_true] at h2
   obtain ⟨h2,h3⟩:=h2
   obtain ⟨h4,h5⟩:=lV h2
   have hr:∀ s∈l,bu l s=true:=fun s hs=>by
    have:=List.any_eq_false.1 h3 s hs
    simpa using this
   exact ⟨by omega,by omega,h4,h5,fun s hs=>AR (hr s hs),hr⟩
theorem AB {G} (l:List EA) (st:Int) (hl:l.length≤1000000) (hs:∀ s∈l,InS s) (h:cx l st=0):HP Tryz.prog G 39 [auD l st] (fun r=>r=.tup [.d (auD (aG l st.toNat) 0),.d (i64 0)]):=by
 have c1:=qq (G:=G) l st hl hs
 have g:=cW h
 obtain ⟨k,rfl⟩:∃ k:Nat,st=(k:Int):=⟨st.toNat,by have:=g.s0;omega⟩
 have c2:=DW (G:=G) l k hl hs g.inA (by have:=g.s1;omega)
 rw [h] at c1
 rw [Int.toNat_natCast]
 unfold auD at *
 refine aV Tryz.func39 rfl (by decide +kernel) (by simp [Tryz.ntmps39]) (veil fun E=>?_)
 simp only [go_sem]
 refine ae E (c1) rfl rfl (by simp) ?_
 rintro _ rfl
 simp only [go_sem]
 refine ae E (c2) rfl rfl (by simp) ?_
 rintro _ rfl
 simp only [go_sem]
 exact ⟨[],by simp only [go_sem]⟩
theorem BA {G} (l:List EA) (st:Int) (hl:l.length≤1000000) (hs:∀ s∈l,InS s) (h:cx l st≠0):HP Tryz.prog G 39 [auD l st] (fun r=>r=.tup [.d (.agg [.nils,i64 0]),.d (i64 (cx l st))]):=by
 have c1:=qq (G:=G) l st hl hs
 unfold auD at *
 refine aV Tryz.func39 rfl (by decide +kernel) (by simp [Tryz.ntmps39]) (veil fun E=>?_)
 simp only [go_sem]
 refine ae E (c1) rfl rfl (by simp) ?_
 rintro _ rfl
 simp only [go_sem]
 refine ak E (fun h1=>?_) (fun h1=>?_)<;>simp only [go_sem]
 ·exact ⟨[],by simp only [go_sem]⟩
 ·exact absurd h h1
end Go.Proofs.YthfodompfpdmgaaGreatDoor

namespace Go.Proofs.YthfodompfpdmgaaGreatDoor
open Go.Ab
def iV:List AV:=[.d (.bool false),.d (.bool false),.d (.bool false),.d (.bool false),.d (.bool false),.d (.bool false),.d (.bool false),.d (.bool false),.d .nils,.d (i64 0),.d (i64 0),.d .nils,.d .nils]
def mvF (m:List Int) (q:Fld):Fld:=(q.1,atL m q.2)
theorem zQ {G} (s:EA) (m:List Int) (hs:InS s) (hm:∀ z∈s.next,0≤z∧z<m.length):HP Tryz.prog G 45 [stD s,ay m] (fun r=>r=.d (stD (dN m s))):=by
 refine il ?_
 obtain ⟨hv,hf,ht,hfs,hts⟩:=hs
 have hgx:∀ {z:Int},0≤z→z<m.length→(m.map i64).getD z.toNat .nilp=i64 (atL m z):=fun {z} h0 h1=>aN (show z.toNat<m.length by omega)
 have hfl:∀ q∈s.fl,0≤q.2∧q.2<m.length:=fun q hq=>hm q.2 (by rw [cN,dV];exact List.mem_append_right _ (List.mem_append_left _ (List.mem_map_of_mem hq)))
 have htl:∀ q∈s.tl,0≤q.2∧q.2<m.length:=fun q hq=>hm q.2 (by rw [cN,dV];exact List.mem_append_right _ (List.mem_append_right _ (List.mem_map_of_mem hq)))
 rw [ab]
 unfold ay
 refine aV Tryz.func45 rfl (by decide +kernel) (by simp [Tryz.ntmps45]) (veil fun E=>?_)
 simp only [go_sem]
 refine bG E (fun ha=>?_) (fun ha=>?_)<;>simp only [go_sem]
 ·obtain ⟨d0,d1⟩:=hm s.dom (by simp [EA.next,ha])
  obtain ⟨d2,d3⟩:=hm s.cod (by simp [EA.next,ha])
  refine ai mixed E fun X=>?_
  simp only [go_sem]
  refine ⟨by omega,?_⟩
  rw [hgx d0 d1]
  simp only [go_sem]
  refine ⟨by omega,?_⟩
  rw [hgx d2 d3]
  simp only [go_sem]
  refine ⟨by decide +kernel,?_⟩
  refine ck E [2] (stD s) rfl rfl ?_
  simp only [ab]
  simp only [go_sem]
  refine bP E [5] 11 98 (some 2) (bx6 ({ s with dom:=atL m s.dom,cod:=atL m s.cod }) (.d .nils) (.d .nils)) rfl rfl (by rw [ag];decide) ?_
  simp only [bx6]
  simp only [go_sem]
  refine an E (X:={ j:Nat // j≤(s.fl).length }) (fun x=>[(1,.d (.sl none (m.map i64))),(2,.d (.ptr (stD s))),(4,.bx [4] 0),(5,.bx [5] 0),(6,.d (i64 x.1))])
   (fun x=>[([4],.box iV),([5],.box (bx6 ({ s with dom:=atL m s.dom,cod:=atL m s.cod }) (.vw [98] 0 x.1) (.d .nils))),([98],.arr (some 2) (((s.fl).take x.1).map fun q=>au (mvF m q)))]) [98,5,4] (fun x=>(s.fl).length-x.1) ⟨0,Nat.zero_le _⟩ id ?_ ?_
  ·simp only [bx6,iV,List.cons_append,List.nil_append,ab]
   simp only [go_sem]
   all_goals ((repeat' apply And.intro)<;>first | rfl | trivial)
  rintro ⟨j,hj⟩ E3
  refine aK E3 fun Q3 hQ3 E4=>?_
  simp only [bx6,iV,List.cons_append,List.nil_append,ab] at hj ⊢
  simp only [go_sem]
  refine ak E4 (fun h4=>?_) (fun h4=>?_)<;>simp only [go_sem]
  ·have h4':j<(s.fl).length:=by omega
   obtain ⟨z0,z1⟩:=hfl _ (List.getElem_mem h4')
   refine ai mixed E4 fun X=>?_
   simp only [go_sem]
   refine ⟨by omega,?_⟩
   rw [aw h4']
   simp only [go_sem]
   refine ⟨by omega,?_⟩
   rw [aw h4']
   simp only [go_sem]
   refine ⟨by omega,?_⟩
   rw [hgx z0 z1]
   simp only [go_sem]
   refine ⟨by omega,?_⟩
   refine ⟨by decide +kernel,?_⟩
   rw [hQ3]
   simp only [go_sem]
   refine ⟨⟨j+1,by omega⟩,by show (s.fl).length-(j+1)<_;omega,tau [([98],[51])],?_⟩
   simp only [bx6,iV,List.cons_append,List.nil_append,ab]
   simp only [go_sem]
   rw [show List.take j (((s.fl).take j).map fun q=>au (mvF m q))=((s.fl).take j).map fun q=>au (mvF m q) from List.take_of_length_le (by simp;omega),← bh h4',aa ⟨by omega,by omega⟩]
   (repeat' apply And.intro)<;>first | rfl | trivial
  have h5:j=(s.fl).length:=by omega
  subst h5
  rw [List.take_length,hQ3]
  simp only [go_sem]
  clear E3 E4 hQ3 Q3
  refine eR E [98] (some 2) (s.fl.map fun q=>au (mvF m q)) rfl ?_
  simp only [go_sem]
  refine bP E [5] 12 97 (some 2) (bx6 ({ s with dom:=atL m s.dom,cod:=atL m s.cod }) (.d (.sl (some 2) (s.fl.map fun q=>au (mvF m q)))) (.d .nils)) rfl rfl (by rw [ag];decide) ?_
  simp only [bx6]
  simp only [go_sem]
  refine an E (X:={ j:Nat // j≤(s.tl).length }) (fun x=>[(1,.d (.sl none (m.map i64))),(2,.d (.ptr (stD s))),(4,.bx [4] 0),(5,.bx [5] 0),(7,.d (i64 x.1))])
   (fun x=>[([4],.box iV),([5],.box (bx6 ({ s with dom:=atL m s.dom,cod:=atL m s.cod }) (.d (.sl (some 2) (s.fl.map fun q=>au (mvF m q)))) (.vw [97] 0 x.1))),([97],.arr (some 2) (((s.tl).take x.1).map fun q=>au (mvF m q)))]) [97,5,4] (fun x=>(s.tl).length-x.1) ⟨0,Nat.zero_le _⟩ id ?_ ?_
  ·simp only [bx6,iV,List.cons_append,List.nil_append,ab]
   simp only [go_sem]
   all_goals ((repeat' apply And.intro)<;>first | rfl | trivial)
  rintro ⟨j,hj⟩ E3
  refine aK E3 fun Q3 hQ3 E4=>?_
  simp only [bx6,iV,List.cons_append,List.nil_append,ab] at hj ⊢
  simp only [go_sem]
  refine ak E4 (fun h4=>?_) (fun h4=>?_)<;>simp only [go_sem]
  ·have h4':j<(s.tl).length:=by omega
   obtain ⟨z0,z1⟩:=htl _ (List.getElem_mem h4')
   refine ai mixed E4 fun X=>?_
   simp only [go_sem]
   refine ⟨by omega,?_⟩
   rw [aw h4']
   simp only [go_sem]
   refine ⟨by omega,?_⟩
   rw [aw h4']
   simp only [go_sem]
   refine ⟨by omega,?_⟩
   rw [hgx z0 z1]
   simp only [go_sem]
   refine ⟨by omega,?_⟩
   refine ⟨by decide +kernel,?_⟩
   rw [hQ3]
   simp only [go_sem]
   refine ⟨⟨j+1,by omega⟩,by show (s.tl).length-(j+1)<_;omega,tau [([97],[79])],?_⟩
   simp only [bx6,iV,List.cons_append,List.nil_append,ab]
   simp only [go_sem]
   rw [show List.take j (((s.tl).take j).map fun q=>au (mvF m q))=((s.tl).take j).map fun q=>au (mvF m q) from List.take_of_length_le (by simp;omega),← bh h4',aa ⟨by omega,by omega⟩]
   (repeat' apply And.intro)<;>first | rfl | trivial
  have h5:j=(s.tl).length:=by omega
  subst h5
  rw [List.take_length,hQ3]
  simp only [go_sem]
  clear E3 E4 hQ3 Q3
  refine ⟨[([97],some 2,(s.tl.map fun q=>au (mvF m q)))],?_⟩
  simp only [go_sem]
  refine ⟨_,rfl,?_⟩
  have e1:stD (dN m s)=.agg [.bool s.plus,.bool s.al,.bool s.int,.bool s.bool,.bool s.str,.bool s.arr,.bool s.rc,.bool s.tg,.sl none (s.vars.map i64),i64 (atL m s.dom),i64 (atL m s.cod),.sl (some 2) (s.fl.map fun q=>au (mvF m q)),.sl (some 2) (s.tl.map fun q=>au (mvF m q))]:=by
   rw [ab]
   simp only [dN,EA.mv,ha,if_true,if_false,Bool.false_eq_true,List.map_map]
   rfl
  rw [e1]
  (try rw [List.take_of_length_le (Nat.le_of_eq (show (s.tl.map fun q=>au (mvF m q)).length=s.tl.length by simp))])
  exact .refl _
 ·refine ck E [2] (stD s) rfl rfl ?_
  simp only [ab]
  simp only [go_sem]
  refine bP E [5] 11 98 (some 2) (bx6 (s) (.d .nils) (.d .nils)) rfl rfl (by rw [ag];decide) ?_
  simp only [bx6]
  simp only [go_sem]
  refine an E (X:={ j:Nat // j≤(s.fl).length }) (fun x=>[(1,.d (.sl none (m.map i64))),(2,.d (.ptr (stD s))),(4,.bx [4] 0),(5,.bx [5] 0),(6,.d (i64 x.1))])
   (fun x=>[([4],.box iV),([5],.box (bx6 (s) (.vw [98] 0 x.1) (.d .nils))),([98],.arr (some 2) (((s.fl).take x.1).map fun q=>au (mvF m q)))]) [98,5,4] (fun x=>(s.fl).length-x.1) ⟨0,Nat.zero_le _⟩ id ?_ ?_
  ·simp only [bx6,iV,List.cons_append,List.nil_append,ab]
   simp only [go_sem]
   all_goals ((repeat' apply And.intro)<;>first | rfl | trivial)
  rintro ⟨j,hj⟩ E3
  refine aK E3 fun Q3 hQ3 E4=>?_
  simp only [bx6,iV,List.cons_append,List.nil_append,ab] at hj ⊢
  simp only [go_sem]
  refine ak E4 (fun h4=>?_) (fun h4=>?_)<;>simp only [go_sem]
  ·have h4':j<(s.fl).length:=by omega
   obtain ⟨z0,z1⟩:=hfl _ (List.getElem_mem h4')
   refine ai mixed E4 fun X=>?_
   simp only [go_sem]
   refine ⟨by omega,?_⟩
   rw [aw h4']
   simp only [go_sem]
   refine ⟨by omega,?_⟩
   rw [aw h4']
   simp only [go_sem]
   refine ⟨by omega,?_⟩
   rw [hgx z0 z1]
   simp only [go_sem]
   refine ⟨by omega,?_⟩
   refine ⟨by decide +kernel,?_⟩
   rw [hQ3]
   simp only [go_sem]
   refine ⟨⟨j+1,by omega⟩,by show (s.fl).length-(j+1)<_;omega,tau [([98],[51])],?_⟩
   simp only [bx6,iV,List.cons_append,List.nil_append,ab]
   simp only [go_sem]
   rw [show List.take j (((s.fl).take j).map fun q=>au (mvF m q))=((s.fl).take j).map fun q=>au (mvF m q) from List.take_of_length_le (by simp;omega),← bh h4',aa ⟨by omega,by omega⟩]
   (repeat' apply And.intro)<;>first | rfl | trivial
  have h5:j=(s.fl).length:=by omega
  subst h5
  rw [List.take_length,hQ3]
  simp only [go_sem]
  clear E3 E4 hQ3 Q3
  refine eR E [98] (some 2) (s.fl.map fun q=>au (mvF m q)) rfl ?_
  simp only [go_sem]
  refine bP E [5] 12 97 (some 2) (bx6 (s) (.d (.sl (some 2) (s.fl.map fun q=>au (mvF m q)))) (.d .nils)) rfl rfl (by rw [ag];decide) ?_
  simp only [bx6]
  simp only [go_sem]
  refine an E (X:={ j:Nat // j≤(s.tl).length }) (fun x=>[(1,.d (.sl none (m.map i64))),(2,.d (.ptr (stD s))),(4,.bx [4] 0),(5,.bx [5] 0),(7,.d (i64 x.1))])
   (fun x=>[([4],.box iV),([5],.box (bx6 (s) (.d (.sl (some 2) (s.fl.map fun q=>au (mvF m q)))) (.vw [97] 0 x.1))),([97],.arr (some 2) (((s.tl).take x.1).map fun q=>au (mvF m q)))]) [97,5,4] (fun x=>(s.tl).length-x.1) ⟨0,Nat.zero_le _⟩ id ?_ ?_
  ·simp only [bx6,iV,List.cons_append,List.nil_append,ab]
   simp only [go_sem]
   all_goals ((repeat' apply And.intro)<;>first | rfl | trivial)
  rintro ⟨j,hj⟩ E3
  refine aK E3 fun Q3 hQ3 E4=>?_
  simp only [bx6,iV,List.cons_append,List.nil_append,ab] at hj ⊢
  simp only [go_sem]
  refine ak E4 (fun h4=>?_) (fun h4=>?_)<;>simp only [go_sem]
  ·have h4':j<(s.tl).length:=by omega
   obtain ⟨z0,z1⟩:=htl _ (List.getElem_mem h4')
   refine ai mixed E4 fun X=>?_
   simp only [go_sem]
   refine ⟨by omega,?_⟩
   rw [aw h4']
   simp only [go_sem]
   refine ⟨by omega,?_⟩
   rw [aw h4']
   simp only [go_sem]
   refine ⟨by omega,?_⟩
   rw [hgx z0 z1]
   simp only [go_sem]
   refine ⟨by omega,?_⟩
   refine ⟨by decide +kernel,?_⟩
   rw [hQ3]
   simp only [go_sem]
   refine ⟨⟨j+1,by omega⟩,by show (s.tl).length-(j+1)<_;omega,tau [([97],[79])],?_⟩
   simp only [bx6,iV,List.cons_append,List.nil_append,ab]
   simp only [go_sem]
   rw [show List.take j (((s.tl).take j).map fun q=>au (mvF m q))=((s.tl).take j).map fun q=>au (mvF m q) from List.take_of_length_le (by simp;omega),← bh h4',aa ⟨by omega,by omega⟩]
   (repeat' apply And.intro)<;>first | rfl | trivial
  have h5:j=(s.tl).length:=by omega
  subst h5
  rw [List.take_length,hQ3]
  simp only [go_sem]
  clear E3 E4 hQ3 Q3
  refine ⟨[([97],some 2,(s.tl.map fun q=>au (mvF m q)))],?_⟩
  simp only [go_sem]
  refine ⟨_,rfl,?_⟩
  have e1:stD (dN m s)=.agg [.bool s.plus,.bool s.al,.bool s.int,.bool s.bool,.bool s.str,.bool s.arr,.bool s.rc,.bool s.tg,.sl none (s.vars.map i64),i64 s.dom,i64 s.cod,.sl (some 2) (s.fl.map fun q=>au (mvF m q)),.sl (some 2) (s.tl.map fun q=>au (mvF m q))]:=by
   rw [ab]
   simp only [dN,EA.mv,ha,if_true,if_false,Bool.false_eq_true,List.map_map]
   rfl
  rw [e1]
  (try rw [List.take_of_length_le (Nat.le_of_eq (show (s.tl.map fun q=>au (mvF m q)).length=s.tl.length by simp))])
  exact .refl _
end Go.Proofs.YthfodompfpdmgaaGreatDoor

namespace Go.Proofs.YthfodompfpdmgaaGreatDoor
open Go.Ab
theorem y5 (L:List Nat):L.map nD=(L.map fun k:Nat=>(k:Int)).map i64:=by simp [nD,Function.comp_def]
theorem vG (L:List Nat) (y:Nat):((y:Int)∈L.map fun k:Nat=>(k:Int))↔y∈L:=by
 simp only [List.mem_map]
 constructor
 ·rintro ⟨a,h,e⟩
  have:a=y:=by omega
  exact this ▸ h
 ·exact fun h=>⟨y,h,rfl⟩
set_option maxHeartbeats 4000000 in
theorem Ar {G} (l:List EA) (st:Nat) (hN:l.length≤1000000) (hs:∀ s∈l,InS s) (hin:InA l) (hst:st<l.length):HP Tryz.prog G 44 [auD l st] (fun r=>r=.d (auD (aG l st) 0)):=by
 unfold auD
 have hnd:(aU l st).Nodup:=bK
 have hlt:=eC hin hst
 have hll:=dp hin hst
 refine aV Tryz.func44 rfl (by decide +kernel) (by simp [Tryz.ntmps44]) (veil fun E=>?_)
 simp only [go_sem]
 refine ck E [1] (.agg [.sl (some 13) (l.map stD),i64 st]) rfl rfl ?_
 simp only [go_sem]
 refine an E (X:={ x:Nat × List Nat // Bf l (aU l st) x.1 x.2∧x.1≤x.2.length }) (fun x=>[(1,.d (.ptr (.agg [.sl (some 13) (l.map stD),i64 st]))),(2,.bx [2] 0),(3,.vw [99] 0 x.1.2.length),(4,.d (i64 x.1.1))])
  (fun x=>[([2],.box [.d .nils,.d (i64 0)]),([99],.arr none (x.1.2.map nD))]) [99,2] (fun x=>l.length-x.1.1) ⟨(0,[st]),.init hst,by simp⟩ (tau [([99],[13])]) ?_ ?_
 ·simp only [go_sem]
  all_goals first | rfl | ((repeat' apply And.intro)<;>first | rfl | trivial)
 rintro ⟨⟨i,L⟩,hbf,hiL⟩ E0
 refine aK E0 fun Q' hQ E'=>?_
 simp only at hbf hiL ⊢
 simp only [go_sem]
 refine ak E' (fun h1=>?_) (fun h1=>?_)<;>simp only [go_sem]
 ·have hi:i<L.length:=by omega
  have hx:L[i]<l.length:=hbf.lt _ (List.getElem_mem hi)
  have hgx:(L.map nD).getD i .nilp=i64 (L[i]:Nat):=by simp [hi,nD]
  refine ai mixed E' fun X=>?_
  simp only [go_sem]
  refine ⟨by omega,?_⟩
  rw [hgx]
  simp only [go_sem]
  refine ⟨by omega,?_⟩
  rw [bJ hx]
  have hsx:=hs _ (List.getElem_mem hx)
  have c1:=qc (G:=G) l[L[i]] hsx
  have hnx:nxA l L[i]=l[L[i]].next.map Int.toNat:=by rw [nxA,List.getD_eq_getElem?_getD,List.getElem?_eq_getElem hx];rfl
  have hni:∀ z∈l[L[i]].next,0≤z∧z<l.length:=hin _ (List.getElem_mem hx)
  have hnl:l[L[i]].next.length≤900000:=by
   have:=hsx.f
   have:=hsx.t
   rw [cN,dV]
   split<;>simp<;>omega
  generalize l[L[i]]=s at *
  obtain ⟨K,hK⟩:∃ K,K=s.next:=⟨_,rfl⟩
  rw [← hK] at hnx hni hnl c1
  unfold ay at c1
  simp only [ab] at c1 ⊢
  simp only [go_sem]
  refine aO X c1 rfl rfl (by simp) ?_
  simp only [go_sem]
  refine ⟨by decide +kernel,?_⟩
  refine an E' (X:={ j:Nat // j≤K.length }) (fun y=>[(1,.d (.ptr (.agg [.sl (some 13) (l.map stD),i64 st]))),(2,.bx [2] 0),(3,.vw [99] 0 (cA L ((nxA l L[i]).take y.1)).length),(4,.d (i64 i)),(5,.d (.sl none (K.map i64))),(6,.d (i64 y.1))])
   (fun y=>[([2],.box [.d .nils,.d (i64 0)]),([99],.arr none ((cA L ((nxA l L[i]).take y.1)).map nD))]) [99,2] (fun y=>K.length-y.1) ⟨0,Nat.zero_le _⟩ id ?_ ?_
  ·simp only [go_sem]
   all_goals first | rfl | ((repeat' apply And.intro)<;>first | rfl | trivial)
  rintro ⟨j,hj⟩ E3
  refine aK E3 fun Q2 hQ2 E2=>?_
  simp only at hj ⊢
  obtain ⟨L2,hL2⟩:∃ L2,cA L ((nxA l L[i]).take j)=L2:=⟨_,rfl⟩
  rw [hL2]
  simp only [go_sem]
  refine ak E2 (fun h3=>?_) (fun h3=>?_)<;>simp only [go_sem]
  ·have hj':j<K.length:=by omega
   have hjn:j<(nxA l L[i]).length:=by rw [hnx];simpa using hj'
   have hst2:=pC (L:=L) hjn
   rw [hL2] at hst2
   obtain ⟨hz0,hz1⟩:=hni _ (List.getElem_mem hj')
   have hkj:(nxA l L[i])[j]=K[j].toNat:=by simp only [hnx,List.getElem_map]
   rw [hkj] at hst2
   obtain ⟨y,hy⟩:∃ y,K[j].toNat=y:=⟨_,rfl⟩
   have hyl:y<l.length:=by omega
   have hyK:K[j]=(y:Int):=by omega
   rw [hy] at hst2
   have hn2:L2.Nodup:=by rw [← hL2];exact cZ _ _ hbf.nd
   have hlt2:∀ x∈L2,x<l.length:=by
    rw [← hL2]
    refine j8 hbf.lt fun x hx=>?_
    have hx:=List.mem_of_mem_take hx
    rw [hnx] at hx
    obtain ⟨z,hz,rfl⟩:=List.mem_map.1 hx
    have:=hni z hz
    omega
   have hl2:=aH hn2 hlt2
   refine ⟨by omega,?_⟩
   rw [dU hj',hyK]
   simp only [go_sem]
   have c2:=DS (G:=G) (L2.map fun k:Nat=>(k:Int)) (y:Int) (by simp;omega)
   unfold ay at c2
   rw [← y5] at c2
   refine A7 E2 [([99],none,L2.map nD)] c2 (by rintro _ rfl;rfl) (by simp only [go_sem]) (by simp only [go_sem];try rfl) (by simp only [go_sem];try rfl) (by simp) ?_
   rintro _ rfl
   simp only [go_sem]
   refine bG E2 (fun hm=>?_) (fun hm=>?_)<;>simp only [go_sem]
   ·have hm:y ∉ L2:=by simpa [vG] using hm
    rw [if_neg hm] at hst2
    refine ⟨by omega,?_⟩
    rw [dU hj',hyK]
    simp only [go_sem]
    refine ⟨by omega,?_⟩
    rw [hQ2]
    simp only [go_sem]
    refine ⟨⟨j+1,by omega⟩,by show K.length-(j+1)<_;omega,tau [([99],[48])],?_⟩
    simp only [go_sem]
    rw [hst2,aa ⟨by omega,by omega⟩,List.length_append,List.map_append]
    (repeat' apply And.intro)<;>first | rfl | trivial
   ·have hm:y∈L2:=by simpa [vG] using hm
    rw [if_pos hm] at hst2
    rw [hQ2]
    simp only [go_sem]
    refine ⟨⟨j+1,by omega⟩,by show K.length-(j+1)<_;omega,id,?_⟩
    simp only [go_sem]
    rw [hst2,aa ⟨by omega,by omega⟩]
    (repeat' apply And.intro)<;>first | rfl | trivial
  ·have hje:j=(nxA l L[i]).length:=by rw [hnx,List.length_map];omega
   subst hje
   rw [List.take_length] at hL2
   have hnext:=hbf.next hin hi
   rw [hL2] at hnext
   rw [hQ2]
   simp only [go_sem]
   rw [hQ]
   simp only [go_sem]
   have hn2:=aH hbf.nd hbf.lt
   refine ⟨⟨(i+1,L2),hnext,?_⟩,by show l.length-(i+1)<_;omega,id,?_⟩
   ·obtain ⟨r,hr,_⟩:=fA (nxA l L[i]) L
    show i+1≤L2.length
    rw [← hL2,hr,List.length_append]
    omega
   ·simp only [go_sem]
    rw [aa ⟨by omega,by omega⟩]
    (repeat' apply And.intro)<;>first | rfl | trivial
 ·have hd:=hbf.done (by omega)
  rw [hQ]
  simp only [go_sem]
  clear E' hQ Q' E0
  refine ⟨⟨by omega,by omega,by omega,by omega⟩,?_⟩
  have hmap:=sH hin hst
  rw [hd] at hnd hlt hll hmap
  rw [show List.replicate l.length (D.int IntKind.i64 0)=(ef l.length []).map i64 from pw _]
  refine eR E [99] none (L.map nD) rfl ?_
  simp only [go_sem]
  refine an E (X:={ k:Nat // k≤L.length }) (fun x=>[(1,.d (.ptr (.agg [.sl (some 13) (l.map stD),i64 st]))),(2,.bx [2] 0),(3,.d (.sl none (L.map nD))),(7,.vw [98] 0 l.length),(8,.d (i64 x.1))])
   (fun x=>[([2],.box [.d .nils,.d (i64 0)]),([98],.arr none ((ef l.length (L.take x.1)).map i64))]) [98,2] (fun x=>L.length-x.1) ⟨0,Nat.zero_le _⟩ (tau [([98],[52])]) ?_ ?_
  ·simp only [go_sem]
   all_goals first | rfl | ((repeat' apply And.intro)<;>first | rfl | trivial)
  rintro ⟨k,hk⟩ E0
  refine aK E0 fun Q' hQ E'=>?_
  simp only at hk ⊢
  simp only [go_sem]
  refine ak E' (fun h2=>?_) (fun h2=>?_)<;>simp only [go_sem]
  ·have h2':k<L.length:=by omega
   have hxl:=hlt _ (List.getElem_mem h2')
   have hgx:(L.map nD).getD k .nilp=i64 (L[k]:Nat):=by simp [h2',nD]
   refine ⟨by omega,?_⟩
   rw [hgx]
   simp only [go_sem]
   refine ⟨by omega,?_⟩
   rw [si hnd h2',hQ]
   simp only [go_sem]
   refine ⟨⟨k+1,by omega⟩,by show L.length-(k+1)<_;omega,id,?_⟩
   simp only [go_sem]
   rw [aa ⟨by omega,by omega⟩]
   (repeat' apply And.intro)<;>first | rfl | trivial | (rw [fS,fS];exact Nat.le_refl _)
  ·have h3:k=L.length:=by omega
   subst h3
   rw [List.take_length,hQ]
   simp only [go_sem]
   clear E' hQ Q' E0
   refine eR E [98] none ((ef l.length L).map i64) rfl ?_
   simp only [go_sem]
   rw [List.take_of_length_le (Nat.le_of_eq (show ((ef l.length L).map i64).length=l.length by simp [ef]))]
   obtain ⟨m,hm⟩:∃ m,ef l.length L=m:=⟨_,rfl⟩
   have hml:m.length=l.length:=by rw [← hm,fS]
   rw [hm] at hmap ⊢
   refine bP E [9] 0 97 (some 13) [.d .nils,.d (i64 0)] rfl rfl (by rw [ag];decide) ?_
   simp only [go_sem]
   refine an E (X:={ k:Nat // k≤L.length }) (fun x=>[(1,.d (.ptr (.agg [.sl (some 13) (l.map stD),i64 st]))),(2,.bx [2] 0),(3,.d (.sl none (L.map nD))),(7,.d (.sl none (m.map i64))),(9,.bx [9] 0),(10,.d (i64 x.1))])
    (fun x=>[([2],.box [.d .nils,.d (i64 0)]),([9],.box [.vw [97] 0 x.1,.d (i64 0)]),([97],.arr (some 13) ((L.take x.1).map fun y=>stD (dN m (l.getD y default))))]) [97,9,2] (fun x=>L.length-x.1) ⟨0,Nat.zero_le _⟩ id ?_ ?_
   ·simp only [go_sem]
    all_goals first | rfl | ((repeat' apply And.intro)<;>first | rfl | trivial)
   rintro ⟨k,hk⟩ E0
   refine aK E0 fun Q' hQ E'=>?_
   simp only at hk ⊢
   simp only [go_sem]
   refine ak E' (fun h2=>?_) (fun h2=>?_)<;>simp only [go_sem]
   ·have h2':k<L.length:=by omega
    have hxl:=hlt _ (List.getElem_mem h2')
    have hmem:=cC hxl
    have hgx:(L.map nD).getD k .nilp=i64 (L[k]:Nat):=by simp [h2',nD]
    have hgs:l[L[k]]=l.getD L[k] default:=by simp [hxl]
    have c3:=zQ (G:=G) (l.getD L[k] default) m (hs _ hmem) (by rw [hml];exact hin _ hmem)
    refine ai mixed E' fun X=>?_
    simp only [go_sem]
    refine ⟨by omega,?_⟩
    rw [hgx]
    simp only [go_sem]
    refine ⟨by omega,?_⟩
    rw [bJ hxl,hgs]
    generalize hse:l.getD L[k] default=s at c3 ⊢
    unfold ay at c3
    rw [ab,ab] at c3
    simp only [ab]
    simp only [go_sem]
    refine aO X c3 rfl rfl (by simp) ?_
    simp only [go_sem]
    refine ⟨by omega,by decide +kernel,?_⟩
    rw [hQ]
    simp only [go_sem]
    refine ⟨⟨k+1,by omega⟩,by show L.length-(k+1)<_;omega,tau [([97],[86])],?_⟩
    simp only [go_sem]
    rw [List.take_of_length_le (by rw [List.length_map,List.length_take];omega),← bh h2',hse,ab (dN m s),aa ⟨by omega,by omega⟩]
    (repeat' apply And.intro)<;>first | rfl | trivial
   ·have h3:k=L.length:=by omega
    subst h3
    rw [List.take_length,hQ]
    simp only [go_sem]
    refine ⟨[([97],some 13,(L.map fun y=>stD (dN m (l.getD y default))))],?_⟩
    simp only [go_sem]
    rw [hmap]
end Go.Proofs.YthfodompfpdmgaaGreatDoor

namespace Go.Proofs.YthfodompfpdmgaaGreatDoor
open Go.Ab
def cL (l:List Fld):List (List UInt8):=l.map (·.1)
theorem rD {a b:List Fld} {j:Nat} (h1:j<a.length) (h2:j<b.length) (h:(cL a).take j=(cL b).take j) (e:a[j].1=b[j].1):(cL a).take (j+1)=(cL b).take (j+1):=by
 have l1:j<(cL a).length:=by simpa [cL] using h1
 have l2:j<(cL b).length:=by simpa [cL] using h2
 rw [List.take_succ_eq_append_getElem l1,List.take_succ_eq_append_getElem l2,h]
 congr 2
 simpa [cL] using e
theorem yn {a b:List Fld} {j:Nat} (h1:j<a.length) (h2:j<b.length) (e:a[j].1≠b[j].1):cL a≠cL b:=by
 intro h
 apply e
 have:=congrArg (fun l:List (List UInt8)=>l[j]?) h
 simpa [cL,h1,h2] using this
set_option maxRecDepth 20000 in
set_option maxHeartbeats 4000000 in
theorem De {G} (s t:EA) (hs:InS s) (_ht:InS t):HP Tryz.prog G 42 [stD s,stD t] (fun r=>r=.d (.bool (!decide (s.self=t.self)))):=by
 have c1:=pV (G:=G) s.vars t.vars hs.v
 obtain ⟨hv,hf,ht1,hfs,hts⟩:=hs
 rw [ab,ab]
 unfold ay at c1
 refine aq Tryz.func42 rfl (by decide +kernel) (by simp [Tryz.ntmps42]) (veil fun E=>?_)
 simp only [go_sem]
 dsimp only [List.append_eq,List.cons_append,List.nil_append]
 simp only [go_sem]
 repeat (first
  | (apply fp E;(· simp only [go_sem]);(· intro h;(try simp only [bq] at h);simp only [↓h,go_sem];rfl);simp only [go_sem])
  | (apply cT E;(· simp only [go_sem]);(· intro h;(try simp only [bq] at h);simp only [↓h,go_sem];rfl);(· intro h;(try simp only [bq] at h);simp only [↓h,go_sem];rfl);simp only [go_sem])
  | (apply cV E;(· simp only [go_sem]);(· rfl);(· intro h h';(try simp only [bq] at h h');simp only [↓h,↓h',go_sem];rfl);simp only [go_sem])
  | (apply bH E;(· simp only [go_sem]);(· rfl);(· intro h h';(try simp only [bq] at h h');simp only [↓h,↓h',go_sem];rfl);(· intro h h';(try simp only [bq] at h h');simp only [↓h,↓h',go_sem];rfl);simp only [go_sem])
  | (apply eK E;(· decide);simp only [go_sem]))
 (first | (apply gQ E;(· simp only [go_sem]);(· intro h hk;(try simp only [bq] at h);refine ae E (c1) rfl (by simp only [↓h,go_sem]<;>rfl) (by simp) ?_;rintro _ rfl;exact hk);simp only [go_sem]) | (apply fu E;(· simp only [go_sem]);(· rfl);(· intro h h' hk;(try simp only [bq] at h h');refine ae E (c1) rfl (by simp only [↓h,↓h',go_sem]<;>rfl) (by simp) ?_;rintro _ rfl;exact hk);simp only [go_sem]))
 repeat (first
  | (apply fp E;(· simp only [go_sem]);(· intro h;(try simp only [bq] at h);simp only [↓h,go_sem];rfl);simp only [go_sem])
  | (apply cT E;(· simp only [go_sem]);(· intro h;(try simp only [bq] at h);simp only [↓h,go_sem];rfl);(· intro h;(try simp only [bq] at h);simp only [↓h,go_sem];rfl);simp only [go_sem])
  | (apply cV E;(· simp only [go_sem]);(· rfl);(· intro h h';(try simp only [bq] at h h');simp only [↓h,↓h',go_sem];rfl);simp only [go_sem])
  | (apply bH E;(· simp only [go_sem]);(· rfl);(· intro h h';(try simp only [bq] at h h');simp only [↓h,↓h',go_sem];rfl);(· intro h h';(try simp only [bq] at h h');simp only [↓h,↓h',go_sem];rfl);simp only [go_sem])
  | (apply eK E;(· decide);simp only [go_sem]))
 have hself:(s.self=t.self)↔(s.plus=t.plus∧s.al=t.al∧s.int=t.int∧s.bool=t.bool∧s.str=t.str∧s.arr=t.arr∧s.rc=t.rc∧s.tg=t.tg∧s.vars=t.vars)∧cL s.fl=cL t.fl∧cL s.tl=cL t.tl:=by
  simp only [EA.self,Prod.mk.injEq,List.cons.injEq,and_true,cL]
  constructor
  ·rintro ⟨⟨⟨a,b,c,d,e,f,g,h⟩,i⟩,j,k⟩
   exact ⟨⟨a,b,c,d,e,f,g,h,i⟩,j,k⟩
  ·rintro ⟨⟨a,b,c,d,e,f,g,h,i⟩,j,k⟩
   exact ⟨⟨⟨a,b,c,d,e,f,g,h⟩,i⟩,j,k⟩
 refine bG E (fun h=>?_) (fun h=>?_)<;>simp only [go_sem]
 ·have:¬ (s.self=t.self):=by
   rw [hself]
   rintro ⟨⟨a,b,c,d,e,f,g,h,i⟩,j,k⟩
   have j:=congrArg List.length j
   have k:=congrArg List.length k
   simp only [cL,List.length_map] at j k
   simp_all
  rw [decide_eq_false this]
  rfl
 simp only [Bool.or_eq_false_iff,Bool.not_eq_false',beq_iff_eq,decide_eq_true_eq,decide_eq_false_iff_not] at h
 obtain ⟨⟨⟨⟨⟨⟨⟨⟨⟨⟨e1,e2⟩,e3⟩,e4⟩,e5⟩,e6⟩,e7⟩,e8⟩,e9⟩,e10⟩,e11⟩:=h
 have e12:s.fl.length=t.fl.length:=by omega
 have e13:s.tl.length=t.tl.length:=by omega
 refine ck E [2] (stD s) rfl rfl ?_
 simp only [ab]
 simp only [go_sem]
 refine ck E [3] (stD t) rfl rfl ?_
 simp only [ab]
 simp only [go_sem]
 refine aX E (X:={ j:Nat // j≤(s.fl).length∧(cL (s.fl)).take j=(cL (t.fl)).take j }) (fun x=>[(2,.d (.ptr (stD s))),(3,.d (.ptr (stD t))),(5,.d (i64 x.1))]) (fun x=>(s.fl).length-x.1) rfl ⟨0,Nat.zero_le _,rfl⟩ ?_ ?_
 ·simp only [ab]
  simp only [go_sem]
  all_goals ((repeat' apply And.intro)<;>first | rfl | trivial)
 rintro ⟨j,hj,hjn⟩ E'
 simp only [ab] at hj ⊢
 simp only [go_sem]
 refine ak E' (fun h1=>?_) (fun h1=>?_)<;>simp only [go_sem]
 ·have h1':j<(s.fl).length:=by omega
  have h2':j<(t.fl).length:=by omega
  refine ai mixed E' fun X=>?_
  simp only [go_sem]
  refine ⟨by omega,?_⟩
  rw [aw h1']
  simp only [go_sem]
  refine ⟨by omega,?_⟩
  rw [aw h2']
  simp only [go_sem]
  refine ⟨by decide +kernel,?_⟩
  refine bG E' (fun h3=>?_) (fun h3=>?_)<;>simp only [go_sem]
  ·have h3:(s.fl)[j].1≠(t.fl)[j].1:=by simpa using h3
   have hne:=yn h1' h2' h3
   have:¬ (s.self=t.self):=fun h=>(hne (hself.1 h).2.1)
   rw [decide_eq_false this]
   rfl
  ·have h3:(s.fl)[j].1=(t.fl)[j].1:=by simpa using h3
   refine ⟨⟨j+1,by omega,rD h1' h2' hjn h3⟩,by show (s.fl).length-(j+1)<_;omega,?_⟩
   rw [aa ⟨by omega,by omega⟩]
   (repeat' apply And.intro)<;>first | rfl | trivial
 have hje:j=(s.fl).length:=by omega
 subst hje
 rw [List.take_of_length_le (by simp [cL]),List.take_of_length_le (by simp [cL];omega)] at hjn
 clear E'
 have hfn:=hjn
 clear hjn
 refine aX E (X:={ j:Nat // j≤(s.tl).length∧(cL (s.tl)).take j=(cL (t.tl)).take j }) (fun x=>[(2,.d (.ptr (stD s))),(3,.d (.ptr (stD t))),(6,.d (i64 x.1))]) (fun x=>(s.tl).length-x.1) rfl ⟨0,Nat.zero_le _,rfl⟩ ?_ ?_
 ·simp only [ab]
  simp only [go_sem]
  all_goals ((repeat' apply And.intro)<;>first | rfl | trivial)
 rintro ⟨j,hj,hjn⟩ E'
 simp only [ab] at hj ⊢
 simp only [go_sem]
 refine ak E' (fun h1=>?_) (fun h1=>?_)<;>simp only [go_sem]
 ·have h1':j<(s.tl).length:=by omega
  have h2':j<(t.tl).length:=by omega
  refine ai mixed E' fun X=>?_
  simp only [go_sem]
  refine ⟨by omega,?_⟩
  rw [aw h1']
  simp only [go_sem]
  refine ⟨by omega,?_⟩
  rw [aw h2']
  simp only [go_sem]
  refine ⟨by decide +kernel,?_⟩
  refine bG E' (fun h3=>?_) (fun h3=>?_)<;>simp only [go_sem]
  ·have h3:(s.tl)[j].1≠(t.tl)[j].1:=by simpa using h3
   have hne:=yn h1' h2' h3
   have:¬ (s.self=t.self):=fun h=>(hne (hself.1 h).2.2)
   rw [decide_eq_false this]
   rfl
  ·have h3:(s.tl)[j].1=(t.tl)[j].1:=by simpa using h3
   refine ⟨⟨j+1,by omega,rD h1' h2' hjn h3⟩,by show (s.tl).length-(j+1)<_;omega,?_⟩
   rw [aa ⟨by omega,by omega⟩]
   (repeat' apply And.intro)<;>first | rfl | trivial
 have hje:j=(s.tl).length:=by omega
 subst hje
 rw [List.take_of_length_le (by simp [cL]),List.take_of_length_le (by simp [cL];omega)] at hjn
 rw [decide_eq_true (hself.2 ⟨⟨e1,e2,e3,e4,e5,e6,e7,e8,e9⟩,hfn,hjn⟩)]
 rfl
end Go.Proofs.YthfodompfpdmgaaGreatDoor

namespace Go.Proofs.YthfodompfpdmgaaGreatDoor
open Go.Ab
def jn (n:Nat) (S:Nat→Bool):List D:=(List.range n).map fun q=>D.bool (S q)
theorem mK {n:Nat} {S:Nat→Bool} {q:Nat} (h:q<n):(jn n S).getD q .nilp=.bool (S q):=by simp [jn,h]
theorem rY {n:Nat} {S:Nat→Bool} {q:Nat}:(jn n S).set q (.bool true)=jn n (fun x=>S x || decide (x=q)):=by
 refine List.ext_getElem (by simp [jn]) fun p h1 h2=>?_
 simp only [List.getElem_set,jn,List.getElem_map,List.getElem_range]
 by_cases e:q=p
 ·subst e;simp
 ·have:¬ p=q:=fun h=>e h.symm
  simp [e,this]
theorem xP (n:Nat):List.replicate n (D.bool false)=jn n (fun _=>false):=by
 refine List.ext_getElem (by simp [jn]) fun p h1 h2=>?_
 simp [jn]
def nO (n:Nat) (S:Nat→Bool):Nat:=((List.range n).filter fun q=>!S q).length
theorem AZ {n:Nat} {S:Nat→Bool} {q:Nat} (hq:q<n) (h:S q=false):nO n (fun x=>S x || decide (x=q))<nO n S:=by
 have hle:∀ L:List Nat,(L.filter fun x=>!S x && !decide (x=q)).length≤(L.filter fun x=>!S x).length:=by
  intro L
  induction L with
  | nil=>simp
  | cons a r ih =>
    simp only [List.filter_cons]
    by_cases e:a=q
    ·subst e
     simp only [decide_true,Bool.not_true,Bool.and_false,Bool.false_eq_true,if_false]
     split<;>(try simp only [List.length_cons])<;>omega
    ·cases hS:S a<;>simp [e]<;>omega
 have key:∀ (L:List Nat),q∈L→(L.filter fun x=>!S x && !decide (x=q)).length<(L.filter fun x=>!S x).length:=by
  intro L
  induction L with
  | nil=>simp
  | cons a r ih =>
    intro hm
    by_cases e:a=q
    ·subst e
     have:=hle r
     simp [h]
     omega
    ·have:=ih (by rcases List.mem_cons.1 hm with h | h;exact absurd h.symm e;exact h)
     cases hS:S a<;>simp [hS,e] at *<;>omega
 have:=key _ (List.mem_range.2 hq)
 simp only [nO,Bool.not_or]
 exact this
theorem qN {i j N:Nat} (hi:i<N) (hj:j<N):i*N+j<N*N:=by
 have h1:(i+1)*N≤N*N:=Nat.mul_le_mul_right N hi
 rw [Nat.succ_mul] at h1
 omega
theorem BN {i j a b N:Nat} (hj:j<N) (hb:b<N) (h:i*N+j=a*N+b):i=a∧j=b:=by
 have hN:0<N:=by omega
 have h1:(i*N+j) / N=i:=by rw [Nat.mul_comm,Nat.mul_add_div hN,Nat.div_eq_of_lt hj];rfl
 have h2:(a*N+b) / N=a:=by rw [Nat.mul_comm,Nat.mul_add_div hN,Nat.div_eq_of_lt hb];rfl
 have:i=a:=by rw [← h1,h,h2]
 subst this
 exact ⟨rfl,by omega⟩
def B6 (l:List EA) (S:Nat→Bool):Prop:=∀ i j,i<l.length→j<l.length→S (i*l.length+j)=true→¬ alike l i j
def pG (l:List EA) (S:Nat→Bool) (i j:Nat):Prop:=S (i*l.length+j)=true∨(sfA l i=sfA l j∧∀ (k a b:Nat),(nxA l i)[k]?=some a→(nxA l j)[k]?=some b→S (a*l.length+b)=false)
structure Mk (l:List EA) (S0 S:Nat→Bool) (ch:Bool) (i j:Nat):Prop where
 ok:B6 l S
 le:nO (l.length*l.length) S≤nO (l.length*l.length) S0
 lt:ch=true→nO (l.length*l.length) S<nO (l.length*l.length) S0
 same:ch=false→S=S0∧∀ a b,a<l.length→b<l.length→(a<i∨(a=i∧b<j))→pG l S a b
theorem Mk.mark {l:List EA} {S0 S:Nat→Bool} {ch:Bool} {i j:Nat} (h:Mk l S0 S ch i j) (hi:i<l.length) (hj:j<l.length) (hS:S (i*l.length+j)=false) (hn:¬ alike l i j):Mk l S0 (fun x=>S x || decide (x=i*l.length+j)) true i (j+1):=by
 have hc:=AZ (qN hi hj) hS
 refine ⟨fun a b ha hb hab=>?_,by have:=h.le;omega,fun _=>by have:=h.le;omega,fun h=>by cases h⟩
 simp only [Bool.or_eq_true,decide_eq_true_eq] at hab
 rcases hab with hab | hab
 ·exact h.ok a b ha hb hab
 ·obtain ⟨rfl,rfl⟩:=BN hb hj hab
  exact hn
theorem Mk.pass {l:List EA} {S0 S:Nat→Bool} {ch:Bool} {i j:Nat} (h:Mk l S0 S ch i j) (hr:pG l S i j):Mk l S0 S ch i (j+1):=by
 refine ⟨h.ok,h.le,h.lt,fun hc=>⟨(h.same hc).1,fun a b ha hb hab=>?_⟩⟩
 by_cases e:a=i∧b=j
 ·obtain ⟨rfl,rfl⟩:=e;exact hr
 ·exact (h.same hc).2 a b ha hb (by omega)
theorem Mk.row {l:List EA} {S0 S:Nat→Bool} {ch:Bool} {i:Nat} (h:Mk l S0 S ch i l.length):Mk l S0 S ch (i+1) 0 :=
 ⟨h.ok,h.le,h.lt,fun hc=>⟨(h.same hc).1,fun a b ha hb hab=>(h.same hc).2 a b ha hb (by omega)⟩⟩
theorem Mk.init {l:List EA} {S:Nat→Bool} (h:B6 l S):Mk l S S false 0 0:=⟨h,Nat.le_refl _,(fun h=>by cases h),fun _=>⟨rfl,(fun a b _ _ h=>by omega)⟩⟩
theorem D9 {l:List EA} (hin:InA l) {S:Nat→Bool} (hok:B6 l S) (hr:∀ a b,a<l.length→b<l.length→pG l S a b) {i j:Nat} (hi:i<l.length) (hj:j<l.length):alike l i j↔S (i*l.length+j)=false:=by
 refine wQ (N:=fun a b=>S (a*l.length+b)) hok hin (fun a b ha hb hab=>?_) hi hj
 rcases hr a b ha hb with h | h
 ·rw [hab] at h;cases h
 ·exact h
end Go.Proofs.YthfodompfpdmgaaGreatDoor

namespace Go.Proofs.YthfodompfpdmgaaGreatDoor
open Go.Ab
theorem mulw {i N:Nat} (h:i*N≤100000000):w64 ((i:Int)*(N:Int))=((i*N:Nat):Int):=by
 rw [← Int.natCast_mul,aa ⟨by omega,by omega⟩]
theorem addw {a b:Nat} (h:a+b≤100000000):w64 (((a:Nat):Int)+(b:Int))=((a+b:Nat):Int):=by
 rw [← Int.natCast_add,aa ⟨by omega,by omega⟩]
def auP (l:List EA) (st:Int):AV:=.d (.ptr (.agg [.sl (some 13) (l.map stD),i64 st]))
set_option maxHeartbeats 8000000 in
theorem zZ {G} (l:List EA) (st:Int) (hN:l.length≤4000) (hs:∀ s∈l,InS s) (hin:InA l):HP Tryz.prog G 21 [auD l st] (fun r=>∃ out:List Nat,cB l out∧r=.d (.sl none (out.map nD))):=by
 unfold auD
 have hNN:l.length*l.length≤16000000:=Nat.mul_le_mul hN hN
 refine aV Tryz.func21 rfl (by decide +kernel) (by simp [Tryz.ntmps21]) (veil fun E=>?_)
 simp only [go_sem]
 rw [mulw (by omega)]
 refine ⟨⟨by omega,by omega,by omega,by omega⟩,?_⟩
 rw [Int.toNat_natCast,xP]
 refine ck E [1] (.agg [.sl (some 13) (l.map stD),i64 st]) rfl rfl ?_
 simp only [go_sem]
 refine an E (X:={ x:(Nat→Bool) × Bool // B6 l x.1∧(x.2=false→∀ a b,a<l.length→b<l.length→pG l x.1 a b) }) (fun x=>[(1,auP l st),(3,.d (i64 l.length)),(4,.vw [98] 0 (l.length*l.length)),(5,.d (.bool x.1.2))])
  (fun x=>[([98],.arr none (jn (l.length*l.length) x.1.1))]) [98] (fun x=>2*nO (l.length*l.length) x.1.1+(if x.1.2 then 1 else 0)) ⟨(fun _=>false,true),fun _ _ _ _ h=>by (cases h),fun h=>by (cases h)⟩ (tau [([98],[21])]) ?_ ?_
 ·unfold auP
  simp only [go_sem]
  all_goals first | rfl | ((repeat' apply And.intro)<;>first | rfl | trivial)
 rintro ⟨⟨S,ch⟩,hok,hst⟩ E0
 refine aK E0 fun Q1 hQ1 E1=>?_
 simp only at hok hst ⊢
 unfold auP
 simp only [go_sem]
 refine bG E1 (fun hc=>?_) (fun hc=>?_)<;>simp only [go_sem]
 ·subst hc
  refine an E1 (X:={ x:Nat × ((Nat→Bool) × Bool) // x.1≤l.length∧Mk l S x.2.1 x.2.2 x.1 0 }) (fun x=>[(1,auP l st),(3,.d (i64 l.length)),(4,.vw [98] 0 (l.length*l.length)),(5,.d (.bool x.1.2.2)),(6,.d (i64 x.1.1))])
   (fun x=>[([98],.arr none (jn (l.length*l.length) x.1.2.1))]) [98] (fun x=>l.length-x.1.1) ⟨(0,(S,false)),Nat.zero_le _,.init hok⟩ id ?_ ?_
  ·unfold auP
   simp only [go_sem]
   all_goals first | rfl | ((repeat' apply And.intro)<;>first | rfl | trivial)
  rintro ⟨⟨i,S1,ch1⟩,hi,hmk1⟩ E0
  refine aK E0 fun Q2 hQ2 E2=>?_
  simp only at hi hmk1 ⊢
  unfold auP
  simp only [go_sem]
  refine ak E2 (fun h1=>?_) (fun h1=>?_)<;>simp only [go_sem]
  ·have hi':i<l.length:=by omega
   refine an E2 (X:={ x:Nat × ((Nat→Bool) × Bool) // x.1≤l.length∧Mk l S x.2.1 x.2.2 i x.1 }) (fun x=>[(1,auP l st),(3,.d (i64 l.length)),(4,.vw [98] 0 (l.length*l.length)),(5,.d (.bool x.1.2.2)),(6,.d (i64 i)),(7,.d (i64 x.1.1))])
    (fun x=>[([98],.arr none (jn (l.length*l.length) x.1.2.1))]) [98] (fun x=>l.length-x.1.1) ⟨(0,(S1,ch1)),Nat.zero_le _,hmk1⟩ id ?_ ?_
   ·unfold auP
    simp only [go_sem]
    all_goals first | rfl | ((repeat' apply And.intro)<;>first | rfl | trivial)
   rintro ⟨⟨j,S2,ch2⟩,hj,hmk⟩ E0
   refine aK E0 fun Q3 hQ3 E3=>?_
   simp only at hj hmk ⊢
   unfold auP
   simp only [go_sem]
   refine ak E3 (fun h2=>?_) (fun h2=>?_)<;>simp only [go_sem]
   ·have hj':j<l.length:=by omega
    have hq:=qN hi' hj'
    have hsi:=hs _ (List.getElem_mem hi')
    have hsj:=hs _ (List.getElem_mem hj')
    rw [mulw (by omega),addw (by omega)]
    refine ⟨by omega,?_⟩
    rw [Int.toNat_natCast,mK hq]
    simp only [go_sem]
    refine bG E3 (fun h3=>?_) (fun h3=>?_)<;>simp only [go_sem]
    ·rw [hQ3]
     simp only [go_sem]
     refine ⟨⟨(j+1,(S2,ch2)),by show j+1≤_;omega,hmk.pass (.inl h3)⟩,by show l.length-(j+1)<_;omega,id,?_⟩
     unfold auP
     simp only [go_sem]
     rw [aa ⟨by omega,by omega⟩]
     (repeat' apply And.intro)<;>first | rfl | trivial
    ·have c1:=De (G:=G) l[i] l[j] hsi hsj
     refine ai mixed E3 fun X=>?_
     simp only [go_sem]
     refine ⟨by omega,?_⟩
     rw [bJ hi']
     have hfi:sfA l i=l[i].self:=by rw [sfA,List.getD_eq_getElem?_getD,List.getElem?_eq_getElem hi'];rfl
     have hfj:sfA l j=l[j].self:=by rw [sfA,List.getD_eq_getElem?_getD,List.getElem?_eq_getElem hj'];rfl
     have hni:nxA l i=l[i].next.map Int.toNat:=by rw [nxA,List.getD_eq_getElem?_getD,List.getElem?_eq_getElem hi'];rfl
     have hnj:nxA l j=l[j].next.map Int.toNat:=by rw [nxA,List.getD_eq_getElem?_getD,List.getElem?_eq_getElem hj'];rfl
     have hii:=hin _ (List.getElem_mem hi')
     have hij:=hin _ (List.getElem_mem hj')
     have c2:=qc (G:=G) l[i] hsi
     have c3:=qc (G:=G) l[j] hsj
     have hnl:l[i].next.length≤900000:=by
      have:=hsi.f
      have:=hsi.t
      rw [cN,dV]
      split<;>simp<;>omega
     obtain ⟨s,hse⟩:∃ s,l[i]=s:=⟨_,rfl⟩
     obtain ⟨u,hue⟩:∃ u,l[j]=u:=⟨_,rfl⟩
     rw [hse] at c1 c2 hfi hni hii hnl ⊢
     rw [hue] at c1 c3 hfj hnj hij
     rw [ab s] at c1 c2 ⊢
     rw [ab u] at c1 c3
     simp only [go_sem]
     refine ⟨by omega,?_⟩
     rw [bJ hj',hue,ab u]
     simp only [go_sem]
     refine aO X c1 rfl rfl (by simp) ?_
     simp only [go_sem]
     refine ⟨by decide +kernel,?_⟩
     refine bG E3 (fun h4=>?_) (fun h4=>?_)<;>simp only [go_sem]
     ·have h4:s.self=u.self:=by simpa using h4
      have hlen:=tb h4
      refine ai mixed E3 fun X=>?_
      simp only [go_sem]
      refine ⟨by omega,?_⟩
      rw [bJ hi',hse,ab s]
      simp only [go_sem]
      refine aO X c2 rfl rfl (by simp) ?_
      unfold ay
      simp only [go_sem]
      refine ⟨by omega,?_⟩
      rw [bJ hj',hue,ab u]
      simp only [go_sem]
      refine aO X c3 rfl rfl (by simp) ?_
      unfold ay
      simp only [go_sem]
      refine ⟨by decide +kernel,?_⟩
      obtain ⟨K1,hK1⟩:∃ K,s.next=K:=⟨_,rfl⟩
      obtain ⟨K2,hK2⟩:∃ K,u.next=K:=⟨_,rfl⟩
      rw [hK1] at hni hii hnl hlen ⊢
      rw [hK2] at hnj hij hlen ⊢
      have hT:∀ k,k<K1.length→(0≤K1.getD k 0∧K1.getD k 0<l.length)∧(0≤K2.getD k 0∧K2.getD k 0<l.length):=by
       intro k hk
       have hk2:k<K2.length:=by omega
       rw [List.getD_eq_getElem?_getD,List.getElem?_eq_getElem hk,Option.getD_some,List.getD_eq_getElem?_getD,List.getElem?_eq_getElem hk2,Option.getD_some]
       exact ⟨hii _ (List.getElem_mem hk),hij _ (List.getElem_mem hk2)⟩
      refine an E3 (X:={ x:Nat × Bool // x.1≤K1.length∧(x.2=true↔∃ k,k<x.1∧S2 ((K1.getD k 0).toNat*l.length+(K2.getD k 0).toNat)=true) }) (fun x=>[(1,auP l st),(3,.d (i64 l.length)),(4,.vw [98] 0 (l.length*l.length)),(5,.d (.bool ch2)),(6,.d (i64 i)),(7,.d (i64 j)),(8,.d (.bool x.1.2)),(9,.d (.sl none (K1.map i64))),(10,.d (.sl none (K2.map i64))),(11,.d (i64 x.1.1))])
       (fun x=>[([98],.arr none (jn (l.length*l.length) S2))]) [98] (fun x=>K1.length-x.1.1) ⟨(0,false),Nat.zero_le _,by simp⟩ id ?_ ?_
      ·unfold auP
       simp only [go_sem]
       (repeat' apply And.intro)<;>first | rfl | trivial | (rw [decide_eq_true h4];rfl)
      rintro ⟨⟨k,b⟩,hk,hb⟩ E0
      refine aK E0 fun Q4 hQ4 E4=>?_
      simp only at hk hb ⊢
      unfold auP
      simp only [go_sem]
      refine ak E4 (fun h5=>?_) (fun h5=>?_)<;>simp only [go_sem]
      ·have hk':k<K1.length:=by omega
       obtain ⟨⟨a0,a1⟩,b0,b1⟩:=hT k hk'
       have hTl:=qN (i:=(K1.getD k 0).toNat) (j:=(K2.getD k 0).toNat) (N:=l.length) (by omega) (by omega)
       refine ai mixed E4 fun X=>?_
       simp only [go_sem]
       obtain ⟨a,ha⟩:∃ a:Nat,K1.getD k 0=(a:Int):=⟨(K1.getD k 0).toNat,by omega⟩
       obtain ⟨c,hc⟩:∃ c:Nat,K2.getD k 0=(c:Int):=⟨(K2.getD k 0).toNat,by omega⟩
       have hk2:k<K2.length:=by omega
       rw [ha,hc,Int.toNat_natCast,Int.toNat_natCast] at hTl
       have hbk:(b=true∨S2 (a*l.length+c)=true)↔∃ k',k' < k+1∧S2 ((K1.getD k' 0).toNat*l.length+(K2.getD k' 0).toNat)=true:=by
        rw [hb]
        constructor
        ·rintro (⟨k',h1,h2⟩ | h)
         ·exact ⟨k',by omega,h2⟩
         ·exact ⟨k,by omega,by rw [ha,hc];exact h⟩
        ·rintro ⟨k',h1,h2⟩
         by_cases e:k'=k
         ·subst e
          rw [ha,hc] at h2
          exact .inr h2
         ·exact .inl ⟨k',by omega,h2⟩
       refine x2 X (fun h6=>?_) (fun h6=>?_)<;>simp only [go_sem]
       ·refine ⟨by decide +kernel,?_⟩
        rw [hQ4]
        simp only [go_sem]
        refine ⟨⟨(k+1,true),by show k+1≤_;omega,?_⟩,by show K1.length-(k+1)<_;omega,id,?_⟩
        ·show true=true↔_
         rw [← hbk]
         simp [h6]
        ·unfold auP
         simp only [go_sem]
         rw [aa ⟨by omega,by omega⟩]
         (repeat' apply And.intro)<;>first | rfl | trivial
       ·refine ⟨by omega,?_⟩
        rw [aN hk',ha]
        simp only [go_sem]
        refine ⟨by omega,?_⟩
        rw [aN hk2,hc]
        simp only [go_sem]
        rw [mulw (by omega),addw (by omega)]
        refine ⟨by omega,?_⟩
        (try rw [Int.toNat_natCast])
        (try simp only [go_sem])
        rw [mK hTl]
        simp only [go_sem]
        refine ⟨by decide +kernel,?_⟩
        rw [hQ4]
        simp only [go_sem]
        refine ⟨⟨(k+1,S2 (a*l.length+c)),by show k+1≤_;omega,?_⟩,by show K1.length-(k+1)<_;omega,id,?_⟩
        ·show S2 (a*l.length+c)=true↔_
         rw [← hbk]
         simp [h6]
        ·unfold auP
         simp only [go_sem]
         rw [aa ⟨by omega,by omega⟩]
         (repeat' apply And.intro)<;>first | rfl | trivial
      ·have hke:k=K1.length:=by omega
       subst hke
       rw [hQ4]
       simp only [go_sem]
       refine bG E3 (fun h6=>?_) (fun h6=>?_)<;>simp only [go_sem]
       ·obtain ⟨k,hk,hSk⟩:=hb.1 h6
        have hna:¬ alike l i j:=by
         intro hal
         obtain ⟨⟨a0,a1⟩,b0,b1⟩:=hT k hk
         have e1:(nxA l i)[k]?=some (K1.getD k 0).toNat:=by rw [hni,List.getElem?_map,List.getElem?_eq_getElem hk,List.getD_eq_getElem?_getD,List.getElem?_eq_getElem hk];rfl
         have hk2:k<K2.length:=by omega
         have e2:(nxA l j)[k]?=some (K2.getD k 0).toNat:=by rw [hnj,List.getElem?_map,List.getElem?_eq_getElem hk2,List.getD_eq_getElem?_getD,List.getElem?_eq_getElem hk2];rfl
         exact hmk.ok _ _ (by omega) (by omega) hSk ((cm _ _ _ hal).2 k _ _ e1 e2)
        rw [mulw (by omega),addw (by omega)]
        refine ⟨by omega,?_⟩
        rw [rY,hQ3]
        simp only [go_sem]
        refine ⟨⟨(j+1,(fun x=>S2 x || decide (x=i*l.length+j),true)),by show j+1≤_;omega,hmk.mark hi' hj' h3 hna⟩,by show l.length-(j+1)<_;omega,id,?_⟩
        unfold auP
        simp only [go_sem]
        rw [aa ⟨by omega,by omega⟩]
        (repeat' apply And.intro)<;>first | rfl | trivial
       ·rw [hQ3]
        simp only [go_sem]
        refine ⟨⟨(j+1,(S2,ch2)),by show j+1≤_;omega,hmk.pass (.inr ⟨by rw [hfi,hfj,h4],fun k a c h1 h2=>?_⟩)⟩,by show l.length-(j+1)<_;omega,id,?_⟩
        ·have hk1:k<K1.length:=by
          have:=(List.getElem?_eq_some_iff.1 h1).1
          rw [hni,List.length_map] at this
          exact this
         have hk2:k<K2.length:=by omega
         rw [hni,List.getElem?_map,List.getElem?_eq_getElem hk1] at h1
         rw [hnj,List.getElem?_map,List.getElem?_eq_getElem hk2] at h2
         have g1:(K1.getD k 0).toNat=a:=by rw [List.getD_eq_getElem?_getD,List.getElem?_eq_getElem hk1];exact Option.some.inj h1
         have g2:(K2.getD k 0).toNat=c:=by rw [List.getD_eq_getElem?_getD,List.getElem?_eq_getElem hk2];exact Option.some.inj h2
         cases hS:S2 (a*l.length+c) with
         | false=>rfl
         | true=>exact absurd (hb.2 ⟨k,hk1,by rw [g1,g2];exact hS⟩) (by rw [h6];decide)
        ·unfold auP
         simp only [go_sem]
         rw [aa ⟨by omega,by omega⟩]
         (repeat' apply And.intro)<;>first | rfl | trivial
     ·have h4:s.self≠u.self:=by simpa using h4
      refine bG E3 (fun h5=>?_) (fun h5=>absurd h4 (by simpa using h5))<;>simp only [go_sem]
      rw [mulw (by omega),addw (by omega)]
      refine ⟨by omega,?_⟩
      rw [rY,hQ3]
      simp only [go_sem]
      refine ⟨⟨(j+1,(fun x=>S2 x || decide (x=i*l.length+j),true)),by show j+1≤_;omega,hmk.mark hi' hj' h3 (fun ha=>h4 (by rw [← hfi,← hfj];exact (cm _ _ _ ha).1))⟩,by show l.length-(j+1)<_;omega,id,?_⟩
      unfold auP
      simp only [go_sem]
      rw [aa ⟨by omega,by omega⟩]
      (repeat' apply And.intro)<;>first | rfl | trivial
   ·have h3:j=l.length:=by omega
    subst h3
    rw [hQ3]
    simp only [go_sem]
    rw [hQ2]
    simp only [go_sem]
    refine ⟨⟨(i+1,(S2,ch2)),by show i+1≤_;omega,hmk.row⟩,by show l.length-(i+1)<_;omega,id,?_⟩
    unfold auP
    simp only [go_sem]
    rw [aa ⟨by omega,by omega⟩]
    (repeat' apply And.intro)<;>first | rfl | trivial
  ·have h3:i=l.length:=by omega
   subst h3
   rw [hQ2]
   simp only [go_sem]
   rw [hQ1]
   simp only [go_sem]
   refine ⟨⟨(S1,ch1),hmk1.ok,fun hc a b ha hb=>(hmk1.same hc).2 a b ha hb (by omega)⟩,?_,id,?_⟩
   ·show 2*nO _ S1+(if ch1 then 1 else 0)<2*nO _ S+(if true then 1 else 0)
    have h1:=hmk1.le
    cases ch1 with
    | true=>have:=hmk1.lt rfl;simp;omega
    | false=>simp;omega
   ·unfold auP
    simp only [go_sem]
 ·have hr:=hst hc
  have hcl:=fun {i j:Nat} (hi:i<l.length) (hj:j<l.length)=>D9 hin hok hr hi hj
  rw [hQ1]
  simp only [go_sem]
  clear hQ1 E1 Q1 E0
  have hdiag:∀ i,i<l.length→S (i*l.length+i)=false:=fun i hi=>(hcl hi hi).1 (alike_refl l i)
  refine an E (X:={ x:List Nat // x.length≤l.length∧∀ i,i<x.length→x.getD i 0≤i∧S (i*l.length+x.getD i 0)=false∧∀ j,j<x.getD i 0→S (i*l.length+j)=true }) (fun x=>[(3,.d (i64 l.length)),(4,.vw [98] 0 (l.length*l.length)),(12,.vw [99] 0 x.1.length),(13,.d (i64 x.1.length))])
   (fun x=>[([98],.arr none (jn (l.length*l.length) S)),([99],.arr none (x.1.map nD))]) [98,99] (fun x=>l.length-x.1.length) ⟨[],Nat.zero_le _,by simp⟩ (tau [([99],[97])]) ?_ ?_
  ·simp only [go_sem]
   all_goals first | rfl | ((repeat' apply And.intro)<;>first | rfl | trivial)
  rintro ⟨out,hol,hout⟩ E0
  refine aK E0 fun Q1 hQ1 E1=>?_
  simp only at hol hout ⊢
  obtain ⟨i,hie⟩:∃ i,out.length=i:=⟨_,rfl⟩
  rw [hie] at hol hout ⊢
  simp only [go_sem]
  refine ak E1 (fun h1=>?_) (fun h1=>?_)<;>simp only [go_sem]
  ·have hi:i<l.length:=by omega
   refine an E1 (X:={ j:Nat // j≤i∧∀ j',j' < j→S (i*l.length+j')=true }) (fun x=>[(3,.d (i64 l.length)),(4,.vw [98] 0 (l.length*l.length)),(12,.vw [99] 0 i),(13,.d (i64 i)),(14,.d (i64 x.1))])
    (fun x=>[([98],.arr none (jn (l.length*l.length) S)),([99],.arr none (out.map nD))]) [98,99] (fun x=>i-x.1) ⟨0,Nat.zero_le _,by simp⟩ id ?_ ?_
   ·simp only [go_sem]
    all_goals first | rfl | ((repeat' apply And.intro)<;>first | rfl | trivial)
   rintro ⟨j,hj,hjs⟩ E0
   refine aK E0 fun Q2 hQ2 E2=>?_
   simp only at hj hjs ⊢
   have hq:=qN (i:=i) (j:=j) (N:=l.length) hi (by omega)
   simp only [go_sem]
   rw [mulw (by omega),addw (by omega)]
   refine ⟨by omega,?_⟩
   (try rw [Int.toNat_natCast])
   rw [mK hq]
   simp only [go_sem]
   refine bG E2 (fun h2=>?_) (fun h2=>?_)<;>simp only [go_sem]
   ·have hne:j≠i:=by
     rintro rfl
     rw [hdiag _ hi] at h2
     cases h2
    rw [hQ2]
    simp only [go_sem]
    refine ⟨⟨j+1,by omega,fun j' hj'=>?_⟩,by show i-(j+1)<_;omega,id,?_⟩
    ·by_cases e:j'=j
     ·rw [e];exact h2
     ·exact hjs j' (by omega)
    ·simp only [go_sem]
     rw [aa ⟨by omega,by omega⟩]
     (repeat' apply And.intro)<;>first | rfl | trivial
   ·rw [hQ2]
    simp only [go_sem]
    refine ⟨by omega,?_⟩
    rw [hQ1]
    simp only [go_sem]
    refine ⟨⟨out++[j],by rw [List.length_append,hie];exact hi,fun a ha=>?_⟩,by show l.length-(out++[j]).length<_;rw [List.length_append,hie];simp;omega,tau [([99],[116])],?_⟩
    ·rw [List.length_append,hie,List.length_singleton] at ha
     rw [List.getD_eq_getElem?_getD]
     by_cases e:a=i
     ·subst e
      rw [List.getElem?_append_right (by omega),hie,Nat.sub_self]
      exact ⟨hj,h2,hjs⟩
     ·rw [List.getElem?_append_left (by omega),← List.getD_eq_getElem?_getD]
      exact hout a (by omega)
    ·simp only [go_sem]
     rw [List.length_append,hie,aa ⟨by omega,by omega⟩]
     rw [List.take_of_length_le (by rw [List.length_map,hie];exact Nat.le_refl _),List.map_append]
     exact ⟨⟨rfl,rfl⟩,rfl⟩
  ·have hiN:i=l.length:=by omega
   subst hiN
   rw [hQ1]
   simp only [go_sem]
   refine ⟨[([99],none,out.map nD)],?_⟩
   simp only [go_sem]
   have htk:List.take l.length (out.map nD)=out.map nD:=List.take_of_length_le (by rw [List.length_map,hie];exact Nat.le_refl _)
   try rw [htk]
   refine ⟨out,⟨hie,fun a ha=>?_⟩,rfl⟩
   obtain ⟨g1,g2,g3⟩:=hout a ha
   refine ⟨(hcl ha (by omega)).2 g2,fun j hj hal=>?_⟩
   have:=(hcl ha (by omega)).1 hal
   rw [g3 j hj] at this
   cases this
end Go.Proofs.YthfodompfpdmgaaGreatDoor

namespace Go.Proofs.YthfodompfpdmgaaGreatDoor
open Go.Ab
theorem tA {s:EA} (h:InS s) (f:Int→Int):InS (s.mv f):=by
 obtain ⟨h1,h2,h3,h4,h5⟩:=h
 refine ⟨h1,by simpa [EA.mv] using h2,by simpa [EA.mv] using h3,fun x hx=>?_,fun x hx=>?_⟩
 ·obtain ⟨q,hq,rfl⟩:=List.mem_map.1 hx
  exact h4 q hq
 ·obtain ⟨q,hq,rfl⟩:=List.mem_map.1 hx
  exact h5 q hq
theorem Ax {l:List EA} {st:Nat} (hs:∀ s∈l,InS s) (hin:InA l) (hst:st<l.length):∀ s∈aG l st,InS s:=by
 intro s h
 obtain ⟨i,hi,rfl⟩:=List.mem_map.1 h
 exact tA (hs _ (cC (eC hin hst i hi))) _
theorem Cp {l:List EA} {cls:List Nat} (hs:∀ s∈l,InS s):∀ s∈bY cls l,InS s:=by
 intro s h
 obtain ⟨u,hu,rfl⟩:=List.mem_map.1 h
 exact tA (hs _ hu) _
def toI (out:List Nat):List Int:=out.map fun k:Nat=>(k:Int)
theorem qJ (out:List Nat):out.map nD=(toI out).map i64:=y5 out
theorem qQ (out:List Nat) (z:Int):atL (toI out) z=((out.getD z.toNat 0:Nat):Int):=by
 unfold atL toI
 rw [List.getD_eq_getElem?_getD,List.getD_eq_getElem?_getD,List.getElem?_map]
 cases out[z.toNat]?<;>rfl
theorem x4 (out:List Nat) (s:EA):dN (toI out) s=s.mv fun z=>((out.getD z.toNat 0:Nat):Int):=by
 unfold dN
 exact rP fun z _=>qQ out z
theorem rm (out:List Nat) (l:List EA):l.map (fun s=>stD (dN (toI out) s))=(bY out l).map stD:=by
 rw [bY,List.map_map]
 refine List.map_congr_left fun s _=>?_
 rw [x4];rfl
theorem fC {l:List EA} {out:List Nat} (h:cB l out) {i:Nat} (hi:i<l.length):out.getD i 0<l.length:=by
 have:=dW h hi
 omega
set_option maxHeartbeats 4000000 in
theorem DC {G} (l:List EA) (st:Nat) (hN:l.length≤4000) (hs:∀ s∈l,InS s) (hin:InA l) (hst:st<l.length):HP Tryz.prog G 22 [auD l st] (fun r=>∃ out:List Nat,cB (aG l st) out∧r=.d (auD (aF (aG l st) out) 0)):=by
 have c1:=Ar (G:=G) l st (by omega) hs hin hst
 have hll:=dp hin hst
 have hnl:(aG l st).length≤4000:=by rw [aA];omega
 have hn0:0<(aG l st).length:=by
  rw [aA]
  obtain ⟨r,e⟩:=dI (l:=l) (start:=st)
  rw [e];simp
 have hns:=Ax hs hin hst
 have hni:=jC hin hst
 have c2:=zZ (G:=G) (aG l st) 0 hnl hns hni
 generalize aG l st=n at *
 unfold auD at *
 refine aV Tryz.func22 rfl (by decide +kernel) (by simp [Tryz.ntmps22]) (veil fun E=>?_)
 simp only [go_sem]
 refine ae E (c1) rfl rfl (by simp) ?_
 rintro _ rfl
 simp only [go_sem]
 refine ae E c2 rfl rfl (by simp) ?_
 rintro _ ⟨out,hcls,rfl⟩
 rw [qJ]
 simp only [go_sem]
 refine ⟨by simp [toI];rw [hcls.1];omega,?_⟩
 have hcl:=hcls.1
 have htl:(toI out).length=n.length:=by simp [toI,hcl]
 have h00:(toI out).getD 0 0=((out.getD 0 0:Nat):Int):=by
  have:=qQ out 0
  exact this
 rw [aN (show 0<(toI out).length by omega),h00]
 have hc0:=fC hcls hn0
 have hci:=fV hni hcls
 have hcn:(bY out n).length=n.length:=by simp [bY]
 have c4:=Ar (G:=G) (bY out n) (out.getD 0 0) (by omega) (Cp hns) hci (by omega)
 rw [show aG (bY out n) (out.getD 0 0)=aF n out from rfl] at c4
 have hmap:=rm out n
 generalize out.getD 0 0=q0 at *
 generalize hm:toI out=m at *
 unfold auD at c4
 simp only [go_sem]
 refine ck E [3] (.agg [.sl (some 13) (n.map stD),i64 0]) rfl rfl ?_
 simp only [go_sem]
 refine bP E [5] 0 97 (some 13) [.d .nils,.d (i64 q0)] rfl rfl (by rw [ag];decide) ?_
 simp only [go_sem]
 refine an E (X:={ k:Nat // k≤n.length }) (fun x=>[(2,.bx [2] 0),(3,.d (.ptr (.agg [.sl (some 13) (n.map stD),i64 0]))),(4,.d (.sl none (m.map i64))),(5,.bx [5] 0),(6,.d (i64 x.1))])
  (fun x=>[([2],.box [.d .nils,.d (i64 0)]),([5],.box [.vw [97] 0 x.1,.d (i64 q0)]),([97],.arr (some 13) ((n.take x.1).map fun s=>stD (dN m s)))]) [97,5,2] (fun x=>n.length-x.1) ⟨0,Nat.zero_le _⟩ id ?_ ?_
 ·simp only [go_sem]
  all_goals first | rfl | ((repeat' apply And.intro)<;>first | rfl | trivial)
 rintro ⟨k,hk⟩ E0
 refine aK E0 fun Q' hQ E'=>?_
 simp only at hk ⊢
 simp only [go_sem]
 refine ak E' (fun h2=>?_) (fun h2=>?_)<;>simp only [go_sem]
 ·have h2':k<n.length:=by omega
  have hmem:=List.getElem_mem h2'
  have c3:=zQ (G:=G) n[k] m (hns _ hmem) (by rw [htl];exact hni _ hmem)
  refine ai mixed E' fun X=>?_
  simp only [go_sem]
  refine ⟨by omega,?_⟩
  rw [bJ h2']
  generalize hse:n[k]=s at c3 ⊢
  unfold ay at c3
  rw [ab,ab] at c3
  simp only [ab]
  simp only [go_sem]
  refine aO X c3 rfl rfl (by simp) ?_
  simp only [go_sem]
  refine ⟨by omega,by decide +kernel,?_⟩
  rw [hQ]
  simp only [go_sem]
  refine ⟨⟨k+1,by omega⟩,by show n.length-(k+1)<_;omega,tau [([97],[34])],?_⟩
  simp only [go_sem]
  rw [List.take_of_length_le (by rw [List.length_map,List.length_take];omega),← bh h2',hse,ab (dN m s),aa ⟨by omega,by omega⟩]
  (repeat' apply And.intro)<;>first | rfl | trivial
 ·have h3:k=n.length:=by omega
  subst h3
  rw [List.take_length,hQ]
  simp only [go_sem]
  refine dr E [97] (some 13) (n.map fun s=>stD (dN m s)) rfl rfl ?_
  rw [pR]
  refine ae E c4 rfl (by simp only [go_sem];rw [hmap]) (by simp) ?_
  rintro _ rfl
  simp only [go_sem]
  refine ⟨[],?_⟩
  simp only [go_sem]
  exact ⟨out,hcls,rfl⟩
end Go.Proofs.YthfodompfpdmgaaGreatDoor

namespace Go.Proofs.YthfodompfpdmgaaGreatDoor
open Go.Ab
abbrev Ltr:=Int × List UInt8
abbrev Stp':=Ltr × Int
def jm (a:Ltr):D:=.agg [i64 a.1,.str a.2]
def eY (q:Stp'):D:=.agg [i64 q.1.1,.str q.1.2,i64 q.2]
def bB (s:EA):List Stp':=if s.arr then [((0,[]),s.dom),((1,[]),s.cod)] else []
def bN (k:Int) (l:List Fld):List Stp':=l.map fun q=>((k,q.1),q.2)
def az (s:EA):List Stp':=bB s++bN 2 s.fl++bN 3 s.tl
theorem mL (s:EA):(az s).map (·.2)=s.next:=by
 unfold az bB bN EA.next
 cases s.arr<;>simp [Function.comp_def]
theorem uf {l:List Stp'} {i:Nat} (h:i<l.length):(l.map eY).getD i .nilp=eY l[i]:=by simp [h]
theorem cG (k:Int) (l:List Fld):(bN k l).length=l.length:=by simp [bN]
theorem iO {k:Int} {l:List Fld} {i:Nat} (h:i<l.length):bN k (l.take (i+1))=bN k (l.take i)++[((k,l[i].1),l[i].2)]:=by
 rw [List.take_succ_eq_append_getElem h,bN,bN,List.map_append];rfl
theorem qf {G} (s:EA) (hs:InS s):HP Tryz.prog G 106 [stD s] (fun r=>r=.d (.sl (some 3) ((az s).map eY))):=by
 refine il ?_
 obtain ⟨hv,hf,ht,hfs,hts⟩:=hs
 rw [ab]
 refine aV Tryz.func106 rfl (by decide +kernel) (by simp [Tryz.ntmps106]) (veil fun E=>?_)
 simp only [go_sem]
 refine bG E (fun ha=>?_) (fun ha=>?_)<;>simp only [go_sem]
 ·have e1:bB s=[((0,[]),s.dom),((1,[]),s.cod)]:=by rw [bB,ha];rfl
  refine ck E [1] (stD s) rfl rfl ?_
  simp only [ab]
  simp only [go_sem]
  skip
  refine an E (X:={ i:Nat // i≤(s.fl).length }) (fun x=>[(1,.d (.ptr (stD s))),(3,.vw [99] 0 ((bB s).length+x.1)),(22,.d (.sl (some 2) ((s.fl).map au))),(23,.d (i64 (s.fl).length)),(24,.d (i64 x.1))]) (fun x=>[([99],.arr (some 3) ((bB s++bN 2 ((s.fl).take x.1)).map eY))]) [99] (fun x=>(s.fl).length-x.1) ⟨0,Nat.zero_le _⟩ (tau [([99],[20])]) ?_ ?_
  ·simp only [ab]
   simp only [go_sem]
   ((rw [e1];exact ⟨rfl,rfl⟩))
  rintro ⟨i,hi⟩ E0
  refine aK E0 fun Q' hQ E'=>?_
  simp only [ab] at hi ⊢
  simp only [go_sem]
  refine ak E' (fun h1=>?_) (fun h1=>?_)<;>simp only [go_sem]
  ·have h1':i<(s.fl).length:=by omega
   refine ⟨by omega,?_⟩
   rw [aw h1']
   simp only [go_sem]
   have hl2:(bB s).length≤900000:=by (unfold bB;split<;>simp)
   refine ⟨by omega,?_⟩
   rw [hQ]
   simp only [go_sem]
   refine ⟨⟨i+1,by omega⟩,by show (s.fl).length-(i+1)<_;omega,tau [([99],[36])],?_⟩
   simp only [go_sem]
   have hlen:((bB s++bN 2 ((s.fl).take i)).map eY).length=(bB s).length+i:=by simp [bN];omega
   rw [List.take_of_length_le (Nat.le_of_eq hlen),iO h1',aa ⟨by omega,by omega⟩,← List.append_assoc,List.map_append (l₂:=[_])]
   (repeat' apply And.intro)<;>first | rfl | trivial
  have h3:i=(s.fl).length:=by omega
  subst h3
  rw [List.take_length,hQ]
  simp only [go_sem]
  clear E' hQ Q' E0
  refine an E (X:={ i:Nat // i≤(s.tl).length }) (fun x=>[(1,.d (.ptr (stD s))),(3,.vw [99] 0 ((bB s++bN 2 s.fl).length+x.1)),(39,.d (.sl (some 2) ((s.tl).map au))),(40,.d (i64 (s.tl).length)),(41,.d (i64 x.1))]) (fun x=>[([99],.arr (some 3) ((bB s++bN 2 s.fl++bN 3 ((s.tl).take x.1)).map eY))]) [99] (fun x=>(s.tl).length-x.1) ⟨0,Nat.zero_le _⟩ id ?_ ?_
  ·simp only [ab]
   simp only [go_sem]
   ((rw [List.length_append,cG];exact ⟨rfl,by rw [show bN 3 []=[] from rfl,List.append_nil]⟩))
  rintro ⟨i,hi⟩ E0
  refine aK E0 fun Q' hQ E'=>?_
  simp only [ab] at hi ⊢
  simp only [go_sem]
  refine ak E' (fun h1=>?_) (fun h1=>?_)<;>simp only [go_sem]
  ·have h1':i<(s.tl).length:=by omega
   refine ⟨by omega,?_⟩
   rw [aw h1']
   simp only [go_sem]
   have hl2:(bB s++bN 2 s.fl).length≤900000:=by (rw [List.length_append,cG];unfold bB;split<;>simp<;>omega)
   refine ⟨by omega,?_⟩
   rw [hQ]
   simp only [go_sem]
   refine ⟨⟨i+1,by omega⟩,by show (s.tl).length-(i+1)<_;omega,tau [([99],[53])],?_⟩
   simp only [go_sem]
   have hlen:((bB s++bN 2 s.fl++bN 3 ((s.tl).take i)).map eY).length=(bB s++bN 2 s.fl).length+i:=by simp [bN];omega
   rw [List.take_of_length_le (Nat.le_of_eq hlen),iO h1',aa ⟨by omega,by omega⟩,← List.append_assoc,List.map_append (l₂:=[_])]
   (repeat' apply And.intro)<;>first | rfl | trivial
  have h3:i=(s.tl).length:=by omega
  subst h3
  rw [List.take_length,hQ]
  simp only [go_sem]
  clear E' hQ Q' E0
  refine ⟨[([99],some 3,(az s).map eY)],?_⟩
  simp only [go_sem]
  refine ⟨rfl,_,rfl,?_⟩
  rw [List.take_of_length_le (Nat.le_of_eq (show ((az s).map eY).length=_ by rw [List.length_map,az,List.length_append,cG 3]))]
  exact .refl _
 ·have e1:bB s=[]:=by rw [bB,ha];rfl
  refine ck E [1] (stD s) rfl rfl ?_
  simp only [ab]
  simp only [go_sem]
  (refine jh E 3 99 (some 3) rfl (by rw [ag];decide) ?_;simp only [go_sem])
  refine an E (X:={ i:Nat // i≤(s.fl).length }) (fun x=>[(1,.d (.ptr (stD s))),(3,.vw [99] 0 ((bB s).length+x.1)),(22,.d (.sl (some 2) ((s.fl).map au))),(23,.d (i64 (s.fl).length)),(24,.d (i64 x.1))]) (fun x=>[([99],.arr (some 3) ((bB s++bN 2 ((s.fl).take x.1)).map eY))]) [99] (fun x=>(s.fl).length-x.1) ⟨0,Nat.zero_le _⟩ id ?_ ?_
  ·simp only [ab]
   simp only [go_sem]
   ((rw [e1];exact ⟨rfl,rfl⟩))
  rintro ⟨i,hi⟩ E0
  refine aK E0 fun Q' hQ E'=>?_
  simp only [ab] at hi ⊢
  simp only [go_sem]
  refine ak E' (fun h1=>?_) (fun h1=>?_)<;>simp only [go_sem]
  ·have h1':i<(s.fl).length:=by omega
   refine ⟨by omega,?_⟩
   rw [aw h1']
   simp only [go_sem]
   have hl2:(bB s).length≤900000:=by (unfold bB;split<;>simp)
   refine ⟨by omega,?_⟩
   rw [hQ]
   simp only [go_sem]
   refine ⟨⟨i+1,by omega⟩,by show (s.fl).length-(i+1)<_;omega,tau [([99],[36])],?_⟩
   simp only [go_sem]
   have hlen:((bB s++bN 2 ((s.fl).take i)).map eY).length=(bB s).length+i:=by simp [bN];omega
   rw [List.take_of_length_le (Nat.le_of_eq hlen),iO h1',aa ⟨by omega,by omega⟩,← List.append_assoc,List.map_append (l₂:=[_])]
   (repeat' apply And.intro)<;>first | rfl | trivial
  have h3:i=(s.fl).length:=by omega
  subst h3
  rw [List.take_length,hQ]
  simp only [go_sem]
  clear E' hQ Q' E0
  refine an E (X:={ i:Nat // i≤(s.tl).length }) (fun x=>[(1,.d (.ptr (stD s))),(3,.vw [99] 0 ((bB s++bN 2 s.fl).length+x.1)),(39,.d (.sl (some 2) ((s.tl).map au))),(40,.d (i64 (s.tl).length)),(41,.d (i64 x.1))]) (fun x=>[([99],.arr (some 3) ((bB s++bN 2 s.fl++bN 3 ((s.tl).take x.1)).map eY))]) [99] (fun x=>(s.tl).length-x.1) ⟨0,Nat.zero_le _⟩ id ?_ ?_
  ·simp only [ab]
   simp only [go_sem]
   ((rw [List.length_append,cG];exact ⟨rfl,by rw [show bN 3 []=[] from rfl,List.append_nil]⟩))
  rintro ⟨i,hi⟩ E0
  refine aK E0 fun Q' hQ E'=>?_
  simp only [ab] at hi ⊢
  simp only [go_sem]
  refine ak E' (fun h1=>?_) (fun h1=>?_)<;>simp only [go_sem]
  ·have h1':i<(s.tl).length:=by omega
   refine ⟨by omega,?_⟩
   rw [aw h1']
   simp only [go_sem]
   have hl2:(bB s++bN 2 s.fl).length≤900000:=by (rw [List.length_append,cG];unfold bB;split<;>simp<;>omega)
   refine ⟨by omega,?_⟩
   rw [hQ]
   simp only [go_sem]
   refine ⟨⟨i+1,by omega⟩,by show (s.tl).length-(i+1)<_;omega,tau [([99],[53])],?_⟩
   simp only [go_sem]
   have hlen:((bB s++bN 2 s.fl++bN 3 ((s.tl).take i)).map eY).length=(bB s++bN 2 s.fl).length+i:=by simp [bN];omega
   rw [List.take_of_length_le (Nat.le_of_eq hlen),iO h1',aa ⟨by omega,by omega⟩,← List.append_assoc,List.map_append (l₂:=[_])]
   (repeat' apply And.intro)<;>first | rfl | trivial
  have h3:i=(s.tl).length:=by omega
  subst h3
  rw [List.take_length,hQ]
  simp only [go_sem]
  clear E' hQ Q' E0
  refine ⟨[([99],some 3,(az s).map eY)],?_⟩
  simp only [go_sem]
  refine ⟨rfl,_,rfl,?_⟩
  rw [List.take_of_length_le (Nat.le_of_eq (show ((az s).map eY).length=_ by rw [List.length_map,az,List.length_append,cG 3]))]
  exact .refl _
end Go.Proofs.YthfodompfpdmgaaGreatDoor

namespace Go.Proofs.YthfodompfpdmgaaGreatDoor
open Go.Ab
structure PS where
 cls:List Nat
 sets:List (List Nat)
 wait:List Nat
def cn (cls less:List Nat) (n:Nat):List Nat:=less.foldl (fun c x=>c.set x n) cls
theorem bF:∀ (less cls:List Nat) (n:Nat),(cn cls less n).length=cls.length
 | [],_,_=>rfl
 | x::r,cls,n=>by
   show (cn (cls.set x n) r n).length=_
   rw [bF r];simp
theorem mj:∀ (less cls:List Nat) (n x:Nat),x<cls.length→(cn cls less n).getD x 0=if x∈less then n else cls.getD x 0
 | [],_,_,_,_=>by simp [cn]
 | y::r,cls,n,x,hx=>by
   show (cn (cls.set y n) r n).getD x 0=_
   rw [mj r (cls.set y n) n x (by simpa using hx)]
   by_cases h:x∈r
   ·simp [h]
   ·rw [if_neg h]
    by_cases e:x=y
    ·subst e
     simp [List.getD_eq_getElem?_getD,hx]
    ·have e':¬ y=x:=fun h=>e h.symm
     simp [List.getD_eq_getElem?_getD,h,e,List.getElem?_set_ne e']
def dv (hit:Nat→Bool) (s:PS) (i:Nat):List Nat:=(s.sets.getD i []).filter hit
def dy (hit:Nat→Bool) (s:PS) (i:Nat):List Nat:=(s.sets.getD i []).filter fun x=>!hit x
def bl (hit:Nat→Bool) (s:PS) (i:Nat):List Nat:=if (dy hit s i).length<(dv hit s i).length then dy hit s i else dv hit s i
def dC (hit:Nat→Bool) (s:PS) (i:Nat):List Nat:=if (dy hit s i).length<(dv hit s i).length then dv hit s i else dy hit s i
def aJ (hit:Nat→Bool) (s:PS) (i:Nat):PS :=
 if dv hit s i=[]∨dy hit s i=[] then s
 else { cls:=cn s.cls (bl hit s i) s.sets.length,sets:=s.sets.set i (dC hit s i)++[bl hit s i],wait:=s.wait++[s.sets.length] }
structure Wf (N:Nat) (s:PS):Prop where
 len:s.cls.length=N
 at':∀ x,x<N→s.cls.getD x 0<s.sets.length∧x∈s.sets.getD (s.cls.getD x 0) []
 in':∀ c,c<s.sets.length→s.sets.getD c []≠[]∧∀ x∈s.sets.getD c [],x<N∧s.cls.getD x 0=c
 dn:∀ c,c<s.sets.length→(s.sets.getD c []).Nodup
 wt:∀ c∈s.wait,c<s.sets.length
 wn:s.wait.Nodup
theorem Wf.le {N:Nat} {s:PS} (h:Wf N s):s.sets.length≤N:=by
 have hn:((List.range s.sets.length).map fun c=>(s.sets.getD c []).headD 0).Nodup:=by
  have hh:∀ c,c<s.sets.length→(s.sets.getD c []).headD 0∈s.sets.getD c []:=by
   intro c hc
   have:=(h.in' c hc).1
   cases hs:s.sets.getD c [] with
   | nil=>exact absurd hs this
   | cons a r=>simp
  rw [List.Nodup,List.pairwise_map]
  refine List.pairwise_lt_range.imp_of_mem fun {i j} hi hj hij e=>?_
  have hi:=List.mem_range.1 hi
  have hj:=List.mem_range.1 hj
  have h1:=((h.in' i hi).2 _ (hh i hi)).2
  have h2:=((h.in' j hj).2 _ (hh j hj)).2
  rw [e,h2] at h1
  omega
 have:=aH (n:=N) hn (fun x hx=>by
  obtain ⟨c,hc,rfl⟩:=List.mem_map.1 hx
  have hc:=List.mem_range.1 hc
  have:=(h.in' c hc).1
  cases hs:s.sets.getD c [] with
  | nil=>exact absurd hs this
  | cons a r =>
    have:=((h.in' c hc).2 a (by rw [hs];simp)).1
    simpa using this)
 simpa using this
theorem bV (hit:Nat→Bool) (s:PS) (i:Nat) (x:Nat):(x∈bl hit s i∨x∈dC hit s i)↔x∈s.sets.getD i []:=by
 unfold bl dC dv dy
 split
 ·simp only [List.mem_filter]
  cases hit x<;>simp
 ·simp only [List.mem_filter]
  cases hit x<;>simp
theorem Ac {hit:Nat→Bool} {s:PS} {i:Nat} {x y:Nat} (hx:x∈bl hit s i) (hy:y∈bl hit s i):hit x=hit y:=by
 unfold bl dv dy at hx hy
 by_cases hc:((s.sets.getD i []).filter fun x=>!hit x).length<((s.sets.getD i []).filter hit).length
 ·rw [if_pos hc,List.mem_filter] at hx hy
  have h1:=hx.2
  have h2:=hy.2
  simp_all
 ·rw [if_neg hc,List.mem_filter] at hx hy
  rw [hx.2,hy.2]
theorem yV {hit:Nat→Bool} {s:PS} {i:Nat} {x y:Nat} (hx:x∈dC hit s i) (hy:y∈dC hit s i):hit x=hit y:=by
 unfold dC dv dy at hx hy
 by_cases hc:((s.sets.getD i []).filter fun x=>!hit x).length<((s.sets.getD i []).filter hit).length
 ·rw [if_pos hc,List.mem_filter] at hx hy
  rw [hx.2,hy.2]
 ·rw [if_neg hc,List.mem_filter] at hx hy
  have h1:=hx.2
  have h2:=hy.2
  simp_all
theorem mW {hit:Nat→Bool} {s:PS} {i:Nat} {x y:Nat} (hx:x∈bl hit s i) (hy:y∈dC hit s i):hit x≠hit y:=by
 unfold bl dv dy at hx
 unfold dC dv dy at hy
 by_cases hc:((s.sets.getD i []).filter fun x=>!hit x).length<((s.sets.getD i []).filter hit).length
 ·rw [if_pos hc,List.mem_filter] at hx hy
  have h1:=hx.2
  have h2:=hy.2
  simp_all
 ·rw [if_neg hc,List.mem_filter] at hx hy
  have h1:=hx.2
  have h2:=hy.2
  simp_all
theorem n9 {hit:Nat→Bool} {s:PS} {i:Nat} {x:Nat} (hx:x∈bl hit s i):x ∉ dC hit s i:=fun hm=>mW hx hm rfl
section
variable {N:Nat} {hit:Nat→Bool} {s:PS} {i:Nat}
theorem cd (h:dv hit s i=[]∨dy hit s i=[]):aJ hit s i=s:=by rw [aJ,if_pos h]
theorem bW (h:¬ (dv hit s i=[]∨dy hit s i=[])):aJ hit s i={ cls:=cn s.cls (bl hit s i) s.sets.length,sets:=s.sets.set i (dC hit s i)++[bl hit s i],wait:=s.wait++[s.sets.length] }:=by rw [aJ,if_neg h]
theorem CK (h:¬ (dv hit s i=[]∨dy hit s i=[])):bl hit s i≠[]∧dC hit s i≠[]:=by
 simp only [not_or] at h
 unfold bl dC
 split
 ·exact ⟨h.2,h.1⟩
 ·exact ⟨h.1,h.2⟩
theorem bT (w:Wf N s) (_hi:i<s.sets.length) {x:Nat} (hx:x<N) (h:¬ (dv hit s i=[]∨dy hit s i=[])) :
  (aJ hit s i).cls.getD x 0=if x∈bl hit s i then s.sets.length else s.cls.getD x 0:=by
 rw [bW h]
 exact mj _ _ _ _ (by rw [w.len];exact hx)
theorem sY (w:Wf N s) (hi:i<s.sets.length):Wf N (aJ hit s i):=by
 by_cases h:dv hit s i=[]∨dy hit s i=[]
 ·rw [cd h];exact w
 have hc:=fun x hx=>bT (x:=x) w hi hx h
 obtain ⟨n1,n2⟩:=CK h
 have hsl:(aJ hit s i).sets.length=s.sets.length+1:=by rw [bW h];simp
 have hset:∀ c,(aJ hit s i).sets.getD c []=if c=s.sets.length then bl hit s i else if c=i then dC hit s i else s.sets.getD c []:=by
  intro c
  rw [bW h]
  simp only [List.getD_eq_getElem?_getD]
  by_cases e:c=s.sets.length
  ·subst e
   rw [List.getElem?_append_right (by simp)]
   simp
  ·rw [if_neg e]
   by_cases hlt:c<s.sets.length
   ·rw [List.getElem?_append_left (by simpa using hlt)]
    by_cases e2:c=i
    ·subst e2
     simp [hlt]
    ·have:¬ i=c:=fun h=>e2 h.symm
     rw [if_neg e2,List.getElem?_set_ne this]
   ·have e2:c≠i:=by omega
    rw [if_neg e2,List.getElem?_eq_none_iff.2 (by simp;omega),List.getElem?_eq_none_iff.2 (by omega)]
 refine ⟨by rw [bW h];exact (bF _ _ _).trans w.len,fun x hx=>?_,fun c hcl=>?_,fun c hcl=>?_,fun c hcw=>?_,?_⟩
 ·rw [hc x hx,hsl,hset]
  obtain ⟨a1,a2⟩:=w.at' x hx
  by_cases hl:x∈bl hit s i
  ·rw [if_pos hl,if_pos rfl]
   exact ⟨by omega,hl⟩
  ·rw [if_neg hl,if_neg (by omega)]
   refine ⟨by omega,?_⟩
   by_cases e:s.cls.getD x 0=i
   ·rw [if_pos e]
    rw [e] at a2
    exact ((bV hit s i x).2 a2).resolve_left hl
   ·rw [if_neg e];exact a2
 ·rw [hset]
  rw [hsl] at hcl
  by_cases e:c=s.sets.length
  ·rw [if_pos e]
   refine ⟨n1,fun x hx=>?_⟩
   have hx':=(bV hit s i x).1 (.inl hx)
   have:=((w.in' i hi).2 x hx').1
   exact ⟨this,by rw [hc x this,if_pos hx,e]⟩
  ·rw [if_neg e]
   by_cases e2:c=i
   ·rw [if_pos e2]
    refine ⟨n2,fun x hx=>?_⟩
    have hx':=(bV hit s i x).1 (.inr hx)
    have:=(w.in' i hi).2 x hx'
    exact ⟨this.1,by rw [hc x this.1,if_neg (fun hl=>n9 hl hx),this.2,e2]⟩
   ·rw [if_neg e2]
    obtain ⟨b1,b2⟩:=w.in' c (by omega)
    refine ⟨b1,fun x hx=>?_⟩
    have:=b2 x hx
    refine ⟨this.1,?_⟩
    rw [hc x this.1,if_neg,this.2]
    intro hl
    have hx':=(bV hit s i x).1 (.inl hl)
    have:=((w.in' i hi).2 x hx').2
    omega
 ·have hd:∀ p:Nat→Bool,((s.sets.getD i []).filter p).Nodup:=fun p=>(w.dn i hi).sublist List.filter_sublist
  rw [hset]
  rw [hsl] at hcl
  by_cases e:c=s.sets.length
  ·rw [if_pos e]
   unfold bl dv dy
   split<;>exact hd _
  ·rw [if_neg e]
   by_cases e2:c=i
   ·rw [if_pos e2]
    unfold dC dv dy
    split<;>exact hd _
   ·rw [if_neg e2]
    exact w.dn c (by omega)
 ·rw [hsl]
  rw [bW h] at hcw
  rcases List.mem_append.1 hcw with hcw | hcw
  ·have:=w.wt c hcw;omega
  ·rw [List.mem_singleton.1 hcw];omega
 ·rw [bW h]
  show (s.wait++[s.sets.length]).Nodup
  rw [List.nodup_append]
  refine ⟨w.wn,by simp,fun a ha b hb=>?_⟩
  rw [List.mem_singleton.1 hb]
  have:=w.wt a ha
  omega
theorem fJ (w:Wf N s) (hi:i<s.sets.length) {x y:Nat} (hx:x<N) (hy:y<N) (he:(aJ hit s i).cls.getD x 0=(aJ hit s i).cls.getD y 0):s.cls.getD x 0=s.cls.getD y 0:=by
 by_cases h:dv hit s i=[]∨dy hit s i=[]
 ·rw [cd h] at he;exact he
 rw [bT w hi hx h,bT w hi hy h] at he
 have a1:=(w.at' x hx).1
 have a2:=(w.at' y hy).1
 have hin:∀ z,z∈bl hit s i→s.cls.getD z 0=i:=fun z hz=>((w.in' i hi).2 z ((bV hit s i z).1 (.inl hz))).2
 by_cases h1:x∈bl hit s i<;>by_cases h2:y∈bl hit s i
 ·rw [hin x h1,hin y h2]
 ·rw [if_pos h1,if_neg h2] at he;omega
 ·rw [if_neg h1,if_pos h2] at he;omega
 ·rw [if_neg h1,if_neg h2] at he;exact he
theorem xd (w:Wf N s) (hi:i<s.sets.length) {x y:Nat} (hx:x<N) (hy:y<N) (hxi:s.cls.getD x 0=i) (he:(aJ hit s i).cls.getD x 0=(aJ hit s i).cls.getD y 0):hit x=hit y:=by
 have hyi:s.cls.getD y 0=i:=(fJ w hi hx hy he).symm.trans hxi
 have mx:=(w.at' x hx).2
 have my:=(w.at' y hy).2
 rw [hxi] at mx
 rw [hyi] at my
 by_cases h:dv hit s i=[]∨dy hit s i=[]
 ·unfold dv dy at h
  rcases h with h | h
  ·rw [List.filter_eq_nil_iff] at h
   have:=h x mx
   have:=h y my
   simp_all
  ·rw [List.filter_eq_nil_iff] at h
   have:=h x mx
   have:=h y my
   simp_all
 ·rw [bT w hi hx h,bT w hi hy h] at he
  have a1:=(w.at' x hx).1
  have a2:=(w.at' y hy).1
  by_cases h1:x∈bl hit s i<;>by_cases h2:y∈bl hit s i
  ·exact Ac h1 h2
  ·rw [if_pos h1,if_neg h2] at he;omega
  ·rw [if_neg h1,if_pos h2] at he;omega
  ·exact yV (((bV hit s i x).2 mx).resolve_left h1) (((bV hit s i y).2 my).resolve_left h2)
theorem tw (w:Wf N s) (hi:i<s.sets.length) {x y:Nat} (hx:x<N) (hy:y<N) (he:s.cls.getD x 0=s.cls.getD y 0) (hh:hit x=hit y):(aJ hit s i).cls.getD x 0=(aJ hit s i).cls.getD y 0:=by
 by_cases h:dv hit s i=[]∨dy hit s i=[]
 ·rw [cd h];exact he
 rw [bT w hi hx h,bT w hi hy h]
 have hin:∀ z,z∈bl hit s i→s.cls.getD z 0=i:=fun z hz=>((w.in' i hi).2 z ((bV hit s i z).1 (.inl hz))).2
 have mx:=(w.at' x hx).2
 have my:=(w.at' y hy).2
 by_cases h1:x∈bl hit s i<;>by_cases h2:y∈bl hit s i
 ·rw [if_pos h1,if_pos h2]
 ·have e:=hin x h1
  rw [he] at e
  rw [e] at my
  exact absurd hh (mW h1 (((bV hit s i y).2 my).resolve_left h2))
 ·have e:=hin y h2
  rw [← he] at e
  rw [e] at mx
  exact absurd hh.symm (mW h2 (((bV hit s i x).2 mx).resolve_left h1))
 ·rw [if_neg h1,if_neg h2];exact he
theorem tX (w:Wf N s) (hi:i<s.sets.length) {k m:Nat} (hk:k<N) (hm:m<N) (hne:(aJ hit s i).cls.getD k 0≠(aJ hit s i).cls.getD m 0) :
  s.cls.getD k 0=s.cls.getD m 0→((aJ hit s i).cls.getD k 0∈(aJ hit s i).wait∨(aJ hit s i).cls.getD m 0∈(aJ hit s i).wait):=by
 intro he
 by_cases h:dv hit s i=[]∨dy hit s i=[]
 ·rw [cd h] at hne;exact absurd he hne
 have hw:(aJ hit s i).wait=s.wait++[s.sets.length]:=by rw [bW h]
 rw [bT w hi hk h,bT w hi hm h] at hne ⊢
 rw [hw]
 by_cases h1:k∈bl hit s i
 ·rw [if_pos h1];exact .inl (by simp)
 ·by_cases h2:m∈bl hit s i
  ·rw [if_pos h2];exact .inr (by simp)
  ·rw [if_neg h1,if_neg h2] at hne;exact absurd he hne
theorem l4 (w:Wf N s) (hi:i<s.sets.length) {k:Nat} (hk:k<N) (hw0:s.cls.getD k 0∈s.wait):(aJ hit s i).cls.getD k 0∈(aJ hit s i).wait:=by
 by_cases h:dv hit s i=[]∨dy hit s i=[]
 ·rw [cd h];exact hw0
 have hw:(aJ hit s i).wait=s.wait++[s.sets.length]:=by rw [bW h]
 rw [bT w hi hk h,hw]
 by_cases h1:k∈bl hit s i
 ·rw [if_pos h1];simp
 ·rw [if_neg h1];exact List.mem_append_left _ hw0
theorem uj (w:Wf N s) (hi:i<s.sets.length):2*(N-(aJ hit s i).sets.length)+(aJ hit s i).wait.length≤2*(N-s.sets.length)+s.wait.length:=by
 by_cases h:dv hit s i=[]∨dy hit s i=[]
 ·rw [cd h];exact Nat.le_refl _
 have w2:=(sY (hit:=hit) w hi).le
 rw [bW h] at w2 ⊢
 simp only [List.length_append,List.length_set,List.length_singleton] at w2 ⊢
 omega
end
end Go.Proofs.YthfodompfpdmgaaGreatDoor

