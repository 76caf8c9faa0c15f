/-
  Each node's sides; whether a type is polar: the program's answers. (with the parts that follow it)
-/
import Derived.Test.YthfodompfpdmgaaGreatDoorSOE
import Derived.Maps.RangeRun
import Derived.RangeFuncRecord
import Derived.RangeFuncSeq
import Derived.RangeFuncLeaves
import Derived.Laws.CopyRow
import Derived.Laws.IdiomCopy
import Derived.Lib.Builder
import Derived.LaidEqlPtr
import Derived.Laws.Pointers
import Derived.Laws.Externs
import Derived.Lib.UnsafeStr
set_option linter.all false
namespace Go.Proofs.YthfodompfpdmgaaGreatDoor
open Go.Ab
def sd (l:List Spot) (i:Nat):Int:=(if ((i:Int),(1:Int))∈l then 1 else 0)+(if ((i:Int),(2:Int))∈l then 2 else 0)
def sdL (N:Nat) (l:List Spot):List Int:=(List.range N).map (sd l)
theorem j7 (N:Nat) (l:List Spot):(sdL N l).length=N:=by simp [sdL]
theorem eu {N:Nat} {l:List Spot} {i:Nat} (h:i<N):((sdL N l).map i64).getD i .nilp=i64 (sd l i):=by simp [sdL,h]
theorem ER:∀ (p q r:Bool),nW .or .i64 ((if p then 1 else 0)+(if q then 2 else 0)) (if r then 1 else 2)=(if p || r then 1 else 0)+(if q || !r then 2 else 0):=by decide
theorem Dd {l:List Spot} {k:Nat} (h:k<l.length) {i:Nat} {side:Int} (hk:l[k]=((i:Int),side)) (hs:side=1∨side=2):nW .or .i64 (sd (l.take k) i) side=sd (l.take (k+1)) i:=by
 have e:∀ x:Spot,x∈l.take (k+1)↔x∈l.take k∨x=((i:Int),side):=fun x=>by rw [List.take_succ_eq_append_getElem h,List.mem_append,List.mem_singleton,hk]
 have h1:=ER (decide (((i:Int),(1:Int))∈l.take k)) (decide (((i:Int),(2:Int))∈l.take k)) (decide (side=1))
 simp only [sd,e]
 rcases hs with rfl | rfl
 ·simpa using h1
 ·simpa using h1
theorem yw {l:List Spot} {k:Nat} (h:k<l.length) {i:Nat} (hk:l[k].1≠(i:Int)):sd (l.take k) i=sd (l.take (k+1)) i:=by
 have e:∀ s:Int,((i:Int),s)∈l.take (k+1)↔((i:Int),s)∈l.take k:=fun s=>by
  rw [List.take_succ_eq_append_getElem h,List.mem_append,List.mem_singleton]
  refine ⟨fun h=>h.resolve_right fun e=>hk (by rw [← e]),.inl⟩
 simp only [sd,e]
theorem yi {N:Nat} {l:List Spot} {k:Nat} (h:k<l.length) {i:Nat} {side:Int} (hk:l[k]=((i:Int),side)) (hs:side=1∨side=2) (_hi:i<N) :
  (sdL N (l.take k)).set i (nW .or .i64 (sd (l.take k) i) side)=sdL N (l.take (k+1)):=by
 rw [Dd h hk hs]
 refine List.ext_getElem (by simp [sdL]) fun q h1 h2=>?_
 have hq:q<N:=by simpa [sdL] using h2
 simp only [List.getElem_set]
 by_cases e:i=q
 ·subst e
  simp [sdL]
 ·rw [if_neg e]
  have:=yw h (i:=q) (by rw [hk];intro h;simp only at h;omega)
  simpa [sdL] using this
theorem Ax (N:Nat) (l:List Spot):sdL N (l.take 0)=List.replicate N 0:=by
 refine List.ext_getElem (by simp [sdL]) fun q h1 h2=>?_
 simp [sdL,sd]
def Spots (ns:List TN) (root:Int) (l:List Spot):Prop:=Dfs (bQ ns) [] [(root,1)] l∧(∀ s∈l,okS ns s)∧l.length≤2*ns.length
theorem Gn {G} (ns:List TN) (root:Int) (hN:ns.length≤2000) (hfl:∀ n∈ns,n.l.length≤1000000) (hk:kY ns) (hr:0≤root∧root<ns.length) :
  HP Tryz.prog G 47 [aF ns root] (fun r=>∃ l,r=.d (aj (sdL ns.length l))∧Spots ns root l):=by
 refine aP Tryz.func47 rfl (by decide +kernel) (by simp [Tryz.ntmps47]) (veil fun E=>?_)
 unfold aF
 simp only [go_sem]
 refine ⟨⟨by omega,by omega,by omega,by omega⟩,?_⟩
 refine ae E (FY ns root hN hfl hk hr) rfl rfl (by simp) ?_
 rintro _ ⟨l,rfl,hl⟩
 simp only [go_sem]
 have hrep:List.replicate ns.length (D.int IntKind.i64 0)=(sdL ns.length (l.take 0)).map i64:=by rw [Ax,List.map_replicate]
 rw [hrep]
 have hlen:=hl.2.2
 refine dx E (X:={ k:Nat // k≤l.length }) (fun x=>[(3,.vw [9] 0 ns.length),(11,.d (.sl (some 2) (l.map bu))),(12,.d (i64 l.length)),(13,.d (i64 x.1))]) (fun x=>[([9],.arr none ((sdL ns.length (l.take x.1)).map i64))]) [9] (fun x=>l.length-x.1) ⟨0,Nat.zero_le _⟩ ?_ ?_
 ·simp only [go_sem]
  all_goals rfl
 rintro ⟨k,hkl⟩ E0
 refine aR E0 fun Q' hQ E'=>?_
 simp only at hkl ⊢
 simp only [go_sem]
 refine ai E' (fun h1=>?_) (fun h1=>?_)<;>simp only [go_sem]
 ·have h1':k<l.length:=by omega
  obtain ⟨⟨i,side⟩,hs⟩:∃ s,s=l[k]:=⟨_,rfl⟩
  have hok:=hl.2.1 l[k] (List.getElem_mem h1')
  rw [← hs] at hok
  obtain ⟨⟨ho1,ho2⟩,ho3⟩:=hok
  simp only at ho1 ho2 ho3
  obtain ⟨x,rfl⟩:∃ x:Nat,i=(x:Int):=⟨i.toNat,by omega⟩
  have hx:(l.map bu).getD k .nilp=.agg [i64 x,i64 side]:=by simp [h1',bu,← hs]
  refine ⟨by omega,?_⟩
  rw [hx]
  simp only [go_sem]
  refine ag mixed E' fun X=>?_
  simp only [go_sem]
  refine ⟨by omega,?_⟩
  rw [eu (by omega)]
  simp only [go_sem]
  refine ⟨⟨by omega,by omega⟩,by decide +kernel,?_⟩
  rw [hQ]
  simp only [go_sem]
  refine ⟨⟨k+1,by omega⟩,by show l.length-(k+1)<_;omega,by rw [ab ⟨by omega,by omega⟩];rfl,?_⟩
  have:=yi h1' hs.symm ho3 (show x<ns.length by omega)
  rw [← this,List.map_set]
 ·rw [hQ]
  simp only [go_sem]
  have:k=l.length:=by omega
  subst this
  refine ⟨[([9],none,(sdL ns.length (l.take l.length)).map i64)],?_⟩
  simp only [go_sem]
  refine ⟨l,?_,hl⟩
  rw [aj,List.take_of_length_le (by simp [j7])]
theorem qt {ns:List TN} {root:Int} (h:ct ns root=0):(0<ns.length∧ns.length≤2000)∧(0≤root∧root<ns.length)∧bF ns=true∧gk ns=true:=by
 unfold ct at h
 split at h
 ·cases h
 ·rename_i h1
  split at h
  ·cases h
  ·rename_i h2
   split at h
   ·cases h
   ·rename_i h3
    simp only [Bool.or_eq_true,decide_eq_true_eq,not_or,Bool.not_eq_true',Bool.not_eq_false] at h1 h2 h3
    exact ⟨⟨by omega,by omega⟩,⟨by omega,by omega⟩,h3.1,h3.2⟩
theorem ua {n:TN} {all:Int} (h:aU n all=true):n.l.length≤30:=by
 simp only [aU,Bool.and_eq_true,Bool.not_eq_true',Bool.or_eq_false_iff,Bool.not_eq_false',decide_eq_true_eq] at h
 exact h.1.2.2.2
theorem ic {ns:List TN} (h:bF ns=true):kY ns:=by
 intro i hi
 have h1:=iA h hi
 refine ⟨jm h1,?_⟩
 have h2:=ua h1
 unfold ay
 split
 ·simp
 ·split<;>simp
  omega
def kx (ns:List TN) (l:List Spot) (i:Nat):Bool:=(decide ((nd ns i).k=9) && decide (((i:Int),(2:Int))∈l)) || (decide ((nd ns i).k=10) && decide (((i:Int),(1:Int))∈l))
def cj (ns:List TN) (l:List Spot):Bool:=!(List.range ns.length).any (kx ns l)
theorem DN (l:List Spot) (i:Nat):decide (¬ nW .and .i64 (sd l i) 1=0)=decide (((i:Int),(1:Int))∈l):=by
 unfold sd
 by_cases h1:((i:Int),(1:Int))∈l<;>by_cases h2:((i:Int),(2:Int))∈l<;>simp only [h1,h2,if_true,if_false]<;>decide
theorem Cy (l:List Spot) (i:Nat):decide (¬ nW .and .i64 (sd l i) 2=0)=decide (((i:Int),(2:Int))∈l):=by
 unfold sd
 by_cases h1:((i:Int),(1:Int))∈l<;>by_cases h2:((i:Int),(2:Int))∈l<;>simp only [h1,h2,if_true,if_false]<;>decide
theorem iV {p:Nat→Bool} {k:Nat} (h:(List.range k).any p=false) (hp:p k=false):(List.range (k+1)).any p=false:=by
 rw [List.range_succ,List.any_append,h,Bool.false_or]
 simp [hp]
theorem lx {p:Nat→Bool} {N k:Nat} (h:k<N) (hp:p k=true):(List.range N).any p=true:=List.any_eq_true.2 ⟨k,List.mem_range.2 h,hp⟩
theorem BO {G} (ns:List TN) (root:Int) (hs:Sane ns):HP Tryz.prog G 23 [aF ns root] (fun r=>(ct ns root≠0∧r=.d (i64 (ct ns root)))∨(ct ns root=0∧∃ l,r=.d (i64 (if cj ns l then 0 else 12))∧Spots ns root l)):=by
 refine ao Tryz.func23 rfl (by decide +kernel) (by simp [Tryz.ntmps23]) (veil fun E=>?_)
 unfold aF
 simp only [go_sem]
 refine ae E (EE ns root hs) rfl rfl (by simp) ?_
 rintro _ rfl
 simp only [go_sem]
 refine ai E (fun h1=>?_) (fun h1=>?_)<;>simp only [go_sem]
 ·exact .inl h1
 have h1:ct ns root=0:=by simpa using h1
 obtain ⟨⟨h2,h3⟩,h4,h5,h6⟩:=qt h1
 refine ae E (Gn ns root h3 (fun n hn=>(hs.2 n hn).1) (ic h5) h4) rfl rfl (by simp) ?_
 rintro _ ⟨l,rfl,hl⟩
 unfold aj
 simp only [go_sem]
 refine bL E [1] (.agg [.sl (some 4) (ns.map ah),i64 root]) rfl rfl ?_
 simp only [go_sem]
 rw [j7]
 refine bc E (X:={ k:Nat // k≤ns.length∧(List.range k).any (kx ns l)=false }) (fun x=>[(1,.d (.ptr (.agg [.sl (some 4) (ns.map ah),i64 root]))),(13,.d (.sl none ((sdL ns.length l).map i64))),(14,.d (i64 ns.length)),(15,.d (i64 x.1))]) (fun x=>ns.length-x.1) rfl ⟨0,Nat.zero_le _,rfl⟩ ?_ ?_
 ·simp only [go_sem]
  all_goals rfl
 rintro ⟨k,hkl,hb⟩ E'
 simp only [go_sem]
 refine ai E' (fun h7=>?_) (fun h7=>?_)<;>simp only [go_sem]
 ·have h7':k<ns.length:=by omega
  have hsl:(sdL ns.length l).length=ns.length:=j7 _ _
  refine ⟨by omega,?_⟩
  rw [eu h7']
  simp only [go_sem]
  refine ⟨by omega,?_⟩
  rw [bJ h7']
  simp only [go_sem]
  repeat (first
   | (apply a8 E';(· simp only [go_sem]);(· intro h;(try simp only [bq] at h);simp only [↓h,go_sem];rfl);simp only [go_sem])
   | (apply aJ E';(· simp only [go_sem]);(· intro h;(try simp only [bq] at h);simp only [↓h,go_sem];rfl);(· intro h;(try simp only [bq] at h);simp only [↓h,go_sem];rfl);simp only [go_sem])
   | (apply aH E';(· simp only [go_sem]);(· rfl);(· intro h h';(try simp only [bq] at h h');simp only [↓h,↓h',go_sem];rfl);simp only [go_sem])
   | (apply aA E';(· simp only [go_sem]);(· rfl);(· intro h h';(try simp only [bq] at h h');simp only [↓h,↓h',go_sem];rfl);(· intro h h';(try simp only [bq] at h h');simp only [↓h,↓h',go_sem];rfl);simp only [go_sem])
   | (apply bj E';(· decide);simp only [go_sem]))
  rw [Cy]
  have bad:kx ns l k=true→cj ns l=false:=fun h=>by rw [cj,lx h7' h];rfl
  refine aX E' (fun h8=>?_) (fun h8=>?_)<;>simp only [go_sem]
  ·rw [h8]
   simp only [go_sem]
   refine .inr ⟨h1,l,?_,hl⟩
   rw [bad (by rw [kx,h8,Bool.true_or])]
   rfl
  ·repeat (first
    | (apply a8 E';(· simp only [go_sem]);(· intro h;(try simp only [bq] at h);simp only [↓h,go_sem];rfl);simp only [go_sem])
    | (apply aJ E';(· simp only [go_sem]);(· intro h;(try simp only [bq] at h);simp only [↓h,go_sem];rfl);(· intro h;(try simp only [bq] at h);simp only [↓h,go_sem];rfl);simp only [go_sem])
    | (apply aH E';(· simp only [go_sem]);(· rfl);(· intro h h';(try simp only [bq] at h h');simp only [↓h,↓h',go_sem];rfl);simp only [go_sem])
    | (apply aA E';(· simp only [go_sem]);(· rfl);(· intro h h';(try simp only [bq] at h h');simp only [↓h,↓h',go_sem];rfl);(· intro h h';(try simp only [bq] at h h');simp only [↓h,↓h',go_sem];rfl);simp only [go_sem])
    | (apply bj E';(· decide);simp only [go_sem]))
   rw [DN]
   refine aX E' (fun h9=>?_) (fun h9=>?_)<;>simp only [go_sem]
   ·refine .inr ⟨h1,l,?_,hl⟩
    rw [bad (by rw [kx,h9,Bool.or_true])]
    rfl
   ·refine ⟨⟨k+1,by omega,iV hb (by rw [kx,h8,h9];rfl)⟩,by show ns.length-(k+1)<_;omega,?_⟩
    rw [ab ⟨by omega,by omega⟩];rfl
 ·have:k=ns.length:=by omega
  subst this
  refine .inr ⟨h1,l,?_,hl⟩
  rw [cj,hb]
  rfl
end Go.Proofs.YthfodompfpdmgaaGreatDoor

namespace Go.Proofs.YthfodompfpdmgaaGreatDoor
open Go.Ab
theorem yV (n:TN):okW (some 4) (ah n):=⟨rfl,by simp [bP,D.scal]⟩
theorem Dm {xs:List D} {ns:List TN} {root:Int} (h:lB xs ns):Wk (.agg [.sl (some 4) xs,i64 root]) (aF ns root):=by
 refine Wk.agg rfl (by simp [D.scal]) fun i a b ha hb=>?_
 match i,ha,hb with
 | 1,ha,hb=>cases ha;cases hb;exact .refl _
 | 0,ha,hb =>
   cases ha;cases hb
   refine Wk.sl (by simp [h.len]) (fun b hb=>by obtain ⟨n,_,rfl⟩:=List.mem_map.1 hb;exact yV n) fun i a b ha hb=>?_
   rw [List.getElem?_map,Option.map_eq_some_iff] at hb
   obtain ⟨n,hn,rfl⟩:=hb
   have hi:=(List.getElem?_eq_some_iff.1 hn).1
   have hg:=h.get i hi
   have hi2:i<xs.length:=by rw [h.len];exact hi
   have e1:xs.getD i .nilp=a:=by simp [ha]
   have e2:ns[i]=n:=by
    have:=List.getElem?_eq_getElem hi
    rw [this] at hn
    exact Option.some.inj hn
   rw [e1,e2] at hg
   obtain ⟨F,rfl,hF⟩:=hg
   refine ⟨rfl,fun j c d hc hd=>?_⟩
   match j,hc,hd with
   | 0,hc,hd=>cases hc;cases hd;exact .refl _
   | 1,hc,hd=>cases hc;cases hd;exact .refl _
   | 2,hc,hd=>cases hc;cases hd;exact .refl _
   | 3,hc,hd =>
     cases hc;cases hd
     rcases hF with ⟨rfl,hF⟩ | rfl
     ·rw [hF];exact .nils _
     ·exact .refl _
def tsT:List TS:=[.sl (some 4) [.int .i64,.int .i64,.int .i64,.sl (some 2) [.str,.int .i64]],.int .i64]
def In (L:D) (ns:List TN):Prop:=HT L ns∧ns.length≤maxLen∧∀ n∈ns,n.l.length≤maxLen∧∀ f∈n.l,f.1.length≤maxLen
theorem re:∀ {xs:List D},(∀ x∈xs,okW (some 2) x∧oks [.str,.int .i64] x.cells)→∃ l:List Fld,xs=l.map aG∧∀ f∈l,f.1.length≤maxLen
 | [],_=>⟨[],rfl,by simp⟩
 | x::xs,h=>by
   obtain ⟨l,hl,hf⟩:=re fun y hy=>h y (List.mem_cons_of_mem _ hy)
   obtain ⟨h1,h2⟩:=h x List.mem_cons_self
   cases x with
   | agg cs =>
     have h2:oks [.str,.int .i64] cs:=h2
     match cs,h2 with
     | [.str s,.int k n],h2 =>
       obtain ⟨g1,g2,_⟩:=h2
       obtain rfl:k=.i64:=g2.1
       exact ⟨(s,n)::l,by rw [hl];rfl,fun f hf'=>by
        rcases List.mem_cons.1 hf' with rfl | hf'
        ·exact g1
        ·exact hf f hf'⟩
   | _=>simp [okW] at h1
theorem Ca {x:D} (h1:okW (some 4) x) (h2:oks [.int .i64,.int .i64,.int .i64,.sl (some 2) [.str,.int .i64]] x.cells):∃ n,Ft x n∧n.l.length≤maxLen∧∀ f∈n.l,f.1.length≤maxLen:=by
 cases x with
 | agg cs =>
   have h2:oks [.int .i64,.int .i64,.int .i64,.sl (some 2) [.str,.int .i64]] cs:=h2
   match cs,h2 with
   | [.int k1 a,.int k2 b,.int k3 c,F],h2 =>
     obtain ⟨g1,g2,g3,g4,_⟩:=h2
     obtain rfl:k1=.i64:=g1.1
     obtain rfl:k2=.i64:=g2.1
     obtain rfl:k3=.i64:=g3.1
     cases F with
     | nils=>exact ⟨⟨a,b,c,[]⟩,⟨.nils,rfl,.inl ⟨rfl,rfl⟩⟩,by simp,by simp⟩
     | sl w xs =>
       obtain ⟨rfl,g5,g6⟩:=g4
       obtain ⟨l,rfl,hl⟩:=re g6
       exact ⟨⟨a,b,c,l⟩,⟨_,rfl,.inr rfl⟩,by simpa using g5,hl⟩
     | _=>exact g4.elim
 | _=>simp [okW] at h1
theorem sN:∀ {xs:List D},(∀ x∈xs,okW (some 4) x∧oks [.int .i64,.int .i64,.int .i64,.sl (some 2) [.str,.int .i64]] x.cells)→∃ ns,lB xs ns∧∀ n∈ns,n.l.length≤maxLen∧∀ f∈n.l,f.1.length≤maxLen
 | [],_=>⟨[],trivial,by simp⟩
 | x::xs,h=>by
   obtain ⟨ns,h1,h2⟩:=sN fun y hy=>h y (List.mem_cons_of_mem _ hy)
   obtain ⟨g1,g2⟩:=h x List.mem_cons_self
   obtain ⟨n,k1,k2⟩:=Ca g1 g2
   exact ⟨n::ns,⟨k1,h1⟩,fun m hm=>by
    rcases List.mem_cons.1 hm with rfl | hm
    ·exact k2
    ·exact h2 m hm⟩
theorem D4 {ds:List D} (h:oks tsT ds):∃ L root ns,ds=[L,i64 root]∧In L ns:=by
 match ds,h with
 | [L,.int k n],h =>
   obtain ⟨h1,h2,_⟩:=h
   obtain rfl:k=.i64:=h2.1
   cases L with
   | nils=>exact ⟨.nils,n,[],rfl,.inl ⟨rfl,rfl⟩,by simp,by simp⟩
   | sl w xs =>
     obtain ⟨rfl,g1,g2⟩:=h1
     obtain ⟨ns,k1,k2⟩:=sN g2
     exact ⟨_,n,ns,rfl,.inr ⟨xs,rfl,k1⟩,by rw [← k1.len];exact g1,k2⟩
   | _=>exact h1.elim
theorem oP:maxLen≤9223372036854775807:=by unfold maxLen;omega
theorem se (ns:List TN) (root:Int):Wk (cC ns root) (aF ns root):=by
 refine Wk.agg rfl (by simp [D.scal]) fun i a b ha hb=>?_
 match i,ha,hb with
 | 1,ha,hb=>cases ha;cases hb;exact .refl _
 | 0,ha,hb =>
   cases ha;cases hb
   cases ns with
   | nil=>exact .nils _
   | cons n r=>exact .refl _
theorem DL (ns:List TN) (most:Nat) (hm:most≤1000):(dp ns most).length≤2001∧(dp ns most).length≤ns.length:=by
 simp only [dp,List.length_map,List.length_take,dh]
 split<;>omega
theorem BA {L:D} {ns:List TN} (h:In L ns) (most:Nat) (hm:most≤1000):Sane (dp ns most):=by
 have hx:=oP
 refine ⟨by have:=(DL ns most hm).1;omega,fun n hn=>?_⟩
 obtain ⟨m,hm',rfl⟩:=List.mem_map.1 hn
 have hmem:=List.mem_of_mem_take hm'
 obtain ⟨h1,h2⟩:=h.2.2 m hmem
 refine ⟨?_,fun f hf=>?_⟩
 ·simp only [bK,List.length_take]
  omega
 ·have:=h2 f (List.mem_of_mem_take hf)
  omega
theorem GJ {G} {L:D} {ns:List TN} (root:Int) (most:Nat) (h:In L ns) (hm:most≤1000):HP Tryz.prog G 6 [.agg [L,i64 root],i64 most] (fun r=>r=.d (cC (dp ns most) root)):=by
 have hx:=oP
 rcases h.1 with ⟨rfl,rfl⟩ | ⟨xs,rfl,hr⟩
 ·refine (Ba [] [] root most trivial (by simp) hm).wk ⟨Wk.agg rfl (by simp [D.scal]) fun i a b ha hb=>?_,.refl _,trivial⟩
  match i,ha,hb with
  | 0,ha,hb=>cases ha;cases hb;exact .nils _
  | 1,ha,hb=>cases ha;cases hb;exact .refl _
 ·exact Ba xs ns root most hr (by have:=h.2.1;omega) hm
theorem zP {G} (ns:List TN) (root:Int) (most:Nat) (hs:Sane ns) (hm:most≤1000):HP Tryz.prog G 6 [cC ns root,i64 most] (fun r=>r=.d (cC (dp ns most) root)):=by
 refine (Ba (ns.map ah) ns root most ?_ (by have:=hs.1;omega) hm).wk ⟨se ns root,.refl _,trivial⟩
 have:∀ ns:List TN,lB (ns.map ah) ns:=fun ns=>by
  induction ns with
  | nil=>trivial
  | cons n r ih=>exact ⟨⟨_,rfl,.inr rfl⟩,ih⟩
 exact this ns
theorem Cd (ns:List TN):dp (dp ns 14) 14=dp ns 14:=by
 have hl:(dp ns 14).length=dh ns.length 14:=by
  simp only [dp,List.length_map,List.length_take]
  have:dh ns.length 14≤ns.length:=by unfold dh;split<;>omega
  omega
 have hN:dh (dp ns 14).length 14=(dp ns 14).length:=by
  rw [hl]
  unfold dh
  split<;>split<;>omega
 have h2:dp (dp ns 14) 14=((dp ns 14).take (dp ns 14).length).map bK:=by
  show ((dp ns 14).take (dh (dp ns 14).length 14)).map bK=_
  rw [hN]
 rw [h2,List.take_length,dp,List.map_map]
 refine List.map_congr_left fun n _=>?_
 simp [bK,List.take_take]
end Go.Proofs.YthfodompfpdmgaaGreatDoor

namespace Go.Ab
mutual
def D.flat:D→Bool
 | .int _ _=>true
 | .bool _=>true
 | .str _=>true
 | .nilp=>true
 | .nils=>true
 | .nilm=>true
 | .nilf=>true
 | .nili=>true
 | .unk=>true
 | .sl _ xs=>xs.isEmpty
 | .slx _ _=>false
 | .agg cs=>aS cs
 | .ptr _=>false
 | .clo _ cs=>aS cs
 | .ifc _ d=>d.flat
 | .mpd _ _ _ _=>false
 | .yl _=>true
def aS:List D→Bool
 | []=>true
 | d::r=>d.flat && aS r
end
mutual
def AV.flat:AV→Bool
 | .un=>true
 | .d x=>x.flat
 | .vw _ _ _=>true
 | .bx _ _=>true
 | .el _ _ _=>true
 | .mp _=>true
 | .it _=>true
 | .agg cs=>fT cs
 | .tup cs=>fT cs
 | .clo _ cs=>fT cs
 | .va _ _ _=>true
 | .ea _ _=>true
 | .ma _=>true
def fT:List AV→Bool
 | []=>true
 | x::r=>x.flat && fT r
end
def q7:List (D × D)→Bool
 | []=>true
 | x::r=>x.1.flat && x.2.flat && q7 r
def Ob.flat:Ob→Bool
 | .arrT _ _ xs=>aS xs
 | .boxT _ cs=>fT cs
 | .map es=>q7 es
 | .siter _ _=>true
 | .miter _ _ _=>false
 | .arrA xs=>fT xs
 | .mapA _ _ _=>false
def bT:List (Name × Ob)→Bool
 | []=>true
 | x::r=>x.2.flat && bT r
theorem fC:∀ {l:List D},aS l=true→∀ (i:Nat) d,l[i]?=some d→d.flat=true
 | [],_,i,d,h=>by simp at h
 | x::r,hf,i,d,h=>by
   simp only [aS,Bool.and_eq_true] at hf
   cases i with
   | zero=>cases h;exact hf.1
   | succ i=>exact fC hf.2 i d (by simpa using h)
theorem dj:∀ {l:List AV},fT l=true→∀ (i:Nat) x,l[i]?=some x→x.flat=true
 | [],_,i,d,h=>by simp at h
 | x::r,hf,i,d,h=>by
   simp only [fT,Bool.and_eq_true] at hf
   cases i with
   | zero=>cases h;exact hf.1
   | succ i=>exact dj hf.2 i d (by simpa using h)
theorem ox:∀ {l:List (D × D)},q7 l=true→∀ (i:Nat) x,l[i]?=some x→x.1.flat=true∧x.2.flat=true
 | [],_,i,d,h=>by simp at h
 | x::r,hf,i,d,h=>by
   simp only [q7,Bool.and_eq_true] at hf
   cases i with
   | zero=>cases h;exact hf.1
   | succ i=>exact ox hf.2 i d (by simpa using h)
theorem oL:∀ {l:List (Name × Ob)},bT l=true→∀ q∈l,q.2.flat=true
 | [],_,q,h=>by simp at h
 | x::r,hf,q,h=>by
   simp only [bT,Bool.and_eq_true] at hf
   rcases List.mem_cons.1 h with rfl | h
   ·exact hf.1
   ·exact oL hf.2 q h
theorem Rep.reown {H H':Array Obj} {own own':Nat→Prop} {v:Value} {d:D} (h:Rep H own v d):d.flat=true→Rep H' own' v d:=by
 induction h with
 | int k n=>exact fun _=>.int k n
 | bool b=>exact fun _=>.bool b
 | str l=>exact fun _=>.str l
 | nilp=>exact fun _=>.nilp
 | nils=>exact fun _=>.nils
 | nilm=>exact fun _=>.nilm
 | nilf=>exact fun _=>.nilf
 | nili=>exact fun _=>.nili
 | unk v h=>exact fun _=>.unk v h
 | yl l=>exact fun _=>.yl l
 | agg vs cs hs hc _ ih=>exact fun hf=>.agg vs cs hs hc fun i d hi=>ih i d hi (fC hf i d hi)
 | sl0 a cap w=>exact fun _=>.sl0 a cap w
 | sl b o cap c e fz w xs hb hn hcap hz hw _ ih =>
   intro hf
   have:xs=[]:=by simpa [D.flat] using hf
   subst this
   exact .sl0 _ _ _
 | slx v w xs _ hc ih=>intro hf;cases hf
 | ptr b o c e fz d hb hn hz hsc _ ih=>intro hf;cases hf
 | clo f vs cs hs _ ih=>exact fun hf=>.clo f vs cs hs fun i d hi=>ih i d hi (fC hf i d hi)
 | ifc t v d _ ih=>exact fun hf=>.ifc t v d (ih hf)
 | mpd b clk ents bs ks vs hb hn hs hbs _ _ ih1 ih2=>intro hf;cases hf
section
variable {H:Array Obj} {own own':Nat→Prop} {used:List Nat} {hp:Name→Option Ob} {β:Name→Option Blk}
theorem VR.reown {v:Value} {x:AV} (h:VR H own used hp β v x):x.flat=true→VR H own' used hp β v x:=by
 induction h with
 | un v=>exact fun _=>.un v
 | d v x h=>exact fun hf=>.d v x (h.reown hf)
 | vw v p off len hu h1 h=>exact fun _=>.vw v p off len hu h1 h
 | bx v p c hu h1 h=>exact fun _=>.bx v p c hu h1 h
 | el v p i c hu h1 h=>exact fun _=>.el v p i c hu h1 h
 | mp v p hu h1 h=>exact fun _=>.mp v p hu h1 h
 | its v p hu h1 h h'=>exact fun _=>.its v p hu h1 h h'
 | va v p off len hu h1 h=>exact fun _=>.va v p off len hu h1 h
 | ea v p i hu h1 h=>exact fun _=>.ea v p i hu h1 h
 | ma v p hu h1 h=>exact fun _=>.ma v p hu h1 h
 | agg vs cs hs hc _ ih=>exact fun hf=>.agg vs cs hs hc fun i x hi=>ih i x hi (dj hf i x hi)
 | tup vs cs hs _ ih=>exact fun hf=>.tup vs cs hs fun i x hi=>ih i x hi (dj hf i x hi)
 | clo f vs cs hs _ ih=>exact fun hf=>.clo f vs cs hs fun i x hi=>ih i x hi (dj hf i x hi)
theorem tB {d:D} (h:d.flat=true):aS d.cells=true:=by
 cases d<;>first | exact h | (simp only [D.cells,aS,Bool.and_true];exact h)
theorem OR.reown {p:Name} {o:Ob} (h:OR H own used hp β p o) (hf:o.flat=true):OR H own' used hp β p o:=by
 cases o with
 | arrT ty w xs =>
   rcases h with h | ⟨k,c,e,hk,hc,hz,hl,hw,h⟩
   ·exact .inl h
   ·exact .inr ⟨k,c,e,hk,hc,hz,hl,hw,fun i x j d hi hj=>(h i x j d hi hj).reown (fC (tB (fC hf i x hi)) j d hj)⟩
 | boxT ty cs =>
   obtain ⟨k,c,e,hk,ho,hc,hz,hl,h1,h⟩:=h
   exact ⟨k,c,e,hk,ho,hc,hz,hl,h1,fun j x hj=>(h j x hj).reown (dj hf j x hj)⟩
 | map es =>
   obtain ⟨k,ents,clock,hk,hc,hz,h⟩:=h
   refine ⟨k,ents,clock,hk,hc,hz,fun i x hi=>?_⟩
   obtain ⟨en,h1,h2,h3⟩:=h i x hi
   obtain ⟨g1,g2⟩:=ox hf i x hi
   exact ⟨en,h1,h2.reown g1,h3.reown g2⟩
 | siter s pos=>exact h
 | miter _ _ _=>cases hf
 | mapA _ _ _=>cases hf
 | arrA xs =>
   rcases h with h | ⟨k,c,e,hk,hc,hz,hl,hw,h⟩
   ·exact .inl h
   ·exact .inr ⟨k,c,e,hk,hc,hz,hl,hw,fun i x hi=>(h i x hi).reown (dj hf i x hi)⟩
end
theorem Sim.reown {n:Nat} {io:Os × Array (Nat × ByteArray)} {G:List (Nat × Obj)} {H0:Array Obj} {O0 A A2:Nat→Prop} {U0:List Nat} {β0:Name→Option Blk} {hA:∀ b,A b→b<H0.size} {hA2:∀ b,A2 b→b<H0.size} {hG:∀ q∈G,H0[q.1]?=some q.2∧¬ O0 q.1}
  {β:Name→Option Blk} {fr:List (Nat × AV)} {hp:List (Name × Ob)} {u:List Nat} {tm:Array Value} {w:World}
  (h:Sim ⟨n,io,G,H0,O0,A,U0,β0,hA,hG⟩ β (Go.Ab.mk fr hp u) tm w) (hO:∀ b,A2 b→¬ O0 b) (hf:∀ t,(lkA AV.un fr t).flat=true) (hh:bT hp=true):Sim ⟨n,io,G,H0,O0,A2,U0,β0,hA2,hG⟩ β (Go.Ab.mk fr hp u) tm w:=by
 refine { tms:=h.tms,io:=h.io,size:=h.size,frame:=h.frame,slots:=fun t=>(h.slots t).reown (hf t),objs:=fun p o ho=>?_,blocks:=fun p k hp hk=>?_,inj:=h.inj,us:=h.us,stay:=h.stay }
 ·obtain ⟨h1,h2⟩:=h.objs p o ho
  exact ⟨h1,h2.reown (oL hh _ (iM ho))⟩
 ·obtain ⟨h1,_,h3⟩:=h.blocks p k hp hk
  refine ⟨h1,fun ha=>?_,h3⟩
  rcases h3 with h3 | h3
  ·exact absurd (hA2 _ ha) (Nat.not_lt.2 h3)
  ·exact hO _ ha h3
def St.iv (s:St) (L:List (Name × W × List D)):St:=L.foldl (fun s q=>s.frz q.1 q.2.1 q.2.2) s
theorem AX (s:St):s.iv []=s:=rfl
theorem wM (s:St) (q:Name × W × List D) (L):s.iv (q::L)=(s.frz q.1 q.2.1 q.2.2).iv L:=rfl
theorem oC {P:Program} {B:Base} {β:Name→Option Blk} {s s':St} {tm tm':Array Value} {w:World} (h:Sim B β s tm w) (h':Sim B β s' tm' w) (hsub:∀ p o,s'.hp p=some o→s.hp p=some o) {f:FuncId} {cargs:List AV} {chp:List (Name × Ob)} {cu:List Nat} {Q0:AV→List (Name × Ob)→Prop} {σ:Name→Name} {d:Nat} (hd:d ∉ s.used)
  (hpass:eT σ cu s' chp) (hinj:lC σ chp) (hcu:bZ cu cargs=true) {vs:Array Value} (hvs:vs.size=cargs.length) (hv:∀ (i:Nat) x,cargs[i]?=some x→VR w.heap (s'.own B.A β) s'.used s'.hp β (vs.getD i undef) (x.ren σ)) (hc:HCall P B.G f cargs chp cu Q0)
  (hflat:∀ r hp',Q0 r hp'→r.flat=true∧bT hp'=true) :
  CallsIn Fence.wide 0 P f vs w fun e w'=>∃ v,e=.returned v∧∃ r hp',Q0 r hp'∧(iy chp hp'→∃ β2,Sim B β2 { aft s σ d chp hp' r with fr:=s.fr } tm w' ∧
   VR w'.heap ((aft s σ d chp hp' r).own B.A β2) (d::s.used) (aft s σ d chp hp' r).hp β2 v (r.ren (dV σ d chp))):=by
 obtain ⟨O0',hO⟩:∃ O0':Nat→Prop,∀ b,O0' b↔∃ p k,chp.any (fun q=>q.1 == p)=true∧β (σ p)=some k∧k.b=b:=⟨_,fun _=>Iff.rfl⟩
 obtain ⟨A',hA⟩:∃ A':Nat→Prop,∀ b,A' b↔s'.own B.A β b∧¬ O0' b:=⟨_,fun _=>Iff.rfl⟩
 obtain ⟨A2,hA2⟩:∃ A2:Nat→Prop,∀ b,A2 b↔s.own B.A β b∧¬ O0' b:=⟨_,fun _=>Iff.rfl⟩
 have hA':∀ b,A' b→b<w.heap.size:=fun b hb=>h'.uv ((hA b).1 hb).1
 have hA2':∀ b,A2 b→b<w.heap.size:=fun b hb=>h.uv ((hA2 b).1 hb).1
 have hpass0:eT σ cu s chp:=by
  clear hinj hO hcu hv hc
  induction chp with
  | nil=>trivial
  | cons q r ih=>exact ⟨⟨hsub _ _ hpass.1.1,hpass.1.2⟩,ih hpass.2⟩
 have hG':∀ q∈B.G,w.heap[q.1]?=some q.2∧¬ O0' q.1:=fun q hq=>by
  obtain ⟨g1,g2⟩:=B.hG q hq
  have hlt:=aN g1
  refine ⟨(h.frame _ hlt g2).trans g1,fun hb=>?_⟩
  obtain ⟨p,k,hp,hk,e⟩:=(hO _).1 hb
  obtain ⟨o,ho⟩:=lQ hp
  obtain ⟨h1,_,_⟩:=du hpass0 _ (lkS ho)
  obtain ⟨_,_,g3⟩:=h.blocks (σ p) k (by rw [h1];simp) hk
  rcases g3 with g3 | g3
  ·omega
  ·exact g2 (e ▸ g3)
 have hβc:∀ p,chp.any (fun q=>q.1 == p)=true→(fun p=>β (σ p)) p=β (σ p):=fun _ _=>rfl
 have live:∀ p o,lkA none (chp.map fun x=>(x.1,some x.2)) p=some o→s'.hp (σ p)=some (o.ren σ)∧o.inU cu=true∧nm cu p:=fun p o ho=>by
  obtain ⟨h1,h2,h3⟩:=du hpass _ (lkS ho)
  exact ⟨h1,h2,dK h3⟩
 have hown:∀ b,(mk (aO 0 cargs) chp cu).own A' (fun p=>β (σ p)) b→s'.own B.A β b:=by
  intro b hb
  rcases sU hb with hb | ⟨p,k,o,ho,hk,rfl⟩
  ·exact ((hA b).1 hb).1
  ·exact .inr ⟨σ p,k,by rw [(live p o ho).1];simp,hk,rfl⟩
 have hr:∀ v d,Rep w.heap (s'.own B.A β) v d→Rep w.heap ((mk (aO 0 cargs) chp cu).own A' (fun p=>β (σ p))) v d:=fun v d hd=>hd.mono (fun _ _ _=>rfl) (fun b _=>hown b)
 have hob:∀ p o,(mk (aO 0 cargs) chp cu).hp p=some o→s'.hp (σ p)=some (o.ren σ)∧(fun p=>β (σ p)) p=β (σ p):=fun p o ho=>⟨(live p o ho).1,rfl⟩
 have hsim:Sim { n:=cargs.length,io:=B.io,G:=B.G,H0:=w.heap,O0:=O0',A:=A',U0:=cu,β0:=fun p=>β (σ p),hA:=hA',hG:=hG' } (fun p=>β (σ p)) (mk (aO 0 cargs) chp cu) vs w:=by
  refine { tms:=hvs,io:=h.io,size:=Nat.le_refl _,frame:=fun _ _ _=>rfl,slots:=fun t=>?_,objs:=fun p o ho=>⟨(live p o ho).2.2,OR.ren hr hob rfl (live p o ho).2.1 (h'.objs _ _ (live p o ho).1).2⟩,blocks:=fun p k hp hk=>?_,inj:=fun p q k l hp hq hk hl e=>?_,us:=fun _ hx=>hx,stay:=fun _ _=>rfl }
  ·rw [dP,bE,if_pos (Nat.zero_le _),Nat.sub_zero]
   cases ht:cargs[t]? with
   | none=>exact .un _
   | some x=>exact (hv t x ht).ren hr hob x rfl (dB hcu t x ht)
  ·cases ho:(mk (aO 0 cargs) chp cu).hp p with
   | none=>exact absurd ho hp
   | some o =>
     have hin:O0' k.b:=(hO _).2 ⟨p,k,List.any_eq_true.2 ⟨_,lkS ho,by simp⟩,hk,rfl⟩
     obtain ⟨g1,_,_⟩:=h'.blocks (σ p) k (by rw [(live p o ho).1];simp) hk
     exact ⟨g1,fun ha=>((hA _).1 ha).2 hin,.inr hin⟩
  ·cases ho:(mk (aO 0 cargs) chp cu).hp p with
   | none=>exact absurd ho hp
   | some o =>
     cases ho':(mk (aO 0 cargs) chp cu).hp q with
     | none=>exact absurd ho' hq
     | some o' =>
       have e2:=h'.inj (σ p) (σ q) k l (by rw [(live p o ho).1];simp) (by rw [(live q o' ho').1];simp) hk hl e
       exact ib hinj _ (lkS ho) _ (lkS ho') e2
 have hgo:=fun h1 h2 h3 h4=>hc.2 _ _ vs w h1 h2 h3 h4 hsim
 refine (hgo rfl rfl rfl rfl).mono ?_
 rintro e w' ⟨v,r,hp',u',β',rfl,hQ,hs⟩
 obtain ⟨f1,f2⟩:=hflat r hp' hQ
 have hs2:=hs.reown (A2:=A2) (hA2:=hA2') (fun b hb=>((hA2 b).1 hb).2) (fun t=>by
  simp only [lkA]
  split
  ·exact f1
  ·rfl) f2
 exact ⟨v,rfl,r,hp',hQ,fun hl=>v7 h hd hpass0 hinj hβc hO hA2 hA2' hG' hl hs2⟩
section
variable {P:Program} {cf:Cf}
section
variable {Q:Exit→St→Prop} {s:St} {k:List It}
section
variable {ops:Array Oper} {K:St→Ns→Prop} {r:List Oper} {ns:Ns}
end
end
attribute [go_sem] AX wM D.flat aS AV.flat fT bT q7 Ob.flat List.isEmpty_nil
end
end Go.Ab
namespace Go.Ab
def Ob.frz (p:Name) (w:W) (xs:List D):Ob→Ob
 | .boxT ty cs=>.boxT ty (Go.Ab.iv p w xs cs)
 | o=>o
theorem Ob.y2 (p:Name) (w:W) (xs:List D) (o:Ob):o.like (o.frz p w xs):=by
 cases o<;>simp [Ob.frz,Ob.like]
def St.da (s:St) (p:Name) (w:W) (xs:List D):St:={ fr:=fun t=>(s.fr t).frz p w xs,hp:=fun q=>(ax s.hp p none q).map (Ob.frz p w xs),used:=s.used }
theorem Sim.da {B:Base} {β:Name→Option Blk} {s:St} {tm:Array Value} {w:World} (h:Sim B β s tm w) {p:Name} {wf:W} {xs:List D} (hp:s.hp p=some (.arr wf xs)):Sim B β (s.da p wf xs) tm w:=by
 have hsub:∀ q o',(s.da p wf xs).hp q=some o'→q≠p∧∃ o,s.hp q=some o∧o'=o.frz p wf xs:=by
  intro q o' ho
  by_cases e:q=p
  ·subst e;simp [St.da,ax] at ho
  ·simp only [St.da,ax,if_neg e,Option.map_eq_some_iff] at ho
   obtain ⟨o,h1,h2⟩:=ho
   exact ⟨e,o,h1,h2.symm⟩
 have hne:∀ q,(s.da p wf xs).hp q≠none→s.hp q≠none∧q≠p:=by
  intro q hq
  cases ho:(s.da p wf xs).hp q with
  | none=>exact absurd ho hq
  | some o' =>
    obtain ⟨e,o,h1,_⟩:=hsub q o' ho
    exact ⟨by rw [h1];simp,e⟩
 have hr:∀ v d',Rep w.heap (s.own B.A β) v d'→Rep w.heap ((s.da p wf xs).own B.A β) v d':=fun v d' hd=>hd.mono (fun _ _ _=>rfl) (by
  rintro b _ (hA | ⟨q,k,hq,hk,e⟩)
  ·exact .inl hA
  ·exact .inr ⟨q,k,(hne q hq).1,hk,e⟩)
 have hst:∀ q,nm s.used q→Stays s.hp (s.da p wf xs).hp β β q:=fun q _ o' ho'=>by
  obtain ⟨_,o,h1,rfl⟩:=hsub q o' ho'
  exact ⟨o,h1,Ob.y2 p wf xs o,rfl⟩
 have hno:∀ k,β p=some k→¬ (s.da p wf xs).own B.A β k.b:=by
  rintro k hk (hA | ⟨q,k',hq,hk',e⟩)
  ·exact (h.blocks p k (by rw [hp];simp) hk).2.1 hA
  ·exact (hne q hq).2 (h.inj q p k' k (hne q hq).1 (by rw [hp];simp) hk' hk e)
 have hvr:∀ {v:Value} {x:AV},VR w.heap (s.own B.A β) s.used s.hp β v x→VR w.heap ((s.da p wf xs).own B.A β) s.used (s.da p wf xs).hp β v (x.frz p wf xs):=fun hv=>hv.frz hr hst hp (h.objs p _ hp).2 hno
 refine { tms:=h.tms,io:=h.io,size:=h.size,frame:=h.frame,slots:=fun i=>hvr (h.slots i),objs:=fun q o' ho'=>?_,blocks:=fun q k hq hk=>h.blocks q k (hne q hq).1 hk,inj:=fun q q' k k' hq hq'=>h.inj q q' k k' (hne q hq).1 (hne q' hq').1,us:=h.us,stay:=h.stay }
 obtain ⟨_,o,h1,rfl⟩:=hsub q o' ho'
 obtain ⟨g1,g2⟩:=h.objs q o h1
 refine ⟨g1,?_⟩
 cases o with
 | boxT ty cs =>
   obtain ⟨k,c,e,a1,a2,a3,a4,a5,a6,a7⟩:=g2
   refine ⟨k,c,e,a1,a2,a3,a4,by rw [a5,dG],a6,fun j x hj=>?_⟩
   rw [ia,Option.map_eq_some_iff] at hj
   obtain ⟨y,hy,rfl⟩:=hj
   exact hvr (a7 j y hy)
 | _=>exact g2.mono hr (fun _ h=>h) hst rfl fun _ _=>rfl
theorem rE (p:Name) (w:W) (xs:List D) (q:Name):∀ l:List (Name × Ob),(lkA none (l.map fun x=>(x.1,some x.2)) q).map (Ob.frz p w xs)=lkA none ((l.map fun x=>(x.1,x.2.frz p w xs)).map fun x=>(x.1,some x.2)) q
 | []=>rfl
 | x::r=>by
   simp only [lkA,List.map_cons]
   split
   ·rfl
   ·exact rE p w xs q r
theorem vp (fr:List (Nat × AV)) (hp:List (Name × Ob)) (u:List Nat) (p:Name) (w:W) (xs:List D):(mk fr hp u).da p w xs=mk (fr.map fun q=>(q.1,q.2.frz p w xs)) ((eX hp p).map fun q=>(q.1,q.2.frz p w xs)) u:=by
 unfold St.da mk
 congr 1
 ·funext t
  exact qs p w xs t fr
 ·funext q
  rw [← rE,eP,eK]
  rfl
attribute [go_sem] vp Ob.frz
section
variable {P:Program} {cf:Cf} {Q:Exit→St→Prop} {s:St} {k:List It}
theorem bt (E:Eng P cf Q) {d:Option Nat} {op:Op} {ty:TypeId} {ps:String} {af:Array Edge} (p:Name) (w:W) (xs:List D) (hp:s.hp p=some (.arr w xs)) {s':St} (he:s.da p w xs=s') (h:E.stp { dst:=d,op:=op,type:=ty,pos:=ps,after:=af,guard:=none } s' k (opR P.ti cf.n op d s')) :
  E.stp { dst:=d,op:=op,type:=ty,pos:=ps,after:=af,guard:=none } s k .no:=by
 subst he
 rw [aK]
 rw [E.stp_eq] at h
 have h1:=cg (o:={ dst:=d,op:=op,type:=ty,pos:=ps,after:=af,guard:=none }) rfl h
 intro B hB ds β a w' hds hs Q'
 exact h1 B hB ds β a w' hds (hs.da hp) Q'
theorem cU (E:Eng P cf Q) {c:Code} (p:Name) (w:W) (xs:List D) (hp:s.hp p=some (.arr w xs)) (h:cV E c (s.da p w xs) k):cV E c s k:=by
 intro B hB ds β a w' hds hs
 exact h B hB ds β a w' hds (hs.da hp)
section
variable {ops:Array Oper} {K:St→Ns→Prop} {r:List Oper} {ns:Ns}
theorem EO (E:XEng P cf ops K) {t:TypeId} {x y:Operand} {yt:TypeId} {dst:Nat} {ty:TypeId} {ps:String} {af:Array Edge} {g:Option (Nat × Bool)} (neg:Bool) {a0s bs:List D} {b:Bool} {fs:List (Nat × Nat)} (hst:P.dF t=true) (hk:(P.ti t).k=.struct fs) (hd:dst<cf.n)
  (hx:ev s x=.d (.agg a0s)) (hy:ev s y=.d (.agg bs)) (h:eqS P.ti fs a0s bs=some b) (hr:E.run r (s.put dst (.d (.bool (if neg then !b else b)))) (ns++[([],[],[])])) :
  E.stp { dst:=some dst,op:=.binOp (if neg then .neq else .eql) t x y yt,type:=ty,pos:=ps,after:=af,guard:=g } r s ns .no:=by
 refine eW E (x:=.d (.bool (if neg then !b else b))) [] (fun t ht=>by rw [Option.mem_def,Option.some.injEq] at ht;rw [← ht];exact hd) (fun s' _ he=>?_) hr
 exact D2 neg hst hk hd ((he x (by simp [Op.operands])).trans hx) ((he y (by simp [Op.operands])).trans hy) h (by rw [bG];rfl)
theorem Hq (E:XEng P cf ops K) {t:TypeId} {x y:Operand} {yt:TypeId} {dst:Nat} {ty:TypeId} {ps:String} {af:Array Edge} {g:Option (Nat × Bool)} {a0s bs:List D} {b:Bool} {fs:List (Nat × Nat)} (hst:P.dF t=true) (hk:(P.ti t).k=.struct fs) (hd:dst<cf.n)
 (hx:ev s x=.d (.agg a0s)) (hy:ev s y=.d (.agg bs)) (h:eqS P.ti fs a0s bs=some b) (hr:E.run r (s.put dst (.d (.bool (!b)))) (ns++[([],[],[])])) :
 E.stp { dst:=some dst,op:=.binOp .neq t x y yt,type:=ty,pos:=ps,after:=af,guard:=g } r s ns .no:=EO E true hst hk hd hx hy h hr
end
end
end Go.Ab
namespace Go.Ab
open Go.ChangeMaps (setBlock)
mutual
def AV.frM (p:Name) (d:D):AV→AV
 | .un=>.un
 | .d x=>.d x
 | .vw q o l=>.vw q o l
 | .bx q c=>.bx q c
 | .el q i c=>.el q i c
 | .mp q=>if q=p then .d d else .mp q
 | .it q=>.it q
 | .agg cs=>eI (kO p d cs)
 | .tup cs=>.tup (kO p d cs)
 | .clo f cs=>rK f (kO p d cs)
 | .va q o l=>.va q o l
 | .ea q i=>.ea q i
 | .ma q=>.ma q
def kO (p:Name) (d:D):List AV→List AV
 | []=>[]
 | x::r=>x.frM p d::kO p d r
end
theorem dD (p:Name) (d:D):∀ l:List AV,(kO p d l).length=l.length
 | []=>rfl
 | _::r=>by simp [kO,dD p d r]
theorem gH (p:Name) (d:D):∀ (l:List AV) (i:Nat),(kO p d l)[i]?=(l[i]?).map (AV.frM p d)
 | [],i=>by simp [kO]
 | x::r,i=>by
   cases i with
   | zero=>simp [kO]
   | succ i=>simpa [kO] using gH p d r i
section
variable {H:Array Obj} {own own':Nat→Prop} {used:List Nat} {hp hp':Name→Option Ob} {β:Name→Option Blk}
theorem VR.frM {p:Name} {d:D} {es:List (D × D)} (hr:∀ v d,Rep H own v d→Rep H own' v d) (hst:∀ q,nm used q→Stays hp hp' β β q) (hp0:hp p=some (.map es)) (hd:∀ k,β p=some k→Rep H own' (.map (some k.b)) d)
  {v:Value} {x:AV} (h:VR H own used hp β v x):VR H own' used hp' β v (x.frM p d):=by
 induction h with
 | un v=>exact .un v
 | d v x h=>exact .d v x (hr v x h)
 | vw v q off len hn h1 h=>exact VR.mono hr (fun _ h=>h) hst (.vw v q off len hn h1 h)
 | bx v q c hn h1 h=>exact VR.mono hr (fun _ h=>h) hst (.bx v q c hn h1 h)
 | el v q i c hn h1 h=>exact VR.mono hr (fun _ h=>h) hst (.el v q i c hn h1 h)
 | mp v q hn h1 h =>
   unfold AV.frM
   split
   ·rename_i e
    subst e
    obtain ⟨k,hk,rfl⟩:=h _ hp0
    exact .d _ _ (hd k hk)
   ·exact VR.mono hr (fun _ h=>h) hst (.mp v q hn h1 h)
 | its v q hn h1 h h'=>exact VR.mono hr (fun _ h=>h) hst (.its v q hn h1 h h')
 | va v q off len hn h1 h=>exact VR.mono hr (fun _ h=>h) hst (.va v q off len hn h1 h)
 | ea v q i hn h1 h=>exact VR.mono hr (fun _ h=>h) hst (.ea v q i hn h1 h)
 | ma v q hn h1 h=>exact VR.mono hr (fun _ h=>h) hst (.ma v q hn h1 h)
 | agg vs cs hs hc _ ih =>
   have:=ed (H:=H) (own:=own') (used:=used) (hp:=hp') (β:=β) (vs:=vs.toList) (cs:=kO p d cs) (by rw [dD];simpa using hs) (by simpa using hc) (fun i v x hv hx=>by
    rw [gH,Option.map_eq_some_iff] at hx
    obtain ⟨y,hy,rfl⟩:=hx
    have:=ih i y hy
    have e:vs.getD i undef=v:=by
     simp only [Array.getElem?_toList] at hv
     simp [Array.getD_eq_getD_getElem?,hv]
    rw [e] at this
    exact this)
   simpa [AV.frM] using this
 | tup vs cs hs _ ih =>
   refine .tup vs _ (by rw [dD];exact hs) (fun i x hi=>?_)
   rw [gH,Option.map_eq_some_iff] at hi
   obtain ⟨y,hy,rfl⟩:=hi
   exact ih i y hy
 | clo f vs cs hs _ ih =>
   refine oY (by rw [dD];exact hs) (fun i x hi=>?_)
   rw [gH,Option.map_eq_some_iff] at hi
   obtain ⟨y,hy,rfl⟩:=hi
   exact ih i y hy
end
def Ob.frM (p:Name) (d:D):Ob→Ob
 | .boxT ty cs=>.boxT ty (kO p d cs)
 | o=>o
theorem Ob.Bg (p:Name) (d:D) (o:Ob):o.like (o.frM p d):=by
 cases o<;>simp [Ob.frM,Ob.like]
def St.frM (s:St) (p:Name) (d:D):St:={ fr:=fun t=>(s.fr t).frM p d,hp:=fun q=>(ax s.hp p none q).map (Ob.frM p d),used:=s.used }
def mpD (clk:Nat) (bs:List Nat) (es:List (D × D)):D:=.mpd clk bs (es.map (·.1)) (es.map (·.2))
def Stamps (clk:Nat) (bs:List Nat) (es:List (D × D)):Prop:=bs.length=es.length∧bs.Nodup∧∀ b∈bs,b<clk
theorem Sim.frM {B:Base} {β:Name→Option Blk} {s:St} {tm:Array Value} {w:World} (h:Sim B β s tm w) {p:Name} {es:List (D × D)} (hp:s.hp p=some (.map es)):∃ clk bs,Stamps clk bs es∧Sim B β (s.frM p (mpD clk bs es)) tm w:=by
 obtain ⟨k0,ents,clk,hk0,hc0,⟨hsz,hb1,hb2⟩,hent⟩:=(h.objs p _ hp).2
 refine ⟨clk,ents.toList.map (·.born),⟨by simp [hsz],hb1,fun b hb=>?_⟩,?_⟩
 ·obtain ⟨e,he,rfl⟩:=List.mem_map.1 hb
  exact hb2 e he
 obtain ⟨d,hd0⟩:∃ d,d=mpD clk (ents.toList.map (·.born)) es:=⟨_,rfl⟩
 rw [← hd0]
 have hsub:∀ q o',(s.frM p d).hp q=some o'→q≠p∧∃ o,s.hp q=some o∧o'=o.frM p d:=by
  intro q o' ho
  by_cases e:q=p
  ·subst e;simp [St.frM,ax] at ho
  ·simp only [St.frM,ax,if_neg e,Option.map_eq_some_iff] at ho
   obtain ⟨o,h1,h2⟩:=ho
   exact ⟨e,o,h1,h2.symm⟩
 have hne:∀ q,(s.frM p d).hp q≠none→s.hp q≠none∧q≠p:=by
  intro q hq
  cases ho:(s.frM p d).hp q with
  | none=>exact absurd ho hq
  | some o' =>
    obtain ⟨e,o,h1,_⟩:=hsub q o' ho
    exact ⟨by rw [h1];simp,e⟩
 have hr:∀ v d',Rep w.heap (s.own B.A β) v d'→Rep w.heap ((s.frM p d).own B.A β) v d':=fun v d' hd=>hd.mono (fun _ _ _=>rfl) (by
  rintro b _ (hA | ⟨q,k,hq,hk,e⟩)
  ·exact .inl hA
  ·exact .inr ⟨q,k,(hne q hq).1,hk,e⟩)
 have hst:∀ q,nm s.used q→Stays s.hp (s.frM p d).hp β β q:=fun q _ o' ho'=>by
  obtain ⟨_,o,h1,rfl⟩:=hsub q o' ho'
  exact ⟨o,h1,Ob.Bg p d o,rfl⟩
 have hno:∀ k,β p=some k→¬ (s.frM p d).own B.A β k.b:=by
  rintro k hk (hA | ⟨q,k',hq,hk',e⟩)
  ·exact (h.blocks p k (by rw [hp];simp) hk).2.1 hA
  ·exact (hne q hq).2 (h.inj q p k' k (hne q hq).1 (by rw [hp];simp) hk' hk e)
 have hgd:∀ (i:Nat) (en:MapEntry),ents[i]?=some en→ents.getD i default=en:=fun i en h=>by simp [Array.getD_eq_getD_getElem?,h]
 have hdr:∀ k,β p=some k→Rep w.heap ((s.frM p d).own B.A β) (.map (some k.b)) d:=by
  intro k hk
  obtain rfl:=Option.some.inj (hk.symm.trans hk0)
  rw [hd0]
  refine .mpd k.b clk ents _ _ _ hc0 (by rw [← hd0];exact hno k hk) ⟨by simp [hsz],by simp⟩ rfl (fun i x hi=>?_) (fun i x hi=>?_)
  ·rw [List.getElem?_map,Option.map_eq_some_iff] at hi
   obtain ⟨y,hy,rfl⟩:=hi
   obtain ⟨en,h1,h2,_⟩:=hent i y hy
   rw [hgd i en h1,← hd0]
   exact hr _ _ h2
  ·rw [List.getElem?_map,Option.map_eq_some_iff] at hi
   obtain ⟨y,hy,rfl⟩:=hi
   obtain ⟨en,h1,_,h2⟩:=hent i y hy
   rw [hgd i en h1,← hd0]
   exact hr _ _ h2
 have hvr:∀ {v:Value} {x:AV},VR w.heap (s.own B.A β) s.used s.hp β v x→VR w.heap ((s.frM p d).own B.A β) s.used (s.frM p d).hp β v (x.frM p d):=fun hv=>hv.frM hr hst hp hdr
 refine { tms:=h.tms,io:=h.io,size:=h.size,frame:=h.frame,slots:=fun i=>hvr (h.slots i),objs:=fun q o' ho'=>?_,blocks:=fun q k hq hk=>h.blocks q k (hne q hq).1 hk,inj:=fun q q' k k' hq hq'=>h.inj q q' k k' (hne q hq).1 (hne q' hq').1,us:=h.us,stay:=h.stay }
 obtain ⟨_,o,h1,rfl⟩:=hsub q o' ho'
 obtain ⟨g1,g2⟩:=h.objs q o h1
 refine ⟨g1,?_⟩
 cases o with
 | boxT ty cs =>
   obtain ⟨k,c,e,a1,a2,a3,a4,a5,a6,a7⟩:=g2
   refine ⟨k,c,e,a1,a2,a3,a4,by rw [a5,dD],a6,fun j x hj=>?_⟩
   rw [gH,Option.map_eq_some_iff] at hj
   obtain ⟨y,hy,rfl⟩:=hj
   exact hvr (a7 j y hy)
 | _=>exact g2.mono hr (fun _ h=>h) hst rfl fun _ _=>rfl
theorem vf (p:Name) (d:D) (t:Nat):∀ l:List (Nat × AV),(lkA .un l t).frM p d=lkA .un (l.map fun q=>(q.1,q.2.frM p d)) t
 | []=>rfl
 | q::r=>by
   simp only [lkA,List.map_cons]
   split
   ·rfl
   ·exact vf p d t r
theorem rh (p:Name) (d:D) (q:Name):∀ l:List (Name × Ob),(lkA none (l.map fun x=>(x.1,some x.2)) q).map (Ob.frM p d)=lkA none ((l.map fun x=>(x.1,x.2.frM p d)).map fun x=>(x.1,some x.2)) q
 | []=>rfl
 | x::r=>by
   simp only [lkA,List.map_cons]
   split
   ·rfl
   ·exact rh p d q r
theorem Ac (fr:List (Nat × AV)) (hp:List (Name × Ob)) (u:List Nat) (p:Name) (d:D):(mk fr hp u).frM p d=mk (fr.map fun q=>(q.1,q.2.frM p d)) ((eX hp p).map fun q=>(q.1,q.2.frM p d)) u:=by
 unfold St.frM mk
 congr 1
 ·funext t
  exact vf p d t fr
 ·funext q
  rw [← rh,eP,eK]
  rfl
attribute [go_sem] Ac AV.frM kO Ob.frM
section
variable {P:Program} {cf:Cf} {Q:Exit→St→Prop} {s:St} {k:List It}
end
end Go.Ab

namespace Go.Ab
section
variable {P:Program} {cf:Cf}
theorem Sim.mv {B B':Base} {β:Name→Option Blk} {s:St} {tm:Array Value} {w w':World} (h:Sim B β s tm w) (hn:B'.n=B.n) (hio:wio w'=B'.io) (hsz:B'.H0.size≤w'.heap.size)
  (hfr:∀ b,b<B'.H0.size→¬ B'.O0 b→w'.heap[b]?=B'.H0[b]?) (hw:w.heap.size≤w'.heap.size) (hk:∀ b,b<w.heap.size→¬ B.A b→w'.heap[b]?=w.heap[b]?)
  (hA:∀ b,b<w.heap.size→B'.A b→B.A b) (hbl:∀ p k,s.hp p≠none→β p=some k→B'.H0.size≤k.b∨B'.O0 k.b)
  (hus:∀ x∈B'.U0,x∈s.used) (hst:∀ p,nm B'.U0 p→β p=B'.β0 p):Sim B' β s tm w':=by
 have hown:∀ b,b<w.heap.size→s.own B'.A β b→s.own B.A β b:=by
  rintro b hb (h1 | h1)
  ·exact .inl (hA b hb h1)
  ·exact .inr h1
 have hr:∀ v d,Rep w.heap (s.own B.A β) v d→Rep w'.heap (s.own B'.A β) v d:=fun v d hd=>hd.mono (fun b hb hlt=>hk b hlt (fun ha=>hb (.inl ha))) hown
 have hst':∀ p,nm s.used p→Stays s.hp s.hp β β p:=fun p _ o' ho=>⟨o',ho,Ob.br _,rfl⟩
 refine { tms:=h.tms.trans hn.symm,io:=hio,size:=hsz,frame:=hfr,slots:=fun t=>(h.slots t).mono hr (fun _ h=>h) hst',objs:=fun p o ho=>⟨(h.objs p o ho).1,(h.objs p o ho).2.mono hr (fun _ h=>h) hst' rfl (fun k hk'=>?_)⟩,blocks:=fun p k hp hk'=>?_,inj:=h.inj,us:=hus,stay:=hst }
 ·obtain ⟨b1,b2,_⟩:=h.blocks p k (by rw [ho];simp) hk'
  exact hk k.b b1 b2
 ·obtain ⟨b1,b2,_⟩:=h.blocks p k hp hk'
  exact ⟨Nat.lt_of_lt_of_le b1 hw,fun ha=>b2 (hA _ b1 ha),hbl p k hp hk'⟩
def er (s:St) (β:Name→Option Blk) (b:Nat):Prop:=∃ p k,s.hp p≠none∧β p=some k∧k.b=b
theorem Sim.jL {B:Base} {β:Name→Option Blk} {s:St} {tm:Array Value} {w:World} (h:Sim B β s tm w) {b:Nat} (hb:er s β b):b<w.heap.size∧¬ B.A b∧(B.H0.size≤b∨B.O0 b):=by
 obtain ⟨p,k,hp,hk,rfl⟩:=hb
 exact h.blocks p k hp hk
def ARY (P:Program) (cf:Cf) (Φ:Exit→Act→World→Prop) (I:Base→List Deferred→Prop) (k:List It) (s:St):Prop :=
 ∀ B,cf.fits B→∀ ds β a w,a.defers=ds→I B ds→Sim B β s a.tmps w→hold P cf Φ k .normal a w
def ARX (cf:Cf) (Φ:Exit→Act→World→Prop) (I:Base→List Deferred→Prop) (e:Exit) (s:St):Prop :=
 ∀ B,cf.fits B→∀ ds β a w,a.defers=ds→I B ds→Sim B β s a.tmps w→Φ e a w
def yq (P:Program) (cf:Cf) (Φ:Exit→Act→World→Prop) (I:Base→List Deferred→Prop) (k:List It) (e:Exit) (s:St):Prop :=
 match e with
 | .normal=>ARY P cf Φ I k s
 | .exit i=>(match eR i k with
   | some k'=>ARY P cf Φ I k' s
   | none=>ARX cf Φ I (.exit i) s)
 | .ret=>ARX cf Φ I .ret s
 | _=>False
variable {Φ:Exit→Act→World→Prop} {I:Base→List Deferred→Prop} {k:List It} {s:St} {B:Base} {ds:List Deferred} {e:Exit} {a:Act} {w:World}
theorem wZ:yq P cf Φ I k .normal s=ARY P cf Φ I k s:=rfl
theorem E8:yq P cf Φ I k .ret s=ARX cf Φ I .ret s:=rfl
theorem sk (i:Nat):yq P cf Φ I [] (.exit i) s=ARX cf Φ I (.exit i) s:=rfl
theorem pG (i:Nat) (c:Code):yq P cf Φ I (.code c::k) (.exit i) s=yq P cf Φ I k (.exit i) s:=rfl
theorem rI (i:Nat) (all:Array Oper) (r:List Oper):yq P cf Φ I (.ops all r::k) (.exit i) s=yq P cf Φ I k (.exit i) s:=rfl
theorem Dw (s':St) (f:St→Prop) (z:Prop):(R.ok s').run f z=f s':=rfl
theorem wD (p:Prop) (x:R St) (f:St→Prop) (z:Prop):(R.need p x).run f z=(p∧x.run f z):=rfl
end
end Go.Ab
namespace Go.Ab
structure Stp (W:World) (X:Nat→Prop) (W':World) (X':Nat→Prop):Prop where
 size:W.heap.size≤W'.heap.size
 io:wio W'=wio W
 same:∀ b,b<W.heap.size→¬ X b→W'.heap[b]?=W.heap[b]?
 new:∀ b,X' b→(X b∨W.heap.size≤b)∧b<W'.heap.size
structure Itz where
 l:Nat
 w:World
 C0:Nat→Prop
 J:Nat→(Nat→Prop)→(Nat→Prop)→World→Prop
 Jx:Nat→(Nat→Prop)→(Nat→Prop)→World→Prop
structure Itz.Ok (P:Program) (G:List (Nat × Obj)) (N:Nat) (xs:Nat→List D) (z:Itz):Prop where
 lt:∀ b,z.C0 b→b<z.w.heap.size
 stab:∀ n C X W X' W',z.J n C X W→Stp W X W' X'→z.J n C X' W'
 stabx:∀ n C X W X' W',z.Jx n C X W→Stp W X W' X'→z.Jx n C X' W'
 round:∀ n C X W vs,n<N→z.J n C X W→vs.size=(xs n).length→(∀ i d,(xs n)[i]?=some d→Rep W.heap (fun b=>C b∨X b) (vs.getD i undef) d) →
  YieldAt Fence.wide 0 P z.l vs W fun e W'=>∃ C',(wio W'=wio W∧W.heap.size≤W'.heap.size∧(∀ b,b<W.heap.size→¬ C b→W'.heap[b]?=W.heap[b]?)∧(∀ q∈G,W'.heap[q.1]?=W.heap[q.1]?)∧∀ b,C' b→(C b∨W.heap.size≤b)∧b<W'.heap.size) ∧
   ((e=.returned (.bool true)∧z.J (n+1) C' X W')∨(e=.returned (.bool false)∧z.Jx (n+1) C' X W'))
def IJ (z:Itz) (J:(Nat→Prop)→(Nat→Prop)→World→Prop) (B:Base) (ds:List Deferred):Prop :=
 ds=[]∧∃ C X W0,W0.heap=B.H0∧wio W0=B.io∧J C X W0∧(∀ b,B.A b↔C b)∧(∀ b,B.O0 b↔X b)∧(∀ b,X b→z.w.heap.size≤b)∧z.w.heap.size≤W0.heap.size
section
variable {P:Program} {cf:Cf} {G:List (Nat × Obj)} {N:Nat} {xs:Nat→List D} {z:Itz} {k:List It} {s:St}
theorem IJ.stp {J:(Nat→Prop)→(Nat→Prop)→World→Prop} {B:Base} {ds:List Deferred} {β:Name→Option Blk} {tm:Array Value} {w:World} (h:IJ z J B ds) (hs:Sim B β s tm w) :
  ∃ C X W0,W0.heap=B.H0∧J C X W0∧Stp W0 X w (er s β)∧(∀ b,B.A b↔C b)∧(∀ b,er s β b→z.w.heap.size≤b)∧z.w.heap.size≤w.heap.size:=by
 obtain ⟨_,C,X,W0,h1,h2,hJ,hA,hO,hX,hz⟩:=h
 have hsz:W0.heap.size=B.H0.size:=by rw [h1]
 refine ⟨C,X,W0,h1,hJ,⟨by rw [hsz];exact hs.size,by rw [h2];exact hs.io,fun b hb hx=>?_,fun b hb=>?_⟩,hA,fun b hb=>?_,?_⟩
 ·rw [h1];exact hs.frame b (by rw [← hsz];exact hb) (fun ho=>hx ((hO b).1 ho))
 ·obtain ⟨b1,_,b3⟩:=hs.jL hb
  refine ⟨?_,b1⟩
  rcases b3 with b3 | b3
  ·exact .inr (by rw [hsz];exact b3)
  ·exact .inl ((hO b).1 b3)
 ·rcases (hs.jL hb).2.2 with b3 | b3
  ·have:=hs.size;omega
  ·exact hX b ((hO b).1 b3)
 ·have:=hs.size;omega
end
attribute [go_sem] wZ E8 sk pG rI Dw wD
end Go.Ab

namespace Go.Ab
structure BExt (B0 B:Base):Prop where
 n:B.n=B0.n
 io:B.io=B0.io
 G:B.G=B0.G
 U0:B.U0=B0.U0
 β0:B.β0=B0.β0
 size:B0.H0.size≤B.H0.size
 frame:∀ b,b<B0.H0.size→¬ B0.O0 b→B.H0[b]?=B0.H0[b]?
 O0:∀ b,b<B0.H0.size→B.O0 b→B0.O0 b
 A:∀ b,B0.A b→B.A b
theorem BExt.refl (B:Base):BExt B B:=⟨rfl,rfl,rfl,rfl,rfl,Nat.le_refl _,fun _ _ _=>rfl,fun _ _ h=>h,fun _ h=>h⟩
theorem BExt.trans {A B C:Base} (h:BExt A B) (g:BExt B C):BExt A C :=
 ⟨g.n.trans h.n,g.io.trans h.io,g.G.trans h.G,g.U0.trans h.U0,g.β0.trans h.β0,Nat.le_trans h.size g.size,
  fun b hb ho=>(g.frame b (Nat.lt_of_lt_of_le hb h.size) (fun hc=>ho (h.O0 b hb hc))).trans (h.frame b hb ho),fun b hb hc=>h.O0 b hb (g.O0 b (Nat.lt_of_lt_of_le hb h.size) hc),fun b hb=>g.A b (h.A b hb)⟩
def mkD (D:Nat):Deferred:={ target:=.collected D,args:=#[] }
structure CI (B0:Base) (B:Base) (ds:List Deferred):Prop where
 ext:BExt B0 B
 mark:∃ Ds:List Nat,ds=Ds.map mkD∧Ds.Nodup∧∀ D∈Ds,B.H0[D]?=some (.deferred (some []))∧B.A D∧B0.H0.size≤D∧¬ B.O0 D
def St.fra (s:St) (fr:Nat→AV):St:={ s with fr:=fr }
def LK (s0 s:St):Prop:=∀ p o',nm s0.used p→s.hp p=some o'→∃ o,s0.hp p=some o∧o.like o'
def w8 (s:St):List Nat→List D→St
 | t::ts,d::ds=>w8 (s.put t (.d d)) ts ds
 | _,_=>s
section
variable {P:Program} {cf:Cf}
theorem Sim.w8 {B:Base} {β:Name→Option Blk} {w:World}:∀ (ts:List Nat) (ds:List D) (vs:List Value) (s:St) (tm:Array Value),Sim B β s tm w→(∀ t∈ts,t<B.n)→vs.length=ds.length →
  (∀ i d,ds[i]?=some d→Rep w.heap (s.own B.A β) (vs.getD i undef) d)→Sim B β (w8 s ts ds) ((ts.zip vs).foldl (fun tm (q:Nat × Value)=>tm.setIfInBounds q.1 q.2) tm) w
 | [],ds,vs,s,tm,h,_,_,_=>by cases ds<;>exact h
 | _::_,[],[],s,tm,h,_,_,_=>h
 | t::ts,d::ds,v::vs,s,tm,h,ht,hl,hv=>by
   refine Sim.w8 ts ds vs (s.put t (.d d)) _ (h.put (ht t List.mem_cons_self) (.d _ _ (hv 0 d rfl))) (fun x hx=>ht x (List.mem_cons_of_mem _ hx)) (by simpa using hl) (fun i d' hi=>?_)
   exact hv (i+1) d' hi
def SS (B:Base) (tm:Array Value) (D L:Nat) (C X:Nat→Prop) (W:World) (s:St):Prop :=
 ∃ β B',BExt B B'∧B'.H0=W.heap∧(∀ b,B'.O0 b↔er s β b)∧(∀ b,B'.A b↔(B.A b∨X b∨b=D∨b=L))∧(∀ b,C b↔(B.A b∨b=D∨b=L∨er s β b))∧Sim B' β s tm W
theorem SS.stp {B:Base} {tm:Array Value} {D L z0:Nat} {C X X':Nat→Prop} {W W':World} {s:St} (h:SS B tm D L C X W s) (hst:Stp W X W' X') (hX:∀ b,X b→z0≤b) (hz:B.H0.size≤z0) (hW:z0≤W.heap.size) (hD:D<W.heap.size) (hL:L<W.heap.size) :
  SS B tm D L C X' W' s:=by
 obtain ⟨β,B',hE,hH,hO,hA,hC,hs⟩:=h
 have hlt:∀ b,B.A b→b<W.heap.size:=fun b hb=>Nat.lt_of_lt_of_le (B.hA b hb) (by rw [← hH];exact hE.size)
 have hsame:∀ b,b<B.H0.size→W'.heap[b]?=W.heap[b]?:=fun b hb=>hst.same b (by omega) (fun hx=>by have:=hX b hx;omega)
 have hG:∀ q∈B'.G,W'.heap[q.1]?=some q.2∧¬ er s β q.1:=fun q hq=>by
  have h0:=B.hG q (by rw [← hE.G];exact hq)
  have h1:=B'.hG q hq
  exact ⟨(hsame _ (aN h0.1)).trans (by rw [← hH];exact h1.1),fun hb=>h1.2 ((hO _).2 hb)⟩
 refine ⟨β,{ n:=B'.n,io:=B'.io,G:=B'.G,H0:=W'.heap,O0:=er s β,A:=fun b=>B.A b∨X' b∨b=D∨b=L,U0:=B'.U0,β0:=B'.β0,hA:=?_,hG:=hG },?_,rfl,fun _=>Iff.rfl,fun _=>Iff.rfl,hC,?_⟩
 ·rintro b (hb | hb | rfl | rfl)
  ·exact Nat.lt_of_lt_of_le (hlt b hb) hst.size
  ·exact (hst.new b hb).2
  ·exact Nat.lt_of_lt_of_le hD hst.size
  ·exact Nat.lt_of_lt_of_le hL hst.size
 ·refine ⟨hE.n,hE.io,hE.G,hE.U0,hE.β0,Nat.le_trans hE.size (by rw [hH];exact hst.size),fun b hb ho=>?_,fun b hb ho=>hE.O0 b hb ((hO b).2 ho),fun b hb=>.inl hb⟩
  exact (hsame b hb).trans ((by rw [hH]:W.heap[b]?=B'.H0[b]?).trans (hE.frame b hb ho))
 ·refine hs.mv rfl (hst.io.trans hs.io) (Nat.le_refl _) (fun _ _ _=>rfl) hst.size (fun b hb hn=>hst.same b hb (fun hx=>hn ((hA b).2 (.inr (.inl hx))))) (fun b hb hc=>?_) (fun p k hp hk=>.inr ⟨p,k,hp,hk,rfl⟩) hs.us hs.stay
  rcases hc with hc | hc | hc | hc
  ·exact (hA b).2 (.inl hc)
  ·rcases (hst.new b hc).1 with h1 | h1
   ·exact (hA b).2 (.inr (.inl h1))
   ·omega
  ·exact (hA b).2 (.inr (.inr (.inl hc)))
  ·exact (hA b).2 (.inr (.inr (.inr hc)))
theorem SS.after {B B':Base} {tm:Array Value} {D L:Nat} {X:Nat→Prop} {W W2 W3 W4:World} {s0 s1 s2:St} {β' β1 β2:Name→Option Blk} {tm2:Array Value} {B2:Base}
  (hE:BExt B B') (hH:B'.H0=W.heap) (hO:∀ b,B'.O0 b↔er s0 β' b) (hA:∀ b,B'.A b↔(B.A b∨X b∨b=D∨b=L)) (hs:Sim B' β' s0 tm W)
  (hn2:B2.n=B'.n) (hio2:B2.io=B'.io) (hG2:B2.G=B'.G) (hH2:B2.H0=W2.heap) (hO2:∀ b,B2.O0 b↔er s1 β1 b) (hA2:B2.A=B'.A) (hU2:B2.U0=s0.used) (hβ2:B2.β0=β')
  (hsz:W.heap.size≤W2.heap.size) (h12:∀ b,b<W.heap.size→¬ er s0 β' b→b≠L→W2.heap[b]?=W.heap[b]?) (hown1:∀ b,er s1 β1 b→W.heap.size≤b∨er s0 β' b)
  (hs2:Sim B2 β2 s2 tm2 W3) (hlk:LK s0 s2) (hLz:B.H0.size≤L) (h34:W3.heap.size=W4.heap.size) (hio4:wio W4=wio W3) (h4:∀ b,b≠L→W4.heap[b]?=W3.heap[b]?) :
  (∀ b,b<W.heap.size→¬ er s0 β' b→b≠L→W4.heap[b]?=W.heap[b]?)∧W.heap.size≤W4.heap.size∧(∀ b,er s2 β2 b→(W.heap.size≤b∨er s0 β' b)∧b<W4.heap.size∧¬ B'.A b) ∧
   ∃ B4,BExt B B4∧B4.H0=W4.heap∧(∀ b,B4.O0 b↔er s2 β2 b)∧(∀ b,B4.A b↔(B.A b∨X b∨b=D∨b=L))∧Sim B4 β2 (s2.fra s0.fr) tm W4:=by
 have hown2:∀ b,er s2 β2 b→W.heap.size≤b∨er s0 β' b:=fun b hb=>by
  rcases (hs2.jL hb).2.2 with h | h
  ·rw [hH2] at h;exact .inl (Nat.le_trans hsz h)
  ·exact hown1 b ((hO2 b).1 h)
 have hz3:W2.heap.size≤W3.heap.size:=by have:=hs2.size;rw [hH2] at this;exact this
 have hsame:∀ b,b<W.heap.size→¬ er s0 β' b→b≠L→W4.heap[b]?=W.heap[b]?:=fun b hb hnb hne=>by
  have h1:¬ er s1 β1 b:=fun h=>by
   rcases hown1 b h with h | h
   ·omega
   ·exact hnb h
  refine (h4 b hne).trans ((hs2.frame b (by rw [hH2];omega) (fun h=>h1 ((hO2 b).1 h))).trans ?_)
  rw [hH2];exact h12 b hb hnb hne
 have hsz4:W.heap.size≤W4.heap.size:=by omega
 have hG4:∀ q∈B'.G,W4.heap[q.1]?=some q.2∧¬ er s2 β2 q.1:=fun q hq=>by
  obtain ⟨g1,g2⟩:=B'.hG q hq
  have hlt:=aN g1
  have hlt':q.1<W.heap.size:=by rw [← hH];exact hlt
  have hq2:=B2.hG q (by rw [hG2];exact hq)
  have hno:¬ er s2 β2 q.1:=fun hb=>by
   rcases hown2 _ hb with h | h
   ·omega
   ·exact g2 ((hO _).2 h)
  refine ⟨?_,hno⟩
  have h3:W3.heap[q.1]?=some q.2:=(hs2.frame _ (aN hq2.1) hq2.2).trans hq2.1
  have hb0:=aN (B.hG q (by rw [← hE.G];exact hq)).1
  exact (h4 _ (by omega)).trans h3
 have hltA:∀ b,B'.A b→b<W4.heap.size:=fun b hb=>Nat.lt_of_lt_of_le (B'.hA b hb) (by rw [hH];exact hsz4)
 refine ⟨hsame,hsz4,fun b hb=>⟨hown2 b hb,by have:=(hs2.jL hb).1;omega,by have:=(hs2.jL hb).2.1;rw [hA2] at this;exact this⟩,?_⟩
 let B4:Base:={ n:=B'.n,io:=B'.io,G:=B'.G,H0:=W4.heap,O0:=er s2 β2,A:=B'.A,U0:=B'.U0,β0:=B'.β0,hA:=hltA,hG:=hG4 }
 have hu:∀ x∈s0.used,x∈s2.used:=fun x hx=>hs2.us x (by rw [hU2];exact hx)
 have hst:∀ p,nm s0.used p→β2 p=β' p:=fun p hp=>by rw [← hβ2];exact hs2.stay p (by rw [hU2];exact hp)
 have hs4:Sim B4 β2 s2 tm2 W4:=by
  refine hs2.mv hn2.symm (hio4.trans (hs2.io.trans hio2)) (Nat.le_refl _) (fun _ _ _=>rfl) (by omega) (fun b hb hn=>h4 b (fun e=>hn (by rw [hA2,hA];exact .inr (.inr (.inr e))))) (fun b _ hb=>by rw [hA2];exact hb) (fun p k hp hk=>.inr ⟨p,k,hp,hk,rfl⟩) (fun x hx=>hu x (hs.us x hx)) (fun p hp=>?_)
  have:nm s0.used p:=hp.mono hs.us
  exact (hst p this).trans (hs.stay p hp)
 have hown:∀ b,b<W.heap.size→s2.own B'.A β2 b→s0.own B'.A β' b:=by
  rintro b hb (h1 | h1)
  ·exact .inl h1
  ·rcases hown2 b h1 with h | h
   ·omega
   ·exact .inr h
 have hr:∀ v d,Rep W.heap (s0.own B'.A β') v d→Rep W4.heap (s2.own B'.A β2) v d:=fun v d hd=>hd.mono (fun b hb hlt=>hsame b hlt (fun h=>hb (.inr h)) (fun e=>hb (.inl ((hA b).2 (.inr (.inr (.inr e))))))) hown
 refine ⟨B4,⟨hE.n,hE.io,hE.G,hE.U0,hE.β0,Nat.le_trans hE.size (by rw [hH];exact hsz4),fun b hb ho=>?_,fun b hb ho=>?_,fun b hb=>(hA b).2 (.inl hb)⟩,rfl,fun _=>Iff.rfl,hA,?_⟩
 ·have hbW:b<W.heap.size:=by have:=hE.size;rw [hH] at this;omega
  refine (hsame b hbW (fun h=>ho (hE.O0 b hb ((hO b).2 h))) (by omega)).trans ?_
  rw [← hE.frame b hb ho,hH]
 ·rcases hown2 b ho with h | h
  ·have:=hE.size;rw [hH] at this;omega
  ·exact hE.O0 b hb ((hO b).2 h)
 ·exact { hs4 with tms:=hs.tms,slots:=fun t=>(hs.slots t).mono hr hu (fun p hp o' ho=>by obtain ⟨o,h1,h2⟩:=hlk p o' hp ho;exact ⟨o,h1,h2,hst p hp⟩) }
end
end Go.Ab

namespace Go.Ab
open Go.RowKit
section
variable {P:Program} {cf:Cf}
end
end Go.Ab

namespace Go.Ab
section
variable {P:Program}
theorem HCall.fA {G:List (Nat × Obj)} {f:FuncId} {args:List AV} {hp:List (Name × Ob)} {u:List Nat} {Q Q':AV→List (Name × Ob)→Prop} (h:HCall P G f args hp u Q) (p:Name)
  (hQ:∀ r hp',Q r hp'→∃ w xs,(mk [] hp' []).hp p=some (.arr w xs)∧Q' (r.frz p w xs) ((eX hp' p).map fun q=>(q.1,q.2.frz p w xs))):HCall P G f args hp u Q':=by
 refine ⟨h.1,fun B β vs W h1 h2 h3 h4 h5=>?_⟩
 refine (h.2 B β vs W h1 h2 h3 h4 h5).mono ?_
 rintro e w' ⟨v,r,hp',u',β',he,hq,hs⟩
 obtain ⟨w,xs,g1,g3⟩:=hQ r hp' hq
 have:=hs.da (p:=p) g1
 rw [vp] at this
 exact ⟨v,_,_,_,β',he,g3,this⟩
end
section
variable {P:Program} {cf:Cf} {Q:Exit→St→Prop} {s:St} {k:List It}
theorem aM (E:Eng P cf Q) {d:Nat} {fv:Operand} {args:Array Operand} {at':Array TypeId} {ty:TypeId} {pos:String} {af:Array Edge}
  {f:FuncId} {caps:List AV} (σ:Name→Name) (cargs:List AV) (chp:List (Name × Ob)) (cu:List Nat) {Q0:AV→List (Name × Ob)→Prop} (hc:HCall P cf.G f cargs chp cu Q0)
  (hev:ev s fv=.clo f caps) (hargs:args.toList.map (ev s)++caps=bM σ cargs) (hd:d<cf.n∧d ∉ s.used) (hcu:bZ cu cargs=true) (hpass:eT σ cu s chp) (hinj:lC σ chp)
  (hk:∀ r hp',Q0 r hp'→iy chp hp'∧E.run k (aft s σ d chp hp' r)) :
  E.stp { dst:=some d,op:=.call { callee:=.value fv,args:=args,argTypes:=at' },type:=ty,pos:=pos,after:=af,guard:=none } s k .no:=by
 rw [aK]
 refine qb d σ cargs chp cu Q0 hev hargs hcu hd.2 (fun t ht=>?_) hpass hinj hc fun r hp' hr=>?_
 ·obtain rfl:=Option.some.inj ht
  exact ⟨hd.1,rfl⟩
 ·obtain ⟨h1,h2⟩:=hk r hp' hr
  exact ⟨h1,by rw [← E.run_eq];exact h2⟩
theorem kc (E:Eng P cf Q) {d:Option Nat} {op:Op} {ty:TypeId} {ps:String} {af:Array Edge} (p:Name) (j n:Nat) (w:W) (cs:List AV) (hp:s.hp p=some (.box cs)) (hj:cs[j]?=some (.d .nils)) (hn:n ∉ s.used) {s':St} (he:(s.add n (.arr w [])).set p (some (.box (cs.set j (.vw [n] 0 0))))=s')
  (h:E.stp { dst:=d,op:=op,type:=ty,pos:=ps,after:=af,guard:=none } s' k (opR P.ti cf.n op d s')):E.stp { dst:=d,op:=op,type:=ty,pos:=ps,after:=af,guard:=none } s k .no:=by
 subst he
 rw [aK]
 rw [E.stp_eq] at h
 have h0:=cg (o:={ dst:=d,op:=op,type:=ty,pos:=ps,after:=af,guard:=none }) rfl h
 intro B hB ds β a w' hds hs
 have h1:=hs.eU hn none w
 have hpn:p≠[n]:=eo (hs.objs p _ hp).1 hn
 refine h0 B hB ds _ a w' hds (h1.rebox (cs:=cs) (by simpa [St.add,ax,hpn] using hp) (by simp) fun v i x x' hx hx' hv=>?_)
 by_cases e:j=i
 ·subst e
  rw [hj] at hx
  cases hx
  rw [List.getElem?_set] at hx'
  simp at hx'
  obtain ⟨_,rfl⟩:=hx'
  exact jO (w:=w) ⟨n,[],rfl,List.mem_cons_self⟩ (by simp [St.add,ax]) hv
 ·rw [List.getElem?_set_ne e,hx] at hx'
  cases hx'
  exact hv
end
section
variable {P:Program} {cf:Cf} {Q:Exit→St→Prop} {s:St} {k:List It} {κ:Type} [DecidableEq κ] {ke:κ→D} {kv:κ→Value}
theorem uK {xt kt et:Nat} {x y:Operand} {co:Bool} {dst:Option Nat} {ty:TypeId} {pos:String} {af:Array Edge} {gg:Option (Nat × Bool)} (clk:Nat) (bs:List Nat) (ms:List (κ × D)) (key:κ) (z:D) (hm:(P.ti xt).k=.map kt et) (K:fJ P kt ke kv) (hz:gA P et=some z)
  (hx:ev s x=.d (mpD clk bs (menc ke ms))) (hy:ev s y=.d (ke key)) (hdst:∀ t∈dst,t<cf.n) (hk:run P cf k Q (s.dA dst (nL z co (mlook ms key)))) :
  AOk P cf { dst:=dst,op:=.lookup xt x y co,type:=ty,pos:=pos,after:=af,guard:=gg } s k Q:=by
 intro B hB ds β a w hds h Q'
 have hv:=h.ev x
 rw [hx] at hv
 have hv:=hv.toD
 have hkey:=h.ev y
 rw [hy] at hkey
 have hkey:=K.val hkey.toD
 generalize hval:a.eval x=v at hv
 unfold mpD at hv
 cases hv with
 | mpd b _ ents _ _ _ hh hno hsz hbs hkk hvv =>
 have hent:∀ (i:Nat) (q:D × D),(menc ke ms)[i]?=some q→∃ en:MapEntry,ents[i]?=some en∧Rep w.heap (s.own B.A β) en.key q.1∧Rep w.heap (s.own B.A β) en.val q.2:=by
  intro i q hi
  have hlt:i<(menc ke ms).length:=(List.getElem?_eq_some_iff.1 hi).1
  have hlt':i<ents.size:=by have:=hsz.1;simp at this;omega
  refine ⟨ents[i],by simp [hlt'],?_,?_⟩
  ·have:=hkk i q.1 (by rw [List.getElem?_map,hi];rfl)
   simpa [Array.getD_eq_getD_getElem?,hlt'] using this
  ·have:=hvv i q.2 (by rw [List.getElem?_map,hi];rfl)
   simpa [Array.getD_eq_getD_getElem?,hlt'] using this
 obtain ⟨zv,hzr,hzrep⟩:=iP hz
 have hzrep:=hzrep w.heap (s.own B.A β)
 have hks:=nG K (by have:=hsz.1;simpa using this) hent
 have hf:=K.find key ents.toList _ w hks
 have key1:∃ r,VR w.heap (s.own B.A β) s.used s.hp β r (nL z co (mlook ms key))∧(execOp a.eval { dst:=dst,op:=.lookup xt x y co,type:=ty,pos:=pos,after:=af,guard:=gg }).run P w=.ok (.value r) w:=by
  cases hi:midx (ms.map (·.1)) key with
  | none =>
    obtain ⟨h1,_⟩:=iD (d:=z) hi
    rw [hi] at hf
    refine ⟨if co then .tuple #[zv,.bool false] else zv,?_,?_⟩
    ·rw [h1]
     cases co
     ·exact .d _ _ hzrep
     ·refine .tup _ _ rfl fun i y hi=>?_
      match i,hi with
      | 0,hi=>obtain rfl:=Option.some.inj hi;exact .d _ _ hzrep
      | 1,hi=>obtain rfl:=Option.some.inj hi;exact .d _ _ (.bool _)
    ·simp only [execOp,hval,hkey,Instr.lookup,Sem.run_bind,run_underlying (ez hm),Result.andThen_ok,MapKept.run_getObj_map hh,K.chk,Sem.run_pure]
     rw [hf]
     simp [hzr]
  | some i =>
    obtain ⟨e,h0,h1,_⟩:=iF (d:=z) hi
    rw [hi] at hf
    obtain ⟨en,he,_,hrep⟩:=hent i (ke key,e) (by simp [menc,h0])
    have he':ents.toList[i]?=some en:=by simpa using he
    refine ⟨if co then .tuple #[en.val,.bool true] else en.val,?_,?_⟩
    ·rw [h1]
     cases co
     ·exact .d _ _ hrep
     ·refine .tup _ _ rfl fun i y hi=>?_
      match i,hi with
      | 0,hi=>obtain rfl:=Option.some.inj hi;exact .d _ _ hrep
      | 1,hi=>obtain rfl:=Option.some.inj hi;exact .d _ _ (.bool _)
    ·simp only [execOp,hval,hkey,Instr.lookup,Sem.run_bind,run_underlying (ez hm),Result.andThen_ok,MapKept.run_getObj_map hh,K.chk,Sem.run_pure]
     rw [hf]
     simp [he]
 obtain ⟨r,hr1,hr2⟩:=key1
 refine az (by simp) hr2 (.inl rfl) ⟨by cases dst<;>exact hds,_,β,aV hk,?_⟩
 cases dst with
 | none=>exact h
 | some t=>exact h.put (by rw [hB.1];exact hdst t rfl) hr1
theorem kL (E:Eng P cf Q) {xt kt et:Nat} {x y:Operand} {co:Bool} {dst:Option Nat} {ty:TypeId} {pos:String} {af:Array Edge} (clk:Nat) (bs:List Nat) (ms:List (κ × D)) (key:κ) (z:D) (hm:(P.ti xt).k=.map kt et) (K:fJ P kt ke kv) (hz:gA P et=some z)
  (hx:ev s x=.d (mpD clk bs (menc ke ms))) (hy:ev s y=.d (ke key)) (hdst:∀ t∈dst,t<cf.n) (hk:E.run k (s.dA dst (nL z co (mlook ms key)))) :
  E.stp { dst:=dst,op:=.lookup xt x y co,type:=ty,pos:=pos,after:=af,guard:=none } s k .no:=by
 rw [aK]
 rw [E.run_eq] at hk
 exact uK clk bs ms key z hm K hz hx hy hdst hk
end
section
variable {P:Program} {cf:Cf} {ops:Array Oper} {K:St→Ns→Prop} {s:St} {r:List Oper} {ns:Ns}
theorem VR.Hw {H:Array Obj} {own:Nat→Prop} {used:List Nat} {hp:Name→Option Ob} {β:Name→Option Blk} {v:Value} {f:Nat} {caps:List D} (h:VR H own used hp β v (.clo f (caps.map .d))):VR H own used hp β v (.d (.clo f caps)):=by
 cases h with
 | clo _ vs _ hs hc =>
   refine .d _ _ (.clo f vs caps (by simpa using hs) fun i d hi=>?_)
   exact (hc i (.d d) (by rw [List.getElem?_map,hi];rfl)).toD
theorem VR.GG {H:Array Obj} {own:Nat→Prop} {used:List Nat} {hp:Name→Option Ob} {β:Name→Option Blk} {v:Value} {f:Nat} {caps:List D} (h:VR H own used hp β v (.d (.clo f caps))):VR H own used hp β v (.clo f (caps.map .d)):=by
 have h:=h.toD
 cases h with
 | clo _ vs _ hs hc =>
   refine .clo f vs _ (by simpa using hs) fun i x hi=>?_
   rw [List.getElem?_map,Option.map_eq_some_iff] at hi
   obtain ⟨d,hd,rfl⟩:=hi
   exact .d _ _ (hc i d hd)
theorem DU (E:XEng P cf ops K) {t:Nat} {u:Nat} {args:Array Operand} {at':Array TypeId} {ty:TypeId} {pos:String} {af:Array Edge} {g:Option (Nat × Bool)}
  {f:FuncId} {caps ds:List D} {x:AV} (hc:HP P cf.G f (ds++caps) (fun r=>r=x)) (hev:s.fr u=.d (.clo f caps)) (hu:(t == u)=false) (hna:args.all (fun y=>match y with | .tmp i=>!(i == u) | _=>true)=true)
  (hargs:args.toList.map (ev s)=ds.map .d) (hdst:t<cf.n) (hk:E.run r (s.put t x) (ns++[([],[],[])])) :
  E.stp { dst:=some t,op:=.call { callee:=.value (.tmp u),args:=args,argTypes:=at' },type:=ty,pos:=pos,after:=af,guard:=g } r s ns .no:=by
 have htu:¬ t=u:=by simpa using hu
 refine eW E (x:=x) [] (fun y hy=>by rw [Option.mem_def,Option.some.injEq] at hy;rw [← hy];exact hdst) (fun s' _ he=>?_) hk
 have hm:∀ y,y=Operand.tmp u∨y∈args→ev s' y=ev s y:=fun y hy=>he y (by
  simp only [Op.operands,Call.operands]
  rcases hy with rfl | hy<;>simp_all)
 have hev':s'.fr u=.d (.clo f caps):=(hm (.tmp u) (.inl rfl)).trans hev
 have hargs':args.toList.map (ev (s'.put u (.clo f (caps.map .d))))++caps.map .d=(ds++caps).map .d:=by
  rw [List.map_append,← hargs]
  congr 1
  refine List.map_congr_left fun y hy=>?_
  have hy':y∈args:=by simpa using hy
  have h1:=Array.all_eq_true'.1 hna y hy'
  rw [← hm y (.inr hy')]
  cases y with
  | tmp i =>
    have:¬ i=u:=by simpa using h1
    show (s'.put u _).fr i=s'.fr i
    simp [St.put,bS,this]
  | _=>rfl
 have h1:=fb (k:=[]) (Q:=fun _ s2=>s2=(s'.put u (.clo f (caps.map .d))).put t x) (dst:=some t) (fv:=.tmp u) (args:=args) (at':=at') (ty:=ty) (pos:=pos) (af:=af) (g:=g) hc
  (show (s'.put u (.clo f (caps.map .d))).fr u=_ by simp [St.put,bS]) hargs' (fun y hy=>by rw [Option.mem_def,Option.some.injEq] at hy;rw [← hy];exact hdst) (fun r hr=>by subst hr;rw [bG];rfl)
 intro B hB ds' β a w hds hs Q'
 have hs1:Sim B β (s'.put u (.clo f (caps.map .d))) a.tmps w:=hs.setv (VR.GG (by rw [← hev'];exact hs.slots u))
 refine Oper.wpIn_mono ?_ (h1 B hB ds' β a w hds hs1 Q')
 rintro a' w' ⟨hd',s2,β',hrun,hs2⟩
 obtain ⟨_,s3,β3,rfl,hs3⟩:=hrun B hB ds' β' a' w' hd' hs2
 refine ⟨hd',s'.put t x,β3,fun B2 _ ds2 β2 a2 w2 hds2 h2=>⟨hds2,_,β2,rfl,h2⟩,?_⟩
 have hv:=hs3.slots u
 have e1:((s'.put u (.clo f (caps.map .d))).put t x).fr u=.clo f (caps.map .d):=by simp [St.put,bS,Ne.symm htu,fun h:u=t=>htu h.symm]
 rw [e1] at hv
 have h4:=hs3.setv (t:=u) (x:=.d (.clo f caps)) hv.Hw
 have e2:((s'.put u (.clo f (caps.map .d))).put t x).put u (.d (.clo f caps))=s'.put t x:=by
  unfold St.put
  congr 1
  funext i
  simp only [bS]
  by_cases h1:i=u
  ·subst h1
   rw [if_pos rfl,if_neg (fun h:i=t=>htu h.symm),hev']
  ·simp [h1]
 rw [e2] at h4
 exact h4
end
section
variable {P:Program} {cf:Cf} {Φ:Exit→Act→World→Prop} {I:Base→List Deferred→Prop} {k:List It} {s:St}
def lkO:Option Ob→Ob→Prop
 | some o,o'=>o.like o'
 | none,_=>False
theorem y7 (o o':Ob):lkO (some o) o'=o.like o':=rfl
theorem wI (s:St) (t:Nat) (ts:List Nat) (d:D) (ds:List D):w8 s (t::ts) (d::ds)=w8 (s.put t (.d d)) ts ds:=rfl
theorem xU (a b:Nat) (l m:List Nat):((a::l) == (b::m))=(a == b && l == m):=rfl
theorem B6:(([]:List Nat) == [])=true:=rfl
theorem D7 (b:Nat) (m:List Nat):(([]:List Nat) == b::m)=false:=rfl
theorem CZ (b:Nat) (m:List Nat):(b::m == ([]:List Nat))=false:=rfl
attribute [go_sem] xU B6 D7 CZ Bool.false_and Bool.and_false Bool.true_and Bool.and_true Bool.or_self Bool.and_self wK y7 wI
end
section
variable {P:Program} {cf:Cf} {ops:Array Oper} {K:St→Ns→Prop} {s:St} {r:List Oper} {ns:Ns}
end
end Go.Ab

namespace Go.Ab
section
variable {P:Program} {cf:Cf} {ops opsP:Array Oper}
theorem zX {ro:Option Nat} {Q:Exit→Act→World→Prop} {m:Nat} (haft:∀ i o,ops[i]?=some o→∀ e∈o.after,Region.binds .any e=true→e.on<i) (htl:∀ j i,m≤j→j<ops.size→i<j→Anc ops j i) :
  ∀ (d j fuel:Nat) (listed:Array Bool) (a:Act) (w:World),j+d=ops.size→m≤j→d≤fuel→Up ops listed (List.range j)→wpOpsIn (Fw ro) 0 P ops Q (List.range' j d) a w→wpAnyIn (Fw ro) 0 P .any ops Q fuel listed a w:=by
 intro d
 induction d with
 | zero =>
   intro j fuel listed a w hj hmj hf hu h
   have hr:Region.ready .any ops listed=[]:=by
    apply List.eq_nil_iff_forall_not_mem.2
    intro i hi
    obtain ⟨h0,o,ho,_⟩:=mem_ready.1 hi
    have hlt:i<ops.size:=by
     rcases Nat.lt_or_ge i ops.size with hlt | hge
     ·exact hlt
     ·rw [Array.getElem?_eq_none hge] at ho;cases ho
    have h3:=(hu.mem i hlt).2 (List.mem_range.2 (by omega))
    simp [h3] at h0
   cases fuel with
   | zero=>exact ⟨hr,h⟩
   | succ fuel=>exact ⟨fun _=>h,fun i hi=>by rw [hr] at hi;cases hi⟩
 | succ d ih =>
   intro j fuel listed a w hj hmj hf hu h
   cases fuel with
   | zero=>omega
   | succ fuel =>
     have hjl:j<ops.size:=by omega
     obtain ⟨o,ho⟩:∃ o,ops[j]?=some o:=⟨ops[j],by simp⟩
     have hjr:j∈Region.ready .any ops listed:=by
      rw [mem_ready]
      refine ⟨?_,o,ho,fun e he hb=>?_⟩
      ·have:=hu.mem j hjl
       have hl:j<listed.size:=by rw [hu.size];exact hjl
       cases hv:listed[j] with
       | true =>
         have:=List.mem_range.1 (this.1 (by simp [hl,hv]))
         omega
       | false=>simp [hl,hv]
      ·have h2:=haft j o ho e he hb
       have h3:=(hu.mem e.on (by omega)).2 (List.mem_range.2 h2)
       simp [h3]
     refine ⟨fun hr=>(by rw [hr] at hjr;cases hjr),fun i hi=>?_⟩
     obtain ⟨h0,oi,hoi,hw⟩:=mem_ready.1 hi
     have hlt:i<ops.size:=by
      rcases Nat.lt_or_ge i ops.size with hlt | hge
      ·exact hlt
      ·rw [Array.getElem?_eq_none hge] at hoi;cases hoi
     have hij:i=j:=by
      rcases Nat.lt_trichotomy i j with g | g | g
      ·have h3:=(hu.mem i hlt).2 (List.mem_range.2 g)
       simp [h3] at h0
      ·exact g
      ·have hwL:∀ e∈oi.after,Region.binds .any e=true→e.on∈List.range j:=fun e he hb=>by
        have h1:=hw e he hb
        have h2:=haft i oi hoi e he hb
        refine (hu.mem e.on (by omega)).1 ?_
        have hl:e.on<listed.size:=by rw [hu.size];omega
        simp [hl] at h1
        simp [hl,h1]
       have:=List.mem_range.1 (kK hu hoi hwL (htl i j (by omega) hlt g))
       omega
     subst hij
     rw [List.range'_succ,wpOpsIn_cons] at h
     refine wpOpIn_mono (fun a' w' h'=>ih (i+1) fuel _ a' w' (by omega) (by omega) (by omega) ?_ h') h
     refine ⟨by simpa using hu.size,fun x hx=>?_,fun x hx=>by have:=List.mem_range.1 hx;omega,fun x hx o' ho' e he hb=>?_⟩
     ·have hl:i<listed.size:=by rw [hu.size];exact hlt
      by_cases hij:i=x
      ·subst hij;simp [hl]
      ·rw [Array.getElem?_setIfInBounds_ne hij,hu.mem x hx,List.mem_range,List.mem_range]
       omega
     ·have h2:=haft x o' ho' e he hb
      have:=List.mem_range.1 hx
      exact List.mem_range.2 (by omega)
variable {ns:Ns} {xs:Nat→AV} {fs:Nat→Fp} {s:St}
theorem GR (hq:chk opsP ns=true) (hns:∀ i,i<opsP.size→ns.getD i ([],[],[])=fpN (fs i)) {B:Base} (hB:cf.fits B) {ds:List Deferred} {Q:Exit→Act→World→Prop}
  (hlt0:opsP.size<ops.size) (hpre:∀ i,i<opsP.size→ops[i]?=opsP[i]?) (hgd:∀ (i:Nat) (o:Oper),opsP[i]?=some o→o.guard=none)
  (haft:∀ i o,ops[i]?=some o→∀ e∈o.after,Region.binds .any e=true→e.on<i) (htl:∀ j i,opsP.size≤j→j<ops.size→i<j→Anc ops j i)
  (hall:∀ j o,opsP[j]?=some o→mm P cf opsP j o (dZ opsP xs fs (List.range' 0 (j-0)) s) (xs j) (fs j))
  (hK:∀ β a w,a.defers=ds→Sim B β (dZ opsP xs fs (List.range' 0 opsP.size) s) a.tmps w→wpOpsIn (Fw cf.ro) 0 P ops Q (List.range' opsP.size (ops.size-opsP.size)) a w) :
  ∀ (fuel:Nat) (listed listedP:Array Bool) (L:List Nat) (s':St) (β:Name→Option Blk) (a:Act) (w:World),Up ops listed L→Up opsP listedP L→L.Nodup→ops.size≤fuel+L.length→a.defers=ds→OKE opsP xs fs s L s'→Sim B β s' a.tmps w →
   wpAnyIn (Fw cf.ro) 0 P .any ops Q fuel listed a w:=by
 intro fuel
 induction fuel with
 | zero =>
   intro listed listedP L s' β a w hu huP hnd hn hds hL hs
   have:=fD opsP.size L hnd huP.lt
   omega
 | succ fuel ih =>
   intro listed listedP L s' β a w hu huP hnd hn hds hL hs
   have full:(∀ j,j<opsP.size→j∈L)→wpAnyIn (Fw cf.ro) 0 P .any ops Q (fuel+1) listed a w:=by
    intro hfull
    obtain ⟨⟨e1,e2⟩,e3⟩:=oO hq hL huP.lt hfull
    have h1:=hK β a w hds (hs.reuse e1.symm e2.symm e3)
    have hmem:∀ j,j∈L↔j<opsP.size:=fun j=>⟨huP.lt j,hfull j⟩
    have hlen:=fD opsP.size L hnd huP.lt
    refine zX haft htl (ops.size-opsP.size) opsP.size (fuel+1) listed a w (by omega) (Nat.le_refl _) (by omega) ?_ h1
    exact ⟨hu.size,fun j hj=>by rw [hu.mem j hj,hmem,List.mem_range],fun j hj=>by have:=List.mem_range.1 hj;omega,fun j hj o ho e he hb=>by
     have:=haft j o ho e he hb
     have:=List.mem_range.1 hj
     exact List.mem_range.2 (by omega)⟩
   by_cases hfull:∀ j,j<opsP.size→j∈L
   ·exact full hfull
   have hmiss:∃ j,j<opsP.size∧j ∉ L:=by
    apply Decidable.byContradiction
    intro h
    exact hfull fun j hj=>Decidable.byContradiction fun hn=>h ⟨j,hj,hn⟩
   obtain ⟨j0,hj0,hj0L⟩:=hmiss
   refine ⟨fun hr=>?_,fun i hi=>?_⟩
   ·exfalso
    have key:∀ j,j<opsP.size→j∈L:=by
     intro j
     induction j using Nat.strongRecOn with
     | ind j ih2 =>
       intro hlt
       apply Decidable.byContradiction
       intro hn2
       have hjo:j<ops.size:=by omega
       obtain ⟨o,ho⟩:∃ o,ops[j]?=some o:=⟨ops[j],by simp⟩
       have:j∈Region.ready .any ops listed:=by
        rw [mem_ready]
        refine ⟨?_,o,ho,fun e he hb=>?_⟩
        ·have:=hu.mem j hjo
         have hl:j<listed.size:=by rw [hu.size];exact hjo
         cases hv:listed[j] with
         | true=>exact absurd (this.1 (by simp [hl,hv])) hn2
         | false=>simp [hl,hv]
        ·have h2:=haft j o ho e he hb
         have h3:=(hu.mem e.on (by omega)).2 (ih2 e.on h2 (by omega))
         simp [h3]
       rw [hr] at this;cases this
    exact hj0L (key j0 hj0)
   ·obtain ⟨h0,o,ho,hw⟩:=mem_ready.1 hi
    have hlt:i<ops.size:=by
     rcases Nat.lt_or_ge i ops.size with hlt | hge
     ·exact hlt
     ·rw [Array.getElem?_eq_none hge] at ho;cases ho
    have hiL:i ∉ L:=fun h=>by
     have h3:=(hu.mem i hlt).2 h
     simp [h3] at h0
    have hwL:∀ e∈o.after,Region.binds .any e=true→e.on∈L:=fun e he hb=>by
     have h1:=hw e he hb
     have h2:=haft i o ho e he hb
     refine (hu.mem e.on (by omega)).1 ?_
     have hl:e.on<listed.size:=by rw [hu.size];omega
     simp [hl] at h1
     simp [hl,h1]
    have hiP:i<opsP.size:=by
     apply Decidable.byContradiction
     intro hge
     exact hj0L (kK hu ho hwL (htl i j0 (by omega) hlt (by omega)))
    have hoP:opsP[i]?=some o:=by rw [← hpre i hiP];exact ho
    have hd:aZ opsP i=o.dst:=by simp [aZ,hoP]
    have hg:=hgd i o hoP
    have hconv:∀ K a w,wpOpIn (Fw cf.ro) 0 P opsP Q i K a w→wpOpIn (Fw cf.ro) 0 P ops Q i K a w:=fun K a w h=>by
     simp only [wpOpIn,hoP,ho,Region.wanted,hg,if_true] at h ⊢
     exact h
    refine hconv _ _ _ (wpOpIn_mono (fun a' w' ⟨hd',β',hs'⟩=>ih (listed.setIfInBounds i true) (listedP.setIfInBounds i true) (L++[i]) _ β' a' w' ?_ ?_ ?_ ?_ hd' (hd ▸ hL.snoc ?_) hs') ((hall i o hoP).2 _ (oX hq hns huP hL hoP hiL hwL (hall i o hoP).1) B hB ds β a w hds hs Q))
    ·refine ⟨by simpa using hu.size,fun j hj=>?_,fun j hj=>?_,fun j hj o' ho' e he hb=>?_⟩
     ·have hl:j<listed.size:=by rw [hu.size];exact hj
      by_cases hij:i=j
      ·subst hij;simp [hl]
      ·rw [Array.getElem?_setIfInBounds_ne hij,hu.mem j hj]
       simp [Ne.symm hij]
     ·rcases List.mem_append.1 hj with hj | hj
      ·exact hu.lt j hj
      ·rw [List.mem_singleton.1 hj];exact hlt
     ·rcases List.mem_append.1 hj with hj | hj
      ·exact List.mem_append_left _ (hu.closed j hj o' ho' e he hb)
      ·rw [List.mem_singleton.1 hj,ho] at ho'
       cases ho'
       exact List.mem_append_left _ (hwL e he hb)
    ·refine ⟨by simpa using huP.size,fun j hj=>?_,fun j hj=>?_,fun j hj o' ho' e he hb=>?_⟩
     ·have hl:j<listedP.size:=by rw [huP.size];exact hj
      by_cases hij:i=j
      ·subst hij;simp [hl]
      ·rw [Array.getElem?_setIfInBounds_ne hij,huP.mem j hj]
       simp [Ne.symm hij]
     ·rcases List.mem_append.1 hj with hj | hj
      ·exact huP.lt j hj
      ·rw [List.mem_singleton.1 hj];exact hiP
     ·rcases List.mem_append.1 hj with hj | hj
      ·exact List.mem_append_left _ (huP.closed j hj o' ho' e he hb)
      ·rw [List.mem_singleton.1 hj,hoP] at ho'
       cases ho'
       exact List.mem_append_left _ (hwL e he hb)
    ·rw [List.nodup_append]
     exact ⟨hnd,by simp,fun x hx y hy=>by rw [List.mem_singleton.1 hy];rintro rfl;exact hiL hx⟩
    ·simp only [List.length_append,List.length_singleton];omega
    ·intro k hk p o1 o2 h1 h2
     have hne:i≠k:=fun e=>hiL (e ▸ hk)
     rcases tq hq hns hiP (huP.lt k hk) hne h1 (.inr ⟨o2,h2⟩) with ⟨h3,_⟩ | ⟨_,h4⟩
     ·omega
     ·exact absurd (fO huP h4 hk) hiL
def kV (ops:Array Oper) (m:Nat):Bool :=
 let A:=ancs [] ops.toList
 ((List.range ops.size).all fun i=>match ops[i]? with
   | some o=>o.after.toList.all fun e=>!Region.binds .any e || decide (e.on<i)
   | none=>true) &&
 (List.range ops.size).all fun j=>decide (j<m) || (List.range j).all fun i=>(A.getD j []).contains i
theorem tb {m:Nat} (h:kV ops m=true):∀ i o,ops[i]?=some o→∀ e∈o.after,Region.binds .any e=true→e.on<i:=by
 intro i o ho e he hb
 have hi:i<ops.size:=by
  rcases Nat.lt_or_ge i ops.size with hlt | hge
  ·exact hlt
  ·rw [Array.getElem?_eq_none hge] at ho;cases ho
 simp only [kV,Bool.and_eq_true] at h
 have h2:=List.all_eq_true.1 h.1 i (List.mem_range.2 hi)
 simp only [ho] at h2
 have h3:=List.all_eq_true.1 h2 e (Array.mem_toList_iff.2 he)
 simpa [hb] using h3
theorem tI {m:Nat} (h:kV ops m=true):∀ j i,m≤j→j<ops.size→i<j→Anc ops j i:=by
 intro j i hm hj hi
 simp only [kV,Bool.and_eq_true] at h
 have h2:=List.all_eq_true.1 h.2 j (List.mem_range.2 hj)
 simp only [Bool.or_eq_true,decide_eq_true_eq] at h2
 have h3:=h2.resolve_left (by omega)
 have h4:=List.all_eq_true.1 h3 i (List.mem_range.2 hi)
 exact jr (ops:=ops) ops.toList [] (fun j=>by simp) (fun i k hk=>by simp at hk) _ _ (by simpa using h4)
theorem wF {id:Nat} {l q:List Oper} {s:St} {k:List It} {Q:Exit→St→Prop} (hm:P.follows .mixedOrders=true) (hq0:q≠[]) (hg:(l.all fun o=>o.guard.isNone)=true) (ht:kV (l++q).toArray l.length=true)
  (h:xrun P cf l.toArray (fun s' ns=>chk l.toArray ns=true∧run P cf (.ops (l++q).toArray q::k) Q s') l s []):ACk P cf (.region id (l++q).toArray true) s k Q:=by
 obtain ⟨xs,fs,⟨hq,hK⟩,hall⟩:=ji (ops:=l.toArray) l 0 s [] (fun j=>by simp) h
 intro B hB ds β a w hds hs
 refine wpIn_region_any hm ?_
 have hns:∀ i,i<l.toArray.size→(([]:Ns)++(List.range' 0 l.length).map fun j=>fpN (fs j)).getD i ([],[],[])=fpN (fs i):=by
  intro i hi
  have hi:i<l.length:=by simpa using hi
  simp [hi]
 have hql:0<q.length:=List.length_pos_iff.2 hq0
 refine GR (ops:=(l++q).toArray) (opsP:=l.toArray) hq hns hB (ds:=ds) (by simp;omega) (fun i hi=>?_) (fun i o ho=>?_) (tb ht) (by simpa using tI ht) (fun j o ho=>hall j o (Nat.zero_le _) ho) (fun β a w hds hs=>?_) _ _ (Array.replicate l.toArray.size false) [] s β a _ ?_ ?_ List.nodup_nil (by simp) hds (.nil _ _ _) (hs.gb rfl rfl)
 ·have hi:i<l.length:=by simpa using hi
  simp [List.getElem?_append_left,hi]
 ·have hi:i<l.length:=by
   have:=(Array.getElem?_eq_some_iff.1 ho).1
   simpa using this
  have hm2:o∈l:=by
   have:l[i]?=some o:=by simpa using ho
   exact List.mem_of_getElem? this
  have:=List.all_eq_true.1 hg o hm2
  simpa using this
 ·refine aV hK B hB ds β a w hds (by simpa using hs) _ ?_
  apply List.ext_getElem?
  intro j
  simp only [List.getElem?_map,List.size_toArray,List.length_append]
  by_cases hj:j<q.length
  ·rw [List.getElem?_range' (by omega)]
   simp [hj]
  ·simp [hj]
 ·refine ⟨by simp,fun j hj=>?_,by simp,by simp⟩
  have hj:j<l.length+q.length:=by simpa using hj
  simp [hj]
 ·refine ⟨by simp,fun j hj=>?_,by simp,by simp⟩
  have hj:j<l.length:=by simpa using hj
  simp [hj]
theorem tJ (n:Nat) {id:Nat} {l p q:List Oper} {s:St} {k:List It} {Q:Exit→St→Prop} (hm:P.follows .mixedOrders=true) (E0:Eng P cf Q) (htd:l.take n=p) (hqd:l.drop n=q) (hq0:q.isEmpty=false) (hg:(p.all fun o=>o.guard.isNone)=true) (ht:kV l.toArray p.length=true)
  (h:∀ E:XEng P cf p.toArray (fun s' ns=>chk p.toArray ns=true∧E0.run (.ops l.toArray q::k) s'),E.run p s []):cV E0 (.region id l.toArray true) s k:=by
 have e0:p++q=l:=by rw [← htd,← hqd];exact List.take_append_drop n l
 have key:=wF (P:=P) (cf:=cf) (id:=id) (l:=p) (q:=q) (s:=s) (k:=k) (Q:=Q) hm (by intro e;rw [e] at hq0;cases hq0) hg (by rw [e0];exact ht)
 rw [e0] at key
 refine key ?_
 have e:(fun s' ns=>chk p.toArray ns=true∧E0.run (.ops l.toArray q::k) s')=fun s' ns=>chk p.toArray ns=true∧run P cf (.ops l.toArray q::k) Q s':=by funext s' ns;rw [E0.run_eq]
 obtain ⟨E⟩:=uS P cf p.toArray (fun s' ns=>chk p.toArray ns=true∧E0.run (.ops l.toArray q::k) s')
 have:=h E
 rw [E.run_eq,e] at this
 exact this
end
end Go.Ab

namespace Go.Ab
section
variable {P:Program} {cf:Cf} {Q:Exit→St→Prop} {s:St} {k:List It} {B:Base} {β:Name→Option Blk} {tm:Array Value} {w:World}
end
section
variable {P:Program} {cf:Cf} {Q:Exit→St→Prop} {s:St} {k:List It}
end
theorem HCall.sub {P:Program} {G:List (Nat × Obj)} {f:FuncId} {args args':List AV} {hp:List (Name × Ob)} {u:List Nat} {Q:AV→List (Name × Ob)→Prop} (hl:args.length=args'.length)
  (hr:∀ (i:Nat) x y,args[i]?=some x→args'[i]?=some y→x=y∨∃ wf,x=.d .nils∧y=.d (.sl wf [])) (h:HCall P G f args' hp u Q):HCall P G f args hp u Q:=by
 refine ⟨h.1,fun B β vs w h1 h2 h3 h4 h5=>h.2 B β vs w (h1.trans hl) h2 h3 h4 { tms:=h5.tms,io:=h5.io,size:=h5.size,frame:=h5.frame,slots:=fun t=>?_,objs:=h5.objs,blocks:=h5.blocks,inj:=h5.inj,us:=h5.us,stay:=h5.stay }⟩
 have hv:=h5.slots t
 rw [dP,bE,if_pos (Nat.zero_le _),Nat.sub_zero] at hv ⊢
 show VR w.heap ((mk (aO 0 args) hp u).own B.A β) u _ β _ _
 cases hx:args[t]? with
 | none =>
   rw [List.getElem?_eq_none (by rw [← hl];exact List.getElem?_eq_none_iff.1 hx)]
   exact .un _
 | some x =>
   have hlt:=(List.getElem?_eq_some_iff.1 hx).1
   have hy:args'[t]?=some args'[t]:=List.getElem?_eq_getElem (by omega)
   rw [hx] at hv
   rw [hy]
   rcases hr t _ _ hx hy with e | ⟨wf,e1,e2⟩
   ·rw [← e];exact hv
   ·rw [e1] at hv
    rw [e2]
    have:=VR.nils hv
    rw [this]
    exact .d _ _ (.sl0 _ _ _)
theorem HP.sub {P:Program} {G:List (Nat × Obj)} {f:FuncId} {args args':List D} {Q:AV→Prop} (hl:args.length=args'.length)
  (hr:∀ (i:Nat) x y,args[i]?=some x→args'[i]?=some y→x=y∨∃ wf,x=.nils∧y=.sl wf []) (h:HP P G f args' Q):HP P G f args Q:=by
 refine HCall.sub (by simpa using hl) (fun i x y hx hy=>?_) h
 rw [List.getElem?_map] at hx hy
 obtain ⟨a,ha,rfl⟩:=Option.map_eq_some_iff.1 hx
 obtain ⟨b,hb,rfl⟩:=Option.map_eq_some_iff.1 hy
 rcases hr i a b ha hb with e | ⟨wf,e1,e2⟩
 ·exact .inl (by rw [e])
 ·exact .inr ⟨wf,by rw [e1],by rw [e2]⟩
end Go.Ab

namespace Go.Ab
section
variable {P:Program} {cf:Cf} {Q:Exit→St→Prop} {s:St} {k:List It} {B:Base} {β:Name→Option Blk} {tm:Array Value} {w:World}
theorem Sim.GX (h:Sim B β s tm w) {p:Name} {ob:Ob} {k:Blk} (hp:s.hp p=some ob) (hk:β p=some k) {w':World} (hio:wio w'=wio w) (hsz:w'.heap.size=w.heap.size) (hw:∀ b,b≠k.b→w'.heap[b]?=w.heap[b]?):Sim B β (s.set p none) tm w':=by
 have hsub:∀ q o,(s.set p none).hp q=some o→q≠p∧s.hp q=some o:=by
  intro q o ho
  by_cases e:q=p
  ·subst e;simp [St.set,ax] at ho
  ·exact ⟨e,by simpa [St.set,ax,e] using ho⟩
 have hne:∀ q,(s.set p none).hp q≠none→s.hp q≠none:=by
  intro q hq e
  cases ho:(s.set p none).hp q with
  | none=>exact hq ho
  | some o=>rw [(hsub q o ho).2] at e;cases e
 have hr:∀ v d,Rep w.heap (s.own B.A β) v d→Rep w'.heap ((s.set p none).own B.A β) v d:=fun v d hd=>hd.mono (fun b hb _=>hw b fun e=>hb (.inr ⟨p,k,by rw [hp];simp,hk,e.symm⟩)) (by
  rintro b _ (hA | ⟨q,k,hq,hk,e⟩)
  ·exact .inl hA
  ·exact .inr ⟨q,k,hne q hq,hk,e⟩)
 have hst:∀ q,nm s.used q→Stays s.hp (s.set p none).hp β β q:=fun q _ o' ho'=>⟨o',(hsub q o' ho').2,Ob.br _,rfl⟩
 refine { tms:=h.tms,io:=hio.trans h.io,size:=by rw [hsz];exact h.size,frame:=fun b hb hn=>?_,slots:=fun i=>(h.slots i).mono hr (fun _ h=>h) hst,objs:=?_,blocks:=fun q k hq hk=>(by rw [hsz];exact h.blocks q k (hne q hq) hk), inj:=fun q q' k l hq hq' hk hl e=>h.inj q q' k l (hne q hq) (hne q' hq') hk hl e,us:=h.us,stay:=h.stay }
 ·rw [hw b ?_]
  ·exact h.frame b hb hn
  ·intro e
   obtain ⟨_,_,h3⟩:=h.blocks p k (by rw [hp];simp) hk
   rcases h3 with h3 | h3
   ·omega
   ·exact hn (e ▸ h3)
 ·intro q o ho
  obtain ⟨hqp,ho'⟩:=hsub q o ho
  obtain ⟨h1,h2⟩:=h.objs q o ho'
  exact ⟨h1,h2.mono hr (fun _ h=>h) hst rfl fun l hl=>hw l.b fun e=>hqp (h.inj q p l k (by rw [ho'];simp) (by rw [hp];simp) hl hk e)⟩
end
section
variable {P:Program} {cf:Cf} {Q:Exit→St→Prop} {s:St} {k:List It}
theorem gT {o:Oper} {d:Nat} {x:AV} (hd:o.dst=some d) (hdn:d<cf.n) (hnd:∀ c,o.op≠.defer c)
  (hrun:∀ (B:Base) (β:Name→Option Blk) (a:Act) (w:World),Sim B β s a.tmps w→∃ v,(execOp a.eval o).run P w=.ok (.value v) w∧VR w.heap (s.own B.A β) s.used s.hp β v x) (h:run P cf k Q (s.put d x)):AOk P cf o s k Q:=by
 intro B hB ds β a w hds hs Q'
 obtain ⟨v,h1,h2⟩:=hrun B β a w hs
 refine az (v:=v) hnd h1 (.inl rfl) ?_
 rw [hd]
 exact ⟨hds,_,β,aV h,hs.put (by rw [hB.1];exact hdn) h2⟩
theorem jj (E:Eng P cf Q) {o:Oper} {d:Nat} {x:AV} (hd:o.dst=some d) (hdn:d<cf.n) (hnd:∀ c,o.op≠.defer c)
  (hrun:∀ (B:Base) (β:Name→Option Blk) (a:Act) (w:World),Sim B β s a.tmps w→∃ v,(execOp a.eval o).run P w=.ok (.value v) w∧VR w.heap (s.own B.A β) s.used s.hp β v x) (h:E.run k (s.put d x)):E.stp o s k .no:=by
 rw [aK]
 rw [E.run_eq] at h
 exact gT hd hdn hnd hrun h
theorem qc {t e:Nat} (h:(P.ti t).k=.ptr e):P.underlying t=some (.pointer e):=by
 obtain ⟨i,d,_,hd,hk,_⟩:=cJ (P:=P) (t:=t) (by rw [h];rfl)
 rw [h] at hk
 cases d<;>simp [tk] at hk
 rw [hd,hk]
def Br (hp:Name→Option Ob):AV→Option Bool
 | .d .nilp=>some true
 | .d (.ptr _)=>some false
 | .bx p _=>match hp p with
   | some (.boxT _ _)=>some false
   | _=>none
 | _=>none
theorem ug {H:Array Obj} {own:Nat→Prop} {used:List Nat} {hp:Name→Option Ob} {β:Name→Option Blk} {v:Value} {x:AV} {b:Bool} (h:VR H own used hp β v x) (hn:Br hp x=some b):∃ ad,v=.pointer ad∧ad.isNone=b:=by
 cases x with
 | d z =>
   cases z<;>simp [Br] at hn
   ·subst hn
    have:=h.toD
    cases this;exact ⟨none,rfl,rfl⟩
   ·subst hn
    have:=h.toD
    cases this;exact ⟨_,rfl,rfl⟩
 | bx p c =>
   simp only [Br] at hn
   split at hn
   ·rename_i ty cs ho
    cases hn
    cases h with
    | bx _ _ _ _ _ hx =>
      obtain ⟨k,_,_,rfl⟩:=hx _ _ ho
      exact ⟨_,rfl,rfl⟩
   ·cases hn
 | _=>simp [Br] at hn
theorem tP (E:Eng P cf Q) {t e:TypeId} {x:Operand} {yt:TypeId} {dst:Nat} {ty:TypeId} {ps:String} {af:Array Edge} (b:Bool) (hk:(P.ti t).k=.ptr e) (hd:dst<cf.n) (hx:Br s.hp (ev s x)=some b) (h:E.run k (s.put dst (.d (.bool b)))) :
  E.stp { dst:=some dst,op:=.binOp .eql t x (.const (.pointer none)) yt,type:=ty,pos:=ps,after:=af,guard:=none } s k .no:=by
 refine jj E rfl hd (by simp) (fun B β a w hs=>⟨.bool b,?_,.d _ _ (.bool _)⟩) h
 obtain ⟨ad,hv,rfl⟩:=ug (hs.ev x) hx
 have hu:=qc hk
 refine gU ?_ ?_
 ·rw [hv];rfl
 ·rw [hv]
  exact run_eql_pointer_nil w t ad (by rw [hu];simp [Program.pointee,hu])
theorem run_neq_ptr_same {tp te:TypeId} {j:TypeInfo} (w:World) (a:Addr) (hp:P.underlying tp=some (.pointer te)) (hte:P.info? te=some j):(binOp .neq tp (.pointer (some a)) (.pointer (some a))).run P w=.ok (.bool false) w:=by
 have h:∀ d:Nat,(Op.equalIn (d+1) tp (.pointer (some a)) (.pointer (some a))).run P w=.ok true w:=fun d=>by
  simp [Op.equalIn,run_underlying hp,sizeOf,typeInfo,hte,run_sameAddr_same]
 simp only [binOp]
 simp [Op.equal,Op.maxDepth,h 9999]
theorem wB (E:Eng P cf Q) {t e:TypeId} {x y:Operand} {yt:TypeId} {dst:Nat} {ty:TypeId} {ps:String} {af:Array Edge} (p:Name) (c:Nat) (hk:(P.ti t).k=.ptr e) (he:(P.info? e).isSome=true) (hd:dst<cf.n) (hx:ev s x=.bx p c) (hy:ev s y=.bx p c) (hp:(match s.hp p with | some (.boxT _ _)=>true | _=>false)=true)
  (h:E.run k (s.put dst (.d (.bool false)))):E.stp { dst:=some dst,op:=.binOp .neq t x y yt,type:=ty,pos:=ps,after:=af,guard:=none } s k .no:=by
 refine jj E rfl hd (by simp) (fun B β a w hs=>⟨.bool false,?_,.d _ _ (.bool _)⟩) h
 split at hp
 rotate_left
 ·cases hp
 rename_i ty' cs ho
 obtain ⟨k,hkk⟩:∃ k:Blk,∀ v,VR w.heap (s.own B.A β) s.used s.hp β v (.bx p c)→v=.pointer (some ⟨k.b,c,none⟩):=by
  obtain ⟨k,_,_,hk,_⟩:=(hs.objs p _ ho).2
  refine ⟨k,fun v hv=>?_⟩
  cases hv with
  | bx _ _ _ _ _ hx =>
    obtain ⟨k',hk',_,rfl⟩:=hx _ _ ho
    rw [hk] at hk';cases hk';rfl
 have h1:=hkk _ (hx ▸ hs.ev x)
 have h2:=hkk _ (hy ▸ hs.ev y)
 obtain ⟨j,hj⟩:=Option.isSome_iff_exists.1 he
 refine gU ?_ ?_
 ·rw [h1,h2];rfl
 ·rw [h1,h2]
  exact run_neq_ptr_same w _ (qc hk) hj
theorem yO {B:Base} {β:Name→Option Blk} {tm:Array Value} {w:World} (hs:Sim B β s tm w) {p:Name} {t:Nat} {cs:List AV} (hp:s.hp p=some (.boxT (some t) cs)):∃ k:Blk,(∀ v c,VR w.heap (s.own B.A β) s.used s.hp β v (.bx p c)→v=.pointer (some ⟨k.b,c,none⟩))∧w.shape? k.b=some (t,cs.length):=by
 obtain ⟨k,c,e,hk,_,hc,_,hl,_⟩:=(hs.objs p _ hp).2
 refine ⟨k,fun v c hv=>?_,by simp [World.shape?,hc,hl]⟩
 cases hv with
 | bx _ _ _ _ _ hx =>
   obtain ⟨k',hk',_,rfl⟩:=hx _ _ hp
   rw [hk] at hk';cases hk';rfl
theorem HA (E:Eng P cf Q) {a' b' e:TypeId} {x:Operand} {dst:Nat} {ty:TypeId} {ps:String} {af:Array Edge} (p:Name) (c t:Nat) (cs:List AV) (hk:(P.ti a').k=.ptr e) (hu:P.underlying b'=some .unsafePointer) (he:(P.info? e).any (fun j=>j.size != 0)=true) (hd:dst<cf.n) (hx:ev s x=.bx p c)
  (hp:s.hp p=some (.boxT (some t) cs)) (hc:c<cs.length) (h:E.run k (s.put dst (.bx p c))):E.stp { dst:=some dst,op:=.convert a' b' x,type:=ty,pos:=ps,after:=af,guard:=none } s k .no:=by
 refine jj E (x:=.bx p c) rfl hd (by simp) (fun B β a w hs=>⟨a.eval x,?_,hx ▸ hs.ev x⟩) h
 obtain ⟨k,hkk,hsh⟩:=yO hs hp
 have h1:=hkk _ _ (hx ▸ hs.ev x)
 rw [Option.any_eq_true] at he
 obtain ⟨j,hj,hj0⟩:=he
 have:=Lib.run_to_unsafe (P:=P) w (src:=a') (dst:=b') (⟨k.b,c,none⟩:Addr) (qc hk) hu hj (by simpa using hj0) hsh hc
 simp [execOp,h1,this]
theorem GL (E:Eng P cf Q) {a' b' e:TypeId} {x:Operand} {dst:Nat} {ty:TypeId} {ps:String} {af:Array Edge} (p:Name) (c t:Nat) (cs:List AV) (hk:(P.ti b').k=.ptr e) (hu:P.underlying a'=some .unsafePointer) (he:(P.info? e).isSome=true) (hd:dst<cf.n) (hx:ev s x=.bx p c)
  (hp:s.hp p=some (.boxT (some t) cs)) (m:Nat) (hm:cs.length=m) (hl:liesAt P P.depth t (m / P.cellsOf t) c e 1=true) (h:E.run k (s.put dst (.bx p c))):E.stp { dst:=some dst,op:=.convert a' b' x,type:=ty,pos:=ps,after:=af,guard:=none } s k .no:=by
 refine jj E (x:=.bx p c) rfl hd (by simp) (fun B β a w hs=>⟨a.eval x,?_,hx ▸ hs.ev x⟩) h
 obtain ⟨k,hkk,hsh⟩:=yO hs hp
 have h1:=hkk _ _ (hx ▸ hs.ev x)
 obtain ⟨j,hj⟩:=Option.isSome_iff_exists.1 he
 rw [hm] at hsh
 have:=Lib.run_from_unsafe (P:=P) w (src:=a') (dst:=b') (⟨k.b,c,none⟩:Addr) hu (qc hk) hj hsh hl
 simp [execOp,h1,this]
theorem Cc (E:Eng P cf Q) {fv x:Operand} {at':Array TypeId} {dst:Nat} {ty:TypeId} {ps:String} {af:Array Edge} (f:FuncId) (y:AV) (hr:∀ v w,(callFunc f #[v]).run P w=.ok (.value v) w) (hd:dst<cf.n) (hf:ev s fv=.clo f []) (hx:ev s x=y) (h:E.run k (s.put dst y)) :
  E.stp { dst:=some dst,op:=.call { callee:=.value fv,args:=#[x],argTypes:=at' },type:=ty,pos:=ps,after:=af,guard:=none } s k .no:=by
 refine jj E (x:=y) rfl hd (by simp) (fun B β a w hs=>⟨a.eval x,?_,hx ▸ hs.ev x⟩) h
 have hf':=hs.ev fv
 rw [hf] at hf'
 generalize hfv:a.eval fv=fval at hf'
 cases hf' with
 | clo _ cvs _ hcs hcv =>
 have hc0:cvs=#[]:=Array.eq_empty_of_size_eq_zero (by simpa using hcs)
 subst hc0
 have e:(execOp a.eval { dst:=some dst,op:=.call { callee:=.value fv,args:=#[x],argTypes:=at' },type:=ty,pos:=ps,after:=af,guard:=none }:Sem Next)=callFunc f (#[]++#[x].map a.eval++#[]):=by
  show (do let d ← (Deferred.ofValue (a.eval fv) (#[x].map a.eval));invoke d.target d.args:Sem Next)=_
  rw [hfv];rfl
 rw [e]
 simpa using hr (a.eval x) w
end
end Go.Ab

namespace Go.Ab
theorem uI {P:Program} {e:TypeId} (hc:P.cellsOf e=1) (count o n:Nat) (hn:o+n≤count):liesAt P P.depth e count o e n=true:=by
 have hd:P.depth=(2*(P.types.size+Made.depth)+1)+1:=rfl
 rw [hd]
 simp only [liesAt,Bool.or_eq_true]
 left
 rw [hd]
 simp [rowAt,hc,hn,sameLayout,Nat.mod_one]
theorem gB {P:Program} (w:World) (pt it ty e:TypeId) (hp:P.underlying pt=some (.pointer e)) (hc:P.cellsOf e=1) (g o cells:Nat) (hsh:w.shape? g=some (e,cells)) (l:List UInt8) (h0:l≠[]) (hn:o+l.length≤cells) (h63:l.length≤9223372036854775807)
  (hcell:∀ j x,l[j]?=some x→w.cell? ((⟨g,o,none⟩:Addr).add j)=some (.int .u8 x.toNat)) :
  (Builtin.unsafeString_ #[pt,it] ty #[.pointer (some ⟨g,o,none⟩),.int .i64 l.length]).run P w=.ok (.string ⟨l.toArray⟩) (w.freeze ⟨g,o,none⟩ l.length):=by
 have hl:l.length≠0:=by simpa using h0
 have hlb:=Lib.run_loadBytes (P:=P) w l ⟨g,o,none⟩ .empty hcell
 have hlies:=uI (P:=P) hc (cells / P.cellsOf e) o l.length (by rw [hc];simpa using hn)
 have h63':¬ (9223372036854775807:Int)<(l.length:Int):=by omega
 obtain ⟨z1,z2,z3,hdef⟩:∃ z1 z2 z3,Builtin.unsafeString_ #[pt,it] ty #[.pointer (some ⟨g,o,none⟩),.int .i64 l.length] =
  (do
   let n ← asInt (.int .i64 l.length)
   if n<0 then runtimePanic (.error z1)
   if n > IntKind.i64.max then unsupported (.unsafePointer z2)
   if n=0 then pure (.string .empty)
   else if ← variablesAt ⟨g,o,none⟩ (← elemOf pt) n.toNat then do
    let s ← loadBytes ⟨g,o,none⟩ .empty n.toNat
    freeze ⟨g,o,none⟩ n.toNat
    pure (.string s)
   else unsupported (.unsafePointer z3)):=⟨_,_,_,rfl⟩
 rw [hdef]
 have hmax:IntKind.i64.max=9223372036854775807:=rfl
 have hneg:¬ (l.length:Int)<0:=by omega
 simp [asInt,asIntOf,hmax,h63',hneg,hl,variablesAt,hsh,elemOf,run_underlying hp,hlies,hlb]
def byD (c:UInt8):D:=.int .u8 (c.toNat:Nat)
section
variable {P:Program} {cf:Cf} {Q:Exit→St→Prop} {s:St} {k:List It}
theorem CP {d:Nat} {x:Operand} {at':Array TypeId} {ty:TypeId} {pos:String} {af:Array Edge} {g:Option (Nat × Bool)} (p:Name) (tg:Option Nat) (w0:W) (xs:List D) (l:Nat) (hd:d<cf.n) (hx:ev s x=.vw p 0 l) (hp:s.hp p=some (.arrT tg w0 xs)) (hl:0<l) (h:run P cf k Q (s.put d (.el p 0 0))) :
  AOk P cf { dst:=some d,op:=.call { callee:=.builtin .unsafeSliceData,args:=#[x],argTypes:=at' },type:=ty,pos:=pos,after:=af,guard:=g } s k Q:=by
 refine gT rfl hd (by simp) (fun B β a w hs=>?_) h
 have hv:=hs.ev x
 rw [hx] at hv
 generalize hax:a.eval x=vx at hv
 cases hv with
 | vw _ _ _ _ hn h1 hx' =>
   obtain ⟨hle,a0,cap,rfl,hc⟩:=hx' _ _ _ hp
   rcases hc with ⟨h0,_⟩ | ⟨k,hk,rfl,hcap,hz⟩
   ·omega
   ·refine ⟨.pointer (some ⟨k.b,k.o+0*wd w0,none⟩),?_,.el _ _ _ _ hn rfl fun ty' w' xs' hp'=>?_⟩
    ·obtain ⟨oo,hoo⟩:∃ oo,k.o+0*wd w0=oo:=⟨_,rfl⟩
     rw [hoo] at hax ⊢
     have:=Lib.run_unsafeSliceData_row (P:=P) w at' ty ⟨k.b,oo,none⟩ l cap (by omega)
     simp [execOp,resolve,invoke,builtin,hax,this]
    ·rw [hp] at hp';cases hp'
     exact ⟨by omega,k,hk,rfl⟩
theorem EM (E:Eng P cf Q) {d pt it e:Nat} {x y:Operand} {ty:TypeId} {pos:String} {af:Array Edge} (p:Name) (l:List UInt8) (hd:d<cf.n) (hpt:P.underlying pt=some (.pointer e)) (hc:P.cellsOf e=1) (h0:l≠[]) (h63:l.length≤9223372036854775807)
  (hx:ev s x=.el p 0 0) (hp:s.hp p=some (.arrT (some e) none (l.map byD))) (hy:ev s y=.d (.int .i64 l.length)) (h:E.run k ((s.set p none).put d (.d (.str l)))) :
  E.stp { dst:=some d,op:=.call { callee:=.builtin .unsafeString,args:=#[x,y],argTypes:=#[pt,it] },type:=ty,pos:=pos,after:=af,guard:=none } s k .no:=by
 rw [aK]
 rw [E.run_eq] at h
 intro B hB ds β a w hds hs Q'
 have hv:=hs.ev x
 rw [hx] at hv
 have hw:=hs.ev y
 rw [hy] at hw
 have hw:=hw.int
 generalize hax:a.eval x=vx at hv
 cases hv with
 | el _ _ _ _ hn h1 hx' =>
 obtain ⟨hlt,k0,hk,rfl⟩:=hx' _ _ _ hp
 rcases (hs.objs p _ hp).2 with ⟨_,h0'⟩ | ⟨k1,c,e',hk1,hh,hz,hl,hok,hrep⟩
 ·simp at h0';exact absurd h0' h0
 rw [hk] at hk1
 cases hk1
 simp only [wd,Nat.mul_one,List.length_map] at hl
 have hsh:w.shape? k0.b=some (e,c.size):=by simp [World.shape?,hh]
 have hcell:∀ j x,l[j]?=some x→w.cell? ((⟨k0.b,k0.o+0*wd none+0,none⟩:Addr).add j)=some (.int .u8 x.toNat):=fun j x hj=>by
  have hjl:=(List.getElem?_eq_some_iff.1 hj).1
  have h2:=hrep j (byD x) 0 (byD x) (by simp [hj]) rfl
  have h3:k0.o+j<c.size:=by omega
  rw [show k0.o+j*wd none+0=k0.o+j by simp [wd]] at h2
  simp only [Array.getD_eq_getD_getElem?,Array.getElem?_eq_getElem h3,Option.getD_some] at h2
  have h4:c[k0.o+j]=.int .u8 x.toNat:=by
   generalize c[k0.o+j]=v at h2
   cases h2;rfl
  rw [bl]
  simp [World.cell?,hh,wd,h3,h4]
 have hrun:=gB (P:=P) w pt it ty e hpt hc k0.b (k0.o+0*wd none+0) c.size hsh l h0 (by simp [wd];omega) h63 hcell
 obtain ⟨oo,hoo⟩:∃ oo,k0.o+0*wd none+0=oo:=⟨_,rfl⟩
 rw [hoo] at hrun hax
 refine az (v:=.string ⟨l.toArray⟩) (w':=w.freeze ⟨k0.b,oo,none⟩ l.length) (by simp) (by simp [execOp,resolve,invoke,builtin,hax,hw,hrun]) (.inl rfl) ⟨hds,_,β,aV h,?_⟩
 refine Sim.put (hs.GX hp hk (w':=w.freeze ⟨k0.b,oo,none⟩ l.length) ?_ ?_ fun b hb=>?_) (by rw [hB.1];exact hd) (.d _ _ (.str l))
 ·unfold World.freeze;split<;>rfl
 ·unfold World.freeze;split<;>simp
 ·unfold World.freeze
  split
  ·rfl
  ·simp only [Array.getElem?_modify]
   rw [if_neg (fun e=>hb e.symm)]
section
variable {ops:Array Oper} {K:St→Ns→Prop} {r:List Oper} {ns:Ns}
theorem aI (E:XEng P cf ops K) {d:Nat} {x:Operand} {ty:TypeId} {pos:String} {af:Array Edge} (p:Name) (c:Nat) (ty':Option Nat) (cs:List AV) (hd:d<cf.n) (hx:ev s x=.bx p c) (hp:s.hp p=some (.boxT ty' cs)) (h:E.run r (s.put d (.bx p c)) (ns++[([p],[],[])])) :
  E.stp { dst:=some d,op:=.nilCheck x,type:=ty,pos:=pos,after:=af,guard:=none } r s ns .no:=by
 refine eW E (x:=.bx p c) [p] (fun t ht=>by rw [Option.mem_def,Option.some.injEq] at ht;rw [← ht];exact hd) (fun s' hh he=>?_) h
 have h1:ev s' x=.bx p c:=(he x (by simp [Op.operands])).trans hx
 have h2:s'.hp p=some (.boxT ty' cs):=(hh p (by simp)).trans hp
 refine cg (o:={ dst:=some d,op:=.nilCheck x,type:=ty,pos:=pos,after:=af,guard:=none }) rfl ?_
 have h3:opR P.ti cf.n (.nilCheck x) (some d) s'=.ok (s'.put d (.bx p c)):=by
  unfold opR wK
  simp only [h1,h2]
  simp [R.bind,bp,hd]
 unfold stp
 simp only [h3,R.run]
 rw [bG];rfl
theorem HC (E:XEng P cf ops K) {d:Nat} {x:Operand} {at':Array TypeId} {ty:TypeId} {pos:String} {af:Array Edge} {g:Option (Nat × Bool)} (p:Name) (tg:Option Nat) (w0:W) (xs:List D) (l:Nat) (hd:d<cf.n) (hx:ev s x=.vw p 0 l) (hp:s.hp p=some (.arrT tg w0 xs)) (hl:0<l)
  (h:E.run r (s.put d (.el p 0 0)) (ns++[([p],[],[])])) :
  E.stp { dst:=some d,op:=.call { callee:=.builtin .unsafeSliceData,args:=#[x],argTypes:=at' },type:=ty,pos:=pos,after:=af,guard:=g } r s ns .no:=by
 refine eW E (x:=.el p 0 0) [p] (fun t ht=>by rw [Option.mem_def,Option.some.injEq] at ht;rw [← ht];exact hd) (fun s' hh he=>?_) h
 exact CP p tg w0 xs l hd ((he x (by simp [Op.operands,Call.operands])).trans hx) ((hh p (by simp)).trans hp) hl (by rw [bG];rfl)
end
end
theorem qd (tf:Nat→TI) (dd:Option Nat) (s:St) (x:Operand):opE tf (.nilCheck x) dd s=.no:=rfl
attribute [go_sem] qd
end Go.Ab

namespace Go.Ab
section
variable {P:Program} {F:Fence} {n:Nat} {ops:Array Oper} {Q Q':Exit→Act→World→Prop}
end
section
variable {P:Program} {cf:Cf} {Φ:Exit→Act→World→Prop} {I:Base→List Deferred→Prop} {k:List It} {s:St}
end
end Go.Ab

namespace Go.Ab
theorem zb (p:Name):∀ (a b:List (Name × Option Ob)),wl (a++b) p=match wl b p with | some v=>some v | none=>wl a p
 | [],b=>by cases h:wl b p<;>simp [wl,h]
 | q::r,b=>by
   rw [List.cons_append,wl,zb p r b]
   cases wl b p<;>simp [wl]
theorem A6 (p:Name) (z:Option Ob):∀ l:List (Name × Option Ob),(wl l.reverse p).getD z=lkA z l p
 | []=>rfl
 | q::r=>by
   rw [List.reverse_cons,zb,bB]
   by_cases h:p=q.1
   ·simp [wl,h]
   ·simp only [wl,if_neg h]
    exact A6 p z r
attribute [go_sem] List.reverse_cons List.reverse_nil
theorem qw {α β:Type} [DecidableEq α] (z:β) (i:α):∀ a b:List (α × β),lkA z (a++b) i=lkA (lkA z b i) a i
 | [],_=>rfl
 | q::r,b=>by rw [List.cons_append,bB,bB,qw z i r b]
section
variable {P:Program} {cf:Cf} {ops:Array Oper} {K:St→Ns→Prop} {r:List Oper} {s:St} {ns:Ns}
theorem Cg {H:Array Obj} {own:Nat→Prop} {v:Value} {wf:W} {l:List D} (h:Rep H own v (.sl wf l)):v.oneCell'=true:=by
 generalize hz:D.sl wf l=d at h
 cases h<;>first | rfl | cases hz
theorem tj {H:Array Obj} {own:Nat→Prop} {us:List Nat} {hp:Name→Option Ob} {β:Name→Option Blk} {v:Value} {wf:W} {l:List D} (h:VR H own us hp β v (.d (.sl wf l))):v.oneCell'=true:=by
 cases h with
 | d _ _ h=>exact Cg h
theorem wg (E:XEng P cf ops K) {t:Nat} (u:Nat) (p:Name) (wf:W) (xs:List D) {off len:Nat} {fv:Operand} {args:Array Operand} {at':Array TypeId} {ty:TypeId} {pos:String} {af:Array Edge} {gg:Option (Nat × Bool)}
  {f:FuncId} {caps:List AV} {ds:List D} {x:AV} (hc:HP P cf.G f ds (fun r=>r=x)) (hfv:∀ s,ev s fv=.clo f caps) (hp:s.hp p=some (.arr wf xs)) (hev:s.fr u=.vw p off len) (hu:(t == u)=false) (hin:Operand.tmp u∈args)
  (hargs:args.toList.map (ev (s.put u (.d (.sl wf ((xs.drop off).take len)))))++caps=ds.map .d) (hdst:t<cf.n) (hk:E.run r ((s.set p none).put t x) (ns++[([p],[p],[])])) :
  E.stp { dst:=some t,op:=.call { callee:=.value fv,args:=args,argTypes:=at' },type:=ty,pos:=pos,after:=af,guard:=gg } r s ns .no:=by
 have htu:¬ t=u:=by simpa using hu
 have hgo:∀ s:St,(s.set p none).put t x=s.go (some t) x ⟨[(p,none)],[]⟩:=fun s=>by unfold St.go;rw [jS];rfl
 rw [E.stp_eq]
 refine ⟨x,([p],⟨[(p,none)],[]⟩),fun s' _ hh he=>?_,fun y hy=>(by cases hy),hdst,?_⟩
 ·have hm:∀ y,y∈args→ev s' y=ev s y:=fun y hy=>he y (by
   simp only [Op.operands,Call.operands]
   simp_all)
  have hp':s'.hp p=some (.arr wf xs):=(hh p (by simp)).trans hp
  have hev':s'.fr u=.vw p off len:=(hm (.tmp u) hin).trans hev
  obtain ⟨y,hy⟩:∃ y,y=AV.d (.sl wf ((xs.drop off).take len)):=⟨_,rfl⟩
  rw [← hy] at hargs
  have hargs':args.toList.map (ev ((s'.set p none).put u y))++caps=ds.map .d:=by
   rw [← hargs]
   congr 1
   refine List.map_congr_left fun z hz=>?_
   have h0:=hm z (by simpa using hz)
   cases z with
   | tmp i =>
     by_cases e:i=u
     ·subst e
      show ((s'.set p none).put i _).fr i=(s.put i _).fr i
      simp [St.put,bS]
     ·have h0':s'.fr i=s.fr i:=h0
      show ((s'.set p none).put u _).fr i=(s.put u _).fr i
      simp [St.put,St.set,bS,e,h0']
   | _=>rfl
  have h1:=fb (k:=[]) (Q:=fun _ s2=>s2=((s'.set p none).put u y).put t x) (dst:=some t) (fv:=fv) (args:=args) (at':=at') (ty:=ty) (pos:=pos) (af:=af) (g:=gg) hc
   (hfv _) hargs' (fun y hy=>by rw [Option.mem_def,Option.some.injEq] at hy;rw [← hy];exact hdst) (fun r hr=>by subst hr;rw [bG];rfl)
  intro B hB ds' β a w hds hs Q'
  have hs0:=hs.drop p
  have hs1:Sim B β ((s'.set p none).put u y) a.tmps w:=hs0.setv (by
   have:=(hs.frz hp').slots u
   rw [show (s'.frz p wf xs).fr u=(s'.fr u).frz p wf xs from rfl,hev',AV.frz,if_pos rfl,← hy] at this
   exact this)
  refine Oper.wpIn_mono ?_ (h1 B hB ds' β a w hds hs1 Q')
  rintro a' w' ⟨hd',s2,β',hrun,hs2⟩
  obtain ⟨_,s3,β3,rfl,hs3⟩:=hrun B hB ds' β' a' w' hd' hs2
  refine ⟨hd',β3,?_⟩
  rw [← hgo]
  have hv:=hs3.slots u
  have e1:(((s'.set p none).put u y).put t x).fr u=y:=by simp [St.put,bS,Ne.symm htu,fun h:u=t=>htu h.symm]
  rw [e1,hy] at hv
  have hnm:=(hs.objs p _ hp').1
  have e2:((s'.set p none).put t x)=(((s'.set p none).put u y).put t x).put u (.vw p off len):=by
   refine jJ (fun _=>rfl) rfl fun i=>?_
   simp only [St.put,St.set,bS]
   by_cases h1:i=u
   ·subst h1
    have h3:¬ i=t:=fun h=>htu h.symm
    simp [h3,hev']
   ·simp [h1]
  have h5:=hs3.setv (t:=u) (x:=.vw p off len) (.vw _ _ _ _ hnm (by
   exact tj hv) (fun ty w xs h=>by
    have h:ax s'.hp p none p=some _:=h
    simp [ax] at h))
  rw [e2]
  exact h5
 ·rw [← E.run_eq,← hgo]
  exact hk
end
end Go.Ab

namespace Go.Ab
section
variable {P:Program} {cf:Cf} {ops:Array Oper} {K:St→Ns→Prop} {r:List Oper} {s:St} {ns:Ns}
end
end Go.Ab

namespace Go.Ab
section
variable {P:Program} {cf:Cf} {Q:Exit→St→Prop} {s:St} {k:List It}
end
end Go.Ab

namespace Go.Ab
section
variable {P:Program} {cf:Cf} {k:List It} {s:St} {Φ:Exit→Act→World→Prop} {I:Base→List Deferred→Prop}
end
section
variable {P:Program} {cf:Cf} {N:Nat} {xs:Nat→List D} {z:Itz} {k:List It} {s:St}
end
end Go.Ab

namespace Go.Ab
section
variable {P:Program} {cf:Cf} {Q:Exit→St→Prop} {s:St} {k:List It}
theorem pf (E:Eng P cf Q) {d:Nat} {x:Operand} {ty:TypeId} {pos:String} {af:Array Edge} {v:D} (hd:d<cf.n) (hx:ev s x=.d (.ptr v)) (h:E.run k (s.put d (.d (.ptr v)))) :
  E.stp { dst:=some d,op:=.nilCheck x,type:=ty,pos:=pos,after:=af,guard:=none } s k .no:=by
 refine jj E (x:=.d (.ptr v)) rfl hd (by simp) (fun B β a w hs=>⟨a.eval x,?_,hx ▸ hs.ev x⟩) h
 have hv:=hs.ev x
 rw [hx] at hv
 have hr:=hv.toD
 have he:∀ y,a.eval x=y→(∃ ad,y=.pointer (some ad))→(execOp a.eval { dst:=some d,op:=.nilCheck x,type:=ty,pos:=pos,after:=af,guard:=none }).run P w=.ok (.value y) w:=by
  rintro y hy ⟨ad,rfl⟩
  simp [execOp,hy]
 refine he _ rfl ?_
 generalize a.eval x=y at hr
 cases hr
 exact ⟨_,rfl⟩
end
end Go.Ab

namespace Go.Ab
inductive Fz where
 | A (p:Name) (w:W) (xs:List D)
 | B (p:Name) (d:D)
def Fz.nm:Fz→Name
 | .A p _ _=>p
 | .B p _=>p
def St.fz (s:St):Fz→St
 | .A p w xs=>s.da p w xs
 | .B p d=>s.frB p d
def Fz.ok (s:St):Fz→Prop
 | .A p w xs=>s.hp p=some (.arr w xs)
 | .B p d=>s.hp p=some (.box (d.cells.map .d))∧(d.cells.all D.scal)=true
def St.fzL (s:St):List Fz→St
 | []=>s
 | q::L=>(s.fz q).fzL L
def mb (s:St):List Fz→Prop
 | []=>True
 | q::L=>q.ok s∧mb (s.fz q) L
theorem B9 (s:St):s.fzL []=s:=rfl
theorem Hl (s:St) (p:Name) (w:W) (xs:List D) (L:List Fz):s.fzL (.A p w xs::L)=(s.da p w xs).fzL L:=rfl
theorem Hs (s:St) (p:Name) (d:D) (L:List Fz):s.fzL (.B p d::L)=(s.frB p d).fzL L:=rfl
theorem A5 (s:St):mb s []=True:=rfl
theorem tN (s:St) (p:Name) (w:W) (xs:List D) (L:List Fz):mb s (.A p w xs::L)=(s.hp p=some (.arr w xs)∧mb (s.da p w xs) L):=rfl
theorem uf (s:St) (p:Name) (d:D) (L:List Fz):mb s (.B p d::L)=((s.hp p=some (.box (d.cells.map .d))∧(d.cells.all D.scal)=true)∧mb (s.frB p d) L):=rfl
theorem qh {B:Base} {β:Name→Option Blk} {tm:Array Value} {w:World}:∀ (L:List Fz) (s:St),Sim B β s tm w→mb s L→Sim B β (s.fzL L) tm w
 | [],_,h,_=>h
 | .A p wf xs::L,s,h,hl=>by
   rw [tN] at hl
   exact qh L _ (h.da hl.1) hl.2
 | .B p d::L,s,h,hl=>by
   rw [uf] at hl
   exact qh L _ (h.frB hl.1.1 fun x hx=>by simpa using List.all_eq_true.1 hl.1.2 x hx) hl.2
def St.noO (s:St):St:={ s with hp:=fun _=>none }
theorem qT (s:St) (x:Operand):ev s.noO x=ev s x:=by cases x<;>rfl
theorem Sim.noO {B:Base} {β:Name→Option Blk} {s:St} {tm:Array Value} {w:World} (h:Sim B β s tm w):Sim B β s.noO tm w:=by
 have hr:∀ v d,Rep w.heap (s.own B.A β) v d→Rep w.heap (s.noO.own B.A β) v d:=fun v d hd=>hd.mono (fun _ _ _=>rfl) (by
  rintro b _ (hA | ⟨q,k,hq,_⟩)
  ·exact .inl hA
  ·exact absurd rfl hq)
 exact { tms:=h.tms,io:=h.io,size:=h.size,frame:=h.frame,slots:=fun i=>VR.mono hr (fun _ h=>h) (fun q _ o' ho'=>(by cases ho')) (h.slots i),objs:=fun q o' ho'=>(by cases ho'),blocks:=fun q k hq _=>absurd rfl hq,inj:=fun q q' k k' hq _=>absurd rfl hq,us:=h.us,stay:=h.stay }
section
variable {P:Program} {cf:Cf} {Q:Exit→St→Prop} {s:St} {k:List It}
theorem Ay {dst:Option Nat} {fv:Operand} {args:Array Operand} {at':Array TypeId} {ty:TypeId} {pos:String} {af:Array Edge} {g:Option (Nat × Bool)}
  (L:List Fz) (hL:mb s L) {f:FuncId} {caps:List AV} {ds:List D} {Q0:AV→Prop} (hc:HP P cf.G f ds Q0) (hflat:∀ r,Q0 r→r.flat=true)
  (hev:ev (s.fzL L) fv=.clo f caps) (hargs:args.toList.map (ev (s.fzL L))++caps=ds.map .d) (hdst:∀ t∈dst,t<cf.n) (hk:∀ r,Q0 r→run P cf k Q (s.dA dst r)) :
  AOk P cf { dst:=dst,op:=.call { callee:=.value fv,args:=args,argTypes:=at' },type:=ty,pos:=pos,after:=af,guard:=g } s k Q:=by
 intro B hB ds' β a w hds h Q'
 obtain ⟨d,hd⟩:=kD s.used
 refine ⟨fun _ _=>trivial,?_⟩
 have h':=(qh L s h hL).noO
 rw [← qT] at hev
 rw [show args.toList.map (ev (s.fzL L))=args.toList.map (ev (s.fzL L).noO) from List.map_congr_left fun y _=>(qT _ y).symm] at hargs
 obtain ⟨s',hs'⟩:∃ s',s'=(s.fzL L).noO:=⟨_,rfl⟩
 have hno:∀ p,s'.hp p=none:=fun p=>by rw [hs'];rfl
 rw [← hs'] at h' hev hargs
 have hf:=h'.ev fv
 rw [hev] at hf
 generalize hfv:a.eval fv=fval at hf
 cases hf with
 | clo _ cvs _ hcs hcv =>
 have hrun:∀ vs,vs=(args.toList.map a.eval).toArray++cvs→(execOp a.eval { dst:=dst,op:=.call { callee:=.value fv,args:=args,argTypes:=at' },type:=ty,pos:=pos,after:=af,guard:=g }).run P w=.ok (.enter f vs) w:=by
  intro vs hvs
  have e:(execOp a.eval { dst:=dst,op:=.call { callee:=.value fv,args:=args,argTypes:=at' },type:=ty,pos:=pos,after:=af,guard:=g }:Sem Next)=callFunc f (#[]++args.map a.eval++cvs):=by
   show (do let d ← (Deferred.ofValue (a.eval fv) (args.map a.eval));invoke d.target d.args:Sem Next)=_
   rw [hfv];rfl
  rw [e,← hc.1 vs w,hvs]
  congr 2
  apply Array.ext'
  simp
 rw [Oper.semAt_eq _ _ _ (by simp),hrun _ rfl,Oper.uponIn_enter]
 refine ⟨fun hdep=>by simp [il] at hdep,?_⟩
 have hlen:(ds.map AV.d).length=args.size+caps.length:=by
  have:=congrArg List.length hargs
  simpa using this.symm
 have hvs:((args.toList.map a.eval).toArray++cvs).size=(ds.map AV.d).length:=by simp [hcs] at hlen ⊢;omega
 have hv:∀ (i:Nat) x,(ds.map AV.d)[i]?=some x→VR w.heap (s'.own B.A β) s'.used s'.hp β (((args.toList.map a.eval).toArray++cvs).getD i undef) (x.ren id):=by
  intro i x hi
  rw [AV.cZ id (fun _=>rfl)]
  have hx:=hi
  rw [← hargs] at hx
  by_cases hlt:i<args.size
  ·have hx':(args.toList.map (ev s'))[i]?=some x:=by rw [← hx,List.getElem?_append_left (by simpa using hlt)]
   have:=ej h' args.toList i _ hx'
   rw [show ((args.toList.map a.eval).toArray++cvs).getD i undef=(args.toList.map a.eval).toArray.getD i undef by simp [Array.getD_eq_getD_getElem?,Array.getElem?_append,hlt]]
   exact this
  ·have hx':caps[i-args.size]?=some x:=by rw [← hx,List.getElem?_append_right (by simpa using Nat.le_of_not_lt hlt)];simp
   have:=hcv _ _ hx'
   rw [show ((args.toList.map a.eval).toArray++cvs).getD i undef=cvs.getD (i-args.size) undef by simp [Array.getD_eq_getD_getElem?,Array.getElem?_append,hlt]]
   exact this
 have hcall:=oC (P:=P) h h' (fun p o ho=>by rw [hno p] at ho;cases ho) (Q0:=fun r hp'=>Q0 r∧r.inU []=true∧hp'=[]) (σ:=id) (d:=d) hd (chp:=[]) (cu:=[]) trivial trivial (mB _ _) hvs hv (by rw [hB.2.2];exact hc) (fun r hp' hq=>⟨hflat r hq.1,by rw [hq.2.2];rfl⟩)
 have hcall':CallsIn (Fw cf.ro) (0-1) P f ((args.toList.map a.eval).toArray++cvs) w _:=hcall
 refine hcall'.mono ?_
 rintro e w' ⟨v,rfl,r,hp',⟨hQ,hru,rfl⟩,hl⟩
 obtain ⟨β2,hs2,hv2⟩:=hl trivial
 rw [AV.jU _ r hru] at hv2
 have hru':=AV.jN s.used r hru
 refine ⟨by cases dst<;>exact hds,s.dA dst r,?_⟩
 cases dst with
 | none =>
   obtain ⟨β3,h3⟩:=h.unuse hs2 rfl (t0:=0) (x0:=s.fr 0) (fun _=>.inr rfl) rfl (h.slots 0).inU
   exact ⟨β3,aV (hk r hQ),h3⟩
 | some t =>
   have h2:=hs2.put (t:=t) (by rw [hB.1];exact hdst t rfl) hv2
   obtain ⟨β3,h3⟩:=h.unuse h2 rfl (t0:=t) (x0:=r) (fun u=>by
    by_cases e:u=t
    ·exact .inl e
    ·exact .inr (by show bS _ _ _ _=_;simp [bS,e])) (by show bS _ _ _ _=_;simp [bS]) hru'
   exact ⟨β3,aV (hk r hQ),h3⟩
theorem Dz (E:Eng P cf Q) {dst:Option Nat} {fv:Operand} {args:Array Operand} {at':Array TypeId} {ty:TypeId} {pos:String} {af:Array Edge}
  (L:List Fz) {f:FuncId} {caps:List AV} {ds:List D} {Q0:AV→Prop} (hc:HP P cf.G f ds Q0) (hflat:∀ r,Q0 r→r.flat=true) (hL:mb s L)
  (hev:ev (s.fzL L) fv=.clo f caps) (hargs:args.toList.map (ev (s.fzL L))++caps=ds.map .d) (hdst:∀ t∈dst,t<cf.n) (hk:∀ r,Q0 r→E.run k (s.dA dst r)) :
  E.stp { dst:=dst,op:=.call { callee:=.value fv,args:=args,argTypes:=at' },type:=ty,pos:=pos,after:=af,guard:=none } s k .no:=by
 rw [aK]
 exact Ay L hL hc hflat hev hargs hdst fun r hr=>by rw [← E.run_eq];exact hk r hr
section
variable {ops:Array Oper} {K:St→Ns→Prop} {r:List Oper} {ns:Ns}
structure Alike (ns:List Name) (ts:List Nat) (s s':St):Prop where
 hp:∀ p∈ns,s'.hp p=s.hp p
 fr:∀ t∈ts,s'.fr t=s.fr t
theorem Alike.fz {ns:List Name} {ts:List Nat} {s s':St} (h:Alike ns ts s s') (q:Fz):Alike ns ts (s.fz q) (s'.fz q):=by
 cases q with
 | A p w xs =>
   refine ⟨fun x hx=>?_,fun t ht=>?_⟩
   ·show (ax s'.hp p none x).map _=(ax s.hp p none x).map _
    unfold ax
    split
    ·rfl
    ·rw [h.hp x hx]
   ·show (s'.fr t).frz p w xs=(s.fr t).frz p w xs
    rw [h.fr t ht]
 | B p d =>
   refine ⟨fun x hx=>?_,fun t ht=>?_⟩
   ·show (ax s'.hp p none x).map _=(ax s.hp p none x).map _
    unfold ax
    split
    ·rfl
    ·rw [h.hp x hx]
   ·show (s'.fr t).frB p d=(s.fr t).frB p d
    rw [h.fr t ht]
theorem Alike.ok {ns:List Name} {ts:List Nat}:∀ {L:List Fz} {s s':St},Alike ns ts s s'→(∀ q∈L,q.nm∈ns)→mb s L→mb s' L
 | [],_,_,_,_,_=>trivial
 | .A p w xs::L,s,s',h,hn,hl=>by
   rw [tN] at hl ⊢
   exact ⟨(h.hp p (hn (.A p w xs) List.mem_cons_self)).trans hl.1,Alike.ok (h.fz (.A p w xs)) (fun q hq=>hn q (List.mem_cons_of_mem _ hq)) hl.2⟩
 | .B p d::L,s,s',h,hn,hl=>by
   rw [uf] at hl ⊢
   exact ⟨⟨(h.hp p (hn (.B p d) List.mem_cons_self)).trans hl.1.1,hl.1.2⟩,Alike.ok (h.fz (.B p d)) (fun q hq=>hn q (List.mem_cons_of_mem _ hq)) hl.2⟩
theorem Alike.fzL {ns:List Name} {ts:List Nat}:∀ (L:List Fz) {s s':St},Alike ns ts s s'→Alike ns ts (s.fzL L) (s'.fzL L)
 | [],_,_,h=>h
 | q::L,_,_,h=>Alike.fzL L (h.fz q)
end
end
attribute [go_sem] B9 Hl Hs A5 tN uf Fz.nm
end Go.Ab
namespace Go.Ab
variable {P:Program} {cf:Cf} {Φ:Exit→Act→World→Prop} {I:Base→List Deferred→Prop} {k:List It} {s:St}
def cutq (P:Program) (cf:Cf) (Φ:Exit→Act→World→Prop) (I:Base→List Deferred→Prop) (k:List It) {X:Type} (S:X→St) (e:Exit) (s:St):Prop :=
 match e with
 | .normal=>∃ x τ,Le cf.U τ s (S x)
 | e=>yq P cf Φ I k e s
theorem y3 {X:Type} (S:X→St):cutq P cf Φ I k S .ret s=ARX cf Φ I .ret s:=rfl
attribute [go_sem] y3
end Go.Ab

namespace Go.Ab
section
variable {P:Program} {cf:Cf} {ops:Array Oper} {K:St→Ns→Prop} {r:List Oper} {s:St} {ns:Ns}
end
end Go.Ab

namespace Go.Ab
def wrS (σ:Name→Name) (d:Nat) (chp hp':List (Name × Ob)):List (Name × Option Ob):=((hp'.map fun x:Name × Ob=>(dV σ d chp x.1,some (x.2.ren (dV σ d chp))))++chp.map fun x:Name × Ob=>(σ x.1,none)).reverse
theorem wQ (σ:Name→Name) (d:Nat) (chp hp':List (Name × Ob)):(wrS σ d chp hp').map (fun x=>x.1)=((hp'.map fun x:Name × Ob=>dV σ d chp x.1)++chp.map fun x:Name × Ob=>σ x.1).reverse:=by
 unfold wrS
 rw [List.map_reverse,List.map_append,List.map_map,List.map_map]
 rfl
attribute [go_sem] wQ
theorem vG (s:St) (σ:Name→Name) (d:Nat) (chp hp':List (Name × Ob)) (r:AV):aft s σ d chp hp' r=s.go (some d) (r.ren (dV σ d chp)) ⟨wrS σ d chp hp',[d]⟩:=by
 refine uL (funext fun q=>?_) rfl fun t=>rfl
 show lkA (lkA (s.hp q) (chp.map fun x=>(σ x.1,none)) q) _ q=(wl (wrS σ d chp hp') q).getD (s.hp q)
 unfold wrS
 rw [A6,qw]
section
variable {P:Program} {cf:Cf} {ops:Array Oper} {K:St→Ns→Prop} {r:List Oper} {s:St} {ns:Ns}
theorem l6 (E:XEng P cf ops K) {d:Nat} {fv:Operand} {args:Array Operand} {at':Array TypeId} {ty:TypeId} {pos:String} {af:Array Edge} {g:Option (Nat × Bool)}
  {f:FuncId} {caps:List AV} (σ:Name→Name) (cargs:List AV) (chp:List (Name × Ob)) (cu:List Nat) (x:AV) (hp':List (Name × Ob)) (hc:HCall P cf.G f cargs chp cu (fun y h=>y=x∧h=hp'))
  (hev:ev s fv=.clo f caps) (hargs:args.toList.map (ev s)++caps=bM σ cargs) (hd:d<cf.n∧d ∉ s.used) (hcu:bZ cu cargs=true) (hpass:eT σ cu s chp) (hinj:lC σ chp)
  (hl:iy chp hp') (hk:E.run r (aft s σ d chp hp' x) (ns++[(chp.map (fun q=>σ q.1),(wrS σ d chp hp').map (·.1),[d])])) :
  E.stp { dst:=some d,op:=.call { callee:=.value fv,args:=args,argTypes:=at' },type:=ty,pos:=pos,after:=af,guard:=g } r s ns .no:=by
 rw [E.stp_eq]
 refine ⟨x.ren (dV σ d chp),(chp.map (fun q=>σ q.1),⟨wrS σ d chp hp',[d]⟩),fun s' hu hh he B hB ds' β a w hds hs Q'=>?_,fun y hy=>?_,hd.1,?_⟩
 ·have hm:∀ y,y=fv∨y∈args→ev s' y=ev s y:=fun y hy=>he y (by
   simp only [Op.operands,Call.operands]
   rcases hy with rfl | hy<;>simp_all)
  have hpass':eT σ cu s' chp:=by
   have:∀ l:List (Name × Ob),(∀ q∈l,σ q.1∈chp.map (fun q=>σ q.1))→eT σ cu s l→eT σ cu s' l:=by
    intro l
    induction l with
    | nil=>intros;trivial
    | cons q r ih =>
      intro hq h
      refine ⟨⟨?_,h.1.2⟩,ih (fun x hx=>hq x (List.mem_cons_of_mem _ hx)) h.2⟩
      rw [show s'.hp (σ q.1)=s.hp (σ q.1) from hh _ (hq q List.mem_cons_self)]
      exact h.1.1
   exact this chp (fun q hq=>List.mem_map.2 ⟨q,hq,rfl⟩) hpass
  have hok:AOk P cf { dst:=some d,op:=.call { callee:=.value fv,args:=args,argTypes:=at' },type:=ty,pos:=pos,after:=af,guard:=g } s' [] (fun _ s2=>s2=aft s' σ d chp hp' x):=by
   refine qb d σ cargs chp cu _ ((hm fv (.inl rfl)).trans hev) ?_ hcu (hu d (by simp)) (fun t ht=>?_) hpass' hinj hc fun y h hr=>?_
   ·rw [ni (s:=s) (s':=s') fun y hy=>hm y (.inr (by simpa using hy)),hargs]
   ·obtain rfl:=Option.some.inj ht
    exact ⟨hd.1,rfl⟩
   ·obtain ⟨rfl,rfl⟩:=hr
    exact ⟨hl,by rw [bG];rfl⟩
  refine Oper.wpIn_mono ?_ (hok B hB ds' β a w hds hs Q')
  rintro a' w' ⟨hd',s2,β',hrun,hs2⟩
  obtain ⟨_,s3,β3,rfl,hs3⟩:=hrun B hB ds' β' a' w' hd' hs2
  exact ⟨hd',β3,by rw [← vG];exact hs3⟩
 ·obtain rfl:=List.mem_singleton.1 hy
  exact hd.2
 ·rw [← E.run_eq,← vG]
  exact hk
end
end Go.Ab

namespace Go.Ab
section
variable {P:Program} {cf:Cf} {ops:Array Oper} {K:St→Ns→Prop} {r:List Oper} {s:St} {ns:Ns}
theorem Eo (E:XEng P cf ops K) {d:Nat} {x:Operand} {ty:TypeId} {pos:String} {af:Array Edge} {g:Option (Nat × Bool)} {v:D} (hd:d<cf.n) (hx:ev s x=.d (.ptr v)) (h:E.run r (s.put d (.d (.ptr v))) (ns++[([],[],[])])) :
  E.stp { dst:=some d,op:=.nilCheck x,type:=ty,pos:=pos,after:=af,guard:=g } r s ns .no:=by
 refine eW E (x:=.d (.ptr v)) [] (fun t ht=>by rw [Option.mem_def,Option.some.injEq] at ht;rw [← ht];exact hd) (fun s' _ he=>?_) h
 have hx':ev s' x=.d (.ptr v):=(he x (by simp [Op.operands])).trans hx
 refine gT rfl hd (by simp) (fun B β a w hs=>⟨a.eval x,?_,hx' ▸ hs.ev x⟩) (by rw [bG];rfl)
 have hv:=hs.ev x
 rw [hx'] at hv
 have hr:=hv.toD
 have he:∀ y,a.eval x=y→(∃ ad,y=.pointer (some ad))→(execOp a.eval { dst:=some d,op:=.nilCheck x,type:=ty,pos:=pos,after:=af,guard:=g }).run P w=.ok (.value y) w:=by
  rintro y hy ⟨ad,rfl⟩
  simp [execOp,hy]
 refine he _ rfl ?_
 generalize a.eval x=y at hr
 cases hr
 exact ⟨_,rfl⟩
end
end Go.Ab

