/-
  Whether a name stands there twice; whether a node may be, but for its children. (with the parts that follow it)
-/
import Derived.Test.YtejpnabbmgpmaaaGreatSBE
import Derived.Test.YtejpnabbmgpmaaaGreatSBD
import Derived.Test.YtejpnabbmgpmaaaGreatSBC
import Derived.Laws.CopyRow
import Derived.Laws.IdiomCopy
import Derived.Lib.Builder
import Derived.LaidEqlPtr
import Derived.Laws.Pointers
import Derived.Laws.Externs
import Derived.Lib.UnsafeStr
import Derived.Lib.ItoaLen
import Derived.Lib.Bytealg
set_option linter.unusedSimpArgs false
namespace Go.Proofs.YtejpnabbmgpmaaaGreat
open Go.Ab
theorem GR:vt Tryz.prog 4=some (.bool false):=by kernel_rfl
theorem oK {κ:Type} [DecidableEq κ] (a b:κ) (d:D):∀ ms:List (κ × D),mlook (mset ms a d) b=if a=b then some d else mlook ms b
 | []=>rfl
 | q::r=>by
   simp only [mset]
   split
   ·rename_i e
    simp only [mlook]
    rw [e]
    split<;>rfl
   ·rename_i e
    simp only [mlook,oK a b d r]
    split
    ·rename_i e2
     rw [if_neg (fun e3=>e (e2.trans e3.symm))]
    ·rfl
def setOf (l:List (List UInt8)):List (List UInt8 × D):=l.foldl (fun ms u=>mset ms u (.bool true)) []
theorem setOf_snoc (l:List (List UInt8)) (u:List UInt8):setOf (l++[u])=mset (setOf l) u (.bool true):=by simp [setOf]
theorem yi (l:List (List UInt8)) (u:List UInt8):(mlook (setOf l) u).getD (.bool false)=.bool (decide (u∈l)):=by
 suffices h:∀ l:List (List UInt8),mlook (setOf l) u=if u∈l then some (.bool true) else none by
  rw [h];split<;>simp_all
 intro l
 induction hl:l.length generalizing l with
 | zero=>have:l=[]:=List.length_eq_zero_iff.1 hl;subst this;rfl
 | succ n ih =>
   have hne:l≠[]:=by intro e;rw [e] at hl;simp at hl
   obtain ⟨r,x,rfl⟩:∃ r x,l=r++[x]:=⟨l.dropLast,l.getLast hne,(List.dropLast_concat_getLast hne).symm⟩
   rw [setOf_snoc,oK,ih r (by simpa using hl)]
   by_cases h1:x=u
   ·subst h1;simp
   ·rw [if_neg h1]
    simp [Ne.symm h1]
def twice (l:List (List UInt8)):Bool:=!decide l.Nodup
theorem Dk {l:List (List UInt8)} {i:Nat} (hi:i<l.length) (h:(l.take i).Nodup) (h2:l.getD i [] ∉ l.take i):(l.take (i+1)).Nodup:=by
 have e:l.getD i []=l[i]:=by simp [hi]
 rw [e] at h2
 rw [List.take_succ_eq_append_getElem hi,List.nodup_append]
 exact ⟨h,by simp,fun x hx y hy=>by rw [List.mem_singleton.1 hy];rintro rfl;exact h2 hx⟩
theorem Ej {l:List (List UInt8)} {i:Nat} (hi:i<l.length) (h2:l.getD i []∈l.take i):twice l=true:=by
 have e:l.getD i []=l[i]:=by simp [hi]
 rw [e] at h2
 have:¬ l.Nodup:=fun hn=>by
  have hs:(l.take (i+1)).Nodup:=hn.sublist (List.take_sublist _ _)
  rw [List.take_succ_eq_append_getElem hi,List.nodup_append] at hs
  exact hs.2.2 _ h2 _ (by simp) rfl
 simp [twice,this]
theorem vW {G} (l:List (List UInt8)) (hl:l.length≤1000000):HP Tryz.prog G 160 [strs l] (fun r=>r=.d (.bool (twice l))):=by
 refine al Tryz.func160 rfl (by decide +kernel) (by simp [Tryz.ntmps160]) (veil fun E=>?_)
 unfold strs
 simp only [go_sem]
 refine xI E (by simp) (by simp [aa]) ?_
 simp only [go_sem]
 refine eS E (X:={ i:Nat // i≤l.length∧(l.take i).Nodup }) (fun x=>[(3,.mp [6]),(7,.d (.sl none (l.map .str))),(8,.d (i64 l.length)),(9,.d (i64 x.1))]) (fun x=>[([6],.map (menc D.str (setOf (l.take x.1))))]) [6] (fun x=>l.length-x.1) ⟨0,by simp⟩ ?_ ?_
 ·simp only [go_sem]
  all_goals rfl
 rintro ⟨i,hi,hn⟩ E'
 simp only [go_sem]
 refine aj E' (fun h1=>?_) (fun h1=>?_)<;>simp only [go_sem]
 ·have hi':i<l.length:=by omega
  refine ⟨⟨by omega,by omega⟩,?_⟩
  rw [rj hi']
  simp only [go_sem]
  refine AR E' [6] (setOf (l.take i)) (l.getD i []) (.bool false) (by rw [zG]) (AY (by rw [ti9])) GR rfl rfl rfl (by simp) ?_
  simp only [go_sem]
  rw [yi]
  refine aj E' (fun h2=>?_) (fun h2=>?_)<;>simp only [go_sem]
  ·rw [Ej hi' h2]
  refine rp E' [6] (setOf (l.take i)) (l.getD i []) (.bool true) (by rw [zG]) (AY (by rw [ti9])) rfl rfl rfl rfl rfl ?_
  simp only [go_sem]
  refine ⟨⟨i+1,by omega,Dk hi' hn h2⟩,by show l.length-(i+1)<_;omega,by rw [ao ⟨by omega,by omega⟩];rfl,?_⟩
  rw [List.take_succ_eq_append_getElem hi',setOf_snoc]
  simp [hi']
 ·have hil:i=l.length:=by omega
  subst hil
  rw [List.take_length] at hn
  simp [twice,hn]
structure gL (B:Nat) (n:EN):Prop where
 nm:n.name.length≤B
 s:n.s.length≤B
 l:n.l.length≤1000000
 f:∀ f∈n.l,f.nm.length≤B∧f.var.length≤B
abbrev BIG:Nat:=9223372036854775807
theorem p3 (l:List UInt8):(l == [])=l.isEmpty:=by cases l<;>rfl
theorem Bv {G} (n:EN) (h:gL BIG n):HP Tryz.prog G 106 [enD n] (fun r=>r=.d (.bool (gU n))):=by
 generalize hb:gU n=b
 unfold gU at hb
 have c1:=pE (G:=G) n.name h.nm
 have c2:=uA (G:=G) n.name h.nm
 generalize gC n.name=x at c1 hb
 generalize pX n.name=y at c2 hb
 unfold enD efD
 refine al Tryz.func106 rfl (by decide +kernel) (by simp [Tryz.ntmps106]) (veil fun E=>?_)
 simp only [go_sem]
 refine aj E (fun h4=>?_) (fun h4=>?_)<;>simp only [go_sem]
 ·rw [decide_eq_true h4]
  try simp only [go_sem]
  refine ag E (c1) rfl rfl (by simp) ?_
  rintro _ rfl
  simp only [go_sem]
  subst hb
  rw [if_pos (by omega)]
 refine aj E (fun h5=>?_) (fun h5=>?_)<;>simp only [go_sem]
 ·rw [decide_eq_true h5]
  try simp only [go_sem]
  refine ag E (c1) rfl rfl (by simp) ?_
  rintro _ rfl
  simp only [go_sem]
  subst hb
  rw [if_pos (by omega)]
 refine aj E (fun h7=>?_) (fun h7=>?_)<;>simp only [go_sem]
 ·rw [decide_eq_true h7]
  try simp only [go_sem]
  refine ag E (c1) rfl rfl (by simp) ?_
  rintro _ rfl
  simp only [go_sem]
  subst hb
  rw [if_pos (by omega)]
 refine aj E (fun h8=>?_) (fun h8=>?_)<;>simp only [go_sem]
 ·rw [decide_eq_true h8]
  try simp only [go_sem]
  refine ag E (c1) rfl rfl (by simp) ?_
  rintro _ rfl
  simp only [go_sem]
  subst hb
  rw [if_pos (by omega)]
 refine aj E (fun h12=>?_) (fun h12=>?_)<;>simp only [go_sem]
 ·try simp only [go_sem]
  refine ag E (c1) rfl rfl (by simp) ?_
  rintro _ rfl
  simp only [go_sem]
  subst hb
  rw [if_pos (by omega)]
 refine aj E (fun h13=>?_) (fun h13=>?_)<;>simp only [go_sem]
 ·refine ag E (c2) rfl rfl (by simp) ?_
  rintro _ rfl
  simp only [go_sem]
  subst hb
  rw [if_neg (by omega),if_pos h13]
 ·subst hb
  rw [if_neg (by omega),if_neg h13,p3]
theorem Dx {G} (k:Int) (f:EF) (h1:f.nm.length≤BIG) (h2:f.var.length≤BIG):HP Tryz.prog G 159 [i64 k,fD f] (fun r=>r=.d (.bool (gP k f))):=by
 generalize hb:gP k f=b
 unfold gP at hb
 have c1:=pE (G:=G) f.nm h1
 have c2:=uA (G:=G) f.nm h1
 have c3:=pE (G:=G) f.var h2
 generalize gC f.nm=x at c1 hb
 generalize pX f.nm=y at c2 hb
 generalize gC f.var=z at c3 hb
 unfold fD
 refine al Tryz.func159 rfl (by decide +kernel) (by simp [Tryz.ntmps159]) (veil fun E=>?_)
 simp only [go_sem]
 refine aj E (fun h=>?_) (fun h=>?_)<;>simp only [go_sem]
 ·refine ag E (c1) rfl rfl (by simp) ?_
  rintro _ rfl
  simp only [go_sem]
  repeat (first
   | (apply gw E;(· simp only [go_sem]);(· intro h;(try simp only [bq] at h);simp only [↓h,go_sem];rfl);simp only [go_sem])
   | (apply cS E;(· simp only [go_sem]);(· intro h;(try simp only [bq] at h);simp only [↓h,go_sem];rfl);(· intro h;(try simp only [bq] at h);simp only [↓h,go_sem];rfl);simp only [go_sem])
   | (apply cL E;(· simp only [go_sem]);(· rfl);(· intro h h';(try simp only [bq] at h h');simp only [↓h,↓h',go_sem];rfl);simp only [go_sem])
   | (apply bG E;(· simp only [go_sem]);(· rfl);(· intro h h';(try simp only [bq] at h h');simp only [↓h,↓h',go_sem];rfl);(· intro h h';(try simp only [bq] at h h');simp only [↓h,↓h',go_sem];rfl);simp only [go_sem])
   | (apply eU E;(· decide);simp only [go_sem]))
  rw [if_pos h,← p3] at hb
  rw [hb]
 ·refine ag E (c2) rfl rfl (by simp) ?_
  rintro _ rfl
  simp only [go_sem]
  repeat (first
   | (apply gw E;(· simp only [go_sem]);(· intro h;(try simp only [bq] at h);simp only [↓h,go_sem];rfl);simp only [go_sem])
   | (apply cS E;(· simp only [go_sem]);(· intro h;(try simp only [bq] at h);simp only [↓h,go_sem];rfl);(· intro h;(try simp only [bq] at h);simp only [↓h,go_sem];rfl);simp only [go_sem])
   | (apply cL E;(· simp only [go_sem]);(· rfl);(· intro h h';(try simp only [bq] at h h');simp only [↓h,↓h',go_sem];rfl);simp only [go_sem])
   | (apply bG E;(· simp only [go_sem]);(· rfl);(· intro h h';(try simp only [bq] at h h');simp only [↓h,↓h',go_sem];rfl);(· intro h h';(try simp only [bq] at h h');simp only [↓h,↓h',go_sem];rfl);simp only [go_sem])
   | (apply eU E;(· decide);simp only [go_sem]))
  (first | (apply mr E;(· simp only [go_sem]);(· intro h hk;(try simp only [bq] at h);refine ag E (c3) rfl (by simp only [↓h,go_sem]<;>rfl) (by simp) ?_;rintro _ rfl;exact hk);simp only [go_sem]) | (apply jY E;(· simp only [go_sem]);(· rfl);(· intro h h' hk;(try simp only [bq] at h h');refine ag E (c3) rfl (by simp only [↓h,↓h',go_sem]<;>rfl) (by simp) ?_;rintro _ rfl;exact hk);simp only [go_sem]))
  repeat (first
   | (apply gw E;(· simp only [go_sem]);(· intro h;(try simp only [bq] at h);simp only [↓h,go_sem];rfl);simp only [go_sem])
   | (apply cS E;(· simp only [go_sem]);(· intro h;(try simp only [bq] at h);simp only [↓h,go_sem];rfl);(· intro h;(try simp only [bq] at h);simp only [↓h,go_sem];rfl);simp only [go_sem])
   | (apply cL E;(· simp only [go_sem]);(· rfl);(· intro h h';(try simp only [bq] at h h');simp only [↓h,↓h',go_sem];rfl);simp only [go_sem])
   | (apply bG E;(· simp only [go_sem]);(· rfl);(· intro h h';(try simp only [bq] at h h');simp only [↓h,↓h',go_sem];rfl);(· intro h h';(try simp only [bq] at h h');simp only [↓h,↓h',go_sem];rfl);simp only [go_sem])
   | (apply eU E;(· decide);simp only [go_sem]))
  rw [if_neg h] at hb
  rw [hb]
theorem DK {G} (n:EN):HP Tryz.prog G 107 [enD n] (fun r=>r=.d (.bool (dx n))):=by
 generalize hb:dx n=b
 unfold dx at hb
 simp only [← p3] at hb
 unfold enD efD
 refine al Tryz.func107 rfl (by decide +kernel) (by simp [Tryz.ntmps107]) (veil fun E=>?_)
 simp only [go_sem]
 refine aj E (fun h1=>?_) (fun h1=>?_)<;>simp only [go_sem]
 ·rw [if_pos h1] at hb
  rw [hb]
 rw [if_neg h1] at hb
 refine aj E (fun h2=>?_) (fun h2=>?_)<;>simp only [go_sem]
 ·rw [if_pos h2] at hb
  repeat (first
   | (apply gw E;(· simp only [go_sem]);(· intro h;(try simp only [bq] at h);simp only [↓h,go_sem];rfl);simp only [go_sem])
   | (apply cS E;(· simp only [go_sem]);(· intro h;(try simp only [bq] at h);simp only [↓h,go_sem];rfl);(· intro h;(try simp only [bq] at h);simp only [↓h,go_sem];rfl);simp only [go_sem])
   | (apply cL E;(· simp only [go_sem]);(· rfl);(· intro h h';(try simp only [bq] at h h');simp only [↓h,↓h',go_sem];rfl);simp only [go_sem])
   | (apply bG E;(· simp only [go_sem]);(· rfl);(· intro h h';(try simp only [bq] at h h');simp only [↓h,↓h',go_sem];rfl);(· intro h h';(try simp only [bq] at h h');simp only [↓h,↓h',go_sem];rfl);simp only [go_sem])
   | (apply eU E;(· decide);simp only [go_sem]))
  rw [hb]
 rw [if_neg h2] at hb
 refine aj E (fun h3=>?_) (fun h3=>?_)<;>simp only [go_sem]
 ·rw [if_pos h3] at hb
  repeat (first
   | (apply gw E;(· simp only [go_sem]);(· intro h;(try simp only [bq] at h);simp only [↓h,go_sem];rfl);simp only [go_sem])
   | (apply cS E;(· simp only [go_sem]);(· intro h;(try simp only [bq] at h);simp only [↓h,go_sem];rfl);(· intro h;(try simp only [bq] at h);simp only [↓h,go_sem];rfl);simp only [go_sem])
   | (apply cL E;(· simp only [go_sem]);(· rfl);(· intro h h';(try simp only [bq] at h h');simp only [↓h,↓h',go_sem];rfl);simp only [go_sem])
   | (apply bG E;(· simp only [go_sem]);(· rfl);(· intro h h';(try simp only [bq] at h h');simp only [↓h,↓h',go_sem];rfl);(· intro h h';(try simp only [bq] at h h');simp only [↓h,↓h',go_sem];rfl);simp only [go_sem])
   | (apply eU E;(· decide);simp only [go_sem]))
  rw [hb]
 rw [if_neg h3] at hb
 refine aj E (fun h4=>?_) (fun h4=>?_)<;>simp only [go_sem]
 ·rw [if_pos h4] at hb
  repeat (first
   | (apply gw E;(· simp only [go_sem]);(· intro h;(try simp only [bq] at h);simp only [↓h,go_sem];rfl);simp only [go_sem])
   | (apply cS E;(· simp only [go_sem]);(· intro h;(try simp only [bq] at h);simp only [↓h,go_sem];rfl);(· intro h;(try simp only [bq] at h);simp only [↓h,go_sem];rfl);simp only [go_sem])
   | (apply cL E;(· simp only [go_sem]);(· rfl);(· intro h h';(try simp only [bq] at h h');simp only [↓h,↓h',go_sem];rfl);simp only [go_sem])
   | (apply bG E;(· simp only [go_sem]);(· rfl);(· intro h h';(try simp only [bq] at h h');simp only [↓h,↓h',go_sem];rfl);(· intro h h';(try simp only [bq] at h h');simp only [↓h,↓h',go_sem];rfl);simp only [go_sem])
   | (apply eU E;(· decide);simp only [go_sem]))
  rw [← hb,show decide ((n.s.length:Int)≤200)=decide (n.s.length≤200) from decide_eq_decide.2 (by omega)]
 rw [if_neg h4] at hb
 repeat (first
  | (apply gw E;(· simp only [go_sem]);(· intro h;(try simp only [bq] at h);simp only [↓h,go_sem];rfl);simp only [go_sem])
  | (apply cS E;(· simp only [go_sem]);(· intro h;(try simp only [bq] at h);simp only [↓h,go_sem];rfl);(· intro h;(try simp only [bq] at h);simp only [↓h,go_sem];rfl);simp only [go_sem])
  | (apply cL E;(· simp only [go_sem]);(· rfl);(· intro h h';(try simp only [bq] at h h');simp only [↓h,↓h',go_sem];rfl);simp only [go_sem])
  | (apply bG E;(· simp only [go_sem]);(· rfl);(· intro h h';(try simp only [bq] at h h');simp only [↓h,↓h',go_sem];rfl);(· intro h h';(try simp only [bq] at h h');simp only [↓h,↓h',go_sem];rfl);simp only [go_sem])
  | (apply eU E;(· decide);simp only [go_sem]))
 rw [hb]
theorem xB {p:EF→Bool} {l:List EF} {i:Nat} (h:i<l.length) (ha:(l.take i).all p=true) (hb:p l[i]=true):(l.take (i+1)).all p=true:=by
 rw [List.take_succ_eq_append_getElem h,List.all_append,ha]
 simp [hb]
theorem Ep {l:List EF} {i:Nat} (h:i<l.length):(l.map fD).getD i .nilp=.agg [.str l[i].nm,.str l[i].var,i64 l[i].to]:=by simp [h,fD]
theorem len_nil (l:List EF):decide ((l.length:Int)=0)=l.isEmpty:=by cases l<;>simp<;>omega
theorem CB {G} (n:EN) (h:gL BIG n):HP Tryz.prog G 108 [enD n] (fun r=>r=.d (.bool (ee n))):=by
 generalize hb:ee n=b
 unfold ee at hb
 have hl:=h.l
 unfold enD efD
 refine al Tryz.func108 rfl (by decide +kernel) (by simp [Tryz.ntmps108]) (veil fun E=>?_)
 simp only [go_sem]
 refine ag E (lJ n.k) rfl rfl (by simp) ?_
 rintro _ rfl
 simp only [go_sem]
 refine aI E (fun h1=>?_) (fun h1=>?_)<;>simp only [go_sem]
 ·rw [if_neg (by simpa using h1),← len_nil] at hb
  rw [hb]
 rw [if_pos (by simpa using h1)] at hb
 refine tD E 3 98 none rfl (by rw [aa];decide) ?_
 simp only [go_sem]
 refine aG E (X:={ i:Nat // i≤n.l.length∧(n.l.take i).all (gP n.k)=true }) (fun x=>[(1,.at [1] 0),(3,.vw [98] 0 x.1),(17,.d (.sl (some 3) (n.l.map fD))),(18,.d (i64 n.l.length)),(19,.d (i64 x.1))])
  (fun x=>[([1],.box [.d (i64 n.k),.d (i64 n.a),.d (i64 n.b),.d (i64 n.c),.d (i64 n.n),.d (.str n.name),.d (.str n.s),.d (.sl (some 3) (n.l.map fD)),.d (i64 n.pos)]),([98],.arr none ((n.l.take x.1).map fun f=>.str f.nm))]) [1,98] (fun x=>n.l.length-x.1) ⟨0,by simp⟩ id ?_ ?_
 ·simp only [go_sem]
  all_goals rfl
 rintro ⟨i,hi,hall⟩ E0
 refine aZ E0 fun Q' hQ E'=>?_
 simp only at hi hall ⊢
 simp only [go_sem]
 refine aj E' (fun g1=>?_) (fun g1=>?_)<;>simp only [go_sem]
 ·have hi':i<n.l.length:=by omega
  refine ⟨⟨by omega,by omega⟩,?_⟩
  rw [Ep hi']
  simp only [go_sem]
  obtain ⟨q1,q2⟩:=h.f _ (List.getElem_mem hi')
  refine ag E' (Dx n.k n.l[i] q1 q2) rfl rfl (by simp) ?_
  rintro _ rfl
  simp only [go_sem]
  refine aI E' (fun g2=>?_) (fun g2=>?_)<;>simp only [go_sem]
  ·rw [hQ]
   simp only [go_sem]
   have g2':gP n.k n.l[i]=false:=by simpa using g2
   have:n.l.all (gP n.k)=false:=List.all_eq_false.2 ⟨_,List.getElem_mem hi',by rw [g2'];decide⟩
   rw [← hb,this]
   rfl
  ·have g2':gP n.k n.l[i]=true:=by simpa using g2
   refine ⟨by omega,?_⟩
   rw [hQ]
   simp only [go_sem]
   refine ⟨⟨i+1,by omega,xB hi' hall g2'⟩,by show n.l.length-(i+1)<_;omega,tau [([98],[32])],?_⟩
   rw [ao ⟨by omega,by omega⟩]
   rw [show List.take i (List.map (fun f:EF=>D.str f.nm) (List.take i n.l))++[.str n.l[i].nm]=(n.l.take (i+1)).map fun f=>.str f.nm by
    rw [List.take_of_length_le (by simp;omega),List.take_succ_eq_append_getElem hi',List.map_append];rfl]
   simp only [go_sem]
   all_goals rfl
 ·rw [hQ]
  have h3:i=n.l.length:=by omega
  subst h3
  rw [List.take_length] at *
  rw [hall,Bool.true_and] at hb
  simp only [go_sem]
  refine aj E (fun k1=>?_) (fun k1=>?_)<;>simp only [go_sem]
  ·rw [if_pos k1] at hb
   refine aD E (fun k2=>?_) (fun k2=>?_)<;>simp only [go_sem]
   ·refine aD E (fun k3=>?_) (fun k3=>?_)<;>simp only [go_sem]
    ·have ht:=vW (G:=G) (n.l.map (·.nm)) (by rw [List.length_map];exact hl)
     unfold strs at ht
     rw [List.map_map,show (D.str ∘ fun f:EF=>f.nm)=fun f=>D.str f.nm from rfl] at ht
     rw [j4]
     simp only [go_sem]
     refine p4 E [([98],none,n.l.map fun f=>.str f.nm)] ht (by rintro _ rfl;rfl) (by simp only [go_sem]) rfl (by simp only [go_sem]) (by simp) ?_
     rintro _ rfl
     simp only [go_sem]
     rw [← hb,decide_eq_true (by omega),decide_eq_true (by omega)]
     simp [twice]
    ·rw [← hb,decide_eq_false (p:=n.l.length≤30) (by omega),Bool.and_false,Bool.false_and]
   ·rw [← hb,decide_eq_false (by omega),Bool.false_and,Bool.false_and]
  ·rw [if_neg k1] at hb
   refine aD E (fun k2=>?_) (fun k2=>?_)<;>simp only [go_sem]
   ·refine aD E (fun k3=>?_) (fun k3=>?_)<;>simp only [go_sem]
    ·have ht:=vW (G:=G) (n.l.map (·.nm)) (by rw [List.length_map];exact hl)
     unfold strs at ht
     rw [List.map_map,show (D.str ∘ fun f:EF=>f.nm)=fun f=>D.str f.nm from rfl] at ht
     rw [j4]
     simp only [go_sem]
     refine p4 E [([98],none,n.l.map fun f=>.str f.nm)] ht (by rintro _ rfl;rfl) (by simp only [go_sem]) rfl (by simp only [go_sem]) (by simp) ?_
     rintro _ rfl
     simp only [go_sem]
     rw [← hb,decide_eq_true (by omega),decide_eq_true (by omega)]
     simp [twice]
    ·rw [← hb,decide_eq_false (p:=n.l.length≤30) (by omega),Bool.and_false,Bool.false_and]
   ·rw [← hb,decide_eq_false (by omega),Bool.false_and,Bool.false_and]
end Go.Proofs.YtejpnabbmgpmaaaGreat

namespace Go.Proofs.YtejpnabbmgpmaaaGreat
open Go.Ab
end Go.Proofs.YtejpnabbmgpmaaaGreat

namespace Go.Proofs.YtejpnabbmgpmaaaGreat
open Go.Ab
end Go.Proofs.YtejpnabbmgpmaaaGreat

namespace Go.Proofs.YtejpnabbmgpmaaaGreat
open Go.Ab
end Go.Proofs.YtejpnabbmgpmaaaGreat

namespace Go.Proofs.YtejpnabbmgpmaaaGreat
open Go.Ab
end Go.Proofs.YtejpnabbmgpmaaaGreat

namespace Go.Proofs.YtejpnabbmgpmaaaGreat
open Go.Ab
end Go.Proofs.YtejpnabbmgpmaaaGreat

namespace Go.Ab
section
variable {P:Program} {cf:Cf} {Q:Exit→St→Prop} {s:St} {k:List It} {B:Base} {β:Name→Option Blk} {tm:Array Value} {w:World}
theorem Sim.FD (h:Sim B β s tm w) {p:Name} {t d:Nat} {ds:List D} (hd:d ∉ s.used) (hp:s.hp p=some (.box (ds.map .d))) (hsc:∀ x∈ds,x.scal=true) (h0:0<ds.length) (ht:s.fr t=.at p 0) :
  ∃ β',Sim B β' (((s.set p none).add d (.arr none ds)).put t (.el [d] 0 0)) tm w:=by
 obtain ⟨k,c,e,hk,hk0,hc,hz,hl,h1,hcs⟩:=(h.objs p _ hp).2
 have hsl:=h.slots t
 rw [ht] at hsl
 have hv:tm.getD t undef=.pointer (some ⟨k.b,0,none⟩):=by
  generalize tm.getD t undef=v at hsl
  cases hsl with
  | «at» _ _ _ _ _ hx =>
    obtain ⟨k',hk',_,rfl⟩:=hx _ _ hp
    rw [hk] at hk';cases hk'
    rfl
 have hlen:c.size=ds.length:=by rw [hl];simp
 have hs:=h.renew hd hp hk none none ds 0 (w':=w) rfl rfl (fun _ _=>rfl) (fun _=>⟨c,e,hc,hz,by simp only [wd];omega,fun x hx=>hsc x hx,fun i x j y hi hj=>by
  have hx:=hsc x (List.mem_of_getElem? hi)
  have hxy:j=0∧y=x:=by
   cases x<;>simp [D.scal] at hx<;>(cases j<;>simp [D.cells] at hj<;>simp [hj])
  obtain ⟨rfl,rfl⟩:=hxy
  have:=(hcs i (.d y) (by rw [List.getElem?_map,hi];rfl)).toD
  simpa [wd] using this⟩)
 refine ⟨_,hs.setv ?_⟩
 rw [hv]
 refine .el _ _ _ _ ⟨d,[],rfl,List.mem_cons_self⟩ rfl fun ty' wf xs hx=>?_
 have:(some (Ob.arr none ds))=some (.arrT ty' wf xs):=by rw [← hx];simp [St.add,St.set,av]
 cases this
 exact ⟨h0,⟨k.b,0,k.z⟩,by simp [av],by simp⟩
theorem GH (E:Eng P cf Q) {c:Code} (p:Name) (t d:Nat) (ds:List D) (hd:d ∉ s.used) (hp:s.hp p=some (.box (ds.map .d))) (hsc:(ds.all D.scal)=true) (h0:0<ds.length) (ht:s.fr t=.at p 0)
  (h:dA E c (((s.set p none).add d (.arr none ds)).put t (.el [d] 0 0)) k):dA E c s k:=by
 intro B hB ds' β a w' hds hs
 obtain ⟨β',hs'⟩:=hs.FD hd hp (List.all_eq_true.1 hsc) h0 ht
 exact h B hB ds' β' a w' hds hs'
def iZ (zs xs:List D) (off len:Nat):List D:=zs.take off++(xs.take (Nat.min xs.length len)++zs.drop (off+Nat.min xs.length len))
theorem sw {zs xs:List D} {off len:Nat} (h:off+len≤zs.length):(iZ zs xs off len).length=zs.length:=by
 have h1:Nat.min xs.length len≤len:=Nat.min_le_right _ _
 have h2:Nat.min xs.length len≤xs.length:=Nat.min_le_left _ _
 unfold iZ
 obtain ⟨m,hm⟩:∃ m,m=Nat.min xs.length len:=⟨_,rfl⟩
 rw [← hm] at h1 h2 ⊢
 simp only [List.length_append,List.length_take,List.length_drop]
 omega
theorem AG {zs xs:List D} {off len m:Nat} (hm:Nat.min xs.length len=m) (h:off+len≤zs.length) (i:Nat):(iZ zs xs off len)[i]?=if i<off then zs[i]? else if i<off+m then xs[i-off]? else zs[i]?:=by
 have h1:Nat.min xs.length len≤len:=Nat.min_le_right _ _
 have h2:Nat.min xs.length len≤xs.length:=Nat.min_le_left _ _
 unfold iZ
 rw [hm] at h1 h2 ⊢
 by_cases c1:i<off
 ·rw [if_pos c1,List.getElem?_append_left (by simp;omega),List.getElem?_take_of_lt c1]
 rw [if_neg c1,List.getElem?_append_right (by simp;omega),List.length_take,Nat.min_eq_left (by omega)]
 by_cases c2:i<off+m
 ·rw [if_pos c2,List.getElem?_append_left (by simp;omega),List.getElem?_take_of_lt (by omega)]
 ·rw [if_neg c2,List.getElem?_append_right (by simp;omega),List.length_take,Nat.min_eq_left h2,List.getElem?_drop]
  congr 1;omega
theorem B3 {c1 c:Array Value} {o q m:Nat} (hq:q+m≤c1.size) (ho:o+m≤c.size) (i:Nat):(c1.toList.take q++(c.extract o (o+m)).toList++c1.toList.drop (q+m)).toArray.getD i undef=if i<q then c1.getD i undef else if i<q+m then c.getD (o+(i-q)) undef else c1.getD i undef:=by
 have hcl:(c.extract o (o+m)).toList.length=m:=by simp;omega
 rw [Array.getD_eq_getD_getElem?,List.getElem?_toArray]
 by_cases h1:i<q
 ·rw [if_pos h1,List.append_assoc,List.getElem?_append_left (by simp;omega),List.getElem?_take_of_lt h1]
  simp [Array.getD_eq_getD_getElem?]
 rw [if_neg h1]
 by_cases h2:i<q+m
 ·rw [if_pos h2,List.getElem?_append_left (by rw [List.length_append,hcl,List.length_take];simp;omega),List.getElem?_append_right (by simp;omega),List.length_take,Array.length_toList,Nat.min_eq_left (by omega)]
  rw [Array.getElem?_toList,Array.getElem?_extract,if_pos (by omega)]
  simp [Array.getD_eq_getD_getElem?]
 ·rw [if_neg h2,List.getElem?_append_right (by rw [List.length_append,hcl,List.length_take];simp;omega),List.length_append,hcl,List.length_take,Array.length_toList,Nat.min_eq_left (by omega),List.getElem?_drop]
  rw [show q+m+(i-(q+m))=i by omega]
  simp [Array.getD_eq_getD_getElem?]
theorem En (E:Eng P cf Q) {x y:Operand} {d:Nat} {dT sT e0:Nat} {ty:TypeId} {pos:String} {af:Array Edge} {p:Name} {off len:Nat} {zs xs:List D} (hd:d<cf.n) (hk:(P.ti dT).k=.slice e0) (hw:(P.ti e0).isW none=true)
  (hx:ev s x=.vw p off len) (hp:s.hp p=some (.arr none zs)) (hy:ev s y=.d (.sl none xs)) (h:E.run k ((s.set p (some (.arr none (iZ zs xs off len)))).put d (.d (.int .i64 (Nat.min xs.length len:Nat))))) :
  E.stp { dst:=some d,op:=.call { callee:=.builtin .copy,args:=#[x,y],argTypes:=#[dT,sT] },type:=ty,pos:=pos,after:=af,guard:=none } s k .no:=by
 rw [aB]
 rw [E.run_eq] at h
 intro B hB ds β a w hds hs Q'
 obtain ⟨hg,hwd,_⟩:=bB hw
 have hu:=bf hk
 have hsz:(P.info? e0).map (·.size)=some 1:=by
  obtain ⟨i,_,hi,_,_,hsz,_⟩:=cq hg
  rw [hi]
  simp only [Option.map_some,Option.some.injEq]
  rw [← hsz,← hwd];rfl
 have hvx:=hs.ev x
 rw [hx] at hvx
 have hvy:=(hs.ev y)
 rw [hy] at hvy
 obtain ⟨ay,capy,hay,_,hcy⟩:=hvy.toD.qm
 generalize hax:a.eval x=vx at hvx
 cases hvx with
 | vw _ _ _ _ hn h1' hx' =>
 obtain ⟨hle,a0,cap,rfl,hx''⟩:=hx' _ _ _ hp
 have hexec:∀ v w',(Builtin.copy_ #[dT,sT] ty #[.slice a0 len cap,.slice ay xs.length capy]).run P w=.ok v w'→(execOp a.eval { dst:=some d,op:=.call { callee:=.builtin .copy,args:=#[x,y],argTypes:=#[dT,sT] },type:=ty,pos:=pos,after:=af,guard:=none }).run P w=.ok (.value v) w':=by
  intro v w' hr
  simp [execOp,resolve,invoke,builtin,hax,hay,hr,Result.andThen]
 by_cases hn0:Nat.min xs.length len=0
 ·have hr:=run_copy_none (P:=P) w dT sT ty e0 a0 ay len cap xs.length capy hu hsz hn0
  have hzs:iZ zs xs off len=zs:=by simp [iZ,hn0]
  have hself:s.set p (some (.arr none (iZ zs xs off len)))=s:=by
   rw [hzs]
   cases s
   simp only [St.set,St.mk.injEq,true_and,and_true]
   funext q
   by_cases e:q=p
   ·subst e;simp [av];exact hp.symm
   ·simp [av,e]
  rw [hself,hn0] at h
  exact az (v:=goInt 0) (by simp) (hexec _ _ hr) (.inl rfl) ⟨hds,_,β,aJ h,hs.put (by rw [hB.1];exact hd) (.d _ _ (.int _ _))⟩
 ·have hne:xs≠[]:=by rintro rfl;exact hn0 (Nat.min_eq_left (Nat.zero_le _))
  obtain ⟨b,o,c,e,fz,rfl,hb,hbn,hzz,hok,hrep⟩:=hcy hne
  have hle2:Nat.min xs.length len≤len:=Nat.min_le_right _ _
  have hle3:Nat.min xs.length len≤xs.length:=Nat.min_le_left _ _
  rcases hx'' with ⟨hl0,_⟩ | ⟨k0,hk0,rfl,hcap,hkz⟩
  ·omega
  rcases (hs.objs p _ hp).2 with ⟨hq,_⟩ | ⟨k1,c1,e1,hk1,hc1,hz1,hl1,hw1,hcs1⟩
  ·rw [hk0] at hq;cases hq
  rw [hk0] at hk1;cases hk1
  simp only [wd,Nat.mul_one] at hzz hkz hl1
  generalize hm:Nat.min xs.length len=m at *
  have hcl:(c.extract o (o+m)).toList.length=m:=by simp;omega
  have hget:∀ j,j<m→(c.extract o (o+m)).toList[j]?=some (c.getD (o+j) undef):=fun j hj=>by
   have h2:o+j<c.size:=by omega
   rw [Array.getElem?_toList,Array.getElem?_extract,if_pos (by omega)]
   simp [Array.getD_eq_getD_getElem?,h2]
  have hel:∀ j,j<m→∃ x,xs[j]?=some x∧x.scal=true∧Rep w.heap (s.own B.A β) (c.getD (o+j) undef) x:=fun j hj=>by
   have h2:j<xs.length:=by omega
   refine ⟨xs[j],by simp [h2],hok _ (List.getElem_mem h2),?_⟩
   have h3:(xs[j]).scal=true:=hok _ (List.getElem_mem h2)
   have:=hrep j xs[j] 0 xs[j] (by simp [h2]) (by cases hq:xs[j]<;>rw [hq] at h3<;>simp [D.scal] at h3<;>rfl)
   simpa [wd] using this
  have hr:=run_copy_row (P:=P) w dT sT ty e0 k0.b (k0.o+off*wd none) len cap ⟨b,o,none⟩ xs.length capy c1 e1 (c.extract o (o+m)).toList hu hsz hc1 (by rw [hcl,← hm]) (fun j v hv=>by
   have hj:j<m:=by have:=(List.getElem?_eq_some_iff.1 hv).1;rw [hcl] at this;exact this
   rw [hget j hj] at hv
   have h2:o+j<c.size:=by omega
   rw [bc]
   simp [World.cell?,hb,h2,Array.getD_eq_getD_getElem?] at hv ⊢
   exact hv) (by rw [hcl];simp only [wd,Nat.mul_one];omega) (fun v hv=>by
   obtain ⟨j,hj⟩:=List.mem_iff_getElem?.1 hv
   have hj':j<m:=by have:=(List.getElem?_eq_some_iff.1 hj).1;rw [hcl] at this;exact this
   rw [hget j hj'] at hj
   obtain ⟨x,_,hx1,hx2⟩:=hel j hj'
   cases hj
   exact hx2.lX hx1)
  rw [hcl] at hr
  obtain ⟨hsim,_⟩:=hs.modify (p:=p) (ob':=.arr none (iZ zs xs off len)) hp ⟨⟨rfl,rfl⟩,by rw [sw hle];exact Nat.le_refl _⟩ (w':=w.setRow k0.b (List.take (k0.o+off*wd none) c1.toList++(c.extract o (o+m)).toList++List.drop (k0.o+off*wd none+m) c1.toList).toArray) rfl (by simp) (fun b hb=>setRow_other w k0.b b _ (hb k0 hk0)) (fun _ hrr=>.inr ⟨k0,_,e1,hk0,setRow_heap w k0.b c1 _ e1 (0,0) hc1,(by simp only [List.size_toArray,List.length_append,hcl,List.length_take,List.length_drop,Array.length_toList,wd,Nat.mul_one];omega),(by rw [sw hle];simpa [wd] using hl1),(fun x hx=>by
   unfold iZ at hx
   rcases List.mem_append.1 hx with hx | hx
   ·exact hw1 _ (List.mem_of_mem_take hx)
   rcases List.mem_append.1 hx with hx | hx
   ·exact hok _ (List.mem_of_mem_take hx)
   ·exact hw1 _ (List.mem_of_mem_drop hx)),fun i x j d hi hj=>by
   have hsx:x.scal=true:=by
    unfold iZ at hi
    have hx:=List.mem_of_getElem? hi
    rcases List.mem_append.1 hx with hx | hx
    ·exact hw1 _ (List.mem_of_mem_take hx)
    rcases List.mem_append.1 hx with hx | hx
    ·exact hok _ (List.mem_of_mem_take hx)
    ·exact hw1 _ (List.mem_of_mem_drop hx)
   have hxy:j=0∧d=x:=by
    cases x<;>simp [D.scal] at hsx<;>(cases j<;>simp [D.cells] at hj<;>simp [hj])
   obtain ⟨rfl,rfl⟩:=hxy
   have hwd1:off*wd none=off:=by simp [wd]
   rw [show k0.o+i*wd none+0=k0.o+i by simp [wd],B3 (by omega) (by omega)]
   rw [AG hm hle] at hi
   have old:∀ x,zs[i]?=some x→x.scal=true→Rep _ _ (c1.getD (k0.o+i) undef) x:=fun x hz hsx=>by
    have:=hcs1 i x 0 x hz (by cases x<;>simp [D.scal] at hsx<;>rfl)
    rw [show k0.o+i*wd none+0=k0.o+i by simp [wd]] at this
    exact hrr _ _ this
   by_cases g1:i<off
   ·rw [if_pos g1] at hi
    rw [if_pos (by omega)]
    exact old _ hi hsx
   rw [if_neg g1] at hi
   rw [if_neg (by omega)]
   by_cases g2:i<off+m
   ·rw [if_pos g2] at hi
    rw [if_pos (by omega)]
    obtain ⟨y,hy1,_,hy2⟩:=hel (i-off) (by omega)
    rw [hi] at hy1
    cases hy1
    rw [show k0.o+i-(k0.o+off*wd none)=i-off by omega]
    exact hrr _ _ hy2
   ·rw [if_neg g2] at hi
    rw [if_neg (by omega)]
    exact old _ hi hsx⟩)
  exact az (v:=goInt m) (by simp) (hexec _ _ hr) (.inl rfl) ⟨hds,_,β,aJ h,hsim.put (by rw [hB.1];exact hd) (.d _ _ (.int _ _))⟩
end
section
variable {P:Program} {cf:Cf} {Q:Exit→St→Prop} {s:St} {k:List It}
theorem CM (E:Eng P cf Q) {o:Oper} (t:Nat) (wf:W) (ht:s.fr t=.d .nils) (h:E.stp o (s.put t (.d (.sl wf []))) k .no):E.stp o s k .no:=by
 rw [aB] at h ⊢
 intro B hB ds β a w hds hs Q'
 refine h B hB ds β a w hds (hs.setv ?_) Q'
 have hv:=hs.slots t
 rw [ht] at hv
 rw [hv.nils]
 exact .d _ _ (.sl0 _ _ _)
end
theorem Bp (tf:Nat→TI) (dd:Option Nat) (s:St) (x y t):opE tf (.call { callee:=.builtin .min,args:=#[x,y],argTypes:=t }) dd s=(opV tf (.call { callee:=.builtin .min,args:=#[x,y],argTypes:=t }) s).bind fun x=>.ok (x,ef0):=eg rfl
theorem BC (tf:Nat→TI) (dd:Option Nat) (s:St) (x y t):opE tf (.call { callee:=.builtin .max,args:=#[x,y],argTypes:=t }) dd s=(opV tf (.call { callee:=.builtin .max,args:=#[x,y],argTypes:=t }) s).bind fun x=>.ok (x,ef0):=eg rfl
attribute [go_sem] Bp BC
end Go.Ab

namespace Go.Ab
section
variable {P:Program} {cf:Cf} {Q:Exit→St→Prop} {s:St} {k:List It} {B:Base} {β:Name→Option Blk} {tm:Array Value} {w:World}
theorem Sim.GN (h:Sim B β s tm w) {p:Name} {ob:Ob} {k:Blk} (hp:s.hp p=some ob) (hk:β p=some k) {w':World} (hio:wio w'=wio w) (hsz:w'.heap.size=w.heap.size) (hw:∀ b,b≠k.b→w'.heap[b]?=w.heap[b]?):Sim B β (s.set p none) tm w':=by
 have hsub:∀ q o,(s.set p none).hp q=some o→q≠p∧s.hp q=some o:=by
  intro q o ho
  by_cases e:q=p
  ·subst e;simp [St.set,av] at ho
  ·exact ⟨e,by simpa [St.set,av,e] using ho⟩
 have hne:∀ q,(s.set p none).hp q≠none→s.hp q≠none:=by
  intro q hq e
  cases ho:(s.set p none).hp q with
  | none=>exact hq ho
  | some o=>rw [(hsub q o ho).2] at e;cases e
 have hr:∀ v d,Rep w.heap (s.own B.A β) v d→Rep w'.heap ((s.set p none).own B.A β) v d:=fun v d hd=>hd.mono (fun b hb _=>hw b fun e=>hb (.inr ⟨p,k,by rw [hp];simp,hk,e.symm⟩)) (by
  rintro b _ (hA | ⟨q,k,hq,hk,e⟩)
  ·exact .inl hA
  ·exact .inr ⟨q,k,hne q hq,hk,e⟩)
 have hst:∀ q,nm s.used q→Stays s.hp (s.set p none).hp β β q:=fun q _ o' ho'=>⟨o',(hsub q o' ho').2,Ob.bw _,rfl⟩
 refine { tms:=h.tms,io:=hio.trans h.io,size:=by rw [hsz];exact h.size,frame:=fun b hb hn=>?_,slots:=fun i=>(h.slots i).mono hr (fun _ h=>h) hst,objs:=?_,blocks:=fun q k hq hk=>(by rw [hsz];exact h.blocks q k (hne q hq) hk), inj:=fun q q' k l hq hq' hk hl e=>h.inj q q' k l (hne q hq) (hne q' hq') hk hl e,us:=h.us,stay:=h.stay }
 ·rw [hw b ?_]
  ·exact h.frame b hb hn
  ·intro e
   obtain ⟨_,_,h3⟩:=h.blocks p k (by rw [hp];simp) hk
   rcases h3 with h3 | h3
   ·omega
   ·exact hn (e ▸ h3)
 ·intro q o ho
  obtain ⟨hqp,ho'⟩:=hsub q o ho
  obtain ⟨h1,h2⟩:=h.objs q o ho'
  exact ⟨h1,h2.mono hr (fun _ h=>h) hst rfl fun l hl=>hw l.b fun e=>hqp (h.inj q p l k (by rw [ho'];simp) (by rw [hp];simp) hl hk e)⟩
theorem BA (E:Eng P cf Q) {o:Oper} (p:Name) (j n:Nat) (ty tg:Option Nat) (w:W) (cs:List AV) (hp:s.hp p=some (.boxT ty cs)) (hj:cs[j]?=some (.d .nils)) (hn:n ∉ s.used) (h:E.stp o ((s.add n (.arrT tg w [])).set p (some (.boxT ty (cs.set j (.vw [n] 0 0))))) k .no):E.stp o s k .no:=by
 rw [aB] at h ⊢
 intro B hB ds β a w' hds hs Q'
 have h1:=hs.eO hn tg w
 have hpn:p≠[n]:=gD (hs.objs p _ hp).1 hn
 refine h B hB ds (av β [n] none) a w' hds (h1.rebox (cs:=cs) (by simpa [St.add,av,hpn] using hp) (by simp) fun v i x x' hx hx' hv=>?_) Q'
 by_cases e:j=i
 ·subst e
  rw [hj] at hx
  cases hx
  rw [List.getElem?_set_self (List.getElem?_eq_some_iff.1 hj).1] at hx'
  cases hx'
  have:=hv.toD
  cases this
  exact .vw _ _ _ _ ⟨n,[],rfl,List.mem_cons_self⟩ rfl fun ty' w' xs hx=>by
   have:some (Ob.arrT tg w [])=some (.arrT ty' w' xs):=by rw [← hx];simp [St.add,av]
   cases this
   exact ⟨Nat.le_refl _,none,0,rfl,.inl ⟨rfl,rfl⟩⟩
 ·rw [List.getElem?_set_ne e,hx] at hx'
  cases hx'
  exact hv
theorem n8 (E:Eng P cf Q) {d t e:Nat} {x y:Operand} {ty:TypeId} {pos:String} {af:Array Edge} (tg:Option Nat) (p q:Name) (xs ys:List D) (hk:(P.ti t).k=.slice e) (hz:(P.ti e).zOk=true) (hw:(P.ti e).isW (P.ti e).w=true) (hew:(P.ti e).w=none)
  (htg:tg.getD e=e) (hd:d<cf.n∧d ∉ s.used) (hx:ev s x=.vw p 0 xs.length) (hp:s.hp p=some (.arrT tg none xs)) (hy:ev s y=.vw q 0 ys.length) (hq:s.hp q=some (.arr none ys)) (hl:(xs.length+ys.length)*(P.ti e).by1≤140737488355328)
  (h:E.run k (((s.set p none).add d (.arrT tg none (xs++ys))).put d (.vw [d] 0 (xs.length+ys.length)))) :
  E.stp { dst:=some d,op:=.call { callee:=.builtin .append,args:=#[x,y],argTypes:=#[t,t] },type:=ty,pos:=pos,after:=af,guard:=none } s k .no:=by
 rw [aB]
 rw [E.run_eq] at h
 intro B hB ds β a w hds hs Q'
 have hvx:=hs.ev x
 have hvy:=hs.ev y
 rw [hx] at hvx
 rw [hy] at hvy
 have key:=iM (P:=P) (t:=t) hs hvx hvy hk hz hw ty (some d) tg htg
 have e1:il tg B.n (P.ti e) (some d) s (.vw p 0 xs.length) (.vw q 0 ys.length)=.need ((xs.length+ys.length)*(P.ti e).by1≤140737488355328) (.ok (((s.set p none).add d (.arrT tg none (xs++ys))).put d (.vw [d] 0 (xs.length+ys.length)))):=by
  unfold il
  have hlo:bo (P.ti e).w s.hp (.vw q 0 ys.length)=some ys:=by simp [bo,hq,hew]
  rw [hlo]
  simp only [hp]
  rw [if_pos ⟨trivial,hew.symm⟩]
  have hd2:d<B.n∧d ∉ (s.set p none).used:=⟨by rw [hB.1];exact hd.1,hd.2⟩
  unfold gl
  simp only
  rw [if_pos hd2]
  simp
 rw [e1] at key
 obtain ⟨dd,v,w',β',hdd,hrun,hsim⟩:=key hl
 cases hdd
 exact az (v:=v) (by simp) (by simp [execOp,resolve,invoke,builtin,hrun]) (.inl rfl) ⟨hds,_,β',aJ h,hsim⟩
end
section
variable {P:Program} {cf:Cf} {Q:Exit→St→Prop} {s:St} {k:List It}
theorem fE {o:Oper} {d:Nat} {x:AV} (hd:o.dst=some d) (hdn:d<cf.n) (hnd:∀ c,o.op≠.defer c)
  (hrun:∀ (B:Base) (β:Name→Option Blk) (a:Act) (w:World),Sim B β s a.tmps w→∃ v,(execOp a.eval o).run P w=.ok (.value v) w∧VR w.heap (s.own B.A β) s.used s.hp β v x) (h:run P cf k Q (s.put d x)):AOk P cf o s k Q:=by
 intro B hB ds β a w hds hs Q'
 obtain ⟨v,h1,h2⟩:=hrun B β a w hs
 refine az (v:=v) hnd h1 (.inl rfl) ?_
 rw [hd]
 exact ⟨hds,_,β,aJ h,hs.put (by rw [hB.1];exact hdn) h2⟩
theorem gM (E:Eng P cf Q) {o:Oper} {d:Nat} {x:AV} (hd:o.dst=some d) (hdn:d<cf.n) (hnd:∀ c,o.op≠.defer c)
  (hrun:∀ (B:Base) (β:Name→Option Blk) (a:Act) (w:World),Sim B β s a.tmps w→∃ v,(execOp a.eval o).run P w=.ok (.value v) w∧VR w.heap (s.own B.A β) s.used s.hp β v x) (h:E.run k (s.put d x)):E.stp o s k .no:=by
 rw [aB]
 rw [E.run_eq] at h
 exact fE hd hdn hnd hrun h
theorem mg {t e:Nat} (h:(P.ti t).k=.ptr e):P.underlying t=some (.pointer e):=by
 obtain ⟨i,d,_,hd,hk,_⟩:=cq (P:=P) (t:=t) (by rw [h];rfl)
 rw [h] at hk
 cases d<;>simp [tk] at hk
 rw [hd,hk]
def w8 (hp:Name→Option Ob):AV→Option Bool
 | .d .nilp=>some true
 | .d (.ptr _)=>some false
 | .at p _=>match hp p with
   | some (.boxT _ _)=>some false
   | _=>none
 | _=>none
theorem mn {H:Array Obj} {own:Nat→Prop} {used:List Nat} {hp:Name→Option Ob} {β:Name→Option Blk} {v:Value} {x:AV} {b:Bool} (h:VR H own used hp β v x) (hn:w8 hp x=some b):∃ ad,v=.pointer ad∧ad.isNone=b:=by
 cases x with
 | d z =>
   cases z<;>simp [w8] at hn
   ·subst hn
    have:=h.toD
    cases this;exact ⟨none,rfl,rfl⟩
   ·subst hn
    have:=h.toD
    cases this;exact ⟨_,rfl,rfl⟩
 | «at» p c =>
   simp only [w8] at hn
   split at hn
   ·rename_i ty cs ho
    cases hn
    cases h with
    | «at» _ _ _ _ _ hx =>
      obtain ⟨k,_,_,rfl⟩:=hx _ _ ho
      exact ⟨_,rfl,rfl⟩
   ·cases hn
 | _=>simp [w8] at hn
theorem cN (E:Eng P cf Q) {t e:TypeId} {x:Operand} {yt:TypeId} {dst:Nat} {ty:TypeId} {ps:String} {af:Array Edge} (b:Bool) (hk:(P.ti t).k=.ptr e) (hd:dst<cf.n) (hx:w8 s.hp (ev s x)=some b) (h:E.run k (s.put dst (.d (.bool b)))) :
  E.stp { dst:=some dst,op:=.binOp .eql t x (.const (.pointer none)) yt,type:=ty,pos:=ps,after:=af,guard:=none } s k .no:=by
 refine gM E rfl hd (by simp) (fun B β a w hs=>⟨.bool b,?_,.d _ _ (.bool _)⟩) h
 obtain ⟨ad,hv,rfl⟩:=mn (hs.ev x) hx
 have hu:=mg hk
 refine eK ?_ ?_
 ·rw [hv];rfl
 ·rw [hv]
  exact run_eql_pointer_nil w t ad (by rw [hu];simp [Program.pointee,hu])
theorem qp (E:Eng P cf Q) {t e:TypeId} {x:Operand} {yt:TypeId} {dst:Nat} {ty:TypeId} {ps:String} {af:Array Edge} (b:Bool) (hk:(P.ti t).k=.ptr e) (hd:dst<cf.n) (hx:w8 s.hp (ev s x)=some b) (h:E.run k (s.put dst (.d (.bool (!b))))) :
  E.stp { dst:=some dst,op:=.binOp .neq t x (.const (.pointer none)) yt,type:=ty,pos:=ps,after:=af,guard:=none } s k .no:=by
 refine gM E rfl hd (by simp) (fun B β a w hs=>⟨.bool (!b),?_,.d _ _ (.bool _)⟩) h
 obtain ⟨ad,hv,rfl⟩:=mn (hs.ev x) hx
 have hu:=mg hk
 refine eK ?_ ?_
 ·rw [hv];rfl
 ·rw [hv]
  exact run_neq_pointer_nil w t ad (by rw [hu];simp [Program.pointee,hu])
theorem run_neq_ptr_same {tp te:TypeId} {j:TypeInfo} (w:World) (a:Addr) (hp:P.underlying tp=some (.pointer te)) (hte:P.info? te=some j):(binOp .neq tp (.pointer (some a)) (.pointer (some a))).run P w=.ok (.bool false) w:=by
 have h:∀ d:Nat,(Op.equalIn (d+1) tp (.pointer (some a)) (.pointer (some a))).run P w=.ok true w:=fun d=>by
  simp [Op.equalIn,run_underlying hp,sizeOf,typeInfo,hte,run_sameAddr_same]
 simp only [binOp]
 simp [Op.equal,Op.maxDepth,h 9999]
theorem C3 (E:Eng P cf Q) {t e:TypeId} {x y:Operand} {yt:TypeId} {dst:Nat} {ty:TypeId} {ps:String} {af:Array Edge} (p:Name) (c:Nat) (hk:(P.ti t).k=.ptr e) (he:(P.info? e).isSome=true) (hd:dst<cf.n) (hx:ev s x=.at p c) (hy:ev s y=.at p c) (hp:(match s.hp p with | some (.boxT _ _)=>true | _=>false)=true)
  (h:E.run k (s.put dst (.d (.bool false)))):E.stp { dst:=some dst,op:=.binOp .neq t x y yt,type:=ty,pos:=ps,after:=af,guard:=none } s k .no:=by
 refine gM E rfl hd (by simp) (fun B β a w hs=>⟨.bool false,?_,.d _ _ (.bool _)⟩) h
 split at hp
 rotate_left
 ·cases hp
 rename_i ty' cs ho
 obtain ⟨k,hkk⟩:∃ k:Blk,∀ v,VR w.heap (s.own B.A β) s.used s.hp β v (.at p c)→v=.pointer (some ⟨k.b,c,none⟩):=by
  obtain ⟨k,_,_,hk,_⟩:=(hs.objs p _ ho).2
  refine ⟨k,fun v hv=>?_⟩
  cases hv with
  | «at» _ _ _ _ _ hx =>
    obtain ⟨k',hk',_,rfl⟩:=hx _ _ ho
    rw [hk] at hk';cases hk';rfl
 have h1:=hkk _ (hx ▸ hs.ev x)
 have h2:=hkk _ (hy ▸ hs.ev y)
 obtain ⟨j,hj⟩:=Option.isSome_iff_exists.1 he
 refine eK ?_ ?_
 ·rw [h1,h2];rfl
 ·rw [h1,h2]
  exact run_neq_ptr_same w _ (mg hk) hj
theorem x7 {B:Base} {β:Name→Option Blk} {tm:Array Value} {w:World} (hs:Sim B β s tm w) {p:Name} {t:Nat} {cs:List AV} (hp:s.hp p=some (.boxT (some t) cs)):∃ k:Blk,(∀ v c,VR w.heap (s.own B.A β) s.used s.hp β v (.at p c)→v=.pointer (some ⟨k.b,c,none⟩))∧w.shape? k.b=some (t,cs.length):=by
 obtain ⟨k,c,e,hk,_,hc,_,hl,_⟩:=(hs.objs p _ hp).2
 refine ⟨k,fun v c hv=>?_,by simp [World.shape?,hc,hl]⟩
 cases hv with
 | «at» _ _ _ _ _ hx =>
   obtain ⟨k',hk',_,rfl⟩:=hx _ _ hp
   rw [hk] at hk';cases hk';rfl
theorem Gd (E:Eng P cf Q) {a' b' e:TypeId} {x:Operand} {dst:Nat} {ty:TypeId} {ps:String} {af:Array Edge} (p:Name) (c t:Nat) (cs:List AV) (hk:(P.ti a').k=.ptr e) (hu:P.underlying b'=some .unsafePointer) (he:(P.info? e).any (fun j=>j.size != 0)=true) (hd:dst<cf.n) (hx:ev s x=.at p c)
  (hp:s.hp p=some (.boxT (some t) cs)) (hc:c<cs.length) (h:E.run k (s.put dst (.at p c))):E.stp { dst:=some dst,op:=.convert a' b' x,type:=ty,pos:=ps,after:=af,guard:=none } s k .no:=by
 refine gM E (x:=.at p c) rfl hd (by simp) (fun B β a w hs=>⟨a.eval x,?_,hx ▸ hs.ev x⟩) h
 obtain ⟨k,hkk,hsh⟩:=x7 hs hp
 have h1:=hkk _ _ (hx ▸ hs.ev x)
 rw [Option.any_eq_true] at he
 obtain ⟨j,hj,hj0⟩:=he
 have:=Lib.run_to_unsafe (P:=P) w (src:=a') (dst:=b') (⟨k.b,c,none⟩:Addr) (mg hk) hu hj (by simpa using hj0) hsh hc
 simp [execOp,h1,this]
theorem GG (E:Eng P cf Q) {a' b' e:TypeId} {x:Operand} {dst:Nat} {ty:TypeId} {ps:String} {af:Array Edge} (p:Name) (c t:Nat) (cs:List AV) (hk:(P.ti b').k=.ptr e) (hu:P.underlying a'=some .unsafePointer) (he:(P.info? e).isSome=true) (hd:dst<cf.n) (hx:ev s x=.at p c)
  (hp:s.hp p=some (.boxT (some t) cs)) (m:Nat) (hm:cs.length=m) (hl:liesAt P P.depth t (m / P.cellsOf t) c e 1=true) (h:E.run k (s.put dst (.at p c))):E.stp { dst:=some dst,op:=.convert a' b' x,type:=ty,pos:=ps,after:=af,guard:=none } s k .no:=by
 refine gM E (x:=.at p c) rfl hd (by simp) (fun B β a w hs=>⟨a.eval x,?_,hx ▸ hs.ev x⟩) h
 obtain ⟨k,hkk,hsh⟩:=x7 hs hp
 have h1:=hkk _ _ (hx ▸ hs.ev x)
 obtain ⟨j,hj⟩:=Option.isSome_iff_exists.1 he
 rw [hm] at hsh
 have:=Lib.run_from_unsafe (P:=P) w (src:=a') (dst:=b') (⟨k.b,c,none⟩:Addr) hu (mg hk) hj hsh hl
 simp [execOp,h1,this]
theorem Db (E:Eng P cf Q) {fv x:Operand} {at':Array TypeId} {dst:Nat} {ty:TypeId} {ps:String} {af:Array Edge} (f:FuncId) (y:AV) (hr:∀ v w,(callFunc f #[v]).run P w=.ok (.value v) w) (hd:dst<cf.n) (hf:ev s fv=.clo f []) (hx:ev s x=y) (h:E.run k (s.put dst y)) :
  E.stp { dst:=some dst,op:=.call { callee:=.value fv,args:=#[x],argTypes:=at' },type:=ty,pos:=ps,after:=af,guard:=none } s k .no:=by
 refine gM E (x:=y) rfl hd (by simp) (fun B β a w hs=>⟨a.eval x,?_,hx ▸ hs.ev x⟩) h
 have hf':=hs.ev fv
 rw [hf] at hf'
 generalize hfv:a.eval fv=fval at hf'
 cases hf' with
 | clo _ cvs _ hcs hcv =>
 have hc0:cvs=#[]:=Array.eq_empty_of_size_eq_zero (by simpa using hcs)
 subst hc0
 have e:(execOp a.eval { dst:=some dst,op:=.call { callee:=.value fv,args:=#[x],argTypes:=at' },type:=ty,pos:=ps,after:=af,guard:=none }:Sem Next)=callFunc f (#[]++#[x].map a.eval++#[]):=by
  show (do let d ← (Deferred.ofValue (a.eval fv) (#[x].map a.eval));invoke d.target d.args:Sem Next)=_
  rw [hfv];rfl
 rw [e]
 simpa using hr (a.eval x) w
theorem Dt {fv:Operand} {args:Array Operand} {at':Array TypeId} {dst:Nat} {ty:TypeId} {ps:String} {af:Array Edge} {g:Option (Nat × Bool)} (f:FuncId) (ds:List D) (vs:List Value) (r:D) (v:Value) (hv:vals ds=some vs) (hrv:r.val=some v) (hr:∀ w,(callFunc f vs.toArray).run P w=.ok (.value v) w) (hd:dst<cf.n) (hf:ev s fv=.clo f [])
  (hx:args.toList.map (ev s)=ds.map .d) (h:run P cf k Q (s.put dst (.d r))):AOk P cf { dst:=some dst,op:=.call { callee:=.value fv,args:=args,argTypes:=at' },type:=ty,pos:=ps,after:=af,guard:=g } s k Q:=by
 refine fE (x:=.d r) rfl hd (by simp) (fun B β a w hs=>⟨v,?_,.d _ _ (D.C8 hrv)⟩) h
 have hf':=hs.ev fv
 rw [hf] at hf'
 generalize hfv:a.eval fv=fval at hf'
 cases hf' with
 | clo _ cvs _ hcs hcv =>
 have hc0:cvs=#[]:=Array.eq_empty_of_size_eq_zero (by simpa using hcs)
 subst hc0
 have e:(execOp a.eval { dst:=some dst,op:=.call { callee:=.value fv,args:=args,argTypes:=at' },type:=ty,pos:=ps,after:=af,guard:=g }:Sem Next)=callFunc f (#[]++args.map a.eval++#[]):=by
  show (do let d ← (Deferred.ofValue (a.eval fv) (args.map a.eval));invoke d.target d.args:Sem Next)=_
  rw [hfv];rfl
 have e2:#[]++args.map a.eval++#[]=vs.toArray:=by
  obtain ⟨g1,g2⟩:=qT hv
  have hsz:args.size=ds.length:=by have:=congrArg List.length hx;simpa using this
  apply Array.ext
  ·simp [hsz,g1]
  ·intro i hi hi'
   have hia:i<args.size:=by simpa using hi
   have hid:i<ds.length:=by omega
   have h1:(args.toList.map (ev s))[i]?=(ds.map AV.d)[i]?:=by rw [hx]
   simp only [List.getElem?_map,Array.getElem?_toList,Array.getElem?_eq_getElem hia,List.getElem?_eq_getElem hid,Option.map_some,Option.some.injEq] at h1
   have h2:=hs.ev args[i]
   rw [h1] at h2
   have h3:=h2.toD.val (g2 i _ (List.getElem?_eq_getElem hid) ▸ List.getElem?_eq_getElem (by omega:i<vs.length))
   simpa using h3
 rw [e,e2]
 exact hr w
theorem Gi (E:Eng P cf Q) {fv:Operand} {args:Array Operand} {at':Array TypeId} {dst:Nat} {ty:TypeId} {ps:String} {af:Array Edge} (f:FuncId) (ds:List D) (vs:List Value) (r:D) (v:Value) (hv:vals ds=some vs) (hrv:r.val=some v) (hr:∀ w,(callFunc f vs.toArray).run P w=.ok (.value v) w) (hd:dst<cf.n) (hf:ev s fv=.clo f [])
  (hx:args.toList.map (ev s)=ds.map .d) (h:E.run k (s.put dst (.d r))):E.stp { dst:=some dst,op:=.call { callee:=.value fv,args:=args,argTypes:=at' },type:=ty,pos:=ps,after:=af,guard:=none } s k .no:=by
 rw [aB]
 rw [E.run_eq] at h
 exact Dt f ds vs r v hv hrv hr hd hf hx h
end
end Go.Ab

namespace Go.Ab
theorem s7 {P:Program} {e:TypeId} (hc:P.cellsOf e=1) (count o n:Nat) (hn:o+n≤count):liesAt P P.depth e count o e n=true:=by
 have hd:P.depth=(2*(P.types.size+Made.depth)+1)+1:=rfl
 rw [hd]
 simp only [liesAt,Bool.or_eq_true]
 left
 rw [hd]
 simp [rowAt,hc,hn,sameLayout,Nat.mod_one]
theorem gK {P:Program} (w:World) (pt it ty e:TypeId) (hp:P.underlying pt=some (.pointer e)) (hc:P.cellsOf e=1) (g o cells:Nat) (hsh:w.shape? g=some (e,cells)) (l:List UInt8) (h0:l≠[]) (hn:o+l.length≤cells) (h63:l.length≤9223372036854775807)
  (hcell:∀ j x,l[j]?=some x→w.cell? ((⟨g,o,none⟩:Addr).add j)=some (.int .u8 x.toNat)) :
  (Builtin.unsafeString_ #[pt,it] ty #[.pointer (some ⟨g,o,none⟩),.int .i64 l.length]).run P w=.ok (.string ⟨l.toArray⟩) (w.freeze ⟨g,o,none⟩ l.length):=by
 have hl:l.length≠0:=by simpa using h0
 have hlb:=Lib.run_loadBytes (P:=P) w l ⟨g,o,none⟩ .empty hcell
 have hlies:=s7 (P:=P) hc (cells / P.cellsOf e) o l.length (by rw [hc];simpa using hn)
 have h63':¬ (9223372036854775807:Int)<(l.length:Int):=by omega
 have hdef:Builtin.unsafeString_ #[pt,it] ty #[.pointer (some ⟨g,o,none⟩),.int .i64 l.length] =
  (do
   let n ← asInt (.int .i64 l.length)
   if n<0 then runtimePanic (.error "unsafe.String: len out of range")
   if n > IntKind.i64.max then unsupported (.unsafePointer "String: a length above the largest int")
   if n=0 then pure (.string .empty)
   else if ← variablesAt ⟨g,o,none⟩ (← elemOf pt) n.toNat then do
    let s ← loadBytes ⟨g,o,none⟩ .empty n.toNat
    freeze ⟨g,o,none⟩ n.toNat
    pure (.string s)
   else unsupported (.unsafePointer "String: not so many bytes at ptr")):=rfl
 rw [hdef]
 have hmax:IntKind.i64.max=9223372036854775807:=rfl
 have hneg:¬ (l.length:Int)<0:=by omega
 simp [asInt,asIntOf,hmax,h63',hneg,hl,variablesAt,hsh,elemOf,run_underlying hp,hlies,hlb]
def byD (c:UInt8):D:=.int .u8 (c.toNat:Nat)
section
variable {P:Program} {cf:Cf} {Q:Exit→St→Prop} {s:St} {k:List It}
theorem A7 {d:Nat} {x:Operand} {at':Array TypeId} {ty:TypeId} {pos:String} {af:Array Edge} {g:Option (Nat × Bool)} (hd:d<cf.n) (hx:ev s x=.d .nils) (h:run P cf k Q (s.put d (.d .nilp))) :
  AOk P cf { dst:=some d,op:=.call { callee:=.builtin .unsafeSliceData,args:=#[x],argTypes:=at' },type:=ty,pos:=pos,after:=af,guard:=g } s k Q:=by
 refine fE rfl hd (by simp) (fun B β a w hs=>⟨.pointer none,?_,.d _ _ .nilp⟩) h
 have hv:=hs.ev x
 rw [hx] at hv
 have hv:=hv.nils
 simp [execOp,resolve,invoke,builtin,hv,Lib.run_unsafeSliceData_nil]
theorem BV {d:Nat} {x:Operand} {at':Array TypeId} {ty:TypeId} {pos:String} {af:Array Edge} {g:Option (Nat × Bool)} (p:Name) (tg:Option Nat) (w0:W) (xs:List D) (l:Nat) (hd:d<cf.n) (hx:ev s x=.vw p 0 l) (hp:s.hp p=some (.arrT tg w0 xs)) (hl:0<l) (h:run P cf k Q (s.put d (.el p 0 0))) :
  AOk P cf { dst:=some d,op:=.call { callee:=.builtin .unsafeSliceData,args:=#[x],argTypes:=at' },type:=ty,pos:=pos,after:=af,guard:=g } s k Q:=by
 refine fE rfl hd (by simp) (fun B β a w hs=>?_) h
 have hv:=hs.ev x
 rw [hx] at hv
 generalize hax:a.eval x=vx at hv
 cases hv with
 | vw _ _ _ _ hn h1 hx' =>
   obtain ⟨hle,a0,cap,rfl,hc⟩:=hx' _ _ _ hp
   rcases hc with ⟨h0,_⟩ | ⟨k,hk,rfl,hcap,hz⟩
   ·omega
   ·refine ⟨.pointer (some ⟨k.b,k.o+0*wd w0,none⟩),?_,.el _ _ _ _ hn rfl fun ty' w' xs' hp'=>?_⟩
    ·obtain ⟨oo,hoo⟩:∃ oo,k.o+0*wd w0=oo:=⟨_,rfl⟩
     rw [hoo] at hax ⊢
     have:=Lib.run_unsafeSliceData_row (P:=P) w at' ty ⟨k.b,oo,none⟩ l cap (by omega)
     simp [execOp,resolve,invoke,builtin,hax,this]
    ·rw [hp] at hp';cases hp'
     exact ⟨by omega,k,hk,rfl⟩
theorem BS (E:Eng P cf Q) {d pt it:Nat} {x y:Operand} {ty:TypeId} {pos:String} {af:Array Edge} (hd:d<cf.n) (hx:ev s x=.d .nilp) (hy:ev s y=.d (.int .i64 0)) (h:E.run k (s.put d (.d (.str [])))) :
  E.stp { dst:=some d,op:=.call { callee:=.builtin .unsafeString,args:=#[x,y],argTypes:=#[pt,it] },type:=ty,pos:=pos,after:=af,guard:=none } s k .no:=by
 rw [aB]
 rw [E.run_eq] at h
 refine fE rfl hd (by simp) (fun B β a w hs=>⟨.string .empty,?_,.d _ _ (.str [])⟩) h
 have hv:=hs.ev x
 rw [hx] at hv
 have hv:=hv.toD
 have hw:=hs.ev y
 rw [hy] at hw
 have hw:=hw.int
 generalize hax:a.eval x=vx at hv
 cases hv
 have:=Lib.run_unsafeString_none (P:=P) w pt it ty none
 simp [execOp,resolve,invoke,builtin,hax,hw,this]
theorem ET (E:Eng P cf Q) {d pt it e:Nat} {x y:Operand} {ty:TypeId} {pos:String} {af:Array Edge} (p:Name) (l:List UInt8) (hd:d<cf.n) (hpt:P.underlying pt=some (.pointer e)) (hc:P.cellsOf e=1) (h0:l≠[]) (h63:l.length≤9223372036854775807)
  (hx:ev s x=.el p 0 0) (hp:s.hp p=some (.arrT (some e) none (l.map byD))) (hy:ev s y=.d (.int .i64 l.length)) (h:E.run k ((s.set p none).put d (.d (.str l)))) :
  E.stp { dst:=some d,op:=.call { callee:=.builtin .unsafeString,args:=#[x,y],argTypes:=#[pt,it] },type:=ty,pos:=pos,after:=af,guard:=none } s k .no:=by
 rw [aB]
 rw [E.run_eq] at h
 intro B hB ds β a w hds hs Q'
 have hv:=hs.ev x
 rw [hx] at hv
 have hw:=hs.ev y
 rw [hy] at hw
 have hw:=hw.int
 generalize hax:a.eval x=vx at hv
 cases hv with
 | el _ _ _ _ hn h1 hx' =>
 obtain ⟨hlt,k0,hk,rfl⟩:=hx' _ _ _ hp
 rcases (hs.objs p _ hp).2 with ⟨_,h0'⟩ | ⟨k1,c,e',hk1,hh,hz,hl,hok,hrep⟩
 ·simp at h0';exact absurd h0' h0
 rw [hk] at hk1
 cases hk1
 simp only [wd,Nat.mul_one,List.length_map] at hl
 have hsh:w.shape? k0.b=some (e,c.size):=by simp [World.shape?,hh]
 have hcell:∀ j x,l[j]?=some x→w.cell? ((⟨k0.b,k0.o+0*wd none+0,none⟩:Addr).add j)=some (.int .u8 x.toNat):=fun j x hj=>by
  have hjl:=(List.getElem?_eq_some_iff.1 hj).1
  have h2:=hrep j (byD x) 0 (byD x) (by simp [hj]) rfl
  have h3:k0.o+j<c.size:=by omega
  rw [show k0.o+j*wd none+0=k0.o+j by simp [wd]] at h2
  simp only [Array.getD_eq_getD_getElem?,Array.getElem?_eq_getElem h3,Option.getD_some] at h2
  have h4:c[k0.o+j]=.int .u8 x.toNat:=by
   generalize c[k0.o+j]=v at h2
   cases h2;rfl
  rw [bc]
  simp [World.cell?,hh,wd,h3,h4]
 have hrun:=gK (P:=P) w pt it ty e hpt hc k0.b (k0.o+0*wd none+0) c.size hsh l h0 (by simp [wd];omega) h63 hcell
 obtain ⟨oo,hoo⟩:∃ oo,k0.o+0*wd none+0=oo:=⟨_,rfl⟩
 rw [hoo] at hrun hax
 refine az (v:=.string ⟨l.toArray⟩) (w':=w.freeze ⟨k0.b,oo,none⟩ l.length) (by simp) (by simp [execOp,resolve,invoke,builtin,hax,hw,hrun]) (.inl rfl) ⟨hds,_,β,aJ h,?_⟩
 refine Sim.put (hs.GN hp hk (w':=w.freeze ⟨k0.b,oo,none⟩ l.length) ?_ ?_ fun b hb=>?_) (by rw [hB.1];exact hd) (.d _ _ (.str l))
 ·unfold World.freeze;split<;>rfl
 ·unfold World.freeze;split<;>simp
 ·unfold World.freeze
  split
  ·rfl
  ·simp only [Array.getElem?_modify]
   rw [if_neg (fun e=>hb e.symm)]
section
variable {ops:Array Oper} {K:St→Ns→Prop} {r:List Oper} {ns:Ns}
theorem aA (E:XEng P cf ops K) {d:Nat} {x:Operand} {ty:TypeId} {pos:String} {af:Array Edge} (p:Name) (c:Nat) (ty':Option Nat) (cs:List AV) (hd:d<cf.n) (hx:ev s x=.at p c) (hp:s.hp p=some (.boxT ty' cs)) (h:E.run r (s.put d (.at p c)) (ns++[([p],[],[])])) :
  E.stp { dst:=some d,op:=.nilCheck x,type:=ty,pos:=pos,after:=af,guard:=none } r s ns .no:=by
 refine nL E (x:=.at p c) [p] (fun t ht=>by rw [Option.mem_def,Option.some.injEq] at ht;rw [← ht];exact hd) (fun s' hh he=>?_) h
 have h1:ev s' x=.at p c:=(he x (by simp [Op.operands])).trans hx
 have h2:s'.hp p=some (.boxT ty' cs):=(hh p (by simp)).trans hp
 refine db (o:={ dst:=some d,op:=.nilCheck x,type:=ty,pos:=pos,after:=af,guard:=none }) rfl ?_
 have h3:opR P.ti cf.n (.nilCheck x) (some d) s'=.ok (s'.put d (.at p c)):=by
  unfold opR zI
  simp only [h1,h2]
  simp [R.bind,bk,hd]
 unfold stp
 simp only [h3,R.run]
 rw [cj];rfl
theorem Ed (E:XEng P cf ops K) {d:Nat} {x:Operand} {at':Array TypeId} {ty:TypeId} {pos:String} {af:Array Edge} {g:Option (Nat × Bool)} (hd:d<cf.n) (hx:ev s x=.d .nils) (h:E.run r (s.put d (.d .nilp)) (ns++[([],[],[])])) :
  E.stp { dst:=some d,op:=.call { callee:=.builtin .unsafeSliceData,args:=#[x],argTypes:=at' },type:=ty,pos:=pos,after:=af,guard:=g } r s ns .no:=by
 refine nL E (x:=.d .nilp) [] (fun t ht=>by rw [Option.mem_def,Option.some.injEq] at ht;rw [← ht];exact hd) (fun s' _ he=>?_) h
 exact A7 hd ((he x (by simp [Op.operands,Call.operands])).trans hx) (by rw [cj];rfl)
theorem GK (E:XEng P cf ops K) {d:Nat} {x:Operand} {at':Array TypeId} {ty:TypeId} {pos:String} {af:Array Edge} {g:Option (Nat × Bool)} (p:Name) (tg:Option Nat) (w0:W) (xs:List D) (l:Nat) (hd:d<cf.n) (hx:ev s x=.vw p 0 l) (hp:s.hp p=some (.arrT tg w0 xs)) (hl:0<l)
  (h:E.run r (s.put d (.el p 0 0)) (ns++[([p],[],[])])) :
  E.stp { dst:=some d,op:=.call { callee:=.builtin .unsafeSliceData,args:=#[x],argTypes:=at' },type:=ty,pos:=pos,after:=af,guard:=g } r s ns .no:=by
 refine nL E (x:=.el p 0 0) [p] (fun t ht=>by rw [Option.mem_def,Option.some.injEq] at ht;rw [← ht];exact hd) (fun s' hh he=>?_) h
 exact BV p tg w0 xs l hd ((he x (by simp [Op.operands,Call.operands])).trans hx) ((hh p (by simp)).trans hp) hl (by rw [cj];rfl)
end
end
theorem o9 (tf:Nat→TI) (dd:Option Nat) (s:St) (x:Operand):opE tf (.nilCheck x) dd s=.no:=rfl
attribute [go_sem] o9
end Go.Ab

namespace Go.Ab
section
variable {P:Program} {F:Fence} {n:Nat} {ops:Array Oper} {Q Q':Exit→Act→World→Prop}
theorem sU {o:Oper} {a:Act} {w:World} {K K':Act→World→Prop} (h:∀ a w,K a w→K' a w) (hq:∀ e a w,Q e a w→Q' e a w) (hh:o.wpIn F n P a w K Q):o.wpIn F n P a w K' Q':=by
 unfold Oper.wpIn at *
 refine ⟨hh.1,?_⟩
 have hh:=hh.2
 generalize (o.semAt F.round a.eval).run P w=r at *
 cases r with
 | ok x w' =>
   cases x<;>simp only [Oper.uponIn] at hh ⊢ <;>
    first
     | exact h _ _ hh
     | exact ⟨hh.1,CallsIn.mono hh.2 (fun e w'' he=>by cases e<;>first | exact h _ _ he | exact hq _ _ _ he | exact he.elim fun a he=>he.elim fun w he=>⟨a,w,hq _ _ _ he⟩ | exact he)⟩
     | exact ⟨hh.1,RowsIn.mono hh.2 (fun _ _ he=>h _ _ he)⟩
     | exact ⟨hh.1,RoundIn.mono hh.2 (fun e w'' he=>by cases e<;>first | exact h _ _ he | exact hq _ _ _ he | exact he.elim fun a he=>he.elim fun w he=>⟨a,w,hq _ _ _ he⟩ | exact he)⟩
 | halt x w'=>cases x<;>simp only [Oper.uponIn] at hh ⊢<;>first | exact hq _ _ _ hh | exact hh
theorem dv (hq:∀ e a w,Q e a w→Q' e a w):∀ (l:List Nat) (a:Act) (w:World),wpOpsIn F n P ops Q l a w→wpOpsIn F n P ops Q' l a w
 | [],_,_,h=>hq _ _ _ h
 | i::r,a,w,h=>by
   simp only [wpOpsIn] at h ⊢
   split
   ·rename_i hn
    simp only [hn] at h
    exact dv hq r a w h
   ·rename_i o ho
    simp only [ho] at h
    split
    ·rename_i hw
     simp only [hw,if_true] at h
     exact sU (fun a w=>dv hq r a w) hq h
    ·rename_i hw
     simp only [hw] at h
     exact ⟨h.1,dv hq r _ w h.2⟩
end
section
variable {P:Program} {cf:Cf} {Φ:Exit→Act→World→Prop} {I:Base→List Deferred→Prop} {k:List It} {s:St}
theorem zh {all:Array Oper} {r:List Oper} (h:∀ E:Eng P cf (yq P cf Φ I k),E.run [.ops all r] s):ARY P cf Φ I (.ops all r::k) s:=by
 have h1:run P cf [.ops all r] (yq P cf Φ I k) s:=veil h
 intro B hB ds β a w hds hI hs l hl
 have h2:=aJ h1 B hB ds β a w hds hs l hl
 exact dv (fun _ _ _ hq=>uN hB hI hq) l a w h2
theorem D4 {B0:Base} {X:Type} {Iv:X→St} {fr0 fr:List (Nat × AV)} {hp0 hp:List (Name × Ob)} {u0 u:List Nat} (hl:LKL (mk fr0 hp0 u0) hp) (h:ARX cf Φ (CI B0) .ret (mk fr0 hp u)):rq P cf Φ B0 k Iv (mk fr0 hp0 u0) .ret (mk fr hp u):=⟨oz (fY hl),h⟩
end
end Go.Ab

namespace Go.Ab
theorem zw (p:Name):∀ (a b:List (Name × Option Ob)),wl (a++b) p=match wl b p with | some v=>some v | none=>wl a p
 | [],b=>by cases h:wl b p<;>simp [wl,h]
 | q::r,b=>by
   rw [List.cons_append,wl,zw p r b]
   cases wl b p<;>simp [wl]
theorem tZ (p:Name) (z:Option Ob):∀ l:List (Name × Option Ob),(wl l.reverse p).getD z=lkA z l p
 | []=>rfl
 | q::r=>by
   rw [List.reverse_cons,zw,cP]
   by_cases h:p=q.1
   ·simp [wl,h]
   ·simp only [wl,if_neg h]
    exact tZ p z r
def wrO (d:Nat) (chp hp':List (Name × Ob)):List (Name × Option Ob):=((hp'.map fun x:Name × Ob=>(cQ id d chp x.1,some (x.2.ren (cQ id d chp))))++chp.map fun x:Name × Ob=>(x.1,none)).reverse
theorem xw (d:Nat) (chp hp':List (Name × Ob)):(wrO d chp hp').map (fun x=>x.1)=((hp'.map fun x:Name × Ob=>cQ id d chp x.1)++chp.map fun x:Name × Ob=>x.1).reverse:=by
 unfold wrO
 rw [List.map_reverse,List.map_append,List.map_map,List.map_map]
 rfl
attribute [go_sem] xw List.reverse_cons List.reverse_nil
theorem qx {α β:Type} [DecidableEq α] (z:β) (i:α):∀ a b:List (α × β),lkA z (a++b) i=lkA (lkA z b i) a i
 | [],_=>rfl
 | q::r,b=>by rw [List.cons_append,cP,cP,qx z i r b]
theorem y6 (s:St) (d:Nat) (chp hp':List (Name × Ob)) (r:AV):aft s id d chp hp' r=s.go (some d) (r.ren (cQ id d chp)) ⟨wrO d chp hp',[d]⟩:=by
 refine tM (funext fun q=>?_) rfl fun t=>rfl
 show lkA (lkA (s.hp q) (chp.map fun x=>(x.1,none)) q) _ q=(wl (wrO d chp hp') q).getD (s.hp q)
 unfold wrO
 rw [tZ,qx]
section
variable {P:Program} {cf:Cf} {ops:Array Oper} {K:St→Ns→Prop} {r:List Oper} {s:St} {ns:Ns}
theorem aR (E:XEng P cf ops K) {d:Nat} {fv:Operand} {args:Array Operand} {at':Array TypeId} {ty:TypeId} {pos:String} {af:Array Edge} {g:Option (Nat × Bool)}
  {f:FuncId} {caps:List AV} (cargs:List AV) (chp:List (Name × Ob)) (cu:List Nat) (x:AV) (hp':List (Name × Ob)) (hc:HCall P cf.G f cargs chp cu (fun y h=>y=x∧h=hp'))
  (hev:ev s fv=.clo f caps) (hargs:args.toList.map (ev s)++caps=cargs) (hd:d<cf.n∧d ∉ s.used) (hcu:dj cu cargs=true) (hpass:cJ id cu s chp) (hinj:jm id chp)
  (hl:fp chp hp') (hk:E.run r (aft s id d chp hp' x) (ns++[(chp.map (·.1),(wrO d chp hp').map (·.1),[d])])) :
  E.stp { dst:=some d,op:=.call { callee:=.value fv,args:=args,argTypes:=at' },type:=ty,pos:=pos,after:=af,guard:=g } r s ns .no:=by
 rw [E.stp_eq]
 refine ⟨x.ren (cQ id d chp),(chp.map (·.1),⟨wrO d chp hp',[d]⟩),fun s' hu hh he B hB ds' β a w hds hs Q'=>?_,fun y hy=>?_,hd.1,?_⟩
 ·have hm:∀ y,y=fv∨y∈args→ev s' y=ev s y:=fun y hy=>he y (by
   simp only [Op.operands,Call.operands]
   rcases hy with rfl | hy<;>simp_all)
  have hpass':cJ id cu s' chp:=by
   have:∀ l:List (Name × Ob),(∀ q∈l,q.1∈chp.map (·.1))→cJ id cu s l→cJ id cu s' l:=by
    intro l
    induction l with
    | nil=>intros;trivial
    | cons q r ih =>
      intro hq h
      refine ⟨⟨?_,h.1.2⟩,ih (fun x hx=>hq x (List.mem_cons_of_mem _ hx)) h.2⟩
      rw [show s'.hp (id q.1)=s.hp (id q.1) from hh _ (hq q List.mem_cons_self)]
      exact h.1.1
   exact this chp (fun q hq=>List.mem_map.2 ⟨q,hq,rfl⟩) hpass
  have hok:AOk P cf { dst:=some d,op:=.call { callee:=.value fv,args:=args,argTypes:=at' },type:=ty,pos:=pos,after:=af,guard:=g } s' [] (fun _ s2=>s2=aft s' id d chp hp' x):=by
   refine lS d id cargs chp cu _ ((hm fv (.inl rfl)).trans hev) ?_ hcu (hu d (by simp)) (fun t ht=>?_) hpass' hinj hc fun y h hr=>?_
   ·rw [pd (s:=s) (s':=s') fun y hy=>hm y (.inr (by simpa using hy)),hargs,qI]
   ·obtain rfl:=Option.some.inj ht
    exact ⟨hd.1,rfl⟩
   ·obtain ⟨rfl,rfl⟩:=hr
    exact ⟨hl,by rw [cj];rfl⟩
  refine Oper.wpIn_mono ?_ (hok B hB ds' β a w hds hs Q')
  rintro a' w' ⟨hd',s2,β',hrun,hs2⟩
  obtain ⟨_,s3,β3,rfl,hs3⟩:=hrun B hB ds' β' a' w' hd' hs2
  exact ⟨hd',β3,by rw [← y6];exact hs3⟩
 ·obtain rfl:=List.mem_singleton.1 hy
  exact hd.2
 ·rw [← E.run_eq,← y6]
  exact hk
theorem B6 {H:Array Obj} {own:Nat→Prop} {v:Value} {wf:W} {l:List D} (h:Rep H own v (.sl wf l)):v.oneCell'=true:=by
 generalize hz:D.sl wf l=d at h
 cases h<;>first | rfl | cases hz
theorem sO {H:Array Obj} {own:Nat→Prop} {us:List Nat} {hp:Name→Option Ob} {β:Name→Option Blk} {v:Value} {wf:W} {l:List D} (h:VR H own us hp β v (.d (.sl wf l))):v.oneCell'=true:=by
 cases h with
 | d _ _ h=>exact B6 h
theorem bX (E:XEng P cf ops K) {t:Nat} (u:Nat) (p:Name) (wf:W) (xs:List D) {off len:Nat} {fv:Operand} {args:Array Operand} {at':Array TypeId} {ty:TypeId} {pos:String} {af:Array Edge} {gg:Option (Nat × Bool)}
  {f:FuncId} {caps:List AV} {ds:List D} {x:AV} (hc:HP P cf.G f ds (fun r=>r=x)) (hfv:∀ s,ev s fv=.clo f caps) (hp:s.hp p=some (.arr wf xs)) (hev:s.fr u=.vw p off len) (hu:(t == u)=false) (hin:Operand.tmp u∈args)
  (hargs:args.toList.map (ev (s.put u (.d (.sl wf ((xs.drop off).take len)))))++caps=ds.map .d) (hdst:t<cf.n) (hk:E.run r ((s.set p none).put t x) (ns++[([p],[p],[])])) :
  E.stp { dst:=some t,op:=.call { callee:=.value fv,args:=args,argTypes:=at' },type:=ty,pos:=pos,after:=af,guard:=gg } r s ns .no:=by
 have htu:¬ t=u:=by simpa using hu
 have hgo:∀ s:St,(s.set p none).put t x=s.go (some t) x ⟨[(p,none)],[]⟩:=fun s=>by unfold St.go;rw [ql];rfl
 rw [E.stp_eq]
 refine ⟨x,([p],⟨[(p,none)],[]⟩),fun s' _ hh he=>?_,fun y hy=>(by cases hy),hdst,?_⟩
 ·have hm:∀ y,y∈args→ev s' y=ev s y:=fun y hy=>he y (by
   simp only [Op.operands,Call.operands]
   simp_all)
  have hp':s'.hp p=some (.arr wf xs):=(hh p (by simp)).trans hp
  have hev':s'.fr u=.vw p off len:=(hm (.tmp u) hin).trans hev
  obtain ⟨y,hy⟩:∃ y,y=AV.d (.sl wf ((xs.drop off).take len)):=⟨_,rfl⟩
  rw [← hy] at hargs
  have hargs':args.toList.map (ev ((s'.set p none).put u y))++caps=ds.map .d:=by
   rw [← hargs]
   congr 1
   refine List.map_congr_left fun z hz=>?_
   have h0:=hm z (by simpa using hz)
   cases z with
   | tmp i =>
     by_cases e:i=u
     ·subst e
      show ((s'.set p none).put i _).fr i=(s.put i _).fr i
      simp [St.put,dP]
     ·have h0':s'.fr i=s.fr i:=h0
      show ((s'.set p none).put u _).fr i=(s.put u _).fr i
      simp [St.put,St.set,dP,e,h0']
   | _=>rfl
  have h1:=jj (k:=[]) (Q:=fun _ s2=>s2=((s'.set p none).put u y).put t x) (dst:=some t) (fv:=fv) (args:=args) (at':=at') (ty:=ty) (pos:=pos) (af:=af) (g:=gg) hc
   (hfv _) hargs' (fun y hy=>by rw [Option.mem_def,Option.some.injEq] at hy;rw [← hy];exact hdst) (fun r hr=>by subst hr;rw [cj];rfl)
  intro B hB ds' β a w hds hs Q'
  have hs0:=hs.drop p
  have hs1:Sim B β ((s'.set p none).put u y) a.tmps w:=hs0.setv (by
   have:=(hs.frz hp').slots u
   rw [show (s'.frz p wf xs).fr u=(s'.fr u).frz p wf xs from rfl,hev',AV.frz,if_pos rfl,← hy] at this
   exact this)
  refine Oper.wpIn_mono ?_ (h1 B hB ds' β a w hds hs1 Q')
  rintro a' w' ⟨hd',s2,β',hrun,hs2⟩
  obtain ⟨_,s3,β3,rfl,hs3⟩:=hrun B hB ds' β' a' w' hd' hs2
  refine ⟨hd',β3,?_⟩
  rw [← hgo]
  have hv:=hs3.slots u
  have e1:(((s'.set p none).put u y).put t x).fr u=y:=by simp [St.put,dP,Ne.symm htu,fun h:u=t=>htu h.symm]
  rw [e1,hy] at hv
  have hnm:=(hs.objs p _ hp').1
  have e2:((s'.set p none).put t x)=(((s'.set p none).put u y).put t x).put u (.vw p off len):=by
   refine js (fun _=>rfl) rfl fun i=>?_
   simp only [St.put,St.set,dP]
   by_cases h1:i=u
   ·subst h1
    have h3:¬ i=t:=fun h=>htu h.symm
    simp [h3,hev']
   ·simp [h1]
  have h5:=hs3.setv (t:=u) (x:=.vw p off len) (.vw _ _ _ _ hnm (by
   exact sO hv) (fun ty w xs h=>by
    have h:av s'.hp p none p=some _:=h
    simp [av] at h))
  rw [e2]
  exact h5
 ·rw [← E.run_eq,← hgo]
  exact hk
end
end Go.Ab

namespace Go.Proofs.YtejpnabbmgpmaaaGreat
open Go.Ab
theorem G5:∀ (m:Nat) (ks:List Int),m≤3→iZ [.int .i64 0,.int .i64 0,.int .i64 0] ((ks.take m).map i64) 0 3=[i64 (if 0<m then ks.getD 0 0 else 0),i64 (if 1<m then ks.getD 1 0 else 0),i64 (if 2<m then ks.getD 2 0 else 0)]
 | 0,_,_=>rfl
 | 1,[],_=>rfl
 | 2,[],_=>rfl
 | 3,[],_=>rfl
 | 1,[x],_=>rfl
 | 2,[x],_=>rfl
 | 3,[x],_=>rfl
 | 1,x::y::r,_=>by simp [iZ,i64]
 | 2,[x,y],_=>rfl
 | 3,[x,y],_=>rfl
 | 2,x::y::z::r,_=>by simp [iZ,i64]
 | 3,[x,y,z],_=>rfl
 | 3,x::y::z::w::r,_=>by simp [iZ,i64]
theorem zT {α:Type} (k:Nat) (l:List α) (N:Nat) (h:l.length=N) [Decidable ((N:Int)<(k:Int))]:List.take ((if (N:Int)<(k:Int) then (N:Int) else (k:Int)).toNat-0) l=l.take k:=by
 split
 ·rw [List.take_of_length_le (by omega),List.take_of_length_le (by omega)]
 ·congr 1
theorem A6 {G}:HCall Tryz.prog G 156 [.d .nils] [] [] (fun r hp'=>r=.vw [0] 0 0∧hp'=[([0],.arr (some 3) [])]):=by
 refine HCall.thaw (Q:=fun r hp'=>(r=.d .nils∧hp'=[])∨(r=.vw [0] 0 0∧hp'=[([0],.arr (some 3) [])])) ?_ 0 (some 3) (by simp) ?_
 ·refine ai Tryz.func156 rfl (by decide +kernel) (by simp [Tryz.ntmps156]) (veil fun E=>?_)
  simp only [go_sem]
  refine CM E 3 (some 3) rfl ?_
  refine px E (e:=177) (by simp only [go_sem]) (by simp only [go_sem]) rfl fun b hb=>?_
  simp only [go_sem]
  refine aI E (fun h=>?_) (fun h=>?_)<;>simp only [go_sem]
  ·refine ⟨_,[],[],id,.inl ⟨rfl,rfl⟩,?_⟩
   simp only [go_sem]
  ·refine ⟨_,_,[0],tau [([0],[7])],.inr ⟨rfl,rfl⟩,?_⟩
   simp only [go_sem]
 ·rintro r hp' (⟨rfl,rfl⟩ | h)
  ·exact .inr ⟨rfl,rfl,rfl,rfl⟩
  ·exact .inl h
theorem bI {ks:List Int} {k:Nat} (h:k<ks.length):(ks.map i64).getD k .nilp=i64 (ks.getD k 0):=by simp [h]
theorem oe (ks:List Int) (o:Nat):∀ (a b:List EF) (i:Nat),aO ks o (a++b) i=aO ks o a i++aO ks o b (i+a.length)
 | [],b,i=>by simp [aO]
 | f::r,b,i=>by
   simp only [List.cons_append,aO,oe ks o r b (i+1),List.length_cons]
   rw [show i+1+r.length=i+(r.length+1) by omega]
def dF (ks:List Int) (o:Nat) (l:List EF) (i:Nat):List EF:=aO ks o (l.take i) 0++l.drop i
theorem xC (ks:List Int) (o:Nat) (l:List EF) (i:Nat):(dF ks o l i).length=l.length:=by
 simp only [dF,List.length_append,dn,List.length_take,List.length_drop];omega
theorem tX (ks:List Int) (o:Nat) (l:List EF):dF ks o l 0=l:=by simp [dF,aO]
theorem wR (ks:List Int) (o:Nat) (l:List EF):dF ks o l l.length=aO ks o l 0:=by simp [dF]
theorem ua {ks:List Int} {o:Nat} {l:List EF} {i:Nat} (h:i<l.length):dF ks o l (i+1)=(dF ks o l i).set i (if o+i<ks.length then { fdE l i with to:=ks.getD (o+i) 0 } else fdE l i):=by
 have h1:l.take (i+1)=l.take i++[l[i]]:=by simp
 have h2:l.drop i=l[i]::l.drop (i+1):=List.drop_eq_getElem_cons h
 have hf:fdE l i=l[i]:=by simp [fdE,h]
 unfold dF
 rw [h1,oe,h2,hf]
 have h3:(aO ks o (l.take i) 0).length=i:=by rw [dn,List.length_take];omega
 rw [List.set_append_right _ _ (by omega),h3,Nat.sub_self]
 simp only [aO,Nat.zero_add,List.length_take,Nat.min_eq_left (Nat.le_of_lt h),List.append_assoc,List.singleton_append,List.set_cons_zero]
theorem oP {ks:List Int} {o:Nat} {l:List EF} {i:Nat} (h:i<l.length):(dF ks o l i)[i]?=some (fdE l i):=by
 have h3:(aO ks o (l.take i) 0).length=i:=by rw [dn,List.length_take];omega
 unfold dF
 rw [List.getElem?_append_right (by omega),h3,Nat.sub_self,List.drop_eq_getElem_cons h]
 simp [fdE,h]
theorem vp {G} (n:EN) (ks:List Int) (hl:n.l.length≤1000000) (hks:ks.length≤1000000):HP Tryz.prog G 105 [enD n,.sl none (ks.map i64)] (fun r=>r=.d (enD (aK n ks))):=by
 unfold enD efD
 refine bP Tryz.func105 rfl (by decide +kernel) (by simp [Tryz.ntmps105]) (veil fun E=>?_)
 simp only [go_sem]
 refine ag E (lJ n.k) rfl rfl (by simp) ?_
 rintro _ rfl
 simp only [go_sem]
 have hk3:=ct n.k
 refine GH E [6] 6 77 [.int .i64 0,.int .i64 0,.int .i64 0] ?_ rfl rfl (by decide) rfl ?_
 ·rw [aa];decide
 simp only [go_sem]
 refine iV 8 mixed E (by simp only [List.take_succ_cons,List.take_zero];exact rfl) (by simp only [List.drop_succ_cons,List.drop_zero];exact rfl) rfl rfl (by decide +kernel) fun X=>?_
 simp only [go_sem]
 refine ⟨by split<;>constructor<;>omega,by decide +kernel,?_⟩
 rw [zT (aP n.k) (ks.map i64) ks.length (by simp),← List.map_take]
 refine En E (d:=21) (dT:=95) (e0:=3) (by simp only [go_sem]) (by rw [Gq]) (by rw [ti3];decide) rfl rfl rfl ?_
 rw [G5 _ _ hk3]
 obtain ⟨a,ha⟩:∃ a,a=if 0<aP n.k then ks.getD 0 0 else 0:=⟨_,rfl⟩
 obtain ⟨b,hb⟩:∃ b,b=if 1<aP n.k then ks.getD 1 0 else 0:=⟨_,rfl⟩
 obtain ⟨c,hc⟩:∃ c,c=if 2<aP n.k then ks.getD 2 0 else 0:=⟨_,rfl⟩
 rw [← ha,← hb,← hc]
 simp only [go_sem]
 refine ah mixed E fun X=>?_
 simp only [go_sem]
 simp only [List.getD_cons_succ,List.getD_cons_zero]
 simp only [go_sem]
 simp only [List.getD_cons_succ,List.getD_cons_zero]
 simp only [go_sem]
 refine ⟨by decide +kernel,?_⟩
 refine aI E (fun hp=>?_) (fun hp=>?_)<;>simp only [go_sem]
 ·refine ab E [.d .nils] [] [] A6 rfl rfl ⟨by simp only [go_sem],by rw [aa];decide⟩ rfl (by simp only [go_sem]) (by simp only [go_sem]) ?_
  rintro _ _ ⟨rfl,rfl⟩
  simp only [go_sem]
  refine aG E (X:=Unit) (fun _=>[(1,.d (.sl none (ks.map i64))),(2,.at [2] 0),(4,.at [4] 0),(5,.at [5] 0),(41,.d (i64 0)),(42,.d (i64 0))])
   (fun _=>[([2],.box [.d (i64 n.k),.d (i64 a),.d (i64 b),.d (i64 c),.d (i64 n.n),.d (.str n.name),.d (.str n.s),.vw [37,0] 0 0,.d (i64 n.pos)]),([4],.box [.d (i64 0),.d (i64 0),.d (i64 0),.d (i64 0),.d (i64 0),.d (.str []),.d (.str []),.d .nils,.d (i64 0)]),([5],.box [.d (i64 (aP n.k)),.d (.bool (aU n.k))]),([37,0],.arr (some 3) [])]) [2,4,5,37] (fun _=>0) () id ?_ ?_
  ·simp only [go_sem]
   all_goals rfl
  rintro _ E0
  refine aZ E0 fun Q' hQ E'=>?_
  simp only [go_sem]
  rw [hQ]
  simp only [go_sem]
  refine ⟨[([37,0],some 3,[])],?_⟩
  simp only [go_sem]
  have hw:aK n ks={ n with a:=a,b:=b,c:=c,l:=[] }:=by
   have hp':aU n.k=false:=by simpa using hp
   simp [aK,ha,hb,hc,hp']
  rw [hw]
  rfl
 ·refine ab E [.d (efD n.l)] [] [] (zn n.l hl) rfl rfl ⟨by simp only [go_sem],by rw [aa];decide⟩ rfl (by simp only [go_sem]) (by simp only [go_sem]) ?_
  rintro _ _ ⟨rfl,rfl⟩
  simp only [go_sem]
  refine aG E (X:={ i:Nat // i≤n.l.length }) (fun x=>[(1,.d (.sl none (ks.map i64))),(2,.at [2] 0),(4,.at [4] 0),(5,.at [5] 0),(41,.d (i64 n.l.length)),(42,.d (i64 x.1))])
   (fun x=>[([2],.box [.d (i64 n.k),.d (i64 a),.d (i64 b),.d (i64 c),.d (i64 n.n),.d (.str n.name),.d (.str n.s),.vw [37,0] 0 n.l.length,.d (i64 n.pos)]),([4],.box [.d (i64 0),.d (i64 0),.d (i64 0),.d (i64 0),.d (i64 0),.d (.str []),.d (.str []),.d .nils,.d (i64 0)]),([5],.box [.d (i64 (aP n.k)),.d (.bool (aU n.k))]),([37,0],.arr (some 3) ((dF ks (aP n.k) n.l x.1).map fD))]) [2,4,5,37] (fun x=>n.l.length-x.1) ⟨0,Nat.zero_le _⟩ id ?_ ?_
  ·simp only [go_sem]
   all_goals (first | rfl | (rw [tX]))
  rintro ⟨i,hi⟩ E0
  refine aZ E0 fun Q' hQ E'=>?_
  simp only at hi ⊢
  simp only [go_sem]
  refine aj E' (fun h1=>?_) (fun h1=>?_)<;>simp only [go_sem]
  ·have h1':i<n.l.length:=by omega
   rw [ao ⟨by omega,by omega⟩]
   have hpl:=xC ks (aP n.k) n.l i
   have hst:=ua (ks:=ks) (o:=aP n.k) h1'
   refine aj E' (fun h2=>?_) (fun h2=>?_)<;>simp only [go_sem]
   ·have h2':aP n.k+i<ks.length:=by omega
    rw [if_pos h2'] at hst
    refine ah mixed E' fun X=>?_
    simp only [go_sem]
    refine ⟨⟨by omega,by omega⟩,?_⟩
    rw [show ((aP n.k:Nat)+(i:Int)).toNat=aP n.k+i by omega,bI h2']
    simp only [go_sem]
    have hgt:(List.map fD (dF ks (aP n.k) n.l i)).getD i .nilp=.agg [.str (fdE n.l i).nm,.str (fdE n.l i).var,i64 (fdE n.l i).to]:=by
     rw [List.getD_eq_getElem?_getD,List.getElem?_map,oP h1'];rfl
    refine ⟨⟨by omega,by omega⟩,?_⟩
    rw [hgt]
    simp only [go_sem]
    have hmp:(List.map fD (dF ks (aP n.k) n.l i)).set i (.agg [.str (fdE n.l i).nm,.str (fdE n.l i).var,i64 (ks.getD (aP n.k+i) 0)])=(dF ks (aP n.k) n.l (i+1)).map fD:=by
     rw [hst,List.map_set];rfl
    rw [hmp]
    refine ⟨by decide +kernel,?_⟩
    rw [hQ]
    simp only [go_sem]
    refine ⟨⟨i+1,by omega⟩,by show n.l.length-(i+1)<_;omega,id,?_⟩
    rw [ao ⟨by omega,by omega⟩]
    simp only [go_sem]
    all_goals rfl
   ·have h2':¬ aP n.k+i<ks.length:=by omega
    rw [if_neg h2'] at hst
    have hst2:dF ks (aP n.k) n.l (i+1)=dF ks (aP n.k) n.l i:=by
     rw [hst]
     refine List.ext_getElem? fun j=>?_
     rw [List.getElem?_set]
     split
     ·rename_i e;subst e
      rw [if_pos (by omega),oP h1']
     ·rfl
    rw [hQ]
    simp only [go_sem]
    refine ⟨⟨i+1,by omega⟩,by show n.l.length-(i+1)<_;omega,id,?_⟩
    rw [hst2,ao ⟨by omega,by omega⟩]
    simp only [go_sem]
    all_goals rfl
  ·rw [hQ]
   simp only [go_sem]
   have hi2:i=n.l.length:=by omega
   subst hi2
   rw [wR]
   refine ⟨[([37,0],some 3,(aO ks (aP n.k) n.l 0).map fD)],?_⟩
   simp only [go_sem]
   have hw:aK n ks={ n with a:=a,b:=b,c:=c,l:=aO ks (aP n.k) n.l 0 }:=by
    have hp':aU n.k=true:=by simpa using hp
    simp [aK,ha,hb,hc,hp']
   rw [hw,List.take_of_length_le (by rw [List.length_map,dn];exact Nat.le_refl _)]
end Go.Proofs.YtejpnabbmgpmaaaGreat

namespace Go.Proofs.YtejpnabbmgpmaaaGreat
open Go.Ab
theorem DJ {G} (a b:Int):HP Tryz.prog G 275 [i64 a,i64 b] (fun r=>r=.d (i64 (w64 (a+b)))):=by
 refine al Tryz.func275 rfl (by decide +kernel) (by simp [Tryz.ntmps275]) (veil fun E=>?_)
 simp only [go_sem]
theorem BY {G} (a b:Int):HP Tryz.prog G 276 [i64 a,i64 b] (fun r=>r=.d (i64 (w64 (a-b)))):=by
 refine al Tryz.func276 rfl (by decide +kernel) (by simp [Tryz.ntmps276]) (veil fun E=>?_)
 simp only [go_sem]
theorem Dg {G} (a b:Int):HP Tryz.prog G 277 [i64 a,i64 b] (fun r=>r=.d (i64 (w64 (a*b)))):=by
 refine al Tryz.func277 rfl (by decide +kernel) (by simp [Tryz.ntmps277]) (veil fun E=>?_)
 simp only [go_sem]
theorem Br {G} (a b:Int):HP Tryz.prog G 278 [i64 a,i64 b] (fun r=>r=.tup [.d (i64 (zy a b)),.d (i64 (Cq b))]):=by
 refine al Tryz.func278 rfl (by decide +kernel) (by simp [Tryz.ntmps278]) (veil fun E=>?_)
 simp only [go_sem]
 refine aj E (fun h=>?_) (fun h=>?_)<;>simp only [go_sem]
 ·simp [zy,Cq,h]
 ·simp [zy,Cq,h]
end Go.Proofs.YtejpnabbmgpmaaaGreat

namespace Go.Proofs.YtejpnabbmgpmaaaGreat
open Go.Ab
def bb (s p:List UInt8):Bool:=decide (p.length≤s.length) && (s.take p.length == p)
theorem u9 {G} (s p:List UInt8):HP Tryz.prog G 304 [.str s,.str p] (fun r=>r=.d (.bool (bb s p))):=by
 refine al Tryz.func304 rfl (by decide +kernel) (by simp [Tryz.ntmps304]) (veil fun E=>?_)
 simp only [go_sem]
 refine aD E (fun h=>?_) (fun h=>?_)<;>simp only [go_sem]
 ·have hl:p.length≤s.length:=by simpa using h
  refine ⟨by simpa using hl,?_⟩
  simp [bb,hl,GU]
 ·have hl:¬ p.length≤s.length:=by simpa using h
  simp [bb,hl]
theorem wo {s p:List UInt8} (h:bb s p=true):p.length≤s.length:=by
 simp only [bb,Bool.and_eq_true,decide_eq_true_eq] at h
 exact h.1
theorem DE {G} (s p:List UInt8):HP Tryz.prog G 327 [.str s,.str p] (fun r=>r=.tup [.d (.str (if bb s p then s.drop p.length else s)),.d (.bool (bb s p))]):=by
 refine al Tryz.func327 rfl (by decide +kernel) (by simp [Tryz.ntmps327]) (veil fun E=>?_)
 simp only [go_sem]
 refine ag E (u9 s p) rfl rfl (by simp) ?_
 rintro _ rfl
 simp only [go_sem]
 refine aI E (fun h=>?_) (fun h=>?_)<;>simp only [go_sem]
 ·have h:bb s p=false:=by simpa using h
  simp [h]
 ·have h:bb s p=true:=by simpa using h
  have:=wo h
  simp [h]
  refine ⟨by omega,?_⟩
  rw [List.take_of_length_le]
  simp
theorem uZ {G} (s p:List UInt8):HP Tryz.prog G 297 [.str s,.str p] (fun r=>r=.tup [.d (.str (if bb s p then s.drop p.length else s)),.d (.bool (bb s p))]):=by
 refine al Tryz.func297 rfl (by decide +kernel) (by simp [Tryz.ntmps297]) (veil fun E=>?_)
 simp only [go_sem]
 refine ag E (DE s p) rfl rfl (by simp) ?_
 rintro _ rfl
 simp only [go_sem]
end Go.Proofs.YtejpnabbmgpmaaaGreat

namespace Go.Proofs.YtejpnabbmgpmaaaGreat
open Go.Ab
def jP (k a b:Int):Int:=if k=1 then w64 (a+b) else if k=2 then w64 (a-b) else if k=3 then w64 (a*b) else if k=4 then zy a b else if k=5 then (if a<b then 1 else 0) else if k=6 then (if a=b then 1 else 0) else 0
def kG (k b:Int):Int:=if k=1 then 0 else if k=2 then 0 else if k=3 then 0 else if k=4 then Cq b else if k=5 then 0 else if k=6 then 0 else 2
def sH (k a b:Int):AV:=.tup [.d (i64 (jP k a b)),.d (i64 (kG k b))]
theorem vQ {G} (b:Bool):HP Tryz.prog G 279 [.bool b] (fun r=>r=.d (i64 (if b then 1 else 0))):=by
 refine al Tryz.func279 rfl (by decide +kernel) (by simp [Tryz.ntmps279]) (veil fun E=>?_)
 cases b<;>simp only [go_sem]
theorem Cc {G} (k a b:Int):HP Tryz.prog G 241 [i64 k,i64 a,i64 b] (fun r=>r=sH k a b):=by
 refine al Tryz.func241 rfl (by decide +kernel) (by simp [Tryz.ntmps241]) (veil fun E=>?_)
 simp only [go_sem]
 refine aj E (fun h=>?_) (fun h=>?_)<;>simp only [go_sem]
 ·subst h
  refine ag E (DJ a b) rfl rfl (by simp) ?_
  rintro _ rfl
  simp only [go_sem]
  rfl
 refine aj E (fun h=>?_) (fun h=>?_)<;>simp only [go_sem]
 ·subst h
  refine ag E (BY a b) rfl rfl (by simp) ?_
  rintro _ rfl
  simp only [go_sem]
  rfl
 refine aj E (fun h=>?_) (fun h=>?_)<;>simp only [go_sem]
 ·subst h
  refine ag E (Dg a b) rfl rfl (by simp) ?_
  rintro _ rfl
  simp only [go_sem]
  rfl
 refine aj E (fun h=>?_) (fun h=>?_)<;>simp only [go_sem]
 ·subst h
  refine ag E (Br a b) rfl rfl (by simp) ?_
  rintro _ rfl
  simp only [go_sem]
  rfl
 refine aj E (fun h=>?_) (fun h=>?_)<;>simp only [go_sem]
 ·subst h
  refine ag E (vQ (decide (a<b))) rfl rfl (by simp) ?_
  rintro _ rfl
  simp only [go_sem]
  by_cases hh:a<b<;>simp [sH,jP,kG,hh]
 refine aj E (fun h=>?_) (fun h=>?_)<;>simp only [go_sem]
 ·subst h
  refine ag E (vQ (decide (a=b))) rfl rfl (by simp) ?_
  rintro _ rfl
  simp only [go_sem]
  by_cases hh:a=b<;>simp [sH,jP,kG,hh]
 ·simp_all [sH,jP,kG]
end Go.Proofs.YtejpnabbmgpmaaaGreat

namespace Go.Proofs.YtejpnabbmgpmaaaGreat
open Go.Ab
def dd (u:Nat):List UInt8:=if u=0 then [] else Lib.decDigits u
theorem Es (m:Int):m.tdiv 10=if m<0 then -((m.natAbs / 10:Nat):Int) else ((m.natAbs / 10:Nat):Int):=by
 cases m with
 | ofNat k=>rw [if_neg (show ¬ Int.ofNat k<0 from Int.not_lt.2 (Int.natCast_nonneg k))];rfl
 | negSucc k=>rw [if_pos (Int.negSucc_lt_zero k)];rfl
end Go.Proofs.YtejpnabbmgpmaaaGreat

namespace Go.Proofs.YtejpnabbmgpmaaaGreat
open Go.Ab
def bp (c:UInt8):Bool:=decide (48≤c.toNat) && decide (c.toNat≤57)
def bK (l:List UInt8):Nat:=l.foldl (fun v c=>10*v+(c.toNat-48)) 0
theorem o0 (l:List UInt8) (c:UInt8):bK (l++[c])=10*bK l+(c.toNat-48):=by simp [bK]
theorem oh {l:List UInt8} {i:Nat} (h:i<l.length):l.take (i+1)=l.take i++[l[i]]:=by simp
theorem ei {l:List UInt8} {i:Nat} (h:i<l.length):bK (l.take (i+1))=10*bK (l.take i)+(l[i].toNat-48):=by
 rw [oh h,o0]
theorem wz (l:List UInt8) (i:Nat):bK (l.take i)≤bK l:=by
 suffices h:∀ r m:List UInt8,bK m≤bK (m++r) by
  have:=h (l.drop i) (l.take i)
  rwa [List.take_append_drop] at this
 intro r
 induction r with
 | nil=>intro m;simp
 | cons c r ih =>
   intro m
   have h1:=ih (m++[c])
   rw [o0,List.append_assoc] at h1
   have h2:bK (m++c::r)=bK (m++([c]++r)):=rfl
   rw [h2];omega
def cH (l:List UInt8):Bool:=!l.isEmpty && !(decide (1<l.length) && l.head? == some 48) && l.all bp && decide (bK l≤9223372036854775808)
def bQ (neg:Bool) (l:List UInt8):Bool:=cH l && !(neg && decide (bK l=0)) && !(!neg && decide (bK l=9223372036854775808))
def cz (neg:Bool) (l:List UInt8):AV:=.tup [.d (i64 (if bQ neg l then (if neg then -(bK l:Int) else bK l) else 0)),.d (i64 (if bQ neg l then 0 else 5))]
def p6 (s:List UInt8):AV:=if bb s [126] then cz true (s.drop 1) else cz false s
theorem fC {l:List UInt8} {i:Nat} (hi:i<l.length) (h:bp l[i]=false):cH l=false:=by
 cases hd:cH l with
 | false=>rfl
 | true =>
   simp only [cH,Bool.and_eq_true] at hd
   have:=List.all_eq_true.1 hd.1.2 _ (List.getElem_mem hi)
   rw [h] at this;cases this
theorem tW {l:List UInt8} (h1:1<l.length) (h:l.head?=some 48):cH l=false:=by
 simp [cH,h1,h]
theorem n5 {l:List UInt8} {i:Nat} (h:9223372036854775808<bK (l.take i)):cH l=false:=by
 have:=wz l i
 have:¬ bK l≤9223372036854775808:=by omega
 simp [cH,this]
theorem mX {neg:Bool} {l:List UInt8} (h:cH l=false):bQ neg l=false:=by simp [bQ,h]
theorem fP {neg:Bool} {l:List UInt8} (h:bQ neg l=false):cz neg l=.tup [.d (i64 0),.d (i64 5)]:=by simp [cz,h]
theorem oU {l:List UInt8} (h0:1≤l.length) (hlead:¬ (1<l.length∧l.head?=some 48)) (hall:l.all bp=true) (hv:bK l≤9223372036854775808):cH l=true:=by
 simp only [cH,Bool.and_eq_true,Bool.not_eq_true',decide_eq_true_eq,Bool.and_eq_false_iff,decide_eq_false_iff_not,beq_eq_false_iff_ne]
 refine ⟨⟨⟨?_,?_⟩,hall⟩,hv⟩
 ·cases l with
  | nil=>simp at h0
  | cons c r=>rfl
 ·by_cases h:1<l.length
  ·exact .inr fun e=>hlead ⟨h,e⟩
  ·exact .inl h
theorem sD {l:List UInt8} {i:Nat} (hi:i<l.length) (hall:(l.take i).all bp=true) (h:bp l[i]=true):(l.take (i+1)).all bp=true:=by
 rw [oh hi,List.all_append,hall]
 simp [h]
end Go.Proofs.YtejpnabbmgpmaaaGreat

namespace Go.Proofs.YtejpnabbmgpmaaaGreat
open Go.Ab
structure Tok where
 k:Int
 s:List UInt8
 n:Int
 pos:Int
 deriving Inhabited,DecidableEq
structure Fnd where
 t:Tok
 n:Nat
 e:Int
 deriving DecidableEq
def noT:Tok:=⟨0,[],0,0⟩
def dB (e:Int):Fnd:=⟨noT,0,e⟩
def fU (t:Tok):D:=.agg [i64 t.k,.str t.s,i64 t.n,i64 t.pos]
def pa (f:Fnd):D:=.agg [i64 f.t.k,.str f.t.s,i64 f.t.n,i64 f.t.pos,i64 f.n,i64 f.e]
def kr (c:UInt8):Bool:=decide (32≤c.toNat) && decide (c.toNat≤126) && decide (c.toNat≠34) && decide (c.toNat≠92)
def jq:List UInt8:=[48,49,50,51,52,53,54,55,56,57,97,98,99,100,101,102]
def e7:List UInt8→UInt8 × Nat
 | []=>(0,0)
 | c::r =>
   if c=34∨c=92 then (c,1)
   else if c=110 then (10,1)
   else if c=116 then (9,1)
   else if c=120 then
    match r with
    | a::b::_=>if Lib.indexByte jq a<0∨Lib.indexByte jq b<0 then (0,0) else (UInt8.ofNat (16*Lib.indexByte jq a+Lib.indexByte jq b).toNat,3)
    | _=>(0,0)
   else (0,0)
def dG:Nat→List UInt8→Nat→List UInt8→List UInt8 × Nat × Int
 | 0,_,_,_=>([],0,5)
 | _+1,[],_,_=>([],0,5)
 | m+1,c::r,i,acc =>
   if c=34 then (if 200<acc.length then ([],0,7) else (acc,i+1,0))
   else if c=92 then (if (e7 r).2=0 then ([],0,5) else dG m (r.drop (e7 r).2) (i+(e7 r).2+1) (acc++[(e7 r).1]))
   else if kr c then dG m r (i+1) (acc++[c])
   else ([],0,5)
def cI:List UInt8→List UInt8 × Nat × Int
 | []=>([],0,5)
 | c::r=>if c=34 then dG r.length.succ r 1 [] else ([],0,5)
def jt:List UInt8→Nat
 | []=>0
 | c::r=>if bp c then jt r+1 else 0
def zX:List UInt8:=[59,58,44,46,61,60,62,43,45,42,47,94,40,41,123,125,91,93,124,38]
def mE (s:List UInt8) (n:Nat):Fnd :=
 if 20<n then dB 7 else if B9 (s.take n) then ⟨⟨1,s.take n,0,0⟩,n,0⟩ else if gr ((s.take n).getD 0 0) then ⟨⟨3,s.take n,0,0⟩,n,0⟩ else ⟨⟨2,s.take n,0,0⟩,n,0⟩
def rf (s:List UInt8):Fnd :=
 if b6 (s.drop 1)=0∨gr (s.getD 1 0) then dB 5 else if 20<b6 (s.drop 1) then dB 7 else ⟨⟨6,(s.drop 1).take (b6 (s.drop 1)),0,0⟩,b6 (s.drop 1)+1,0⟩
def ru (neg:Bool) (l:List UInt8):Int × Int:=if bQ neg l then (if neg then -(bK l:Int) else bK l,0) else (0,5)
def A4 (s:List UInt8):Int × Int:=if bb s [126] then ru true (s.drop 1) else ru false s
def AW (s:List UInt8):Fnd :=
 ⟨⟨4,[],(A4 (s.take (jt (s.drop 1)+1))).1,0⟩,jt (s.drop 1)+1,(A4 (s.take (jt (s.drop 1)+1))).2⟩
def qP (s:List UInt8):Fnd:=⟨⟨5,(cI s).1,0,0⟩,(cI s).2.1,(cI s).2.2⟩
def mA (s:List UInt8):Fnd :=
 if bb s [45,62] || bb s [61,61] then ⟨⟨7,s.take 2,0,0⟩,2,0⟩ else if Lib.indexByte zX (s.getD 0 0)<0 then dB 5 else ⟨⟨7,s.take 1,0,0⟩,1,0⟩
def dm (s:List UInt8):Fnd :=
 if 0<b6 s then mE s (b6 s)
 else if s.getD 0 0=39 then rf s
 else if bp (s.getD 0 0) || decide (s.getD 0 0=126) then AW s
 else if s.getD 0 0=34 then qP s
 else mA s
def tY:List UInt8:=[32,9,10]
def gF:List UInt8→Option Nat
 | []=>none
 | c::r=>if c=10 then some 0 else (gF r).map (·+1)
def iL:Nat→List UInt8→Nat
 | 0,_=>0
 | _+1,[]=>0
 | m+1,c::r =>
   if c=32∨c=9∨c=10 then iL m r+1
   else if c=35 then
    match gF (c::r) with
    | none=>(c::r).length
    | some k=>k+iL m ((c::r).drop k)
   else 0
def bh (s:List UInt8):Nat:=iL s.length.succ s
def dC:Nat→List UInt8→Nat→List (Nat × Fnd)
 | 0,_,_=>[]
 | m+1,s,at' =>
   if s.drop (bh s)=[] then []
   else if (dm (s.drop (bh s))).e≠0 then [(at'+bh s,dm (s.drop (bh s)))]
   else (at'+bh s,dm (s.drop (bh s)))::dC m ((s.drop (bh s)).drop (dm (s.drop (bh s))).n) (at'+bh s+(dm (s.drop (bh s))).n)
def aC (s:List UInt8):List (Nat × Fnd):=dC s.length.succ s 0
def ju:List (Nat × Fnd)→Option (Nat × Int)
 | []=>none
 | q::r=>if q.2.e≠0 then some (q.1,q.2.e) else ju r
def oN (q:Nat × Fnd):Tok:={ q.2.t with pos:=q.1 }
def dM (s:List UInt8):List Tok × Nat × Int :=
 match ju (aC s) with
 | some (i,e)=>([],i,e)
 | none=>((aC s).map oN,s.length,0)
end Go.Proofs.YtejpnabbmgpmaaaGreat

namespace Go.Proofs.YtejpnabbmgpmaaaGreat
open Go.Ab
structure PS where
 l:List Tok
 fin:Int
 err:Int
 pos:Int
 nest:Nat
def PS.peek (s:PS):Tok:=match s.l with
 | []=>⟨0,[],0,s.fin⟩
 | t::_=>t
def PS.next (s:PS):PS:={ s with l:=s.l.tail }
def PS.fail (s:PS) (e p:Int):PS:=if s.err=0 then { s with err:=e,pos:=p } else s
def PS.wrong (s:PS):PS:=s.fail 5 s.peek.pos
def PS.is (s:PS) (k:Int) (t:List UInt8):Bool:=!s.l.isEmpty && decide (s.peek.k=k) && decide (s.peek.s=t)
def PS.sees (s:PS) (k:Int) (t:List UInt8):Bool:=decide (s.err=0) && s.is k t
def PS.may (s:PS) (k:Int) (t:List UInt8):PS:=if s.sees k t then s.next else s
def PS.must (s:PS) (k:Int) (t:List UInt8):PS:=if s.sees k t then s.next else s.wrong
def PS.has (s:PS) (k:Int):Bool:=decide (s.err=0) && decide (s.peek.k=k)
def PS.of (s:PS) (k:Int):List UInt8 × PS:=if s.has k then (s.peek.s,s.next) else ([],s.wrong)
abbrev PR:=List EN × PS
def nd0 (k:Int) (pos:Int):EN:=⟨k,0,0,0,0,[],[],[],pos⟩
def bV (n:EN):List EN:=ax n []
def noE:List EN:=bV (nd0 1 0)
def gA (ns:List EN):EN:=ndE ns (ns.length-1)
def jB:List UInt8:=[116,114,117,101]
def ga:List UInt8:=[102,97,108,115,101]
def kN:List UInt8:=[99,97,115,101]
def EG:List UInt8:=[102,117,110]
def Fe:List UInt8:=[108,101,116]
def jC:List UInt8:=[114,101,99]
def bIn:List UInt8:=[105,110]
def bIf:List UInt8:=[105,102]
def oG:List UInt8:=[116,104,101,110]
def oF:List UInt8:=[101,108,115,101]
def bOf:List UInt8:=[111,102]
def CL:List UInt8:=[101,110,100]
def bTo:List UInt8:=[45,62]
section
variable (ex:PS→PR)
def PS.parted (s:PS) (t:Tok) (l:List EF):PS :=
 if s.err≠0 then s else if l.length=30 then s.fail 8 t.pos else if (l.any fun f=>decide (f.nm=t.s)) then s.fail 5 t.pos else s
def fN (s:PS) (l:List EF):EF × PS :=
 let r:=s.of 2
 (⟨r.1,[],0⟩,((r.2.parted s.peek l).must 7 [61]))
def ef (s:PS) (l:List EF):EF × PS :=
 let r:=s.of 3
 let q:=(r.2.parted s.peek l).of 2
 (⟨r.1,q.1,0⟩,q.2.must 7 bTo)
def bd (between:List UInt8) (part:PS→List EF→EF × PS):Nat→PS→List EF→List (List EN)→List EF × List (List EN) × PS
 | 0,s,l,ks=>(l,ks,s)
 | m+1,s,l,ks =>
   let f:=part s l
   let e:=ex f.2
   if e.2.sees 7 between then bd between part m e.2.next (l++[f.1]) (ks++[e.1]) else (l++[f.1],ks++[e.1],e.2)
def dV (s:PS) (pos:Int):PR :=
 if s.sees 7 [125] then (bV (nd0 11 pos),s.next)
 else
  let r:=bd ex [44] fN s.l.length.succ s [] []
  (ax { nd0 11 pos with l:=r.1 } r.2.1,r.2.2.must 7 [125])
def gf (s:PS) (pos:Int):PR :=
 let e:=ex s
 let s1:=e.2.must 1 bOf
 let r:=bd ex [124] ef s1.l.length.succ s1 [] []
 (ax { nd0 14 pos with l:=r.1 } (e.1::r.2.1),r.2.2.must 1 CL)
def cW (s:PS):PR :=
 let t:=s.peek
 if s.err≠0 then (noE,s.wrong)
 else if t.k=4 then (bV { nd0 1 t.pos with n:=t.n },s.next)
 else if t.k=5 then (bV { nd0 3 t.pos with s:=t.s },s.next)
 else if t.k=2 then (bV { nd0 4 t.pos with name:=t.s },s.next)
 else if s.sees 1 jB then (bV { nd0 2 t.pos with n:=1 },s.next)
 else if s.sees 1 ga then (bV (nd0 2 t.pos),s.next)
 else if s.sees 7 [40] then
  let e:=ex s.next
  (e.1,e.2.must 7 [41])
 else if s.sees 7 [123] then dV ex s.next t.pos
 else if s.sees 1 kN then gf ex s.next t.pos
 else (noE,s.wrong)
def fc:Nat→List EN→PS→PR
 | 0,a,s=>(a,s)
 | m+1,a,s=>if s.sees 7 [46] then fc m (ax { nd0 12 s.peek.pos with name:=(s.next.of 2).1 } [a]) (s.next.of 2).2 else (a,s)
def cV (s:PS):PR :=
 let r:=cW ex s
 fc r.2.l.length.succ r.1 r.2
def PS.begins (s:PS):Bool :=
 let t:=s.peek
 decide (t.k=4) || decide (t.k=5) || decide (t.k=2) || (decide (t.k=1) && (decide (t.s=jB) || decide (t.s=ga) || decide (t.s=kN))) || (decide (t.k=7) && (decide (t.s=[40]) || decide (t.s=[123])))
def gy:Nat→List EN→PS→PR
 | 0,a,s=>(a,s)
 | m+1,a,s=>if decide (s.err=0) && s.begins then gy m (ax (nd0 6 (gA a).pos) [a,(cV ex s).1]) (cV ex s).2 else (a,s)
def jW (s:PS):PR :=
 if s.has 3 then
  let r:=cV ex s.next
  (ax { nd0 13 s.peek.pos with name:=s.peek.s } [r.1],r.2)
 else
  let r:=cV ex s
  gy ex r.2.l.length.succ r.1 r.2
def opS (s:PS):List (List UInt8 × Int)→Option Int
 | []=>none
 | q::r=>if s.sees 7 q.1 then some q.2 else opS s r
def eP:List (List UInt8 × Int):=[([42],3),([47],4)]
def gY:List (List UInt8 × Int):=[([43],1),([45],2),([94],7)]
def iR:List (List UInt8 × Int):=[([60],5),([61,61],6)]
def ja (ops:List (List UInt8 × Int)) (sub:PS→PR):Nat→List EN→PS→PR
 | 0,a,s=>(a,s)
 | m+1,a,s=>match opS s ops with
   | some n=>ja ops sub m (ax { nd0 10 s.peek.pos with n:=n } [a,(sub s.next).1]) (sub s.next).2
   | none=>(a,s)
def iN (s:PS):PR:=ja eP (jW ex) (jW ex s).2.l.length.succ (jW ex s).1 (jW ex s).2
def rG (s:PS):PR:=ja gY (iN ex) (iN ex s).2.l.length.succ (iN ex s).1 (iN ex s).2
def rP (s:PS):PR :=
 let a:=rG ex s
 match opS a.2 iR with
 | some n =>
   let b:=rG ex a.2.next
   (ax { nd0 10 a.2.peek.pos with n:=n } [a.1,b.1],b.2)
 | none=>a
def pV (s:PS) (pos:Int):PR :=
 let k:Int:=if s.sees 1 jC then 8 else 7
 let x:=(s.may 1 jC).of 2
 let s2:=x.2.must 7 [61]
 let a:=ex s2
 let s3:=if k=8∧(gA a.1).k≠5 then a.2.fail 5 s2.peek.pos else a.2
 let b:=ex (s3.must 1 bIn)
 (ax { nd0 k pos with name:=x.1 } [a.1,b.1],b.2)
def ifS (s:PS) (pos:Int):PR :=
 let a:=ex s
 let b:=ex (a.2.must 1 oG)
 let c:=ex (b.2.must 1 oF)
 (ax (nd0 9 pos) [a.1,b.1,c.1],c.2)
def mL (s:PS):PR :=
 let t:=s.peek
 if s.sees 1 EG then
  let x:=s.next.of 2
  let b:=ex (x.2.must 7 bTo)
  (ax { nd0 5 t.pos with name:=x.1 } [b.1],b.2)
 else if s.sees 1 Fe then pV ex s.next t.pos
 else if s.sees 1 bIf then ifS ex s.next t.pos
 else rP ex s
end
def gz:Nat→PS→PR
 | 0,s=>(noE,s.fail 6 s.peek.pos)
 | m+1,s=>if s.err≠0 then (noE,s) else
   let r:=mL (gz m) { s with nest:=s.nest+1 }
   (r.1,{ r.2 with nest:=s.nest })
end Go.Proofs.YtejpnabbmgpmaaaGreat

namespace Go.Proofs.YtejpnabbmgpmaaaGreat
open Go.Ab
def PSo (N:Int) (s:PS):Prop:=(∀ t∈s.l,0≤t.pos∧t.pos≤N)∧(0≤s.fin∧s.fin≤N)∧(0≤s.pos∧s.pos≤N)
structure SS (s r:PS):Prop where
 suf:∃ k,r.l=s.l.drop k
 fin:r.fin=s.fin
 nest:r.nest=s.nest
 pos:∀ N,PSo N s→0≤r.pos∧r.pos≤N
theorem SS.refl (s:PS):SS s s:=⟨⟨0,rfl⟩,rfl,rfl,fun _ h=>h.2.2⟩
theorem SS.po {s r:PS} (h:SS s r) {N:Int} (g:PSo N s):PSo N r:=by
 obtain ⟨k,hk⟩:=h.suf
 refine ⟨fun t ht=>?_,by rw [h.fin];exact g.2.1,h.pos N g⟩
 rw [hk] at ht
 exact g.1 t (List.mem_of_mem_drop ht)
theorem SS.trans {a b c:PS} (h:SS a b) (g:SS b c):SS a c:=by
 obtain ⟨k,hk⟩:=h.suf
 obtain ⟨j,hj⟩:=g.suf
 exact ⟨⟨k+j,by rw [hj,hk,List.drop_drop]⟩,g.fin.trans h.fin,g.nest.trans h.nest,fun N hN=>g.pos N (h.po hN)⟩
theorem SS.len {s r:PS} (h:SS s r):r.l.length≤s.l.length:=by
 obtain ⟨k,hk⟩:=h.suf
 rw [hk,List.length_drop];omega
theorem SS.next (s:PS):SS s s.next:=⟨⟨1,by simp [PS.next]⟩,rfl,rfl,fun _ h=>h.2.2⟩
theorem jG {N:Int} {s:PS} (h:PSo N s):0≤s.peek.pos∧s.peek.pos≤N:=by
 unfold PS.peek
 split
 ·exact h.2.1
 ·rename_i t r e
  exact h.1 t (by rw [e];exact List.mem_cons_self)
theorem SS.fail (s:PS) (e p:Int) (h:∀ N,PSo N s→0≤p∧p≤N):SS s (s.fail e p):=by
 unfold PS.fail
 split
 ·exact ⟨⟨0,rfl⟩,rfl,rfl,h⟩
 ·exact SS.refl s
theorem SS.failp (s:PS) (e:Int):SS s (s.fail e s.peek.pos):=SS.fail s e _ fun _ h=>jG h
theorem SS.wrong (s:PS):SS s s.wrong:=SS.failp s 5
theorem SS.may (s:PS) (k:Int) (t:List UInt8):SS s (s.may k t):=by
 unfold PS.may;split
 ·exact SS.next s
 ·exact SS.refl s
theorem SS.must (s:PS) (k:Int) (t:List UInt8):SS s (s.must k t):=by
 unfold PS.must;split
 ·exact SS.next s
 ·exact SS.wrong s
theorem SS.of (s:PS) (k:Int):SS s (s.of k).2:=by
 unfold PS.of;split
 ·exact SS.next s
 ·exact SS.wrong s
theorem aL {s:PS} {k:Int} {t:List UInt8} (h:s.sees k t=true):s.next.l.length+1=s.l.length:=by
 unfold PS.sees PS.is at h
 simp only [Bool.and_eq_true,Bool.not_eq_true',decide_eq_true_eq] at h
 have:s.l≠[]:=by
  intro e;rw [e] at h;simp at h
 show s.l.tail.length+1=_
 rw [List.length_tail]
 have:=List.length_pos_iff.2 this
 omega
theorem fK {s:PS} {k:Int} (h:s.peek.k=k) (hk:k≠0):s.next.l.length+1=s.l.length:=by
 have:s.l≠[]:=by
  intro e;unfold PS.peek at h;rw [e] at h;exact hk h.symm
 show s.l.tail.length+1=_
 rw [List.length_tail]
 have:=List.length_pos_iff.2 this
 omega
theorem Ch {s:PS} {k:Int} (h:s.has k=true) (hk:k≠0):s.next.l.length+1=s.l.length:=by
 unfold PS.has at h
 simp only [Bool.and_eq_true,decide_eq_true_eq] at h
 exact fK h.2 hk
def aV (ls:List (List EN)):Nat:=(ls.map List.length).sum
theorem lR:∀ (ls:List (List EN)) (acc:List EN) (rs:List Int),(bC ls acc rs).1.length=acc.length+aV ls
 | [],_,_=>by simp [bC,aV]
 | l::r,acc,rs=>by
   rw [bC,lR r]
   simp [aV,Nat.add_assoc]
theorem ch (n:EN) (ls:List (List EN)):(ax n ls).length=aV ls+1:=by
 simp [ax,lR]
def eY (b:Nat) (ns:List EN):Prop:=∀ n∈ns,n.l.length≤b
theorem vz (n:EN) (ks:List Int):(aK n ks).l.length≤n.l.length:=by
 show (if aU n.k then aO ks (aP n.k) n.l 0 else []).length≤_
 split
 ·rw [dn];exact Nat.le_refl _
 ·exact Nat.zero_le _
theorem rB {b:Nat}:∀ (ls:List (List EN)) (acc:List EN) (rs:List Int),(∀ l∈ls,eY b l)→eY b acc→eY b (bC ls acc rs).1
 | [],_,_,_,h=>h
 | l::r,acc,rs,hl,h=>by
   refine rB r _ _ (fun x hx=>hl x (List.mem_cons_of_mem _ hx)) fun n hn=>?_
   rcases List.mem_append.1 hn with hn | hn
   ·exact h n hn
   ·obtain ⟨m,hm,rfl⟩:=List.mem_map.1 hn
    exact Nat.le_trans (vz _ _) (hl l List.mem_cons_self m hm)
theorem cG {b:Nat} {n:EN} {ls:List (List EN)} (hn:n.l.length≤b) (hl:∀ l∈ls,eY b l):eY b (ax n ls):=by
 intro m hm
 rcases List.mem_append.1 hm with hm | hm
 ·exact rB ls [] [] hl (fun _ h=>by cases h) m hm
 ·rw [List.mem_singleton.1 hm]
  exact Nat.le_trans (vz _ _) hn
theorem eY.mono {b c:Nat} {ns:List EN} (h:eY b ns) (hc:b≤c):eY c ns:=fun n hn=>Nat.le_trans (h n hn) hc
structure GP (d:Nat) (s:PS) (r:PR):Prop where
 ss:SS s r.2
 tr:Tr r.1
 sz:r.1.length+4*r.2.l.length≤4*s.l.length+d
 wd:eY (s.l.length+1-r.2.l.length) r.1
theorem GP.pre {d e:Nat} {s s':PS} {r:PR} (h:GP d s' r) (hs:SS s s') (he:4*s'.l.length+d≤4*s.l.length+e):GP e s r :=
 ⟨hs.trans h.ss,h.tr,Nat.le_trans h.sz he,h.wd.mono (by have:=hs.len;omega)⟩
theorem GP.post {d:Nat} {s:PS} {l:List EN} {s' s'':PS} (h:GP d s (l,s')) (hs:SS s' s''):GP d s (l,s'') :=
 ⟨h.ss.trans hs,h.tr,by have:=h.sz;have:=hs.len;simp only at *;omega,h.wd.mono (by have:=hs.len;have:=h.ss.len;simp only at *;omega)⟩
theorem GP.leaf {s s':PS} {n:EN} (hn:bD n=0) (hl:n.l=[]) (hs:SS s s') {d:Nat} (hd:1+4*s'.l.length≤4*s.l.length+d):GP d s (bV n,s') :=
 ⟨hs,.join n [] hn (fun _ h=>by cases h),by show (ax n []).length+_≤_;rw [ch];simp only [aV,List.map_nil,List.sum_nil];omega,cG (by rw [hl];exact Nat.zero_le _) (fun _ h=>by cases h)⟩
theorem GP.DQ {s s1:PS} {a:PR} {n:EN} {d e:Nat} (ha:GP d s1 a) (hs:SS s s1) (hn:bD n=1) (hl:n.l=[]) (he:4*s1.l.length+d+1≤4*s.l.length+e):GP e s (ax n [a.1],a.2):=by
 have h1:=ha.sz
 have h3:=hs.len
 refine ⟨hs.trans ha.ss,.join n _ hn (fun l h=>by rw [List.mem_singleton.1 h];exact ha.tr),?_,cG (by rw [hl];exact Nat.zero_le _) fun l h=>?_⟩
 ·rw [ch]
  simp only [aV,List.map_cons,List.map_nil,List.sum_cons,List.sum_nil]
  omega
 ·rw [List.mem_singleton.1 h]
  exact ha.wd.mono (by simp only;omega)
theorem GP.rF {s s1 s2:PS} {a b:PR} {n:EN} {d d' e:Nat} (ha:GP d s1 a) (hb:GP d' s2 b) (hs:SS s s1) (hm:SS a.2 s2) (hn:bD n=2) (hl:n.l=[])
  (he:4*s1.l.length+4*s2.l.length+d+d'+1≤4*s.l.length+4*a.2.l.length+e):GP e s (ax n [a.1,b.1],b.2):=by
 have h1:=ha.sz
 have h2:=hb.sz
 have h3:=hs.len
 have h4:=hm.len
 have h5:=ha.ss.len
 have h6:=hb.ss.len
 refine ⟨((hs.trans ha.ss).trans hm).trans hb.ss,.join n _ hn (fun l h=>?_),?_,cG (by rw [hl];exact Nat.zero_le _) fun l h=>?_⟩
 ·rcases List.mem_cons.1 h with rfl | h
  ·exact ha.tr
  ·rw [List.mem_singleton.1 h];exact hb.tr
 ·rw [ch]
  simp only [aV,List.map_cons,List.map_nil,List.sum_cons,List.sum_nil]
  omega
 ·rcases List.mem_cons.1 h with rfl | h
  ·exact ha.wd.mono (by simp only;omega)
  ·rw [List.mem_singleton.1 h];exact hb.wd.mono (by simp only;omega)
theorem GP.F9 {s s1 s2 s3:PS} {a b c:PR} {n:EN} {d e:Nat} (ha:GP d s1 a) (hb:GP d s2 b) (hc:GP d s3 c) (hs:SS s s1) (hm:SS a.2 s2) (hm':SS b.2 s3) (hn:bD n=3) (hl:n.l=[])
  (he:4*s1.l.length+3*d+1≤4*s.l.length+e):GP e s (ax n [a.1,b.1,c.1],c.2):=by
 have h1:=ha.sz
 have h2:=hb.sz
 have h2':=hc.sz
 have h3:=hs.len
 have h4:=hm.len
 have h4':=hm'.len
 have h5:=ha.ss.len
 have h6:=hb.ss.len
 have h7:=hc.ss.len
 refine ⟨((((hs.trans ha.ss).trans hm).trans hb.ss).trans hm').trans hc.ss,.join n _ hn (fun l h=>?_),?_,cG (by rw [hl];exact Nat.zero_le _) fun l h=>?_⟩
 ·simp only [List.mem_cons,List.not_mem_nil,or_false] at h
  rcases h with rfl | rfl | rfl
  ·exact ha.tr
  ·exact hb.tr
  ·exact hc.tr
 ·rw [ch]
  simp only [aV,List.map_cons,List.map_nil,List.sum_cons,List.sum_nil]
  omega
 ·simp only [List.mem_cons,List.not_mem_nil,or_false] at h
  rcases h with rfl | rfl | rfl
  ·exact ha.wd.mono (by simp only;omega)
  ·exact hb.wd.mono (by simp only;omega)
  ·exact hc.wd.mono (by simp only;omega)
end Go.Proofs.YtejpnabbmgpmaaaGreat

namespace Go.Proofs.YtejpnabbmgpmaaaGreat
open Go.Ab
theorem rr (l:List EN):∀ (a:List (List EN)) (acc:List EN) (rs:List Int),bC (a++[l]) acc rs=((bC a acc rs).1++l.map (aE (bC a acc rs).1.length),(bC a acc rs).2++[(((bC a acc rs).1.length+l.length:Nat):Int)-1])
 | [],_,_=>rfl
 | _::r,_,_=>rr l r _ _
def fV (ls:List (List EN)) (i:Nat):List EN × List Int:=bC (ls.take i) [] []
theorem xr {ls:List (List EN)} {i:Nat} (h:i<ls.length):fV ls (i+1)=((fV ls i).1++ls[i].map (aE (fV ls i).1.length),(fV ls i).2++[(((fV ls i).1.length+ls[i].length:Nat):Int)-1]):=by
 unfold fV
 rw [List.take_succ_eq_append_getElem h,rr]
theorem yW (ls:List (List EN)):fV ls ls.length=bC ls [] []:=by rw [fV,List.take_length]
theorem zl (a b:List (List EN)):aV (a++b)=aV a+aV b:=by simp [aV]
theorem y1 {ls:List (List EN)} {i:Nat} (h:i<ls.length):(fV ls i).1.length+ls[i].length≤aV ls:=by
 have h1:(fV ls i).1.length=aV (ls.take i):=by unfold fV;rw [lR];simp
 have h2:aV ls=aV (ls.take i)+aV (ls.drop i):=by rw [← zl,List.take_append_drop]
 have h3:aV (ls.drop i)=ls[i].length+aV (ls.drop (i+1)):=by rw [List.drop_eq_getElem_cons h];unfold aV;rw [List.map_cons,List.sum_cons]
 omega
theorem sR:∀ (ls:List (List EN)) (acc:List EN) (rs:List Int),(bC ls acc rs).2.length=rs.length+ls.length
 | [],_,_=>by simp [bC]
 | l::r,acc,rs=>by rw [bC,sR];simp;omega
theorem CJ (ls:List (List EN)) (i:Nat):(fV ls i).2.length≤i:=by unfold fV;rw [sR];simp;omega
def kc (off:Nat) (K:List Int) (x:Nat):List Int:=((K.take x).map fun k:Int=>k+off)++K.drop x
theorem yp (off:Nat) (K:List Int):kc off K K.length=K.map fun k:Int=>k+off:=by simp [kc]
theorem An (off:Nat) (K:List Int) (x:Nat):(kc off K x).length=K.length:=by
 simp only [kc,List.length_append,List.length_map,List.length_take,List.length_drop];omega
theorem zN {off:Nat} {K:List Int} {x:Nat} (h:x<K.length):(kc off K x).getD x 0=K.getD x 0:=by
 unfold kc
 rw [List.getD_eq_getElem?_getD,List.getElem?_append_right (by simp;omega)]
 simp [Nat.min_eq_left (Nat.le_of_lt h),h]
theorem wI {off:Nat} {K:List Int} {x:Nat} (h:x<K.length):(kc off K x).set x (K.getD x 0+off)=kc off K (x+1):=by
 have h1:K.take (x+1)=K.take x++[K[x]]:=by simp
 have h2:K.drop x=K[x]::K.drop (x+1):=List.drop_eq_getElem_cons h
 unfold kc
 have h3:((K.take x).map fun k:Int=>k+off).length=x:=by simp;omega
 rw [h1,h2,List.set_append_right _ _ (by omega),h3,Nat.sub_self,List.set_cons_zero,List.map_append,List.append_assoc]
 simp [h]
theorem Cz {ls:List (List EN)} {i:Nat} (h:i<ls.length):(ls.map exD).getD i .nilp=.agg [.sl (some 9) (ls[i].map enD)]:=by simp [h,exD]
theorem qc (M:EN):enD M=.agg [i64 M.k,i64 M.a,i64 M.b,i64 M.c,i64 M.n,.str M.name,.str M.s,.sl (some 3) (M.l.map fD),i64 M.pos]:=rfl
theorem pO {G} (n:EN) (ls:List (List EN)) (hn:n.l.length≤1000000) (hL:ls.length≤1000000) (hS:aV ls≤1000000) (hk:∀ l∈ls,∀ m∈l,fO l.length m) (hw:∀ l∈ls,eY 900000 l) :
  HP Tryz.prog G 86 [enD n,.sl (some 1) (ls.map exD)] (fun r=>r=.d (exD (ax n ls))):=by
 unfold enD efD
 refine bP Tryz.func86 rfl (by decide +kernel) (by simp [Tryz.ntmps86]) (veil fun E=>?_)
 simp only [go_sem]
 refine tD E 6 98 none rfl (by rw [aa];decide) ?_
 simp only [go_sem]
 refine lG E [5] 0 97 (some 9) [.d .nils] rfl rfl (by rw [aa];decide) ?_
 simp only [go_sem]
 refine aG E (X:={ i:Nat // i≤ls.length }) (fun x=>[(2,.at [2] 0),(4,.at [4] 0),(5,.at [5] 0),(6,.vw [98] 0 (fV ls x.1).2.length),(14,.d (.sl (some 1) (ls.map exD))),(15,.d (i64 ls.length)),(16,.d (i64 x.1))])
  (fun x=>[([2],.box [.d (i64 n.k),.d (i64 n.a),.d (i64 n.b),.d (i64 n.c),.d (i64 n.n),.d (.str n.name),.d (.str n.s),.d (.sl (some 3) (n.l.map fD)),.d (i64 n.pos)]),([4],.box [.d .nils]),([5],.box [.vw [97] 0 (fV ls x.1).1.length]),([97],.arr (some 9) ((fV ls x.1).1.map enD)),([98],.arr none ((fV ls x.1).2.map i64))]) [2,4,5,97,98] (fun x=>ls.length-x.1) ⟨0,Nat.zero_le _⟩ id ?_ ?_
 ·simp only [go_sem]
  exact ⟨rfl,rfl,rfl,rfl⟩
 rintro ⟨i,hi⟩ E0
 refine aZ E0 fun Q' hQ E'=>?_
 simp only at hi ⊢
 simp only [go_sem]
 refine aj E' (fun h1=>?_) (fun h1=>?_)<;>simp only [go_sem]
 ·have h1':i<ls.length:=by omega
  refine ⟨⟨by omega,by omega⟩,?_⟩
  rw [Cz h1']
  obtain ⟨l,hle⟩:∃ l,l=ls[i]:=⟨_,rfl⟩
  have hmem:l∈ls:=by rw [hle];exact List.getElem_mem h1'
  have hcl:=y1 h1'
  have hcs:=xr h1'
  have hcr:=CJ ls i
  rw [← hle] at hcl hcs ⊢
  obtain ⟨acc,hacc⟩:∃ acc,acc=(fV ls i).1:=⟨_,rfl⟩
  obtain ⟨rs,hrs⟩:∃ rs,rs=(fV ls i).2:=⟨_,rfl⟩
  rw [← hacc] at hcl hcs
  rw [← hrs] at hcr hcs
  simp only [← hacc,← hrs]
  simp only [go_sem]
  refine aG E' (X:={ j:Nat // j≤l.length }) (fun x=>[(2,.at [2] 0),(4,.at [4] 0),(5,.at [5] 0),(6,.vw [98] 0 rs.length),(14,.d (.sl (some 1) (ls.map exD))),(15,.d (i64 ls.length)),(16,.d (i64 i)),(9,.d (i64 acc.length)),(24,.d (.sl (some 9) (l.map enD))),(25,.d (i64 l.length)),(26,.d (i64 x.1))])
   (fun x=>[([2],.box [.d (i64 n.k),.d (i64 n.a),.d (i64 n.b),.d (i64 n.c),.d (i64 n.n),.d (.str n.name),.d (.str n.s),.d (.sl (some 3) (n.l.map fD)),.d (i64 n.pos)]),([4],.box [.d .nils]),([5],.box [.vw [97] 0 (acc.length+x.1)]),([97],.arr (some 9) ((acc++(l.take x.1).map (aE acc.length)).map enD)),([98],.arr none (rs.map i64))]) [2,4,5,97,98] (fun x=>l.length-x.1) ⟨0,Nat.zero_le _⟩ id ?_ ?_
  ·simp only [go_sem]
   all_goals first | rfl | simp
  rintro ⟨j,hj⟩ E2
  refine aZ E2 fun Q2 hQ2 E3=>?_
  simp only at hj ⊢
  simp only [go_sem]
  refine aj E3 (fun h2=>?_) (fun h2=>?_)<;>simp only [go_sem]
  ·have h2':j<l.length:=by omega
   refine ⟨⟨by omega,by omega⟩,?_⟩
   rw [bF h2',bj h2']
   obtain ⟨m,hm⟩:∃ m,m=l[j]:=⟨_,rfl⟩
   have hmm:m∈l:=by rw [hm];exact List.getElem_mem h2'
   have hmk:=hk l hmem m hmm
   have hml:=hw l hmem m hmm
   rw [← hm]
   simp only [go_sem]
   refine ab E3 [.d (enD m)] [] [] (jJ m (by omega)) rfl rfl ⟨by simp only [go_sem],by rw [aa];decide⟩ rfl (by simp only [go_sem]) (by simp only [go_sem]) ?_
   rintro _ _ ⟨rfl,rfl⟩
   simp only [go_sem]
   have hKl:(ak m).length≤1000000:=by
    rw [bx];unfold bD
    have:=ct m.k
    split<;>omega
   have hKk:∀ q,q<(ak m).length→0≤(ak m).getD q 0∧(ak m).getD q 0<l.length:=fun q hq=>hmk _ (by simp [hq])
   have hwm:aK m ((ak m).map fun k:Int=>k+acc.length)=aE acc.length m:=rfl
   obtain ⟨K,hK⟩:∃ K,K=ak m:=⟨_,rfl⟩
   rw [← hK] at hKl hKk hwm ⊢
   refine aG E3 (X:={ q:Nat // q≤K.length }) (fun x=>[(2,.at [2] 0),(4,.at [4] 0),(5,.at [5] 0),(6,.vw [98] 0 rs.length),(11,.at [11] 0),(12,.vw [96] 0 K.length),(14,.d (.sl (some 1) (ls.map exD))),(15,.d (i64 ls.length)),(16,.d (i64 i)),(9,.d (i64 acc.length)),(24,.d (.sl (some 9) (l.map enD))),(25,.d (i64 l.length)),(26,.d (i64 j)),(33,.d (i64 K.length)),(34,.d (i64 x.1))])
    (fun x=>[([2],.box [.d (i64 n.k),.d (i64 n.a),.d (i64 n.b),.d (i64 n.c),.d (i64 n.n),.d (.str n.name),.d (.str n.s),.d (.sl (some 3) (n.l.map fD)),.d (i64 n.pos)]),([4],.box [.d .nils]),([5],.box [.vw [97] 0 (acc.length+j)]),([97],.arr (some 9) ((acc++(l.take j).map (aE acc.length)).map enD)),([98],.arr none (rs.map i64)),
     ([11],.box [.d (i64 m.k),.d (i64 m.a),.d (i64 m.b),.d (i64 m.c),.d (i64 m.n),.d (.str m.name),.d (.str m.s),.d (.sl (some 3) (m.l.map fD)),.d (i64 m.pos)]),([96],.arr none ((kc acc.length K x.1).map i64))]) [2,4,5,11,96,97,98] (fun x=>K.length-x.1) ⟨0,Nat.zero_le _⟩ (tau [([96],[31,0])]) ?_ ?_
   ·simp only [go_sem]
    all_goals rfl
   rintro ⟨q,hq⟩ E4
   refine aZ E4 fun Q4 hQ4 E5=>?_
   simp only at hq ⊢
   simp only [go_sem]
   refine aj E5 (fun h3=>?_) (fun h3=>?_)<;>simp only [go_sem]
   ·have h3':q<K.length:=by omega
    have hpl:=An acc.length K q
    have hin:=hKk q h3'
    rw [show ((kc acc.length K q).map i64).getD q .nilp=i64 (K.getD q 0) by rw [← zN h3',bI (by omega)]]
    simp only [go_sem]
    refine ⟨⟨by omega,by omega⟩,⟨by omega,by omega⟩,?_⟩
    have hmp:((kc acc.length K q).map i64).set q (.int .i64 (w64 (K.getD q 0+acc.length)))=(kc acc.length K (q+1)).map i64:=by
     rw [ao ⟨by omega,by omega⟩,← wI h3',List.map_set]
    rw [hmp,hQ4]
    simp only [go_sem]
    refine ⟨⟨q+1,by omega⟩,by show K.length-(q+1)<_;omega,id,?_⟩
    rw [ao ⟨by omega,by omega⟩]
    simp only [go_sem]
    all_goals rfl
   ·have hq2:q=K.length:=by omega
    subst hq2
    rw [yp,hQ4]
    simp only [go_sem]
    refine kl E3 [96] none ((K.map fun k:Int=>k+acc.length).map i64) rfl ?_
    simp only [go_sem]
    refine ah mixed E3 fun X=>?_
    simp only [go_sem]
    rw [List.take_of_length_le (l:=List.map i64 _) (by simp)]
    refine bH X (vp m (K.map fun k:Int=>k+acc.length) (by omega) (by rw [List.length_map];exact hKl)) rfl rfl (by simp) ?_
    obtain ⟨M,hM⟩:∃ M,M=aE acc.length m:=⟨_,rfl⟩
    rw [hwm,← hM,qc M]
    simp only [go_sem]
    have hout:List.take (acc.length+j) (List.map enD (acc++List.map (aE acc.length) (List.take j l)))++[.agg [i64 M.k,i64 M.a,i64 M.b,i64 M.c,i64 M.n,.str M.name,.str M.s,.sl (some 3) (M.l.map fD),i64 M.pos]]=(acc++(l.take (j+1)).map (aE acc.length)).map enD:=by
     rw [List.take_of_length_le (by simp;omega),List.take_succ_eq_append_getElem h2',← hm]
     simp only [List.map_append,List.map_cons,List.map_nil,← hM,← qc M,List.append_assoc]
    rw [hout]
    refine ⟨by omega,by decide +kernel,?_⟩
    rw [hQ2]
    simp only [go_sem]
    refine ⟨⟨j+1,by omega⟩,by show l.length-(j+1)<_;omega,tau [([97],[51])],?_⟩
    rw [ao ⟨by omega,by omega⟩]
    simp only [go_sem]
    exact ⟨rfl,rfl⟩
  ·rw [hQ2]
   simp only [go_sem]
   have hj2:j=l.length:=by omega
   subst hj2
   have hro:List.map i64 rs++[.int .i64 (w64 (((acc.length+l.length:Nat):Int)-1))]=(rs++[((acc.length+l.length:Nat):Int)-1]).map i64:=by
    rw [ao ⟨by omega,by omega⟩]
    simp only [List.map_append,List.map_cons,List.map_nil]
   rw [hro]
   refine ⟨by omega,?_⟩
   rw [hQ]
   simp only [go_sem]
   refine ⟨⟨i+1,by omega⟩,by show ls.length-(i+1)<_;omega,tau [([98],[60])],?_⟩
   simp only [hcs]
   rw [ao ⟨by omega,by omega⟩]
   simp only [go_sem]
   simp only [List.length_append,List.length_map,List.length_singleton]
   refine ⟨⟨trivial,rfl⟩,?_⟩
   first | rfl | exact ⟨rfl,rfl⟩ | exact ⟨trivial,rfl⟩ | exact ⟨rfl,trivial⟩ | trivial
 ·rw [hQ]
  have hi2:i=ls.length:=by omega
  subst hi2
  rw [yW]
  obtain ⟨acc,hacc⟩:∃ acc,acc=(bC ls [] []).1:=⟨_,rfl⟩
  obtain ⟨rs,hrs⟩:∃ rs,rs=(bC ls [] []).2:=⟨_,rfl⟩
  have hal:acc.length=aV ls:=by rw [hacc,lR];simp
  have hrl:rs.length=ls.length:=by rw [hrs,sR];simp
  have hj:ax n ls=acc++[aK n rs]:=by unfold ax;rw [← hacc,← hrs]
  rw [← hacc,← hrs]
  simp only [go_sem]
  refine kl E [98] none (rs.map i64) rfl ?_
  simp only [go_sem]
  refine ah mixed E fun X=>?_
  simp only [go_sem]
  refine bH X (vp n rs hn (by omega)) rfl rfl (by simp) ?_
  obtain ⟨M,hM⟩:∃ M,M=aK n rs:=⟨_,rfl⟩
  rw [← hM,qc M]
  simp only [go_sem]
  have hout:List.map enD acc++[.agg [i64 M.k,i64 M.a,i64 M.b,i64 M.c,i64 M.n,.str M.name,.str M.s,.sl (some 3) (M.l.map fD),i64 M.pos]]=(ax n ls).map enD:=by
   rw [hj,← hM,List.map_append,← qc];rfl
  rw [hout]
  refine ⟨by omega,by decide +kernel,[([68],some 9,(ax n ls).map enD)],?_⟩
  simp only [go_sem]
  rw [List.take_of_length_le (by rw [hj];simp)]
  rfl
end Go.Proofs.YtejpnabbmgpmaaaGreat

namespace Go.Proofs.YtejpnabbmgpmaaaGreat
open Go.Ab
theorem Bx {G} (n:EN):HP Tryz.prog G 109 [enD n] (fun r=>r=.d (.bool (fW n))):=by
 generalize hb:fW n=b
 unfold fW at hb
 have hk:=ct n.k
 unfold enD efD
 refine al Tryz.func109 rfl (by decide +kernel) (by simp [Tryz.ntmps109]) (veil fun E=>?_)
 simp only [go_sem]
 refine ah mixed E fun X=>?_
 simp only [go_sem]
 refine bH X (lJ n.k) rfl rfl (by simp) ?_
 simp only [go_sem]
 refine ⟨⟨by omega,by omega⟩,by decide +kernel,?_⟩
 rw [show ([i64 n.a,i64 n.b,i64 n.c]:List D)=[n.a,n.b,n.c].map i64 from rfl]
 obtain ⟨k,hke⟩:∃ k,k=aP n.k:=⟨_,rfl⟩
 rw [← hke] at hk hb ⊢
 have hL:([n.a,n.b,n.c].drop k).length=3-k:=by simp
 have hget:∀ i,i<3-k→(List.map i64 [n.a,n.b,n.c]).getD (k+i) .nilp=i64 (([n.a,n.b,n.c].drop k).getD i 0):=fun i hi=>by
  rw [bI (by simp;omega),List.getD_eq_getElem?_getD,List.getD_eq_getElem?_getD,List.getElem?_drop]
 generalize ([n.a,n.b,n.c]:List Int)=A at hb hL hget ⊢
 generalize A.drop k=L at hb hL hget
 refine eS E (X:={ i:Nat // i≤3-k∧(L.take i).all (fun x=>decide (x=0))=true }) (fun x=>[(16,.vw [11] k (3-k)),(17,.d (i64 (3-k:Nat))),(18,.d (i64 x.1))])
  (fun x=>[([1],.box [.d (i64 n.k),.d (i64 n.a),.d (i64 n.b),.d (i64 n.c),.d (i64 n.n),.d (.str n.name),.d (.str n.s),.d (.sl (some 3) (n.l.map fD)),.d (i64 n.pos)]),([11],.arr none (A.map i64))]) [11,1] (fun x=>3-k-x.1) ⟨0,by simp⟩ ?_ ?_
 ·simp only [go_sem]
  all_goals rfl
 rintro ⟨i,hi,hall⟩ E0
 refine aZ E0 fun Q' hQ E'=>?_
 simp only at hi hall ⊢
 simp only [go_sem]
 refine aj E' (fun g1=>?_) (fun g1=>?_)<;>simp only [go_sem]
 ·have hi':i<3-k:=by omega
  have hi2:i<L.length:=by omega
  have hLi:L.getD i 0=L[i]:=by simp [hi2]
  refine ⟨⟨by omega,by omega⟩,?_⟩
  rw [hget i hi',hLi]
  simp only [go_sem]
  refine aI E' (fun g2=>?_) (fun g2=>?_)<;>simp only [go_sem]
  ·rw [hQ]
   simp only [go_sem]
   have:L.all (fun x=>decide (x=0))=false:=List.all_eq_false.2 ⟨_,List.getElem_mem hi2,by simpa using g2⟩
   rw [← hb,this]
  ·rw [hQ]
   simp only [go_sem]
   have g3:decide (L[i]=0)=true:=by simpa using g2
   refine ⟨⟨i+1,by omega,by rw [List.take_succ_eq_append_getElem hi2,List.all_append,hall];simpa using g3⟩,by show 3-k-(i+1)<_;omega,?_⟩
   rw [ao ⟨by omega,by omega⟩]
   rfl
 ·rw [hQ]
  have h3:i=L.length:=by omega
  subst h3
  rw [List.take_length] at hall
  simp only [go_sem]
  rw [← hb,hall]
theorem D8 {G} (n:EN) (h:gL BIG n):HP Tryz.prog G 58 [enD n] (fun r=>r=.d (.bool (bu n))):=by
 generalize hb:bu n=b
 unfold bu at hb
 have c1:=Bv (G:=G) n h
 have c2:=DK (G:=G) n
 have c3:=CB (G:=G) n h
 have c4:=Bx (G:=G) n
 generalize gU n=x1 at c1 hb
 generalize dx n=x2 at c2 hb
 generalize ee n=x3 at c3 hb
 generalize fW n=x4 at c4 hb
 unfold enD efD at *
 refine al Tryz.func58 rfl (by decide +kernel) (by simp [Tryz.ntmps58]) (veil fun E=>?_)
 simp only [go_sem]
 repeat (first
  | (apply gw E;(· simp only [go_sem]);(· intro h;(try simp only [bq] at h);simp only [↓h,go_sem];rfl);simp only [go_sem])
  | (apply cS E;(· simp only [go_sem]);(· intro h;(try simp only [bq] at h);simp only [↓h,go_sem];rfl);(· intro h;(try simp only [bq] at h);simp only [↓h,go_sem];rfl);simp only [go_sem])
  | (apply cL E;(· simp only [go_sem]);(· rfl);(· intro h h';(try simp only [bq] at h h');simp only [↓h,↓h',go_sem];rfl);simp only [go_sem])
  | (apply bG E;(· simp only [go_sem]);(· rfl);(· intro h h';(try simp only [bq] at h h');simp only [↓h,↓h',go_sem];rfl);(· intro h h';(try simp only [bq] at h h');simp only [↓h,↓h',go_sem];rfl);simp only [go_sem])
  | (apply eU E;(· decide);simp only [go_sem]))
 refine aI E (fun g=>?_) (fun g=>?_)<;>simp only [go_sem]
 ·have g':¬ (1≤n.k∧n.k≤14∧0≤n.pos∧n.pos≤1048576):=by
   simp only [Bool.or_eq_true,decide_eq_true_eq] at g
   omega
  have:(decide (1≤n.k) && decide (n.k≤14) && decide (0≤n.pos) && decide (n.pos≤1048576))=false:=by
   rw [Bool.eq_false_iff]
   intro hc
   simp only [Bool.and_eq_true,decide_eq_true_eq] at hc
   exact g' ⟨hc.1.1.1,hc.1.1.2,hc.1.2,hc.2⟩
  rw [← hb,this,Bool.false_and]
 ·refine ag E (c1) rfl rfl (by simp) ?_
  rintro _ rfl
  simp only [go_sem]
  repeat (first
   | (apply gw E;(· simp only [go_sem]);(· intro h;(try simp only [bq] at h);simp only [↓h,go_sem];rfl);simp only [go_sem])
   | (apply cS E;(· simp only [go_sem]);(· intro h;(try simp only [bq] at h);simp only [↓h,go_sem];rfl);(· intro h;(try simp only [bq] at h);simp only [↓h,go_sem];rfl);simp only [go_sem])
   | (apply cL E;(· simp only [go_sem]);(· rfl);(· intro h h';(try simp only [bq] at h h');simp only [↓h,↓h',go_sem];rfl);simp only [go_sem])
   | (apply bG E;(· simp only [go_sem]);(· rfl);(· intro h h';(try simp only [bq] at h h');simp only [↓h,↓h',go_sem];rfl);(· intro h h';(try simp only [bq] at h h');simp only [↓h,↓h',go_sem];rfl);simp only [go_sem])
   | (apply eU E;(· decide);simp only [go_sem]))
  (first | (apply mr E;(· simp only [go_sem]);(· intro h hk;(try simp only [bq] at h);refine ag E (c2) rfl (by simp only [↓h,go_sem]<;>rfl) (by simp) ?_;rintro _ rfl;exact hk);simp only [go_sem]) | (apply jY E;(· simp only [go_sem]);(· rfl);(· intro h h' hk;(try simp only [bq] at h h');refine ag E (c2) rfl (by simp only [↓h,↓h',go_sem]<;>rfl) (by simp) ?_;rintro _ rfl;exact hk);simp only [go_sem]))
  repeat (first
   | (apply gw E;(· simp only [go_sem]);(· intro h;(try simp only [bq] at h);simp only [↓h,go_sem];rfl);simp only [go_sem])
   | (apply cS E;(· simp only [go_sem]);(· intro h;(try simp only [bq] at h);simp only [↓h,go_sem];rfl);(· intro h;(try simp only [bq] at h);simp only [↓h,go_sem];rfl);simp only [go_sem])
   | (apply cL E;(· simp only [go_sem]);(· rfl);(· intro h h';(try simp only [bq] at h h');simp only [↓h,↓h',go_sem];rfl);simp only [go_sem])
   | (apply bG E;(· simp only [go_sem]);(· rfl);(· intro h h';(try simp only [bq] at h h');simp only [↓h,↓h',go_sem];rfl);(· intro h h';(try simp only [bq] at h h');simp only [↓h,↓h',go_sem];rfl);simp only [go_sem])
   | (apply eU E;(· decide);simp only [go_sem]))
  (first | (apply mr E;(· simp only [go_sem]);(· intro h hk;(try simp only [bq] at h);refine ag E (c3) rfl (by simp only [↓h,go_sem]<;>rfl) (by simp) ?_;rintro _ rfl;exact hk);simp only [go_sem]) | (apply jY E;(· simp only [go_sem]);(· rfl);(· intro h h' hk;(try simp only [bq] at h h');refine ag E (c3) rfl (by simp only [↓h,↓h',go_sem]<;>rfl) (by simp) ?_;rintro _ rfl;exact hk);simp only [go_sem]))
  repeat (first
   | (apply gw E;(· simp only [go_sem]);(· intro h;(try simp only [bq] at h);simp only [↓h,go_sem];rfl);simp only [go_sem])
   | (apply cS E;(· simp only [go_sem]);(· intro h;(try simp only [bq] at h);simp only [↓h,go_sem];rfl);(· intro h;(try simp only [bq] at h);simp only [↓h,go_sem];rfl);simp only [go_sem])
   | (apply cL E;(· simp only [go_sem]);(· rfl);(· intro h h';(try simp only [bq] at h h');simp only [↓h,↓h',go_sem];rfl);simp only [go_sem])
   | (apply bG E;(· simp only [go_sem]);(· rfl);(· intro h h';(try simp only [bq] at h h');simp only [↓h,↓h',go_sem];rfl);(· intro h h';(try simp only [bq] at h h');simp only [↓h,↓h',go_sem];rfl);simp only [go_sem])
   | (apply eU E;(· decide);simp only [go_sem]))
  (first | (apply mr E;(· simp only [go_sem]);(· intro h hk;(try simp only [bq] at h);refine ag E (c4) rfl (by simp only [↓h,go_sem]<;>rfl) (by simp) ?_;rintro _ rfl;exact hk);simp only [go_sem]) | (apply jY E;(· simp only [go_sem]);(· rfl);(· intro h h' hk;(try simp only [bq] at h h');refine ag E (c4) rfl (by simp only [↓h,↓h',go_sem]<;>rfl) (by simp) ?_;rintro _ rfl;exact hk);simp only [go_sem]))
  repeat (first
   | (apply gw E;(· simp only [go_sem]);(· intro h;(try simp only [bq] at h);simp only [↓h,go_sem];rfl);simp only [go_sem])
   | (apply cS E;(· simp only [go_sem]);(· intro h;(try simp only [bq] at h);simp only [↓h,go_sem];rfl);(· intro h;(try simp only [bq] at h);simp only [↓h,go_sem];rfl);simp only [go_sem])
   | (apply cL E;(· simp only [go_sem]);(· rfl);(· intro h h';(try simp only [bq] at h h');simp only [↓h,↓h',go_sem];rfl);simp only [go_sem])
   | (apply bG E;(· simp only [go_sem]);(· rfl);(· intro h h';(try simp only [bq] at h h');simp only [↓h,↓h',go_sem];rfl);(· intro h h';(try simp only [bq] at h h');simp only [↓h,↓h',go_sem];rfl);simp only [go_sem])
   | (apply eU E;(· decide);simp only [go_sem]))
  have g':¬ (n.k<1∨14<n.k∨n.pos<0∨1048576<n.pos):=by
   simp only [Bool.or_eq_false_iff,decide_eq_false_iff_not] at g
   omega
  rw [← hb,decide_eq_true (show 1≤n.k by omega),decide_eq_true (show n.k≤14 by omega),decide_eq_true (show 0≤n.pos by omega),decide_eq_true (show n.pos≤1048576 by omega)]
  rfl
end Go.Proofs.YtejpnabbmgpmaaaGreat

namespace Go.Proofs.YtejpnabbmgpmaaaGreat
open Go.Ab
def bump (cs:List Int) (k:Int):List Int:=cs.set k.toNat (cs.getD k.toNat 0+1)
def bumps (cs ks:List Int):List Int:=ks.foldl bump cs
theorem rH (cs:List Int) (k:Int):(bump cs k).length=cs.length:=by simp [bump]
theorem ft (ks:List Int):∀ cs:List Int,(bumps cs ks).length=cs.length:=by
 induction ks with
 | nil=>intro cs;rfl
 | cons k r ih=>intro cs;show (bumps (bump cs k) r).length=_;rw [ih,rH]
theorem tO (cs ks:List Int) (k:Int):bumps cs (ks++[k])=bump (bumps cs ks) k:=by simp [bumps]
def Bd (M:Nat) (cs:List Int):Prop:=∀ c∈cs,0≤c∧c≤(M:Int)
theorem Bd.bump {M:Nat} {cs:List Int} (h:Bd M cs) (k:Int):Bd (M+1) (bump cs k):=by
 intro c hc
 rcases List.mem_or_eq_of_mem_set hc with hc | hc
 ·have:=h c hc;omega
 ·by_cases hk:k.toNat<cs.length
  ·have:=h cs[k.toNat] (List.getElem_mem hk)
   rw [hc,show cs.getD k.toNat 0=cs[k.toNat] by simp [hk]]
   omega
  ·rw [hc,show cs.getD k.toNat 0=0 by simp [hk]]
   omega
theorem Bd.bumps {ks:List Int}:∀ {M:Nat} {cs:List Int},Bd M cs→Bd (M+ks.length) (bumps cs ks):=by
 induction ks with
 | nil=>intro M cs h;exact h
 | cons k r ih =>
   intro M cs h
   have:=ih (h.bump k)
   rw [List.length_cons]
   intro c hc
   have:=this c hc
   omega
theorem Bd.get {M:Nat} {cs:List Int} (h:Bd M cs) (i:Nat):0≤cs.getD i 0∧cs.getD i 0≤(M:Int):=by
 by_cases hi:i<cs.length
 ·rw [show cs.getD i 0=cs[i] by simp [hi]];exact h _ (List.getElem_mem hi)
 ·rw [show cs.getD i 0=0 by simp [hi]];omega
def inB (i:Nat) (k:Int):Bool:=decide (0≤k) && decide (k<(i:Int))
theorem Fo {G} (ns:List EN) (i:Nat) (cs:List Int) (M:Nat) (hi:i<ns.length) (hn:ns.length≤1000000) (hc:cs.length=ns.length) (hl:(ndE ns i).l.length≤1000000) (hM:Bd M cs) (hM2:M≤1000000000000) :
  HCall Tryz.prog G 59 [.d (exD ns),.d (i64 i),.vw [100] 0 ns.length] [([100],.arr none (cs.map i64))] [100]
   (fun r hp'=>∃ cs':List Int,cs'.length=ns.length∧(eN ns i=true→cs'=bumps cs (ak (ndE ns i)))∧r=.d (.bool (eN ns i))∧hp'=[([100],.arr none (cs'.map i64))]):=by
 have hg:=bF hi
 obtain ⟨n,hne⟩:∃ n,n=ndE ns i:=⟨_,rfl⟩
 rw [← hne] at hl hg ⊢
 have hkl:=bx n
 have hwl:bD n≤1000003:=by unfold bD;have:=ct n.k;split<;>omega
 obtain ⟨K,hK⟩:∃ K,K=ak n:=⟨_,rfl⟩
 have hlk:eN ns i=(K.all (inB i) && (decide (n.k≠8) || decide ((ndE ns n.a.toNat).k=5))):=by
  unfold eN inB
  rw [← hne,← hK]
 rw [hlk]
 have hkc:=jJ (G:=G) n (by omega)
 rw [← hK] at hkc hkl ⊢
 unfold exD
 refine ai Tryz.func59 rfl (by decide +kernel) (by simp [Tryz.ntmps59]) (veil fun E=>?_)
 simp only [go_sem]
 refine ⟨⟨by omega,by omega⟩,?_⟩
 rw [hg]
 simp only [go_sem]
 refine ab E [.d (enD n)] [] [] hkc rfl rfl ⟨by simp only [go_sem],by rw [aa];decide⟩ rfl (by simp only [go_sem]) (by simp only [go_sem]) ?_
 rintro _ _ ⟨rfl,rfl⟩
 simp only [go_sem]
 refine kl E [14,0] none (K.map i64) rfl ?_
 simp only [go_sem]
 refine eS E (X:={ q:Nat // q≤K.length∧(K.take q).all (inB i)=true }) (fun x=>[(1,.d (i64 i)),(2,.vw [100] 0 ns.length),(3,.at [3] 0),(6,.d (.bool false)),(14,.d (.sl none (K.map i64))),(15,.d (i64 K.length)),(16,.d (i64 x.1))])
  (fun x=>[([100],.arr none ((bumps cs (K.take x.1)).map i64)),([3],.box [.d (.sl (some 9) (ns.map enD))])]) [3,100] (fun x=>K.length-x.1) ⟨0,by simp⟩ ?_ ?_
 ·simp only [go_sem]
  all_goals rfl
 rintro ⟨q,hq,hall⟩ E0
 refine aZ E0 fun Q' hQ E'=>?_
 simp only at hq hall ⊢
 simp only [go_sem]
 refine aj E' (fun g1=>?_) (fun g1=>?_)<;>simp only [go_sem]
 ·have hq':q<K.length:=by omega
  refine ⟨⟨by omega,by omega⟩,?_⟩
  rw [bI hq',show K.getD q 0=K[q] by simp [hq']]
  simp only [go_sem]
  repeat (first
   | (apply gw E';(· simp only [go_sem]);(· intro h;(try simp only [bq] at h);simp only [↓h,go_sem];rfl);simp only [go_sem])
   | (apply cS E';(· simp only [go_sem]);(· intro h;(try simp only [bq] at h);simp only [↓h,go_sem];rfl);(· intro h;(try simp only [bq] at h);simp only [↓h,go_sem];rfl);simp only [go_sem])
   | (apply cL E';(· simp only [go_sem]);(· rfl);(· intro h h';(try simp only [bq] at h h');simp only [↓h,↓h',go_sem];rfl);simp only [go_sem])
   | (apply bG E';(· simp only [go_sem]);(· rfl);(· intro h h';(try simp only [bq] at h h');simp only [↓h,↓h',go_sem];rfl);(· intro h h';(try simp only [bq] at h h');simp only [↓h,↓h',go_sem];rfl);simp only [go_sem])
   | (apply eU E';(· decide);simp only [go_sem]))
  refine aI E' (fun g2=>?_) (fun g2=>?_)<;>simp only [go_sem]
  ·rw [hQ]
   simp only [go_sem]
   have g3:inB i K[q]=false:=by
    rw [Bool.eq_false_iff]
    intro hc
    simp only [inB,Bool.and_eq_true,decide_eq_true_eq] at hc
    simp only [Bool.or_eq_true,decide_eq_true_eq] at g2
    omega
   have ha:K.all (inB i)=false:=List.all_eq_false.2 ⟨_,List.getElem_mem hq',by rw [g3];decide⟩
   refine ⟨_,_,[100],id,⟨bumps cs (K.take q),by rw [ft,hc],fun h=>by (rw [ha,Bool.false_and] at h;cases h),rfl,rfl⟩,?_⟩
   simp only [go_sem]
   rw [ha]
   rfl
  ·have g3:0≤K[q]∧K[q]<(i:Int):=by
    simp only [Bool.or_eq_false_iff,decide_eq_false_iff_not] at g2
    omega
   have g4:inB i K[q]=true:=by simp only [inB,decide_eq_true g3.1,decide_eq_true g3.2,Bool.and_self]
   have hbl:=ft (K.take q) cs
   have hbd:=(hM.bumps (ks:=K.take q)).get K[q].toNat
   have htl:(K.take q).length≤1000003:=by rw [List.length_take];omega
   refine ⟨⟨by omega,by omega⟩,?_⟩
   rw [bI (by omega)]
   simp only [go_sem]
   refine ⟨⟨by omega,by omega⟩,?_⟩
   rw [ao (n:=(bumps cs (K.take q)).getD K[q].toNat 0+1) ⟨by omega,by omega⟩,ao (n:=(q:Int)+1) ⟨by omega,by omega⟩]
   rw [show (List.map i64 (bumps cs (K.take q))).set K[q].toNat (.int .i64 ((bumps cs (K.take q)).getD K[q].toNat 0+1))=(bumps cs (K.take (q+1))).map i64 by
    rw [List.take_succ_eq_append_getElem hq',tO];unfold bump;rw [List.map_set]]
   rw [hQ]
   simp only [go_sem]
   refine ⟨⟨q+1,by omega,by rw [List.take_succ_eq_append_getElem hq',List.all_append,hall];simpa using g4⟩,by show K.length-(q+1)<_;omega,?_⟩
   first | rfl | exact ⟨rfl,rfl⟩
 ·rw [hQ]
  have h3:q=K.length:=by omega
  subst h3
  rw [List.take_length] at *
  simp only [go_sem]
  refine ah mixed E fun X=>?_
  simp only [go_sem]
  refine ⟨⟨by omega,by omega⟩,?_⟩
  rw [hg]
  simp only [go_sem]
  refine E7 X (fun g1=>?_) (fun g1=>?_)<;>simp only [go_sem]
  ·refine ⟨by decide +kernel,?_⟩
   refine ⟨_,_,[100],id,⟨bumps cs K,by rw [ft,hc],fun _=>rfl,rfl,rfl⟩,?_⟩
   simp only [go_sem]
   rw [hall,decide_eq_true (show n.k≠8 from g1)]
   rfl
  ·have h8:n.k=8:=by omega
   have hka:K=[n.a,n.b]:=by rw [hK];unfold ak;rw [h8];rfl
   have ha:0≤n.a∧n.a<(i:Int):=by
    rw [hka] at hall
    simp only [List.all_cons,inB,Bool.and_eq_true,decide_eq_true_eq] at hall
    exact hall.1
   rw [j4]
   simp only [go_sem]
   refine ⟨⟨by omega,by omega⟩,?_⟩
   rw [hg]
   simp only [go_sem]
   refine ⟨⟨by omega,by omega⟩,?_⟩
   rw [bF (show n.a.toNat<ns.length by omega)]
   simp only [go_sem]
   refine ⟨by decide +kernel,?_⟩
   refine ⟨_,_,[100],id,⟨bumps cs K,by rw [ft,hc],fun _=>rfl,rfl,rfl⟩,?_⟩
   simp only [go_sem]
   rw [hall,decide_eq_false g1]
   rfl
end Go.Proofs.YtejpnabbmgpmaaaGreat

