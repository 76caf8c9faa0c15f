/-
  Whether a tree may be, in plain words. (with the parts that follow it)
-/
import Derived.Test.YtejpnabbmgpmaaaGreatDoorVAE
import Derived.Test.YtejpnabbmgpmaaaGreatDoorVAD
import Derived.Test.YtejpnabbmgpmaaaGreatDoorVAC
import Derived.Laws.CopyRow
import Derived.Laws.IdiomCopy
import Derived.Lib.Builder
import Derived.LaidEqlPtr
import Derived.Laws.Pointers
import Derived.Laws.Externs
import Derived.Lib.UnsafeStr
import Derived.Lib.ItoaLen
set_option linter.all false
namespace Go.Proofs.YtejpnabbmgpmaaaGreatDoor
open Go.Ab
def ej (n:EN):Bool:=if n.k=4∨n.k=5∨n.k=7∨n.k=8∨n.k=12 then aM n.name else if n.k=13 then dY n.name else n.name.isEmpty
def bS (n:EN):Bool :=
 if n.k=1 then n.s.isEmpty else if n.k=2 then (decide (n.n=0) || decide (n.n=1)) && n.s.isEmpty else if n.k=10 then decide (1≤n.n) && decide (n.n≤7) && n.s.isEmpty
 else if n.k=3 then decide (n.n=0) && decide (n.s.length≤200) else decide (n.n=0) && n.s.isEmpty
def cW (k:Int) (f:EF):Bool:=if k=11 then aM f.nm && f.var.isEmpty else dY f.nm && aM f.var
def bd (n:EN):Bool :=
 if aJ n.k then (n.l.all (cW n.k)) && (decide ((if n.k=14 then 1 else 0)≤n.l.length) && decide (n.l.length≤30) && decide ((n.l.map (·.nm)).Nodup)) else n.l.isEmpty
def dX (n:EN):Bool:=([n.a,n.b,n.c].drop (aY n.k)).all fun x=>decide (x=0)
def aH (n:EN):Bool:=decide (1≤n.k) && decide (n.k≤14) && decide (0≤n.pos) && decide (n.pos≤1048576) && (ej n && bS n && bd n && dX n)
def cA (ns:List EN) (i:Nat):Bool:=((an (ndE ns i)).all fun k=>decide (0≤k) && decide (k<(i:Int))) && (decide ((ndE ns i).k≠8) || decide ((ndE ns (ndE ns i).a.toNat).k=5))
def GX (ns:List EN) (k:Nat):Nat:=(ns.flatMap an).countP fun x=>decide (x=(k:Int))
def uu (d:List Int) (n:EN):Int:=(an n).foldl (fun m k=>max m (d.getD k.toNat 0)) 0+1
def eA:List EN→List Int→List Int
 | [],d=>d
 | n::r,d=>eA r (d++[uu d n])
def qP (ns:List EN):Int:=(eA ns []).getD (ns.length-1) 0
def okE (ns:List EN):Bool:=(List.range ns.length).all fun i=>aH (ndE ns i) && cA ns i
def kW (ns:List EN):Bool:=(List.range (ns.length-1)).all fun k=>decide (GX ns k=1)
def eX (ns:List EN):Int:=if ns.length=0∨600<ns.length then 8 else if okE ns && kW ns then (if 100<qP ns then 6 else 0) else 4
end Go.Proofs.YtejpnabbmgpmaaaGreatDoor

namespace Go.Proofs.YtejpnabbmgpmaaaGreatDoor
open Go.Ab
theorem HS:w7 Tryz.prog 4=some (.bool false):=by kernel_rfl
theorem oF {κ:Type} [DecidableEq κ] (a b:κ) (d:D):∀ ms:List (κ × D),mlook (mset ms a d) b=if a=b then some d else mlook ms b
 | []=>rfl
 | q::r=>by
   simp only [mset]
   split
   ·rename_i e
    simp only [mlook]
    rw [e]
    split<;>rfl
   ·rename_i e
    simp only [mlook,oF a b d r]
    split
    ·rename_i e2
     rw [if_neg (fun e3=>e (e2.trans e3.symm))]
    ·rfl
def setOf (l:List (List UInt8)):List (List UInt8 × D):=l.foldl (fun ms u=>mset ms u (.bool true)) []
theorem setOf_snoc (l:List (List UInt8)) (u:List UInt8):setOf (l++[u])=mset (setOf l) u (.bool true):=by simp [setOf]
theorem zk (l:List (List UInt8)) (u:List UInt8):(mlook (setOf l) u).getD (.bool false)=.bool (decide (u∈l)):=by
 suffices h:∀ l:List (List UInt8),mlook (setOf l) u=if u∈l then some (.bool true) else none by
  rw [h];split<;>simp_all
 intro l
 induction hl:l.length generalizing l with
 | zero=>have:l=[]:=List.length_eq_zero_iff.1 hl;subst this;rfl
 | succ n ih =>
   have hne:l≠[]:=by intro e;rw [e] at hl;simp at hl
   obtain ⟨r,x,rfl⟩:∃ r x,l=r++[x]:=⟨l.dropLast,l.getLast hne,(List.dropLast_concat_getLast hne).symm⟩
   rw [setOf_snoc,oF,ih r (by simpa using hl)]
   by_cases h1:x=u
   ·subst h1;simp
   ·rw [if_neg h1]
    simp [Ne.symm h1]
def twice (l:List (List UInt8)):Bool:=!decide l.Nodup
theorem w8 {l:List (List UInt8)} {i:Nat} (hi:i<l.length) (h:(l.take i).Nodup) (h2:l.getD i [] ∉ l.take i):(l.take (i+1)).Nodup:=by
 have e:l.getD i []=l[i]:=by simp [hi]
 rw [e] at h2
 rw [List.take_succ_eq_append_getElem hi,List.nodup_append]
 exact ⟨h,by simp,fun x hx y hy=>by rw [List.mem_singleton.1 hy];rintro rfl;exact h2 hx⟩
theorem Cy {l:List (List UInt8)} {i:Nat} (hi:i<l.length) (h2:l.getD i []∈l.take i):twice l=true:=by
 have e:l.getD i []=l[i]:=by simp [hi]
 rw [e] at h2
 have:¬ l.Nodup:=fun hn=>by
  have hs:(l.take (i+1)).Nodup:=hn.sublist (List.take_sublist _ _)
  rw [List.take_succ_eq_append_getElem hi,List.nodup_append] at hs
  exact hs.2.2 _ h2 _ (by simp) rfl
 simp [twice,this]
theorem uZ {G} (l:List (List UInt8)) (hl:l.length≤1000000):HP Tryz.prog G 46 [strs l] (fun r=>r=.d (.bool (twice l))):=by
 refine aj Tryz.func46 rfl (by decide +kernel) (by simp [Tryz.ntmps46]) (veil fun E=>?_)
 unfold strs
 simp only [go_sem]
 refine xX E (by simp) (by simp [aa]) ?_
 simp only [go_sem]
 refine cI E (X:={ i:Nat // i≤l.length∧(l.take i).Nodup }) (fun x=>[(3,.mp [6]),(7,.d (.sl none (l.map .str))),(8,.d (i64 l.length)),(9,.d (i64 x.1))]) (fun x=>[([6],.map (menc D.str (setOf (l.take x.1))))]) [6] (fun x=>l.length-x.1) ⟨0,by simp⟩ ?_ ?_
 ·simp only [go_sem]
  all_goals rfl
 rintro ⟨i,hi,hn⟩ E'
 simp only [go_sem]
 refine ah E' (fun h1=>?_) (fun h1=>?_)<;>simp only [go_sem]
 ·have hi':i<l.length:=by omega
  refine ⟨⟨by omega,by omega⟩,?_⟩
  rw [fe hi']
  simp only [go_sem]
  refine zP E' [6] (setOf (l.take i)) (l.getD i []) (.bool false) (by rw [Ay]) (Ar (by rw [ti9])) HS rfl rfl rfl (by simp) ?_
  simp only [go_sem]
  rw [zk]
  refine ah E' (fun h2=>?_) (fun h2=>?_)<;>simp only [go_sem]
  ·rw [Cy hi' h2]
  refine sX E' [6] (setOf (l.take i)) (l.getD i []) (.bool true) (by rw [Ay]) (Ar (by rw [ti9])) rfl rfl rfl rfl rfl ?_
  simp only [go_sem]
  refine ⟨⟨i+1,by omega,w8 hi' hn h2⟩,by show l.length-(i+1)<_;omega,by rw [ai ⟨by omega,by omega⟩];rfl,?_⟩
  rw [List.take_succ_eq_append_getElem hi',setOf_snoc]
  simp [hi']
 ·have hil:i=l.length:=by omega
  subst hil
  rw [List.take_length] at hn
  simp [twice,hn]
structure eu (B:Nat) (n:EN):Prop where
 nm:n.name.length≤B
 s:n.s.length≤B
 l:n.l.length≤1000000
 f:∀ f∈n.l,f.nm.length≤B∧f.var.length≤B
abbrev BIG:Nat:=9223372036854775807
theorem jh (l:List UInt8):(l == [])=l.isEmpty:=by cases l<;>rfl
theorem D9 {G} (n:EN) (h:eu BIG n):HP Tryz.prog G 102 [enD n] (fun r=>r=.d (.bool (ej n))):=by
 generalize hb:ej n=b
 unfold ej at hb
 have c1:=qN (G:=G) n.name h.nm
 have c2:=vr (G:=G) n.name h.nm
 generalize aM n.name=x at c1 hb
 generalize dY n.name=y at c2 hb
 unfold enD efD
 refine aj Tryz.func102 rfl (by decide +kernel) (by simp [Tryz.ntmps102]) (veil fun E=>?_)
 simp only [go_sem]
 refine ah E (fun h4=>?_) (fun h4=>?_)<;>simp only [go_sem]
 ·rw [decide_eq_true h4]
  try simp only [go_sem]
  refine ab E (c1) rfl rfl (by simp) ?_
  rintro _ rfl
  simp only [go_sem]
  subst hb
  rw [if_pos (by omega)]
 refine ah E (fun h5=>?_) (fun h5=>?_)<;>simp only [go_sem]
 ·rw [decide_eq_true h5]
  try simp only [go_sem]
  refine ab E (c1) rfl rfl (by simp) ?_
  rintro _ rfl
  simp only [go_sem]
  subst hb
  rw [if_pos (by omega)]
 refine ah E (fun h7=>?_) (fun h7=>?_)<;>simp only [go_sem]
 ·rw [decide_eq_true h7]
  try simp only [go_sem]
  refine ab E (c1) rfl rfl (by simp) ?_
  rintro _ rfl
  simp only [go_sem]
  subst hb
  rw [if_pos (by omega)]
 refine ah E (fun h8=>?_) (fun h8=>?_)<;>simp only [go_sem]
 ·rw [decide_eq_true h8]
  try simp only [go_sem]
  refine ab E (c1) rfl rfl (by simp) ?_
  rintro _ rfl
  simp only [go_sem]
  subst hb
  rw [if_pos (by omega)]
 refine ah E (fun h12=>?_) (fun h12=>?_)<;>simp only [go_sem]
 ·try simp only [go_sem]
  refine ab E (c1) rfl rfl (by simp) ?_
  rintro _ rfl
  simp only [go_sem]
  subst hb
  rw [if_pos (by omega)]
 refine ah E (fun h13=>?_) (fun h13=>?_)<;>simp only [go_sem]
 ·refine ab E (c2) rfl rfl (by simp) ?_
  rintro _ rfl
  simp only [go_sem]
  subst hb
  rw [if_neg (by omega),if_pos h13]
 ·subst hb
  rw [if_neg (by omega),if_neg h13,jh]
theorem DU {G} (k:Int) (f:EF) (h1:f.nm.length≤BIG) (h2:f.var.length≤BIG):HP Tryz.prog G 133 [i64 k,fD f] (fun r=>r=.d (.bool (cW k f))):=by
 generalize hb:cW k f=b
 unfold cW at hb
 have c1:=qN (G:=G) f.nm h1
 have c2:=vr (G:=G) f.nm h1
 have c3:=qN (G:=G) f.var h2
 generalize aM f.nm=x at c1 hb
 generalize dY f.nm=y at c2 hb
 generalize aM f.var=z at c3 hb
 unfold fD
 refine aj Tryz.func133 rfl (by decide +kernel) (by simp [Tryz.ntmps133]) (veil fun E=>?_)
 simp only [go_sem]
 refine ah E (fun h=>?_) (fun h=>?_)<;>simp only [go_sem]
 ·refine ab E (c1) rfl rfl (by simp) ?_
  rintro _ rfl
  simp only [go_sem]
  repeat (first
   | (apply br E;(· simp only [go_sem]);(· intro h;(try simp only [bq] at h);simp only [↓h,go_sem];rfl);simp only [go_sem])
   | (apply aK E;(· simp only [go_sem]);(· intro h;(try simp only [bq] at h);simp only [↓h,go_sem];rfl);(· intro h;(try simp only [bq] at h);simp only [↓h,go_sem];rfl);simp only [go_sem])
   | (apply aI E;(· simp only [go_sem]);(· rfl);(· intro h h';(try simp only [bq] at h h');simp only [↓h,↓h',go_sem];rfl);simp only [go_sem])
   | (apply aw E;(· simp only [go_sem]);(· rfl);(· intro h h';(try simp only [bq] at h h');simp only [↓h,↓h',go_sem];rfl);(· intro h h';(try simp only [bq] at h h');simp only [↓h,↓h',go_sem];rfl);simp only [go_sem])
   | (apply bo E;(· decide);simp only [go_sem]))
  rw [if_pos h,← jh] at hb
  rw [hb]
 ·refine ab E (c2) rfl rfl (by simp) ?_
  rintro _ rfl
  simp only [go_sem]
  repeat (first
   | (apply br E;(· simp only [go_sem]);(· intro h;(try simp only [bq] at h);simp only [↓h,go_sem];rfl);simp only [go_sem])
   | (apply aK E;(· simp only [go_sem]);(· intro h;(try simp only [bq] at h);simp only [↓h,go_sem];rfl);(· intro h;(try simp only [bq] at h);simp only [↓h,go_sem];rfl);simp only [go_sem])
   | (apply aI E;(· simp only [go_sem]);(· rfl);(· intro h h';(try simp only [bq] at h h');simp only [↓h,↓h',go_sem];rfl);simp only [go_sem])
   | (apply aw E;(· simp only [go_sem]);(· rfl);(· intro h h';(try simp only [bq] at h h');simp only [↓h,↓h',go_sem];rfl);(· intro h h';(try simp only [bq] at h h');simp only [↓h,↓h',go_sem];rfl);simp only [go_sem])
   | (apply bo E;(· decide);simp only [go_sem]))
  (first | (apply gw E;(· simp only [go_sem]);(· intro h hk;(try simp only [bq] at h);refine ab E (c3) rfl (by simp only [↓h,go_sem]<;>rfl) (by simp) ?_;rintro _ rfl;exact hk);simp only [go_sem]) | (apply eD E;(· simp only [go_sem]);(· rfl);(· intro h h' hk;(try simp only [bq] at h h');refine ab E (c3) rfl (by simp only [↓h,↓h',go_sem]<;>rfl) (by simp) ?_;rintro _ rfl;exact hk);simp only [go_sem]))
  repeat (first
   | (apply br E;(· simp only [go_sem]);(· intro h;(try simp only [bq] at h);simp only [↓h,go_sem];rfl);simp only [go_sem])
   | (apply aK E;(· simp only [go_sem]);(· intro h;(try simp only [bq] at h);simp only [↓h,go_sem];rfl);(· intro h;(try simp only [bq] at h);simp only [↓h,go_sem];rfl);simp only [go_sem])
   | (apply aI E;(· simp only [go_sem]);(· rfl);(· intro h h';(try simp only [bq] at h h');simp only [↓h,↓h',go_sem];rfl);simp only [go_sem])
   | (apply aw E;(· simp only [go_sem]);(· rfl);(· intro h h';(try simp only [bq] at h h');simp only [↓h,↓h',go_sem];rfl);(· intro h h';(try simp only [bq] at h h');simp only [↓h,↓h',go_sem];rfl);simp only [go_sem])
   | (apply bo E;(· decide);simp only [go_sem]))
  rw [if_neg h] at hb
  rw [hb]
theorem CM {G} (n:EN):HP Tryz.prog G 103 [enD n] (fun r=>r=.d (.bool (bS n))):=by
 generalize hb:bS n=b
 unfold bS at hb
 simp only [← jh] at hb
 unfold enD efD
 refine aj Tryz.func103 rfl (by decide +kernel) (by simp [Tryz.ntmps103]) (veil fun E=>?_)
 simp only [go_sem]
 refine ah E (fun h1=>?_) (fun h1=>?_)<;>simp only [go_sem]
 ·rw [if_pos h1] at hb
  rw [hb]
 rw [if_neg h1] at hb
 refine ah E (fun h2=>?_) (fun h2=>?_)<;>simp only [go_sem]
 ·rw [if_pos h2] at hb
  repeat (first
   | (apply br E;(· simp only [go_sem]);(· intro h;(try simp only [bq] at h);simp only [↓h,go_sem];rfl);simp only [go_sem])
   | (apply aK E;(· simp only [go_sem]);(· intro h;(try simp only [bq] at h);simp only [↓h,go_sem];rfl);(· intro h;(try simp only [bq] at h);simp only [↓h,go_sem];rfl);simp only [go_sem])
   | (apply aI E;(· simp only [go_sem]);(· rfl);(· intro h h';(try simp only [bq] at h h');simp only [↓h,↓h',go_sem];rfl);simp only [go_sem])
   | (apply aw E;(· simp only [go_sem]);(· rfl);(· intro h h';(try simp only [bq] at h h');simp only [↓h,↓h',go_sem];rfl);(· intro h h';(try simp only [bq] at h h');simp only [↓h,↓h',go_sem];rfl);simp only [go_sem])
   | (apply bo E;(· decide);simp only [go_sem]))
  rw [hb]
 rw [if_neg h2] at hb
 refine ah E (fun h3=>?_) (fun h3=>?_)<;>simp only [go_sem]
 ·rw [if_pos h3] at hb
  repeat (first
   | (apply br E;(· simp only [go_sem]);(· intro h;(try simp only [bq] at h);simp only [↓h,go_sem];rfl);simp only [go_sem])
   | (apply aK E;(· simp only [go_sem]);(· intro h;(try simp only [bq] at h);simp only [↓h,go_sem];rfl);(· intro h;(try simp only [bq] at h);simp only [↓h,go_sem];rfl);simp only [go_sem])
   | (apply aI E;(· simp only [go_sem]);(· rfl);(· intro h h';(try simp only [bq] at h h');simp only [↓h,↓h',go_sem];rfl);simp only [go_sem])
   | (apply aw E;(· simp only [go_sem]);(· rfl);(· intro h h';(try simp only [bq] at h h');simp only [↓h,↓h',go_sem];rfl);(· intro h h';(try simp only [bq] at h h');simp only [↓h,↓h',go_sem];rfl);simp only [go_sem])
   | (apply bo E;(· decide);simp only [go_sem]))
  rw [hb]
 rw [if_neg h3] at hb
 refine ah E (fun h4=>?_) (fun h4=>?_)<;>simp only [go_sem]
 ·rw [if_pos h4] at hb
  repeat (first
   | (apply br E;(· simp only [go_sem]);(· intro h;(try simp only [bq] at h);simp only [↓h,go_sem];rfl);simp only [go_sem])
   | (apply aK E;(· simp only [go_sem]);(· intro h;(try simp only [bq] at h);simp only [↓h,go_sem];rfl);(· intro h;(try simp only [bq] at h);simp only [↓h,go_sem];rfl);simp only [go_sem])
   | (apply aI E;(· simp only [go_sem]);(· rfl);(· intro h h';(try simp only [bq] at h h');simp only [↓h,↓h',go_sem];rfl);simp only [go_sem])
   | (apply aw E;(· simp only [go_sem]);(· rfl);(· intro h h';(try simp only [bq] at h h');simp only [↓h,↓h',go_sem];rfl);(· intro h h';(try simp only [bq] at h h');simp only [↓h,↓h',go_sem];rfl);simp only [go_sem])
   | (apply bo E;(· decide);simp only [go_sem]))
  rw [← hb,show decide ((n.s.length:Int)≤200)=decide (n.s.length≤200) from decide_eq_decide.2 (by omega)]
 rw [if_neg h4] at hb
 repeat (first
  | (apply br E;(· simp only [go_sem]);(· intro h;(try simp only [bq] at h);simp only [↓h,go_sem];rfl);simp only [go_sem])
  | (apply aK E;(· simp only [go_sem]);(· intro h;(try simp only [bq] at h);simp only [↓h,go_sem];rfl);(· intro h;(try simp only [bq] at h);simp only [↓h,go_sem];rfl);simp only [go_sem])
  | (apply aI E;(· simp only [go_sem]);(· rfl);(· intro h h';(try simp only [bq] at h h');simp only [↓h,↓h',go_sem];rfl);simp only [go_sem])
  | (apply aw E;(· simp only [go_sem]);(· rfl);(· intro h h';(try simp only [bq] at h h');simp only [↓h,↓h',go_sem];rfl);(· intro h h';(try simp only [bq] at h h');simp only [↓h,↓h',go_sem];rfl);simp only [go_sem])
  | (apply bo E;(· decide);simp only [go_sem]))
 rw [hb]
theorem pg {p:EF→Bool} {l:List EF} {i:Nat} (h:i<l.length) (ha:(l.take i).all p=true) (hb:p l[i]=true):(l.take (i+1)).all p=true:=by
 rw [List.take_succ_eq_append_getElem h,List.all_append,ha]
 simp [hb]
theorem pM {l:List EF} {i:Nat} (h:i<l.length):(l.map fD).getD i .nilp=.agg [.str l[i].nm,.str l[i].var,i64 l[i].to]:=by simp [h,fD]
theorem len_nil (l:List EF):decide ((l.length:Int)=0)=l.isEmpty:=by cases l<;>simp<;>omega
theorem DW {G} (n:EN) (h:eu BIG n):HP Tryz.prog G 104 [enD n] (fun r=>r=.d (.bool (bd n))):=by
 generalize hb:bd n=b
 unfold bd at hb
 have hl:=h.l
 unfold enD efD
 refine aj Tryz.func104 rfl (by decide +kernel) (by simp [Tryz.ntmps104]) (veil fun E=>?_)
 simp only [go_sem]
 refine ab E (lO n.k) rfl rfl (by simp) ?_
 rintro _ rfl
 simp only [go_sem]
 refine aG E (fun h1=>?_) (fun h1=>?_)<;>simp only [go_sem]
 ·rw [if_neg (by simpa using h1),← len_nil] at hb
  rw [hb]
 rw [if_pos (by simpa using h1)] at hb
 refine qy E 3 98 none rfl (by rw [aa];decide) ?_
 simp only [go_sem]
 refine aC E (X:={ i:Nat // i≤n.l.length∧(n.l.take i).all (cW n.k)=true }) (fun x=>[(1,.bx [1] 0),(3,.vw [98] 0 x.1),(17,.d (.sl (some 3) (n.l.map fD))),(18,.d (i64 n.l.length)),(19,.d (i64 x.1))])
  (fun x=>[([1],.box [.d (i64 n.k),.d (i64 n.a),.d (i64 n.b),.d (i64 n.c),.d (i64 n.n),.d (.str n.name),.d (.str n.s),.d (.sl (some 3) (n.l.map fD)),.d (i64 n.pos)]),([98],.arr none ((n.l.take x.1).map fun f=>.str f.nm))]) [1,98] (fun x=>n.l.length-x.1) ⟨0,by simp⟩ id ?_ ?_
 ·simp only [go_sem]
  all_goals rfl
 rintro ⟨i,hi,hall⟩ E0
 refine aO E0 fun Q' hQ E'=>?_
 simp only at hi hall ⊢
 simp only [go_sem]
 refine ah E' (fun g1=>?_) (fun g1=>?_)<;>simp only [go_sem]
 ·have hi':i<n.l.length:=by omega
  refine ⟨⟨by omega,by omega⟩,?_⟩
  rw [pM hi']
  simp only [go_sem]
  obtain ⟨q1,q2⟩:=h.f _ (List.getElem_mem hi')
  refine ab E' (DU n.k n.l[i] q1 q2) rfl rfl (by simp) ?_
  rintro _ rfl
  simp only [go_sem]
  refine aG E' (fun g2=>?_) (fun g2=>?_)<;>simp only [go_sem]
  ·rw [hQ]
   simp only [go_sem]
   have g2':cW n.k n.l[i]=false:=by simpa using g2
   have:n.l.all (cW n.k)=false:=List.all_eq_false.2 ⟨_,List.getElem_mem hi',by rw [g2'];decide⟩
   rw [← hb,this]
   rfl
  ·have g2':cW n.k n.l[i]=true:=by simpa using g2
   refine ⟨by omega,?_⟩
   rw [hQ]
   simp only [go_sem]
   refine ⟨⟨i+1,by omega,pg hi' hall g2'⟩,by show n.l.length-(i+1)<_;omega,tau [([98],[32])],?_⟩
   rw [ai ⟨by omega,by omega⟩]
   rw [show List.take i (List.map (fun f:EF=>D.str f.nm) (List.take i n.l))++[.str n.l[i].nm]=(n.l.take (i+1)).map fun f=>.str f.nm by
    rw [List.take_of_length_le (by simp;omega),List.take_succ_eq_append_getElem hi',List.map_append];rfl]
   simp only [go_sem]
   all_goals rfl
 ·rw [hQ]
  have h3:i=n.l.length:=by omega
  subst h3
  rw [List.take_length] at *
  rw [hall,Bool.true_and] at hb
  simp only [go_sem]
  refine ah E (fun k1=>?_) (fun k1=>?_)<;>simp only [go_sem]
  ·rw [if_pos k1] at hb
   refine ar E (fun k2=>?_) (fun k2=>?_)<;>simp only [go_sem]
   ·refine ar E (fun k3=>?_) (fun k3=>?_)<;>simp only [go_sem]
    ·have ht:=uZ (G:=G) (n.l.map (·.nm)) (by rw [List.length_map];exact hl)
     unfold strs at ht
     rw [List.map_map,show (D.str ∘ fun f:EF=>f.nm)=fun f=>D.str f.nm from rfl] at ht
     rw [fV]
     simp only [go_sem]
     refine lM E [([98],none,n.l.map fun f=>.str f.nm)] ht (by rintro _ rfl;rfl) (by simp only [go_sem]) rfl (by simp only [go_sem]) (by simp) ?_
     rintro _ rfl
     simp only [go_sem]
     rw [← hb,decide_eq_true (by omega),decide_eq_true (by omega)]
     simp [twice]
    ·rw [← hb,decide_eq_false (p:=n.l.length≤30) (by omega),Bool.and_false,Bool.false_and]
   ·rw [← hb,decide_eq_false (by omega),Bool.false_and,Bool.false_and]
  ·rw [if_neg k1] at hb
   refine ar E (fun k2=>?_) (fun k2=>?_)<;>simp only [go_sem]
   ·refine ar E (fun k3=>?_) (fun k3=>?_)<;>simp only [go_sem]
    ·have ht:=uZ (G:=G) (n.l.map (·.nm)) (by rw [List.length_map];exact hl)
     unfold strs at ht
     rw [List.map_map,show (D.str ∘ fun f:EF=>f.nm)=fun f=>D.str f.nm from rfl] at ht
     rw [fV]
     simp only [go_sem]
     refine lM E [([98],none,n.l.map fun f=>.str f.nm)] ht (by rintro _ rfl;rfl) (by simp only [go_sem]) rfl (by simp only [go_sem]) (by simp) ?_
     rintro _ rfl
     simp only [go_sem]
     rw [← hb,decide_eq_true (by omega),decide_eq_true (by omega)]
     simp [twice]
    ·rw [← hb,decide_eq_false (p:=n.l.length≤30) (by omega),Bool.and_false,Bool.false_and]
   ·rw [← hb,decide_eq_false (by omega),Bool.false_and,Bool.false_and]
end Go.Proofs.YtejpnabbmgpmaaaGreatDoor

namespace Go.Proofs.YtejpnabbmgpmaaaGreatDoor
open Go.Ab
theorem pS {G} (c:UInt8):HP Tryz.prog G 92 [u8 c] (fun r=>r=.d (.bool (sm c))):=by
 refine aj Tryz.func92 rfl (by decide +kernel) (by simp [Tryz.ntmps92]) (veil fun E=>?_)
 unfold u8
 simp only [go_sem]
 refine ar E (fun h1=>?_) (fun h1=>?_)<;>simp only [go_sem]
 ·refine ar E (fun h2=>?_) (fun h2=>?_)<;>simp only [go_sem]
  ·simp [sm,smZ,h1,h2]
  ·simp [sm,smZ,h1,h2]
 ·simp [sm,smZ,h1]
theorem pZ {G} (c:UInt8):HP Tryz.prog G 91 [u8 c] (fun r=>r=.d (.bool (gr c))):=by
 refine aj Tryz.func91 rfl (by decide +kernel) (by simp [Tryz.ntmps91]) (veil fun E=>?_)
 unfold u8
 simp only [go_sem]
 refine ar E (fun h1=>?_) (fun h1=>?_)<;>simp only [go_sem]
 ·simp [gr,grZ,h1]
 ·simp [gr,grZ,h1]
theorem Bq {G} (l:List UInt8) (hl:l.length≤9223372036854775807):HP Tryz.prog G 90 [.str l] (fun r=>r=.d (i64 (bm l))):=by
 refine aj Tryz.func90 rfl (by decide +kernel) (by simp [Tryz.ntmps90]) (veil fun E=>?_)
 simp only [go_sem]
 refine ar E (fun h0=>?_) (fun h0=>?_)<;>simp only [go_sem]
 ·have:l=[]:=List.length_eq_zero_iff.1 (by omega)
  subst this;rfl
 have h0:1≤l.length:=by omega
 refine ⟨by omega,?_⟩
 refine ab E (pS (l.getD 0 0)) rfl rfl (by simp) ?_
 rintro _ rfl
 simp only [go_sem]
 refine bz E (fun h1=>?_) (fun h1=>?_)<;>simp only [go_sem]
 ·have h1:sm (l.getD 0 0)=false:=by simpa using h1
  refine ⟨by omega,?_⟩
  refine ab E (pZ (l.getD 0 0)) rfl rfl (by simp) ?_
  rintro _ rfl
  simp only [go_sem]
  refine aG E (fun h2=>?_) (fun h2=>?_)<;>simp only [go_sem]
  ·have h2:gr (l.getD 0 0)=false:=by simpa using h2
   rw [ct h0,h1,h2];rfl
  ·have h2:gr (l.getD 0 0)=true:=by simpa using h2
   have hsg:(sm (l.getD 0 0) || gr (l.getD 0 0))=true:=by rw [h2,Bool.or_true]
   refine dp E (X:={ i:Nat // i≤l.length∧i+wlen (l.drop i)=wlen (l.drop 1)+1 }) (fun x=>[(0,.d (.str l)),(3,.d (i64 x.1))]) (fun x=>l.length-x.1) rfl ⟨1,h0,by omega⟩ ?_ ?_
   ·simp only [go_sem]
    all_goals rfl
   rintro ⟨i,hi,hw⟩ E'
   simp only [go_sem]
   have hn:bm l=wlen (l.drop 1)+1:=by rw [ct h0,hsg,if_pos rfl]
   refine ar E' (fun h3=>?_) (fun h3=>?_)<;>simp only [go_sem]
   ·have hi':i<l.length:=by omega
    have hwd:=iu hi'
    have yes:mo (l.getD i 0)=true→∃ y:{ i:Nat // i≤l.length∧i+wlen (l.drop i)=wlen (l.drop 1)+1 },l.length-y.1<l.length-i∧AV.d (.int .i64 (w64 ((i:Int)+1)))=AV.d (i64 y.1):=fun h4=>by
     rw [h4,if_pos rfl] at hwd
     refine ⟨⟨i+1,by omega,by omega⟩,by show l.length-(i+1)<_;omega,?_⟩
     rw [ai ⟨by omega,by omega⟩];rfl
    have no:mo (l.getD i 0)=false→AV.d (i64 (i:Int))=AV.d (i64 (bm l:Nat)):=fun h4=>by
     rw [h4,if_neg (by simp)] at hwd
     rw [hn]
     exact congrArg (fun n:Nat=>AV.d (i64 (n:Int))) (by omega)
    refine ⟨⟨by omega,by omega⟩,?_⟩
    refine ab E' (pS (l.getD i 0)) rfl rfl (by simp) ?_
    rintro _ rfl
    simp only [go_sem]
    refine bz E' (fun h4=>?_) (fun h4=>?_)<;>simp only [go_sem]
    ·exact yes (by simp only [mo,h4,Bool.true_or])
    refine ⟨⟨by omega,by omega⟩,?_⟩
    refine ab E' (pZ (l.getD i 0)) rfl rfl (by simp) ?_
    rintro _ rfl
    simp only [go_sem]
    refine bz E' (fun h5=>?_) (fun h5=>?_)<;>simp only [go_sem]
    ·exact yes (by simp only [mo,h5,Bool.or_true,Bool.true_or])
    refine ⟨⟨by omega,by omega⟩,?_⟩
    refine ar E' (fun h6=>?_) (fun h6=>?_)<;>simp only [go_sem]
    ·refine ⟨⟨by omega,by omega⟩,?_⟩
     refine ah E' (fun h7=>?_) (fun h7=>?_)<;>simp only [go_sem]
     ·exact yes (by simp only [mo,h4,h5,diZ];rw [decide_eq_true h6,decide_eq_true h7];rfl)
     ·exact no (by simp only [mo,h4,h5,diZ];rw [decide_eq_false h7];simp)
    ·exact no (by simp only [mo,h4,h5,diZ];rw [decide_eq_false h6];simp)
   ·have hil:i=l.length:=by omega
    subst hil
    rw [jP] at hw
    rw [hn]
    exact congrArg (fun n:Nat=>AV.d (i64 (n:Int))) (by omega)
 ·have h1:sm (l.getD 0 0)=true:=by simpa using h1
  have hsg:(sm (l.getD 0 0) || gr (l.getD 0 0))=true:=by rw [h1,Bool.true_or]
  refine dp E (X:={ i:Nat // i≤l.length∧i+wlen (l.drop i)=wlen (l.drop 1)+1 }) (fun x=>[(0,.d (.str l)),(3,.d (i64 x.1))]) (fun x=>l.length-x.1) rfl ⟨1,h0,by omega⟩ ?_ ?_
  ·simp only [go_sem]
   all_goals rfl
  rintro ⟨i,hi,hw⟩ E'
  simp only [go_sem]
  have hn:bm l=wlen (l.drop 1)+1:=by rw [ct h0,hsg,if_pos rfl]
  refine ar E' (fun h3=>?_) (fun h3=>?_)<;>simp only [go_sem]
  ·have hi':i<l.length:=by omega
   have hwd:=iu hi'
   have yes:mo (l.getD i 0)=true→∃ y:{ i:Nat // i≤l.length∧i+wlen (l.drop i)=wlen (l.drop 1)+1 },l.length-y.1<l.length-i∧AV.d (.int .i64 (w64 ((i:Int)+1)))=AV.d (i64 y.1):=fun h4=>by
    rw [h4,if_pos rfl] at hwd
    refine ⟨⟨i+1,by omega,by omega⟩,by show l.length-(i+1)<_;omega,?_⟩
    rw [ai ⟨by omega,by omega⟩];rfl
   have no:mo (l.getD i 0)=false→AV.d (i64 (i:Int))=AV.d (i64 (bm l:Nat)):=fun h4=>by
    rw [h4,if_neg (by simp)] at hwd
    rw [hn]
    exact congrArg (fun n:Nat=>AV.d (i64 (n:Int))) (by omega)
   refine ⟨⟨by omega,by omega⟩,?_⟩
   refine ab E' (pS (l.getD i 0)) rfl rfl (by simp) ?_
   rintro _ rfl
   simp only [go_sem]
   refine bz E' (fun h4=>?_) (fun h4=>?_)<;>simp only [go_sem]
   ·exact yes (by simp only [mo,h4,Bool.true_or])
   refine ⟨⟨by omega,by omega⟩,?_⟩
   refine ab E' (pZ (l.getD i 0)) rfl rfl (by simp) ?_
   rintro _ rfl
   simp only [go_sem]
   refine bz E' (fun h5=>?_) (fun h5=>?_)<;>simp only [go_sem]
   ·exact yes (by simp only [mo,h5,Bool.or_true,Bool.true_or])
   refine ⟨⟨by omega,by omega⟩,?_⟩
   refine ar E' (fun h6=>?_) (fun h6=>?_)<;>simp only [go_sem]
   ·refine ⟨⟨by omega,by omega⟩,?_⟩
    refine ah E' (fun h7=>?_) (fun h7=>?_)<;>simp only [go_sem]
    ·exact yes (by simp only [mo,h4,h5,diZ];rw [decide_eq_true h6,decide_eq_true h7];rfl)
    ·exact no (by simp only [mo,h4,h5,diZ];rw [decide_eq_false h7];simp)
   ·exact no (by simp only [mo,h4,h5,diZ];rw [decide_eq_false h6];simp)
  ·have hil:i=l.length:=by omega
   subst hil
   rw [jP] at hw
   rw [hn]
   exact congrArg (fun n:Nat=>AV.d (i64 (n:Int))) (by omega)
theorem Ex {G}:HP Tryz.prog G 126 [] (fun r=>r=.d (strs kwB)):=by
 refine aL Tryz.func126 rfl (by decide +kernel) (by simp [Tryz.ntmps126]) (veil fun E=>?_)
 simp only [go_sem]
 refine ⟨[([1],none,kwB.map .str)],?_⟩
 simp only [go_sem]
 refine ⟨rfl,?_⟩
 rfl
theorem CA {G} (s:List UInt8) (l:List (List UInt8)) (hl:l.length≤9223372036854775807):HP Tryz.prog G 94 [.str s,strs l] (fun r=>r=.d (.bool (decide (s∈l)))):=by
 refine aj Tryz.func94 rfl (by decide +kernel) (by simp [Tryz.ntmps94]) (veil fun E=>?_)
 unfold strs
 simp only [go_sem]
 refine dp E (X:={ i:Nat // i≤l.length∧s ∉ l.take i }) (fun x=>[(0,.d (.str s)),(1,.d (.sl none (l.map .str))),(5,.d (i64 x.1))]) (fun x=>l.length-x.1) rfl ⟨0,by simp,by simp⟩ ?_ ?_
 ·simp only [go_sem]
  all_goals rfl
 rintro ⟨i,hi,hm⟩ E'
 simp only [go_sem]
 refine ah E' (fun h6=>?_) (fun h6=>?_)<;>simp only [go_sem]
 ·have hi':i<l.length:=by omega
  refine ⟨⟨by omega,by omega⟩,?_⟩
  rw [fe hi']
  simp only [go_sem]
  refine aG E' (fun h7=>?_) (fun h7=>?_)<;>simp only [go_sem]
  ·have h7:l.getD i []=s:=by simpa using h7
   have:s∈l:=by
    rw [← h7]
    simp [hi']
   rw [decide_eq_true this]
  ·have h7:l.getD i []≠s:=by simpa using h7
   refine ⟨⟨i+1,by omega,s8 hi' hm h7⟩,by show l.length-(i+1)<_;omega,?_⟩
   rw [ai ⟨by omega,by omega⟩];rfl
 ·have hil:i=l.length:=by omega
  subst hil
  rw [List.take_length] at hm
  rw [decide_eq_false hm]
theorem F8 {G} (s:List UInt8):HP Tryz.prog G 93 [.str s] (fun r=>r=.d (.bool (Av s))):=by
 refine aj Tryz.func93 rfl (by decide +kernel) (by simp [Tryz.ntmps93]) (veil fun E=>?_)
 simp only [go_sem]
 refine ab E Ex rfl rfl (by simp) ?_
 rintro _ rfl
 simp only [go_sem]
 refine ab E (CA s kwB E1) rfl rfl (by simp) ?_
 rintro _ rfl
 simp only [go_sem]
 rfl
theorem uk {G} (s:List UInt8) (hl:s.length≤9223372036854775807):HP Tryz.prog G 48 [.str s] (fun r=>r=.d (.bool (aM s))):=by
 have hw:¬ (0<s.length∧s.length≤20∧bm s=s.length)→aS s=false:=fun h=>by
  cases hw:aS s with
  | false=>rfl
  | true =>
    refine absurd ?_ h
    simp only [aS,Bool.and_eq_true,decide_eq_true_eq] at hw
    exact ⟨jx (by simp only [aS,Bool.and_eq_true,decide_eq_true_eq];exact hw),hw.1.2,hw.2⟩
 have hwy:0<s.length→s.length≤20→bm s=s.length→aS s=true:=fun h1 h2 h3=>by
  simp only [aS,Bool.and_eq_true,decide_eq_true_eq]
  refine ⟨⟨?_,h2⟩,h3⟩
  cases s with
  | nil=>simp at h1
  | cons c r=>rfl
 refine aj Tryz.func48 rfl (by decide +kernel) (by simp [Tryz.ntmps48]) (veil fun E=>?_)
 simp only [go_sem]
 refine ar E (fun h1=>?_) (fun h1=>?_)<;>simp only [go_sem]
 ·refine ar E (fun h2=>?_) (fun h2=>?_)<;>simp only [go_sem]
  ·refine ab E (Bq s hl) rfl rfl (by simp) ?_
   rintro _ rfl
   simp only [go_sem]
   refine ar E (fun h3=>?_) (fun h3=>?_)<;>simp only [go_sem]
   ·have hwt:=hwy (by omega) (by omega) (by omega)
    refine ⟨by omega,?_⟩
    refine ab E (pS (s.getD 0 0)) rfl rfl (by simp) ?_
    rintro _ rfl
    simp only [go_sem]
    refine bz E (fun h4=>?_) (fun h4=>?_)<;>simp only [go_sem]
    ·refine ab E (F8 s) rfl rfl (by simp) ?_
     rintro _ rfl
     simp only [go_sem]
     simp only [aM,hwt,h4,Bool.true_and]
    ·simp only [aM,hwt,h4,Bool.true_and,Bool.false_and]
   ·simp only [aM,hw (by omega),Bool.false_and]
  ·simp only [aM,hw (by omega),Bool.false_and]
 ·simp only [aM,hw (by omega),Bool.false_and]
theorem BC {G} (s:List UInt8) (hl:s.length≤9223372036854775807):HP Tryz.prog G 47 [.str s] (fun r=>r=.d (.bool (dY s))):=by
 have hw:¬ (0<s.length∧s.length≤20∧bm s=s.length)→aS s=false:=fun h=>by
  cases hw:aS s with
  | false=>rfl
  | true =>
    refine absurd ?_ h
    simp only [aS,Bool.and_eq_true,decide_eq_true_eq] at hw
    exact ⟨jx (by simp only [aS,Bool.and_eq_true,decide_eq_true_eq];exact hw),hw.1.2,hw.2⟩
 have hwy:0<s.length→s.length≤20→bm s=s.length→aS s=true:=fun h1 h2 h3=>by
  simp only [aS,Bool.and_eq_true,decide_eq_true_eq]
  refine ⟨⟨?_,h2⟩,h3⟩
  cases s with
  | nil=>simp at h1
  | cons c r=>rfl
 refine aj Tryz.func47 rfl (by decide +kernel) (by simp [Tryz.ntmps47]) (veil fun E=>?_)
 simp only [go_sem]
 refine ar E (fun h1=>?_) (fun h1=>?_)<;>simp only [go_sem]
 ·refine ar E (fun h2=>?_) (fun h2=>?_)<;>simp only [go_sem]
  ·refine ab E (Bq s hl) rfl rfl (by simp) ?_
   rintro _ rfl
   simp only [go_sem]
   refine ar E (fun h3=>?_) (fun h3=>?_)<;>simp only [go_sem]
   ·have hwt:=hwy (by omega) (by omega) (by omega)
    refine ⟨by omega,?_⟩
    refine ab E (pZ (s.getD 0 0)) rfl rfl (by simp) ?_
    rintro _ rfl
    simp only [go_sem]
    simp only [dY,hwt,Bool.true_and]
   ·simp only [dY,hw (by omega),Bool.false_and]
  ·simp only [dY,hw (by omega),Bool.false_and]
 ·simp only [dY,hw (by omega),Bool.false_and]
theorem FH {G} (l:List (List UInt8)) (hl:l.length≤1000000):HP Tryz.prog G 49 [strs l] (fun r=>r=.d (.bool (twice l))):=by
 refine aj Tryz.func49 rfl (by decide +kernel) (by simp [Tryz.ntmps49]) (veil fun E=>?_)
 unfold strs
 simp only [go_sem]
 refine dp E (X:={ i:Nat // i≤l.length∧(l.take i).Nodup }) (fun x=>[(0,.d (.sl none (l.map .str))),(3,.d (i64 x.1))]) (fun x=>l.length-x.1) rfl ⟨0,by simp⟩ ?_ ?_
 ·simp only [go_sem]
  all_goals rfl
 rintro ⟨i,hi,hn⟩ E'
 simp only [go_sem]
 refine ah E' (fun h1=>?_) (fun h1=>?_)<;>simp only [go_sem]
 ·have hi':i<l.length:=by omega
  have hc:=CA (G:=G) (l.getD i []) (l.take i) (by simp only [List.length_take];omega)
  unfold strs at hc
  rw [List.map_take] at hc
  refine ak mixed E' fun X=>?_
  simp only [go_sem]
  refine ⟨⟨by omega,by omega⟩,?_⟩
  rw [fe hi']
  simp only [go_sem]
  refine ⟨⟨by omega,by omega⟩,?_⟩
  refine bp X hc rfl (by first | rfl | (simp only [go_sem];done) | (simp;done)) (by simp) ?_
  simp only [go_sem]
  refine ⟨by decide +kernel,?_⟩
  refine ah E' (fun h2=>?_) (fun h2=>?_)<;>simp only [go_sem]
  ·rw [Cy hi' h2]
  ·refine ⟨⟨i+1,by omega,w8 hi' hn h2⟩,by show l.length-(i+1)<_;omega,by rw [ai ⟨by omega,by omega⟩];rfl⟩
 ·have hil:i=l.length:=by omega
  subst hil
  rw [List.take_length] at hn
  simp [twice,hn]
end Go.Proofs.YtejpnabbmgpmaaaGreatDoor

namespace Go.Proofs.YtejpnabbmgpmaaaGreatDoor
open Go.Ab
theorem Dv (l:List EF):decide (0<(l.length:Int))=!l.isEmpty:=by cases l<;>simp<;>omega
theorem DR (s:List UInt8):decide (200<(s.length:Int))=!decide (s.length≤200):=by
 by_cases h:s.length≤200
 ·rw [decide_eq_true h,decide_eq_false (by omega)];rfl
 ·rw [decide_eq_false h,decide_eq_true (by omega)];rfl
theorem FV (m:Int):decide (m<1)=!decide (1≤m):=by
 by_cases h:1≤m
 ·rw [decide_eq_true h,decide_eq_false (by omega)];rfl
 ·rw [decide_eq_false h,decide_eq_true (by omega)];rfl
theorem IF (m:Int):decide (7<m)=!decide (m≤7):=by
 by_cases h:m≤7
 ·rw [decide_eq_true h,decide_eq_false (by omega)];rfl
 ·rw [decide_eq_false h,decide_eq_true (by omega)];rfl
theorem tX (n:EN) (hp:0≤n.pos∧n.pos≤1048576) (hk:1≤n.k∧n.k≤14) :
  aH n=(!(decide (¬n.k=1) && decide (¬n.k=2) && decide (¬n.k=10) && decide (¬n.n=0) || decide (¬n.k=3) && !n.s == [] || decide (¬n.k=11) && decide (¬n.k=14) && decide (0<(n.l.length:Int)))
   && (!(!(decide (n.k=5) || decide (n.k=12) || decide (n.k=13) || decide (n.k=14)) && !(decide (n.k=6) || decide (n.k=7) || decide (n.k=8) || decide (n.k=10)) && decide (¬n.k=9) && decide (¬n.a=0) || !(decide (n.k=6) || decide (n.k=7) || decide (n.k=8) || decide (n.k=10)) && decide (¬n.k=9) && decide (¬n.b=0) || decide (¬n.k=9) && decide (¬n.c=0))
   && (!((decide (n.k=4) || decide (n.k=5) || decide (n.k=7) || decide (n.k=8) || decide (n.k=12)) && !aM n.name || decide (n.k=13) && !dY n.name || !(decide (n.k=4) || decide (n.k=5) || decide (n.k=7) || decide (n.k=8) || decide (n.k=12)) && decide (¬n.k=13) && !n.name == [])
   && (!(decide (n.k=2) && decide (¬n.n=0) && decide (¬n.n=1) || decide (n.k=10) && (decide (n.n<1) || decide (7<n.n)) || decide (n.k=3) && decide (200<(n.s.length:Int)))
   && (decide (¬n.k=11) && decide (¬n.k=14) || bd n))))):=by
 have hr:aH n=(ej n && bS n && bd n && dX n):=by
  unfold aH
  rw [decide_eq_true hk.1,decide_eq_true hk.2,decide_eq_true hp.1,decide_eq_true hp.2]
  simp
 have hk':n.k=1∨n.k=2∨n.k=3∨n.k=4∨n.k=5∨n.k=6∨n.k=7∨n.k=8∨n.k=9∨n.k=10∨n.k=11∨n.k=12∨n.k=13∨n.k=14:=by omega
 rw [hr,Dv,DR,FV,IF]
 clear hr hk hp
 obtain ⟨k,a,b,c,m,nm,s,l,p⟩:=n
 simp only [jh] at hk' ⊢
 unfold ej bS dX
 have hpt:∀ k,aJ k=false→bd ⟨k,a,b,c,m,nm,s,l,p⟩=l.isEmpty:=fun k h=>by unfold bd;rw [h];rfl
 rcases hk' with rfl | rfl | rfl | rfl | rfl | rfl | rfl | rfl | rfl | rfl | rfl | rfl | rfl | rfl
 all_goals
  first | rw [hpt _ rfl] | skip
  try generalize bd _=y
  generalize s.isEmpty=b1
  generalize nm.isEmpty=b2
  try generalize l.isEmpty=b3
  try generalize aM nm=b4
  try generalize dY nm=b5
  simp [aY]
  first | done | ac_rfl | (generalize decide (m=0)=d0;generalize decide (m=1)=d1;cases d0<;>cases d1<;>simp<;>ac_rfl) | (generalize decide (1≤m)=d0;generalize decide (m≤7)=d1;cases d0<;>cases d1<;>simp<;>ac_rfl)
end Go.Proofs.YtejpnabbmgpmaaaGreatDoor

namespace Go.Proofs.YtejpnabbmgpmaaaGreatDoor
open Go.Ab
theorem q4 {P:Program} {cf:Cf} {Φ:Exit→Act→World→Prop} {I:Base→List Deferred→Prop} {k:List It} {s:St} (fr:List (Nat × AV)) (hp:List (Name × Ob)) (u:List Nat) (hle:LeL cf.U id s fr hp u) (h:ARY P cf Φ I k (mk fr hp u)):ARY P cf Φ I k s:=by
 intro B hB ds β a w hds hI hs
 obtain ⟨β2,hs2,_⟩:=hs.le (τ:=id) (by rw [hB.2.1];exact hle.le)
 exact h B hB ds β2 a w hds hI hs2
theorem DJ {G} (n:EN) (h:¬ (1≤n.k∧n.k≤14∧0≤n.pos∧n.pos≤1048576)):HP Tryz.prog G 30 [enD n] (fun r=>r=.d (.bool (aH n))):=by
 have:(decide (1≤n.k) && decide (n.k≤14) && decide (0≤n.pos) && decide (n.pos≤1048576))=false:=by
  rw [Bool.eq_false_iff]
  intro hc
  simp only [Bool.and_eq_true,decide_eq_true_eq] at hc
  omega
 have hr:aH n=false:=by rw [aH,this,Bool.false_and]
 rw [hr]
 unfold enD efD
 refine aj Tryz.func30 rfl (by decide +kernel) (by simp [Tryz.ntmps30]) (veil fun E=>?_)
 simp only [go_sem]
 repeat (first
  | (apply br E;(· simp only [go_sem]);(· intro h;(try simp only [bq] at h);simp only [↓h,go_sem];rfl);simp only [go_sem])
  | (apply aK E;(· simp only [go_sem]);(· intro h;(try simp only [bq] at h);simp only [↓h,go_sem];rfl);(· intro h;(try simp only [bq] at h);simp only [↓h,go_sem];rfl);simp only [go_sem])
  | (apply aI E;(· simp only [go_sem]);(· rfl);(· intro h h';(try simp only [bq] at h h');simp only [↓h,↓h',go_sem];rfl);simp only [go_sem])
  | (apply aw E;(· simp only [go_sem]);(· rfl);(· intro h h';(try simp only [bq] at h h');simp only [↓h,↓h',go_sem];rfl);(· intro h h';(try simp only [bq] at h h');simp only [↓h,↓h',go_sem];rfl);simp only [go_sem])
  | (apply bo E;(· decide);simp only [go_sem]))
 refine aG E (fun _=>?_) (fun g=>absurd ?_ h)
 ·simp only [go_sem]
 ·simp only [Bool.or_eq_false_iff,decide_eq_false_iff_not] at g
  omega
set_option maxRecDepth 10000 in
set_option maxHeartbeats 4000000 in
theorem Gd {G} (n:EN) (h:n.name.length≤BIG) (hp:0≤n.pos∧n.pos≤1048576) (hk:1≤n.k∧n.k≤14) (c3:n.k=11∨n.k=14→HP Tryz.prog G 67 [enD n] (fun r=>r=.d (.bool (bd n)))) :
  HP Tryz.prog G 30 [enD n] (fun r=>r=.d (.bool (aH n))):=by
 have c1:=uk (G:=G) n.name h
 have c2:=BC (G:=G) n.name h
 have hP:=tX n hp hk
 unfold enD efD at *
 refine qf Tryz.func30 rfl (by decide +kernel) (by simp [Tryz.ntmps30]) fun B0 hB0=>?_
 refine bf (az fun E=>?_)
 simp only [go_sem]
 refine bf (az fun E=>?_)
 simp only [go_sem]
 repeat (first
  | (apply br E;(· simp only [go_sem]);(· intro h;(try simp only [bq] at h);simp only [↓h,go_sem];rfl);simp only [go_sem])
  | (apply aK E;(· simp only [go_sem]);(· intro h;(try simp only [bq] at h);simp only [↓h,go_sem];rfl);(· intro h;(try simp only [bq] at h);simp only [↓h,go_sem];rfl);simp only [go_sem])
  | (apply aI E;(· simp only [go_sem]);(· rfl);(· intro h h';(try simp only [bq] at h h');simp only [↓h,↓h',go_sem];rfl);simp only [go_sem])
  | (apply aw E;(· simp only [go_sem]);(· rfl);(· intro h h';(try simp only [bq] at h h');simp only [↓h,↓h',go_sem];rfl);(· intro h h';(try simp only [bq] at h h');simp only [↓h,↓h',go_sem];rfl);simp only [go_sem])
  | (apply bo E;(· decide);simp only [go_sem]))
 refine aG E (fun g=>absurd (show n.pos<0∨1048576<n.pos∨n.k<1∨14<n.k by simpa [or_assoc] using g) (by omega)) (fun _=>?_)
 simp only [go_sem]
 refine q4 [(1,.bx [1] 0),(2,.d (.bool false))] [([1],.box [.d (i64 n.k),.d (i64 n.a),.d (i64 n.b),.d (i64 n.c),.d (i64 n.n),.d (.str n.name),.d (.str n.s),.d (.sl (some 3) (n.l.map fD)),.d (i64 n.pos)])] [1] (by simp only [go_sem]) ?_
 refine bf (az fun E=>?_)
 simp only [go_sem]
 refine q4 [(1,.bx [1] 0),(2,.d (.bool false)),(3,.d (i64 n.k))] [([1],.box [.d (i64 n.k),.d (i64 n.a),.d (i64 n.b),.d (i64 n.c),.d (i64 n.n),.d (.str n.name),.d (.str n.s),.d (.sl (some 3) (n.l.map fD)),.d (i64 n.pos)])] [1] (by simp only [go_sem]) ?_
 refine bf (az fun E=>?_)
 simp only [go_sem]
 repeat (first
  | (apply br E;(· simp only [go_sem]);(· intro h;(try simp only [bq] at h);simp only [↓h,go_sem];rfl);simp only [go_sem])
  | (apply aK E;(· simp only [go_sem]);(· intro h;(try simp only [bq] at h);simp only [↓h,go_sem];rfl);(· intro h;(try simp only [bq] at h);simp only [↓h,go_sem];rfl);simp only [go_sem])
  | (apply aI E;(· simp only [go_sem]);(· rfl);(· intro h h';(try simp only [bq] at h h');simp only [↓h,↓h',go_sem];rfl);simp only [go_sem])
  | (apply aw E;(· simp only [go_sem]);(· rfl);(· intro h h';(try simp only [bq] at h h');simp only [↓h,↓h',go_sem];rfl);(· intro h h';(try simp only [bq] at h h');simp only [↓h,↓h',go_sem];rfl);simp only [go_sem])
  | (apply bo E;(· decide);simp only [go_sem]))
 refine aG E (fun g=>?_) (fun g=>?_)
 ·simp only [go_sem]
  refine gz (.inl rfl) hB0 ?_
  simp only [go_sem]
  refine ⟨[],?_⟩
  simp only [go_sem]
  rw [hP,g];simp
 simp only [go_sem]
 refine q4 [(1,.bx [1] 0),(2,.d (.bool false)),(3,.d (i64 n.k))] [([1],.box [.d (i64 n.k),.d (i64 n.a),.d (i64 n.b),.d (i64 n.c),.d (i64 n.n),.d (.str n.name),.d (.str n.s),.d (.sl (some 3) (n.l.map fD)),.d (i64 n.pos)])] [1] (by simp only [go_sem]) ?_
 refine bf (az fun E=>?_)
 simp only [go_sem]
 repeat (first
  | (apply br E;(· simp only [go_sem]);(· intro h;(try simp only [bq] at h);simp only [↓h,go_sem];rfl);simp only [go_sem])
  | (apply aK E;(· simp only [go_sem]);(· intro h;(try simp only [bq] at h);simp only [↓h,go_sem];rfl);(· intro h;(try simp only [bq] at h);simp only [↓h,go_sem];rfl);simp only [go_sem])
  | (apply aI E;(· simp only [go_sem]);(· rfl);(· intro h h';(try simp only [bq] at h h');simp only [↓h,↓h',go_sem];rfl);simp only [go_sem])
  | (apply aw E;(· simp only [go_sem]);(· rfl);(· intro h h';(try simp only [bq] at h h');simp only [↓h,↓h',go_sem];rfl);(· intro h h';(try simp only [bq] at h h');simp only [↓h,↓h',go_sem];rfl);simp only [go_sem])
  | (apply bo E;(· decide);simp only [go_sem]))
 refine q4 [(1,.bx [1] 0),(2,.d (.bool false)),(3,.d (i64 n.k)),(4,.d (.bool (decide (n.k=5) || decide (n.k=12) || decide (n.k=13) || decide (n.k=14))))] [([1],.box [.d (i64 n.k),.d (i64 n.a),.d (i64 n.b),.d (i64 n.c),.d (i64 n.n),.d (.str n.name),.d (.str n.s),.d (.sl (some 3) (n.l.map fD)),.d (i64 n.pos)])] [1] (by simp only [go_sem]) ?_
 refine bf (az fun E=>?_)
 simp only [go_sem]
 repeat (first
  | (apply br E;(· simp only [go_sem]);(· intro h;(try simp only [bq] at h);simp only [↓h,go_sem];rfl);simp only [go_sem])
  | (apply aK E;(· simp only [go_sem]);(· intro h;(try simp only [bq] at h);simp only [↓h,go_sem];rfl);(· intro h;(try simp only [bq] at h);simp only [↓h,go_sem];rfl);simp only [go_sem])
  | (apply aI E;(· simp only [go_sem]);(· rfl);(· intro h h';(try simp only [bq] at h h');simp only [↓h,↓h',go_sem];rfl);simp only [go_sem])
  | (apply aw E;(· simp only [go_sem]);(· rfl);(· intro h h';(try simp only [bq] at h h');simp only [↓h,↓h',go_sem];rfl);(· intro h h';(try simp only [bq] at h h');simp only [↓h,↓h',go_sem];rfl);simp only [go_sem])
  | (apply bo E;(· decide);simp only [go_sem]))
 obtain ⟨one,h1⟩:∃ b,b=(decide (n.k=5) || decide (n.k=12) || decide (n.k=13) || decide (n.k=14)):=⟨_,rfl⟩
 obtain ⟨two,h2⟩:∃ b,b=(decide (n.k=6) || decide (n.k=7) || decide (n.k=8) || decide (n.k=10)):=⟨_,rfl⟩
 refine q4 [(1,.bx [1] 0),(2,.d (.bool false)),(3,.d (i64 n.k)),(4,.d (.bool (decide (n.k=5) || decide (n.k=12) || decide (n.k=13) || decide (n.k=14)))),(5,.d (.bool (decide (n.k=6) || decide (n.k=7) || decide (n.k=8) || decide (n.k=10))))] [([1],.box [.d (i64 n.k),.d (i64 n.a),.d (i64 n.b),.d (i64 n.c),.d (i64 n.n),.d (.str n.name),.d (.str n.s),.d (.sl (some 3) (n.l.map fD)),.d (i64 n.pos)])] [1] (by simp only [go_sem]) ?_
 rw [← h1,← h2]
 refine bf (az fun E=>?_)
 simp only [go_sem]
 repeat (first
  | (apply br E;(· simp only [go_sem]);(· intro h;(try simp only [bq] at h);simp only [↓h,go_sem];rfl);simp only [go_sem])
  | (apply aK E;(· simp only [go_sem]);(· intro h;(try simp only [bq] at h);simp only [↓h,go_sem];rfl);(· intro h;(try simp only [bq] at h);simp only [↓h,go_sem];rfl);simp only [go_sem])
  | (apply aI E;(· simp only [go_sem]);(· rfl);(· intro h h';(try simp only [bq] at h h');simp only [↓h,↓h',go_sem];rfl);simp only [go_sem])
  | (apply aw E;(· simp only [go_sem]);(· rfl);(· intro h h';(try simp only [bq] at h h');simp only [↓h,↓h',go_sem];rfl);(· intro h h';(try simp only [bq] at h h');simp only [↓h,↓h',go_sem];rfl);simp only [go_sem])
  | (apply bo E;(· decide);simp only [go_sem]))
 refine aG E (fun g3=>?_) (fun g3=>?_)
 ·simp only [go_sem]
  refine gz (.inl rfl) hB0 ?_
  simp only [go_sem]
  refine ⟨[],?_⟩
  simp only [go_sem]
  rw [hP,← h1,← h2,g3];simp
 simp only [go_sem]
 refine q4 [(1,.bx [1] 0),(2,.d (.bool false)),(3,.d (i64 n.k))] [([1],.box [.d (i64 n.k),.d (i64 n.a),.d (i64 n.b),.d (i64 n.c),.d (i64 n.n),.d (.str n.name),.d (.str n.s),.d (.sl (some 3) (n.l.map fD)),.d (i64 n.pos)])] [1] (by simp only [go_sem]) ?_
 refine bf (az fun E=>?_)
 simp only [go_sem]
 repeat (first
  | (apply br E;(· simp only [go_sem]);(· intro h;(try simp only [bq] at h);simp only [↓h,go_sem];rfl);simp only [go_sem])
  | (apply aK E;(· simp only [go_sem]);(· intro h;(try simp only [bq] at h);simp only [↓h,go_sem];rfl);(· intro h;(try simp only [bq] at h);simp only [↓h,go_sem];rfl);simp only [go_sem])
  | (apply aI E;(· simp only [go_sem]);(· rfl);(· intro h h';(try simp only [bq] at h h');simp only [↓h,↓h',go_sem];rfl);simp only [go_sem])
  | (apply aw E;(· simp only [go_sem]);(· rfl);(· intro h h';(try simp only [bq] at h h');simp only [↓h,↓h',go_sem];rfl);(· intro h h';(try simp only [bq] at h h');simp only [↓h,↓h',go_sem];rfl);simp only [go_sem])
  | (apply bo E;(· decide);simp only [go_sem]))
 obtain ⟨six,h6⟩:∃ b,b=(decide (n.k=4) || decide (n.k=5) || decide (n.k=7) || decide (n.k=8) || decide (n.k=12)):=⟨_,rfl⟩
 refine q4 [(1,.bx [1] 0),(2,.d (.bool false)),(3,.d (i64 n.k)),(6,.d (.bool (decide (n.k=4) || decide (n.k=5) || decide (n.k=7) || decide (n.k=8) || decide (n.k=12))))] [([1],.box [.d (i64 n.k),.d (i64 n.a),.d (i64 n.b),.d (i64 n.c),.d (i64 n.n),.d (.str n.name),.d (.str n.s),.d (.sl (some 3) (n.l.map fD)),.d (i64 n.pos)])] [1] (by simp only [go_sem]) ?_
 rw [← h6]
 refine bf (az fun E=>?_)
 simp only [go_sem]
 repeat (first
  | (apply br E;(· simp only [go_sem]);(· intro h;(try simp only [bq] at h);simp only [↓h,go_sem];rfl);simp only [go_sem])
  | (apply aK E;(· simp only [go_sem]);(· intro h;(try simp only [bq] at h);simp only [↓h,go_sem];rfl);(· intro h;(try simp only [bq] at h);simp only [↓h,go_sem];rfl);simp only [go_sem])
  | (apply aI E;(· simp only [go_sem]);(· rfl);(· intro h h';(try simp only [bq] at h h');simp only [↓h,↓h',go_sem];rfl);simp only [go_sem])
  | (apply aw E;(· simp only [go_sem]);(· rfl);(· intro h h';(try simp only [bq] at h h');simp only [↓h,↓h',go_sem];rfl);(· intro h h';(try simp only [bq] at h h');simp only [↓h,↓h',go_sem];rfl);simp only [go_sem])
  | (apply bo E;(· decide);simp only [go_sem]))
 (first | (apply gw E;(· simp only [go_sem]);(· intro h hk;(try simp only [bq] at h);refine ab E (c1) rfl (by simp only [↓h,go_sem]<;>rfl) (by simp) ?_;rintro _ rfl;exact hk);simp only [go_sem]) | (apply eD E;(· simp only [go_sem]);(· rfl);(· intro h h' hk;(try simp only [bq] at h h');refine ab E (c1) rfl (by simp only [↓h,↓h',go_sem]<;>rfl) (by simp) ?_;rintro _ rfl;exact hk);simp only [go_sem]))
 repeat (first
  | (apply br E;(· simp only [go_sem]);(· intro h;(try simp only [bq] at h);simp only [↓h,go_sem];rfl);simp only [go_sem])
  | (apply aK E;(· simp only [go_sem]);(· intro h;(try simp only [bq] at h);simp only [↓h,go_sem];rfl);(· intro h;(try simp only [bq] at h);simp only [↓h,go_sem];rfl);simp only [go_sem])
  | (apply aI E;(· simp only [go_sem]);(· rfl);(· intro h h';(try simp only [bq] at h h');simp only [↓h,↓h',go_sem];rfl);simp only [go_sem])
  | (apply aw E;(· simp only [go_sem]);(· rfl);(· intro h h';(try simp only [bq] at h h');simp only [↓h,↓h',go_sem];rfl);(· intro h h';(try simp only [bq] at h h');simp only [↓h,↓h',go_sem];rfl);simp only [go_sem])
  | (apply bo E;(· decide);simp only [go_sem]))
 (first | (apply gw E;(· simp only [go_sem]);(· intro h hk;(try simp only [bq] at h);refine ab E (c2) rfl (by simp only [↓h,go_sem]<;>rfl) (by simp) ?_;rintro _ rfl;exact hk);simp only [go_sem]) | (apply eD E;(· simp only [go_sem]);(· rfl);(· intro h h' hk;(try simp only [bq] at h h');refine ab E (c2) rfl (by simp only [↓h,↓h',go_sem]<;>rfl) (by simp) ?_;rintro _ rfl;exact hk);simp only [go_sem]))
 repeat (first
  | (apply br E;(· simp only [go_sem]);(· intro h;(try simp only [bq] at h);simp only [↓h,go_sem];rfl);simp only [go_sem])
  | (apply aK E;(· simp only [go_sem]);(· intro h;(try simp only [bq] at h);simp only [↓h,go_sem];rfl);(· intro h;(try simp only [bq] at h);simp only [↓h,go_sem];rfl);simp only [go_sem])
  | (apply aI E;(· simp only [go_sem]);(· rfl);(· intro h h';(try simp only [bq] at h h');simp only [↓h,↓h',go_sem];rfl);simp only [go_sem])
  | (apply aw E;(· simp only [go_sem]);(· rfl);(· intro h h';(try simp only [bq] at h h');simp only [↓h,↓h',go_sem];rfl);(· intro h h';(try simp only [bq] at h h');simp only [↓h,↓h',go_sem];rfl);simp only [go_sem])
  | (apply bo E;(· decide);simp only [go_sem]))
 refine aG E (fun g4=>?_) (fun g4=>?_)
 ·simp only [go_sem]
  refine gz (.inl rfl) hB0 ?_
  simp only [go_sem]
  refine ⟨[],?_⟩
  simp only [go_sem]
  rw [hP,← h6,g4];simp
 simp only [go_sem]
 refine q4 [(1,.bx [1] 0),(2,.d (.bool false)),(3,.d (i64 n.k))] [([1],.box [.d (i64 n.k),.d (i64 n.a),.d (i64 n.b),.d (i64 n.c),.d (i64 n.n),.d (.str n.name),.d (.str n.s),.d (.sl (some 3) (n.l.map fD)),.d (i64 n.pos)])] [1] (by simp only [go_sem]) ?_
 refine bf (az fun E=>?_)
 simp only [go_sem]
 repeat (first
  | (apply br E;(· simp only [go_sem]);(· intro h;(try simp only [bq] at h);simp only [↓h,go_sem];rfl);simp only [go_sem])
  | (apply aK E;(· simp only [go_sem]);(· intro h;(try simp only [bq] at h);simp only [↓h,go_sem];rfl);(· intro h;(try simp only [bq] at h);simp only [↓h,go_sem];rfl);simp only [go_sem])
  | (apply aI E;(· simp only [go_sem]);(· rfl);(· intro h h';(try simp only [bq] at h h');simp only [↓h,↓h',go_sem];rfl);simp only [go_sem])
  | (apply aw E;(· simp only [go_sem]);(· rfl);(· intro h h';(try simp only [bq] at h h');simp only [↓h,↓h',go_sem];rfl);(· intro h h';(try simp only [bq] at h h');simp only [↓h,↓h',go_sem];rfl);simp only [go_sem])
  | (apply bo E;(· decide);simp only [go_sem]))
 refine aG E (fun g5=>?_) (fun g5=>?_)
 ·simp only [go_sem]
  refine gz (.inl rfl) hB0 ?_
  simp only [go_sem]
  refine ⟨[],?_⟩
  simp only [go_sem]
  rw [hP,g5];simp
 simp only [go_sem]
 refine q4 [(1,.bx [1] 0),(2,.d (.bool false)),(3,.d (i64 n.k))] [([1],.box [.d (i64 n.k),.d (i64 n.a),.d (i64 n.b),.d (i64 n.c),.d (i64 n.n),.d (.str n.name),.d (.str n.s),.d (.sl (some 3) (n.l.map fD)),.d (i64 n.pos)])] [1] (by simp only [go_sem]) ?_
 refine az fun E=>?_
 simp only [go_sem]
 repeat (first
  | (apply br E;(· simp only [go_sem]);(· intro h;(try simp only [bq] at h);simp only [↓h,go_sem];rfl);simp only [go_sem])
  | (apply aK E;(· simp only [go_sem]);(· intro h;(try simp only [bq] at h);simp only [↓h,go_sem];rfl);(· intro h;(try simp only [bq] at h);simp only [↓h,go_sem];rfl);simp only [go_sem])
  | (apply aI E;(· simp only [go_sem]);(· rfl);(· intro h h';(try simp only [bq] at h h');simp only [↓h,↓h',go_sem];rfl);simp only [go_sem])
  | (apply aw E;(· simp only [go_sem]);(· rfl);(· intro h h';(try simp only [bq] at h h');simp only [↓h,↓h',go_sem];rfl);(· intro h h';(try simp only [bq] at h h');simp only [↓h,↓h',go_sem];rfl);simp only [go_sem])
  | (apply bo E;(· decide);simp only [go_sem]))
 rw [← h1,← h2,← h6,g,g3,g4,g5] at hP
 simp only [Bool.not_false,Bool.true_and] at hP
 refine bz E (fun k1=>?_) (fun k1=>?_)
 ·simp only [go_sem]
  refine gz (.inl rfl) hB0 ?_
  simp only [go_sem]
  refine ⟨[],?_⟩
  simp only [go_sem]
  rw [hP,k1,Bool.true_or]
 ·have k2:n.k=11∨n.k=14:=by
   rw [Bool.and_eq_false_iff] at k1
   simpa using k1
  rw [k1,Bool.false_or] at hP
  have c4:=c3 k2
  generalize bd n=y at c4 hP
  simp only [go_sem]
  refine ab E c4 rfl (by (simp only [↓k1,go_sem])<;>rfl) (by simp) ?_
  rintro _ rfl
  simp only [go_sem]
  refine gz (.inl rfl) hB0 ?_
  simp only [go_sem]
  refine ⟨[],?_⟩
  simp only [go_sem]
  rw [hP]
end Go.Proofs.YtejpnabbmgpmaaaGreatDoor

namespace Go.Proofs.YtejpnabbmgpmaaaGreatDoor
open Go.Ab
theorem tc {k:Int} {f:EF} (hk:k=11∨k=14):(decide (k=11) && (!aM f.nm || !f.var == []) || decide (k=14) && (!dY f.nm || !aM f.var))=!cW k f:=by
 unfold cW
 rw [jh]
 rcases hk with rfl | rfl<;>simp
theorem rN {p:EF→Bool} {l:List EF} {i:Nat} (h:i<l.length) (hb:p l[i]=false):l.all p=false:=List.all_eq_false.2 ⟨_,List.getElem_mem h,by rw [hb];decide⟩
set_option maxHeartbeats 4000000 in
theorem FU {G} (n:EN) (h:eu BIG n) (hk:n.k=11∨n.k=14):HP Tryz.prog G 67 [enD n] (fun r=>r=.d (.bool (bd n))):=by
 have hpz:aJ n.k=true:=by rcases hk with e | e<;>rw [e]<;>rfl
 generalize hb:bd n=b
 unfold bd at hb
 rw [if_pos hpz] at hb
 have hl:=h.l
 unfold enD efD
 refine aj Tryz.func67 rfl (by decide +kernel) (by simp [Tryz.ntmps67]) (veil fun E=>?_)
 simp only [go_sem]
 refine aC E (X:={ i:Nat // i≤n.l.length∧(n.l.take i).all (cW n.k)=true }) (fun x=>[(1,.bx [1] 0),(3,.vw [6] 0 x.1),(4,.d (i64 x.1))])
  (fun x=>[([1],.box [.d (i64 n.k),.d (i64 n.a),.d (i64 n.b),.d (i64 n.c),.d (i64 n.n),.d (.str n.name),.d (.str n.s),.d (.sl (some 3) (n.l.map fD)),.d (i64 n.pos)]),([6],.arr none ((n.l.take x.1).map fun f=>.str f.nm))]) [1,6] (fun x=>n.l.length-x.1) ⟨0,by simp⟩ id ?_ ?_
 ·simp only [go_sem]
  all_goals rfl
 rintro ⟨i,hi,hall⟩ E0
 refine aO E0 fun Q' hQ E'=>?_
 simp only at hi hall ⊢
 simp only [go_sem]
 refine ah E' (fun g1=>?_) (fun g1=>?_)<;>simp only [go_sem]
 ·have hi':i<n.l.length:=by omega
  refine ⟨⟨by omega,by omega⟩,?_⟩
  rw [pM hi']
  simp only [go_sem]
  obtain ⟨q1,q2⟩:=h.f _ (List.getElem_mem hi')
  obtain ⟨f,hf⟩:∃ f,f=n.l[i]:=⟨_,rfl⟩
  have hst:=pg (p:=cW n.k) hi' hall
  have hno:=rN (p:=cW n.k) hi'
  have hts:(n.l.take (i+1)).map (fun f:EF=>D.str f.nm)=(n.l.take i).map (fun f:EF=>D.str f.nm)++[.str f.nm]:=by
   rw [List.take_succ_eq_append_getElem hi',List.map_append,← hf];rfl
  rw [← hf] at q1 q2 hst hno ⊢
  have c1:=uk (G:=G) f.nm q1
  have c2:=BC (G:=G) f.nm q1
  have c3:=uk (G:=G) f.var q2
  repeat (first
   | (apply br E';(· simp only [go_sem]);(· intro h;(try simp only [bq] at h);simp only [↓h,go_sem];rfl);simp only [go_sem])
   | (apply aK E';(· simp only [go_sem]);(· intro h;(try simp only [bq] at h);simp only [↓h,go_sem];rfl);(· intro h;(try simp only [bq] at h);simp only [↓h,go_sem];rfl);simp only [go_sem])
   | (apply aI E';(· simp only [go_sem]);(· rfl);(· intro h h';(try simp only [bq] at h h');simp only [↓h,↓h',go_sem];rfl);simp only [go_sem])
   | (apply aw E';(· simp only [go_sem]);(· rfl);(· intro h h';(try simp only [bq] at h h');simp only [↓h,↓h',go_sem];rfl);(· intro h h';(try simp only [bq] at h h');simp only [↓h,↓h',go_sem];rfl);simp only [go_sem])
   | (apply bo E';(· decide);simp only [go_sem]))
  (first | (apply gw E';(· simp only [go_sem]);(· intro h hk;(try simp only [bq] at h);refine ab E' (c1) rfl (by simp only [↓h,go_sem]<;>rfl) (by simp) ?_;rintro _ rfl;exact hk);simp only [go_sem]) | (apply eD E';(· simp only [go_sem]);(· rfl);(· intro h h' hk;(try simp only [bq] at h h');refine ab E' (c1) rfl (by simp only [↓h,↓h',go_sem]<;>rfl) (by simp) ?_;rintro _ rfl;exact hk);simp only [go_sem]))
  repeat (first
   | (apply br E';(· simp only [go_sem]);(· intro h;(try simp only [bq] at h);simp only [↓h,go_sem];rfl);simp only [go_sem])
   | (apply aK E';(· simp only [go_sem]);(· intro h;(try simp only [bq] at h);simp only [↓h,go_sem];rfl);(· intro h;(try simp only [bq] at h);simp only [↓h,go_sem];rfl);simp only [go_sem])
   | (apply aI E';(· simp only [go_sem]);(· rfl);(· intro h h';(try simp only [bq] at h h');simp only [↓h,↓h',go_sem];rfl);simp only [go_sem])
   | (apply aw E';(· simp only [go_sem]);(· rfl);(· intro h h';(try simp only [bq] at h h');simp only [↓h,↓h',go_sem];rfl);(· intro h h';(try simp only [bq] at h h');simp only [↓h,↓h',go_sem];rfl);simp only [go_sem])
   | (apply bo E';(· decide);simp only [go_sem]))
  (first | (apply gw E';(· simp only [go_sem]);(· intro h hk;(try simp only [bq] at h);refine ab E' (c2) rfl (by simp only [↓h,go_sem]<;>rfl) (by simp) ?_;rintro _ rfl;exact hk);simp only [go_sem]) | (apply eD E';(· simp only [go_sem]);(· rfl);(· intro h h' hk;(try simp only [bq] at h h');refine ab E' (c2) rfl (by simp only [↓h,↓h',go_sem]<;>rfl) (by simp) ?_;rintro _ rfl;exact hk);simp only [go_sem]))
  repeat (first
   | (apply br E';(· simp only [go_sem]);(· intro h;(try simp only [bq] at h);simp only [↓h,go_sem];rfl);simp only [go_sem])
   | (apply aK E';(· simp only [go_sem]);(· intro h;(try simp only [bq] at h);simp only [↓h,go_sem];rfl);(· intro h;(try simp only [bq] at h);simp only [↓h,go_sem];rfl);simp only [go_sem])
   | (apply aI E';(· simp only [go_sem]);(· rfl);(· intro h h';(try simp only [bq] at h h');simp only [↓h,↓h',go_sem];rfl);simp only [go_sem])
   | (apply aw E';(· simp only [go_sem]);(· rfl);(· intro h h';(try simp only [bq] at h h');simp only [↓h,↓h',go_sem];rfl);(· intro h h';(try simp only [bq] at h h');simp only [↓h,↓h',go_sem];rfl);simp only [go_sem])
   | (apply bo E';(· decide);simp only [go_sem]))
  (first | (apply gw E';(· simp only [go_sem]);(· intro h hk;(try simp only [bq] at h);refine ab E' (c3) rfl (by simp only [↓h,go_sem]<;>rfl) (by simp) ?_;rintro _ rfl;exact hk);simp only [go_sem]) | (apply eD E';(· simp only [go_sem]);(· rfl);(· intro h h' hk;(try simp only [bq] at h h');refine ab E' (c3) rfl (by simp only [↓h,↓h',go_sem]<;>rfl) (by simp) ?_;rintro _ rfl;exact hk);simp only [go_sem]))
  repeat (first
   | (apply br E';(· simp only [go_sem]);(· intro h;(try simp only [bq] at h);simp only [↓h,go_sem];rfl);simp only [go_sem])
   | (apply aK E';(· simp only [go_sem]);(· intro h;(try simp only [bq] at h);simp only [↓h,go_sem];rfl);(· intro h;(try simp only [bq] at h);simp only [↓h,go_sem];rfl);simp only [go_sem])
   | (apply aI E';(· simp only [go_sem]);(· rfl);(· intro h h';(try simp only [bq] at h h');simp only [↓h,↓h',go_sem];rfl);simp only [go_sem])
   | (apply aw E';(· simp only [go_sem]);(· rfl);(· intro h h';(try simp only [bq] at h h');simp only [↓h,↓h',go_sem];rfl);(· intro h h';(try simp only [bq] at h h');simp only [↓h,↓h',go_sem];rfl);simp only [go_sem])
   | (apply bo E';(· decide);simp only [go_sem]))
  refine aG E' (fun g2=>?_) (fun g2=>?_)
  ·simp only [go_sem]
   rw [hQ]
   simp only [go_sem]
   rw [tc hk] at g2
   rw [hno (by simpa using g2),Bool.false_and] at hb
   rw [← hb]
  ·simp only [go_sem]
   rw [tc hk] at g2
   refine ⟨by omega,?_⟩
   rw [ai ⟨by omega,by omega⟩,List.take_of_length_le (l:=List.map (fun f:EF=>D.str f.nm) _) (by simp;omega),← hts]
   rw [hQ]
   simp only [go_sem]
   refine ⟨⟨i+1,by omega,hst (by simpa using g2)⟩,by show n.l.length-(i+1)<_;omega,tau [([6],[54])],?_⟩
   simp only [go_sem]
   all_goals rfl
 ·rw [hQ]
  have h3:i=n.l.length:=by omega
  subst h3
  rw [List.take_length] at *
  rw [hall,Bool.true_and] at hb
  simp only [go_sem]
  repeat (first
   | (apply br E;(· simp only [go_sem]);(· intro h;(try simp only [bq] at h);simp only [↓h,go_sem];rfl);simp only [go_sem])
   | (apply aK E;(· simp only [go_sem]);(· intro h;(try simp only [bq] at h);simp only [↓h,go_sem];rfl);(· intro h;(try simp only [bq] at h);simp only [↓h,go_sem];rfl);simp only [go_sem])
   | (apply aI E;(· simp only [go_sem]);(· rfl);(· intro h h';(try simp only [bq] at h h');simp only [↓h,↓h',go_sem];rfl);simp only [go_sem])
   | (apply aw E;(· simp only [go_sem]);(· rfl);(· intro h h';(try simp only [bq] at h h');simp only [↓h,↓h',go_sem];rfl);(· intro h h';(try simp only [bq] at h h');simp only [↓h,↓h',go_sem];rfl);simp only [go_sem])
   | (apply bo E;(· decide);simp only [go_sem]))
  refine bz E (fun k3=>?_) (fun k3=>?_)<;>simp only [go_sem]
  ·have ht:=FH (G:=G) (n.l.map (·.nm)) (by rw [List.length_map];exact hl)
   unfold strs at ht
   rw [List.map_map,show (D.str ∘ fun f:EF=>f.nm)=fun f=>D.str f.nm from rfl] at ht
   rw [fV,fV]
   refine lM E [([6],none,n.l.map fun f=>.str f.nm)] ht (by rintro _ rfl;rfl) (by simp only [go_sem]) rfl (by (simp only [↓k3,go_sem])<;>first | rfl | done) (by simp) ?_
   rintro _ rfl
   simp only [go_sem]
   repeat (first
    | (apply br E;(· simp only [go_sem]);(· intro h;(try simp only [bq] at h);simp only [↓h,go_sem];rfl);simp only [go_sem])
    | (apply aK E;(· simp only [go_sem]);(· intro h;(try simp only [bq] at h);simp only [↓h,go_sem];rfl);(· intro h;(try simp only [bq] at h);simp only [↓h,go_sem];rfl);simp only [go_sem])
    | (apply aI E;(· simp only [go_sem]);(· rfl);(· intro h h';(try simp only [bq] at h h');simp only [↓h,↓h',go_sem];rfl);simp only [go_sem])
    | (apply aw E;(· simp only [go_sem]);(· rfl);(· intro h h';(try simp only [bq] at h h');simp only [↓h,↓h',go_sem];rfl);(· intro h h';(try simp only [bq] at h h');simp only [↓h,↓h',go_sem];rfl);simp only [go_sem])
    | (apply bo E;(· decide);simp only [go_sem]))
   rw [← hb,show (decide ((if n.k=14 then 1 else 0)≤n.l.length) && decide (n.l.length≤30))=true by
    simp only [Bool.and_eq_true,Bool.or_eq_true,decide_eq_true_eq] at k3 ⊢
    refine ⟨?_,by omega⟩
    split<;>omega,Bool.true_and]
   simp [twice]
  ·rw [← hb,show (decide ((if n.k=14 then 1 else 0)≤n.l.length) && decide (n.l.length≤30))=false by
    rw [Bool.eq_false_iff] at k3 ⊢
    intro hc
    apply k3
    simp only [Bool.and_eq_true,Bool.or_eq_true,decide_eq_true_eq] at hc ⊢
    refine ⟨by omega,?_⟩
    rcases hk with e | e
    ·exact .inl e
    ·rw [if_pos e] at hc;exact .inr (by omega),Bool.false_and]
theorem Gt {G} (n:EN) (h:eu BIG n):HP Tryz.prog G 30 [enD n] (fun r=>r=.d (.bool (aH n))):=by
 by_cases g:1≤n.k∧n.k≤14∧0≤n.pos∧n.pos≤1048576
 ·exact Gd n h.nm g.2.2 ⟨g.1,g.2.1⟩ (FU n h)
 ·exact DJ n g
end Go.Proofs.YtejpnabbmgpmaaaGreatDoor

namespace Go.Proofs.YtejpnabbmgpmaaaGreatDoor
open Go.Ab
set_option maxHeartbeats 1000000 in
theorem FC {G} (n:EN) (hl:n.l.length≤1000000):HP Tryz.prog G 31 [enD n] (fun r=>r=.d (.sl none ((an n).map i64))):=by
 obtain ⟨k,a,b,c,m,nm,s,l,p⟩:=n
 simp only at hl
 have hk:k=5∨k=12∨k=13∨k=6∨k=7∨k=8∨k=10∨k=9∨k=14∨k=11∨¬ (k=5∨k=12∨k=13∨k=6∨k=7∨k=8∨k=10∨k=9∨k=14∨k=11):=by omega
 unfold enD efD
 rcases hk with rfl | rfl | rfl | rfl | rfl | rfl | rfl | rfl | rfl | rfl | hk
 iterate 3
  ·refine aL Tryz.func31 rfl (by decide +kernel) (by simp [Tryz.ntmps31]) (veil fun E=>?_)
   simp only [go_sem]
   refine ⟨[([14],none,[i64 a])],?_⟩
   simp only [go_sem]
   try rfl
 iterate 4
  ·refine aL Tryz.func31 rfl (by decide +kernel) (by simp [Tryz.ntmps31]) (veil fun E=>?_)
   simp only [go_sem]
   refine ⟨[([24],none,[i64 a,i64 b])],?_⟩
   simp only [go_sem]
   try rfl
 ·refine aL Tryz.func31 rfl (by decide +kernel) (by simp [Tryz.ntmps31]) (veil fun E=>?_)
  simp only [go_sem]
  refine ⟨[([33],none,[i64 a,i64 b,i64 c])],?_⟩
  simp only [go_sem]
  try rfl
 ·refine aL Tryz.func31 rfl (by decide +kernel) (by simp [Tryz.ntmps31]) (veil fun E=>?_)
  simp only [go_sem]
  obtain ⟨A,hA,hAl⟩:∃ A:List Int,A=[a]∧A.length=1:=⟨_,rfl,rfl⟩
  refine aC E (X:={ i:Nat // i≤l.length }) (fun x=>[(1,.bx [1] 0),(3,.vw [97] 0 (1+x.1)),(4,.d (i64 x.1))])
   (fun x=>[([1],.box [.d (i64 14),.d (i64 a),.d (i64 b),.d (i64 c),.d (i64 m),.d (.str nm),.d (.str s),.d (.sl (some 3) (l.map fD)),.d (i64 p)]),([97],.arr none ((A++(l.take x.1).map fun f:EF=>f.to).map i64))]) [1,97] (fun x=>l.length-x.1) ⟨0,Nat.zero_le _⟩ (tau [([97],[38])]) ?_ ?_
  ·simp only [go_sem]
   all_goals (rw [hA];rfl)
  rintro ⟨i,hi⟩ E0
  refine aO E0 fun Q' hQ E'=>?_
  simp only at hi ⊢
  simp only [go_sem]
  refine ah E' (fun g1=>?_) (fun g1=>?_)<;>simp only [go_sem]
  ·have hi':i<l.length:=by omega
   refine ⟨⟨by omega,by omega⟩,?_⟩
   rw [pM hi']
   simp only [go_sem]
   refine ⟨by omega,?_⟩
   rw [ai ⟨by omega,by omega⟩]
   rw [List.take_of_length_le (l:=List.map i64 _) (by simp;omega),show List.map i64 (A++(l.take i).map fun f:EF=>f.to)++[i64 l[i].to]=(A++(l.take (i+1)).map fun f:EF=>f.to).map i64 by
    rw [List.take_succ_eq_append_getElem hi',List.map_append (l₁:=List.take i l),← List.append_assoc,List.map_append (l₁:=A++_)];rfl]
   rw [hQ]
   simp only [go_sem]
   refine ⟨⟨i+1,by omega⟩,by show l.length-(i+1)<_;omega,tau [([97],[62])],?_⟩
   simp only [go_sem]
   all_goals first | rfl | exact ⟨rfl,rfl⟩
  ·rw [hQ]
   have h3:i=l.length:=by omega
   subst h3
   rw [List.take_length]
   simp only [go_sem]
   refine ⟨[([97],none,(A++l.map fun f:EF=>f.to).map i64)],?_⟩
   simp only [go_sem]
   rw [List.take_of_length_le (by simp;omega),hA]
   rfl
 ·refine aL Tryz.func31 rfl (by decide +kernel) (by simp [Tryz.ntmps31]) (veil fun E=>?_)
  simp only [go_sem]
  obtain ⟨A,hA,hAl⟩:∃ A:List Int,A=[]∧A.length=0:=⟨_,rfl,rfl⟩
  refine aC E (X:={ i:Nat // i≤l.length }) (fun x=>[(1,.bx [1] 0),(3,.vw [97] 0 (0+x.1)),(4,.d (i64 x.1))])
   (fun x=>[([1],.box [.d (i64 11),.d (i64 a),.d (i64 b),.d (i64 c),.d (i64 m),.d (.str nm),.d (.str s),.d (.sl (some 3) (l.map fD)),.d (i64 p)]),([97],.arr none ((A++(l.take x.1).map fun f:EF=>f.to).map i64))]) [1,97] (fun x=>l.length-x.1) ⟨0,Nat.zero_le _⟩ (tau [([97],[5])]) ?_ ?_
  ·simp only [go_sem]
   all_goals (rw [hA];rfl)
  rintro ⟨i,hi⟩ E0
  refine aO E0 fun Q' hQ E'=>?_
  simp only at hi ⊢
  simp only [go_sem]
  refine ah E' (fun g1=>?_) (fun g1=>?_)<;>simp only [go_sem]
  ·have hi':i<l.length:=by omega
   refine ⟨⟨by omega,by omega⟩,?_⟩
   rw [pM hi']
   simp only [go_sem]
   refine ⟨by omega,?_⟩
   rw [ai ⟨by omega,by omega⟩]
   rw [List.take_of_length_le (l:=List.map i64 _) (by simp;omega),show List.map i64 (A++(l.take i).map fun f:EF=>f.to)++[i64 l[i].to]=(A++(l.take (i+1)).map fun f:EF=>f.to).map i64 by
    rw [List.take_succ_eq_append_getElem hi',List.map_append (l₁:=List.take i l),← List.append_assoc,List.map_append (l₁:=A++_)];rfl]
   rw [hQ]
   simp only [go_sem]
   refine ⟨⟨i+1,by omega⟩,by show l.length-(i+1)<_;omega,tau [([97],[62])],?_⟩
   simp only [go_sem]
   all_goals first | rfl | exact ⟨rfl,rfl⟩
  ·rw [hQ]
   have h3:i=l.length:=by omega
   subst h3
   rw [List.take_length]
   simp only [go_sem]
   refine ⟨[([97],none,(A++l.map fun f:EF=>f.to).map i64)],?_⟩
   simp only [go_sem]
   rw [List.take_of_length_le (by simp;omega),hA]
   rfl
 ·refine aL Tryz.func31 rfl (by decide +kernel) (by simp [Tryz.ntmps31]) (veil fun E=>?_)
  simp only [go_sem]
  iterate 9
   refine ah E (fun h=>absurd h (by omega)) (fun _=>?_)
   simp only [go_sem]
  repeat (first
   | (apply br E;(· simp only [go_sem]);(· intro h;(try simp only [bq] at h);simp only [↓h,go_sem];rfl);simp only [go_sem])
   | (apply aK E;(· simp only [go_sem]);(· intro h;(try simp only [bq] at h);simp only [↓h,go_sem];rfl);(· intro h;(try simp only [bq] at h);simp only [↓h,go_sem];rfl);simp only [go_sem])
   | (apply aI E;(· simp only [go_sem]);(· rfl);(· intro h h';(try simp only [bq] at h h');simp only [↓h,↓h',go_sem];rfl);simp only [go_sem])
   | (apply aw E;(· simp only [go_sem]);(· rfl);(· intro h h';(try simp only [bq] at h h');simp only [↓h,↓h',go_sem];rfl);(· intro h h';(try simp only [bq] at h h');simp only [↓h,↓h',go_sem];rfl);simp only [go_sem])
   | (apply bo E;(· decide);simp only [go_sem]))
  refine aG E (fun h=>absurd (by simpa using h) (show ¬ (k=11∨k=14) by omega)) (fun _=>?_)
  simp only [go_sem]
  refine ⟨[([5],none,[])],?_⟩
  simp only [go_sem]
  have h1:aY k=0:=by
   unfold aY
   repeat' split
   all_goals first | rfl | (exfalso;omega)
  have h2:aJ k=false:=by
   unfold aJ
   rw [decide_eq_false (show ¬ k=11 by omega),decide_eq_false (show ¬ k=14 by omega)]
   rfl
  unfold an
  simp only [h1,h2]
  rfl
end Go.Proofs.YtejpnabbmgpmaaaGreatDoor

namespace Go.Ab
section
variable {P:Program} {cf:Cf} {Q:Exit→St→Prop} {s:St} {k:List It} {B:Base} {β:Name→Option Blk} {tm:Array Value} {w:World}
theorem Sim.Hk (h:Sim B β s tm w) {p:Name} {t d:Nat} {ds:List D} (hd:d ∉ s.used) (hp:s.hp p=some (.box (ds.map .d))) (hsc:∀ x∈ds,x.scal=true) (h0:0<ds.length) (ht:s.fr t=.bx p 0) :
  ∃ β',Sim B β' (((s.set p none).add d (.arr none ds)).put t (.el [d] 0 0)) tm w:=by
 obtain ⟨k,c,e,hk,hk0,hc,hz,hl,h1,hcs⟩:=(h.objs p _ hp).2
 have hsl:=h.slots t
 rw [ht] at hsl
 have hv:tm.getD t undef=.pointer (some ⟨k.b,0,none⟩):=by
  generalize tm.getD t undef=v at hsl
  cases hsl with
  | bx _ _ _ _ _ hx =>
    obtain ⟨k',hk',_,rfl⟩:=hx _ _ hp
    rw [hk] at hk';cases hk'
    rfl
 have hlen:c.size=ds.length:=by rw [hl];simp
 have hs:=h.renew hd hp hk none none ds 0 (w':=w) rfl rfl (fun _ _=>rfl) (fun _=>⟨c,e,hc,hz,by simp only [wd];omega,fun x hx=>hsc x hx,fun i x j y hi hj=>by
  have hx:=hsc x (List.mem_of_getElem? hi)
  have hxy:j=0∧y=x:=by
   cases x<;>simp [D.scal] at hx<;>(cases j<;>simp [D.cells] at hj<;>simp [hj])
  obtain ⟨rfl,rfl⟩:=hxy
  have:=(hcs i (.d y) (by rw [List.getElem?_map,hi];rfl)).toD
  simpa [wd] using this⟩)
 refine ⟨_,hs.setv ?_⟩
 rw [hv]
 refine .el _ _ _ _ ⟨d,[],rfl,List.mem_cons_self⟩ rfl fun ty' wf xs hx=>?_
 have:(some (Ob.arr none ds))=some (.arrT ty' wf xs):=by rw [← hx];simp [St.add,St.set,au]
 cases this
 exact ⟨h0,⟨k.b,0,k.z⟩,by simp [au],by simp⟩
theorem Im (E:Eng P cf Q) {c:Code} (p:Name) (t d:Nat) (ds:List D) (hd:d ∉ s.used) (hp:s.hp p=some (.box (ds.map .d))) (hsc:(ds.all D.scal)=true) (h0:0<ds.length) (ht:s.fr t=.bx p 0)
  (h:er E c (((s.set p none).add d (.arr none ds)).put t (.el [d] 0 0)) k):er E c s k:=by
 intro B hB ds' β a w' hds hs
 obtain ⟨β',hs'⟩:=hs.Hk hd hp (List.all_eq_true.1 hsc) h0 ht
 exact h B hB ds' β' a w' hds hs'
def iV (zs xs:List D) (off len:Nat):List D:=zs.take off++(xs.take (Nat.min xs.length len)++zs.drop (off+Nat.min xs.length len))
theorem sR {zs xs:List D} {off len:Nat} (h:off+len≤zs.length):(iV zs xs off len).length=zs.length:=by
 have h1:Nat.min xs.length len≤len:=Nat.min_le_right _ _
 have h2:Nat.min xs.length len≤xs.length:=Nat.min_le_left _ _
 unfold iV
 obtain ⟨m,hm⟩:∃ m,m=Nat.min xs.length len:=⟨_,rfl⟩
 rw [← hm] at h1 h2 ⊢
 simp only [List.length_append,List.length_take,List.length_drop]
 omega
theorem z8 {zs xs:List D} {off len m:Nat} (hm:Nat.min xs.length len=m) (h:off+len≤zs.length) (i:Nat):(iV zs xs off len)[i]?=if i<off then zs[i]? else if i<off+m then xs[i-off]? else zs[i]?:=by
 have h1:Nat.min xs.length len≤len:=Nat.min_le_right _ _
 have h2:Nat.min xs.length len≤xs.length:=Nat.min_le_left _ _
 unfold iV
 rw [hm] at h1 h2 ⊢
 by_cases c1:i<off
 ·rw [if_pos c1,List.getElem?_append_left (by simp;omega),List.getElem?_take_of_lt c1]
 rw [if_neg c1,List.getElem?_append_right (by simp;omega),List.length_take,Nat.min_eq_left (by omega)]
 by_cases c2:i<off+m
 ·rw [if_pos c2,List.getElem?_append_left (by simp;omega),List.getElem?_take_of_lt (by omega)]
 ·rw [if_neg c2,List.getElem?_append_right (by simp;omega),List.length_take,Nat.min_eq_left h2,List.getElem?_drop]
  congr 1;omega
theorem ED {c1 c:Array Value} {o q m:Nat} (hq:q+m≤c1.size) (ho:o+m≤c.size) (i:Nat):(c1.toList.take q++(c.extract o (o+m)).toList++c1.toList.drop (q+m)).toArray.getD i undef=if i<q then c1.getD i undef else if i<q+m then c.getD (o+(i-q)) undef else c1.getD i undef:=by
 have hcl:(c.extract o (o+m)).toList.length=m:=by simp;omega
 rw [Array.getD_eq_getD_getElem?,List.getElem?_toArray]
 by_cases h1:i<q
 ·rw [if_pos h1,List.append_assoc,List.getElem?_append_left (by simp;omega),List.getElem?_take_of_lt h1]
  simp [Array.getD_eq_getD_getElem?]
 rw [if_neg h1]
 by_cases h2:i<q+m
 ·rw [if_pos h2,List.getElem?_append_left (by rw [List.length_append,hcl,List.length_take];simp;omega),List.getElem?_append_right (by simp;omega),List.length_take,Array.length_toList,Nat.min_eq_left (by omega)]
  rw [Array.getElem?_toList,Array.getElem?_extract,if_pos (by omega)]
  simp [Array.getD_eq_getD_getElem?]
 ·rw [if_neg h2,List.getElem?_append_right (by rw [List.length_append,hcl,List.length_take];simp;omega),List.length_append,hcl,List.length_take,Array.length_toList,Nat.min_eq_left (by omega),List.getElem?_drop]
  rw [show q+m+(i-(q+m))=i by omega]
  simp [Array.getD_eq_getD_getElem?]
theorem GJ (E:Eng P cf Q) {x y:Operand} {d:Nat} {dT sT e0:Nat} {ty:TypeId} {pos:String} {af:Array Edge} {p:Name} {off len:Nat} {zs xs:List D} (hd:d<cf.n) (hk:(P.ti dT).k=.slice e0) (hw:(P.ti e0).isW none=true)
  (hx:ev s x=.vw p off len) (hp:s.hp p=some (.arr none zs)) (hy:ev s y=.d (.sl none xs)) (h:E.run k ((s.set p (some (.arr none (iV zs xs off len)))).put d (.d (.int .i64 (Nat.min xs.length len:Nat))))) :
  E.stp { dst:=some d,op:=.call { callee:=.builtin .copy,args:=#[x,y],argTypes:=#[dT,sT] },type:=ty,pos:=pos,after:=af,guard:=none } s k .no:=by
 rw [aE]
 rw [E.run_eq] at h
 intro B hB ds β a w hds hs Q'
 obtain ⟨hg,hwd,_⟩:=bn hw
 have hu:=a8 hk
 have hsz:(P.info? e0).map (·.size)=some 1:=by
  obtain ⟨i,_,hi,_,_,hsz,_⟩:=b7 hg
  rw [hi]
  simp only [Option.map_some,Option.some.injEq]
  rw [← hsz,← hwd];rfl
 have hvx:=hs.ev x
 rw [hx] at hvx
 have hvy:=(hs.ev y)
 rw [hy] at hvy
 obtain ⟨ay,capy,hay,_,hcy⟩:=hvy.toD.uK
 generalize hax:a.eval x=vx at hvx
 cases hvx with
 | vw _ _ _ _ hn h1' hx' =>
 obtain ⟨hle,a0,cap,rfl,hx''⟩:=hx' _ _ _ hp
 have hexec:∀ v w',(Builtin.copy_ #[dT,sT] ty #[.slice a0 len cap,.slice ay xs.length capy]).run P w=.ok v w'→(execOp a.eval { dst:=some d,op:=.call { callee:=.builtin .copy,args:=#[x,y],argTypes:=#[dT,sT] },type:=ty,pos:=pos,after:=af,guard:=none }).run P w=.ok (.value v) w':=by
  intro v w' hr
  simp [execOp,resolve,invoke,builtin,hax,hay,hr,Result.andThen]
 by_cases hn0:Nat.min xs.length len=0
 ·have hr:=run_copy_none (P:=P) w dT sT ty e0 a0 ay len cap xs.length capy hu hsz hn0
  have hzs:iV zs xs off len=zs:=by simp [iV,hn0]
  have hself:s.set p (some (.arr none (iV zs xs off len)))=s:=by
   rw [hzs]
   cases s
   simp only [St.set,St.mk.injEq,true_and,and_true]
   funext q
   by_cases e:q=p
   ·subst e;simp [au];exact hp.symm
   ·simp [au,e]
  rw [hself,hn0] at h
  exact aA (v:=goInt 0) (by simp) (hexec _ _ hr) (.inl rfl) ⟨hds,_,β,aP h,hs.put (by rw [hB.1];exact hd) (.d _ _ (.int _ _))⟩
 ·have hne:xs≠[]:=by rintro rfl;exact hn0 (Nat.min_eq_left (Nat.zero_le _))
  obtain ⟨b,o,c,e,fz,rfl,hb,hbn,hzz,hok,hrep⟩:=hcy hne
  have hle2:Nat.min xs.length len≤len:=Nat.min_le_right _ _
  have hle3:Nat.min xs.length len≤xs.length:=Nat.min_le_left _ _
  rcases hx'' with ⟨hl0,_⟩ | ⟨k0,hk0,rfl,hcap,hkz⟩
  ·omega
  rcases (hs.objs p _ hp).2 with ⟨hq,_⟩ | ⟨k1,c1,e1,hk1,hc1,hz1,hl1,hw1,hcs1⟩
  ·rw [hk0] at hq;cases hq
  rw [hk0] at hk1;cases hk1
  simp only [wd,Nat.mul_one] at hzz hkz hl1
  generalize hm:Nat.min xs.length len=m at *
  have hcl:(c.extract o (o+m)).toList.length=m:=by simp;omega
  have hget:∀ j,j<m→(c.extract o (o+m)).toList[j]?=some (c.getD (o+j) undef):=fun j hj=>by
   have h2:o+j<c.size:=by omega
   rw [Array.getElem?_toList,Array.getElem?_extract,if_pos (by omega)]
   simp [Array.getD_eq_getD_getElem?,h2]
  have hel:∀ j,j<m→∃ x,xs[j]?=some x∧x.scal=true∧Rep w.heap (s.own B.A β) (c.getD (o+j) undef) x:=fun j hj=>by
   have h2:j<xs.length:=by omega
   refine ⟨xs[j],by simp [h2],hok _ (List.getElem_mem h2),?_⟩
   have h3:(xs[j]).scal=true:=hok _ (List.getElem_mem h2)
   have:=hrep j xs[j] 0 xs[j] (by simp [h2]) (by cases hq:xs[j]<;>rw [hq] at h3<;>simp [D.scal] at h3<;>rfl)
   simpa [wd] using this
  have hr:=run_copy_row (P:=P) w dT sT ty e0 k0.b (k0.o+off*wd none) len cap ⟨b,o,none⟩ xs.length capy c1 e1 (c.extract o (o+m)).toList hu hsz hc1 (by rw [hcl,← hm]) (fun j v hv=>by
   have hj:j<m:=by have:=(List.getElem?_eq_some_iff.1 hv).1;rw [hcl] at this;exact this
   rw [hget j hj] at hv
   have h2:o+j<c.size:=by omega
   rw [bj]
   simp [World.cell?,hb,h2,Array.getD_eq_getD_getElem?] at hv ⊢
   exact hv) (by rw [hcl];simp only [wd,Nat.mul_one];omega) (fun v hv=>by
   obtain ⟨j,hj⟩:=List.mem_iff_getElem?.1 hv
   have hj':j<m:=by have:=(List.getElem?_eq_some_iff.1 hj).1;rw [hcl] at this;exact this
   rw [hget j hj'] at hj
   obtain ⟨x,_,hx1,hx2⟩:=hel j hj'
   cases hj
   exact hx2.lH hx1)
  rw [hcl] at hr
  obtain ⟨hsim,_⟩:=hs.modify (p:=p) (ob':=.arr none (iV zs xs off len)) hp ⟨⟨rfl,rfl⟩,by rw [sR hle];exact Nat.le_refl _⟩ (w':=w.setRow k0.b (List.take (k0.o+off*wd none) c1.toList++(c.extract o (o+m)).toList++List.drop (k0.o+off*wd none+m) c1.toList).toArray) rfl (by simp) (fun b hb=>setRow_other w k0.b b _ (hb k0 hk0)) (fun _ hrr=>.inr ⟨k0,_,e1,hk0,setRow_heap w k0.b c1 _ e1 (0,0) hc1,(by simp only [List.size_toArray,List.length_append,hcl,List.length_take,List.length_drop,Array.length_toList,wd,Nat.mul_one];omega),(by rw [sR hle];simpa [wd] using hl1),(fun x hx=>by
   unfold iV at hx
   rcases List.mem_append.1 hx with hx | hx
   ·exact hw1 _ (List.mem_of_mem_take hx)
   rcases List.mem_append.1 hx with hx | hx
   ·exact hok _ (List.mem_of_mem_take hx)
   ·exact hw1 _ (List.mem_of_mem_drop hx)),fun i x j d hi hj=>by
   have hsx:x.scal=true:=by
    unfold iV at hi
    have hx:=List.mem_of_getElem? hi
    rcases List.mem_append.1 hx with hx | hx
    ·exact hw1 _ (List.mem_of_mem_take hx)
    rcases List.mem_append.1 hx with hx | hx
    ·exact hok _ (List.mem_of_mem_take hx)
    ·exact hw1 _ (List.mem_of_mem_drop hx)
   have hxy:j=0∧d=x:=by
    cases x<;>simp [D.scal] at hsx<;>(cases j<;>simp [D.cells] at hj<;>simp [hj])
   obtain ⟨rfl,rfl⟩:=hxy
   have hwd1:off*wd none=off:=by simp [wd]
   rw [show k0.o+i*wd none+0=k0.o+i by simp [wd],ED (by omega) (by omega)]
   rw [z8 hm hle] at hi
   have old:∀ x,zs[i]?=some x→x.scal=true→Rep _ _ (c1.getD (k0.o+i) undef) x:=fun x hz hsx=>by
    have:=hcs1 i x 0 x hz (by cases x<;>simp [D.scal] at hsx<;>rfl)
    rw [show k0.o+i*wd none+0=k0.o+i by simp [wd]] at this
    exact hrr _ _ this
   by_cases g1:i<off
   ·rw [if_pos g1] at hi
    rw [if_pos (by omega)]
    exact old _ hi hsx
   rw [if_neg g1] at hi
   rw [if_neg (by omega)]
   by_cases g2:i<off+m
   ·rw [if_pos g2] at hi
    rw [if_pos (by omega)]
    obtain ⟨y,hy1,_,hy2⟩:=hel (i-off) (by omega)
    rw [hi] at hy1
    cases hy1
    rw [show k0.o+i-(k0.o+off*wd none)=i-off by omega]
    exact hrr _ _ hy2
   ·rw [if_neg g2] at hi
    rw [if_neg (by omega)]
    exact old _ hi hsx⟩)
  exact aA (v:=goInt m) (by simp) (hexec _ _ hr) (.inl rfl) ⟨hds,_,β,aP h,hsim.put (by rw [hB.1];exact hd) (.d _ _ (.int _ _))⟩
end
section
variable {P:Program} {cf:Cf} {Q:Exit→St→Prop} {s:St} {k:List It}
theorem Es (E:Eng P cf Q) {o:Oper} (t:Nat) (wf:W) (ht:s.fr t=.d .nils) (h:E.stp o (s.put t (.d (.sl wf []))) k .no):E.stp o s k .no:=by
 rw [aE] at h ⊢
 intro B hB ds β a w hds hs Q'
 refine h B hB ds β a w hds (hs.setv ?_) Q'
 have hv:=hs.slots t
 rw [ht] at hv
 rw [hv.nils]
 exact .d _ _ (.sl0 _ _ _)
end
theorem HCall.sub {P:Program} {G:List (Nat × Obj)} {f:FuncId} {args args':List AV} {hp:List (Name × Ob)} {u:List Nat} {Q:AV→List (Name × Ob)→Prop} (hl:args.length=args'.length)
  (hr:∀ (i:Nat) x y,args[i]?=some x→args'[i]?=some y→x=y∨∃ wf,x=.d .nils∧y=.d (.sl wf [])) (h:HCall P G f args' hp u Q):HCall P G f args hp u Q:=by
 refine ⟨h.1,fun B β vs w h1 h2 h3 h4 h5=>h.2 B β vs w (h1.trans hl) h2 h3 h4 { tms:=h5.tms,io:=h5.io,size:=h5.size,frame:=h5.frame,slots:=fun t=>?_,objs:=h5.objs,blocks:=h5.blocks,inj:=h5.inj,us:=h5.us,stay:=h5.stay }⟩
 have hv:=h5.slots t
 rw [cS,aN,if_pos (Nat.zero_le _),Nat.sub_zero] at hv ⊢
 show VR w.heap ((mk (aB 0 args) hp u).own B.A β) u _ β _ _
 cases hx:args[t]? with
 | none =>
   rw [List.getElem?_eq_none (by rw [← hl];exact List.getElem?_eq_none_iff.1 hx)]
   exact .un _
 | some x =>
   have hlt:=(List.getElem?_eq_some_iff.1 hx).1
   have hy:args'[t]?=some args'[t]:=List.getElem?_eq_getElem (by omega)
   rw [hx] at hv
   rw [hy]
   rcases hr t _ _ hx hy with e | ⟨wf,e1,e2⟩
   ·rw [← e];exact hv
   ·rw [e1] at hv
    rw [e2]
    have:=VR.nils hv
    rw [this]
    exact .d _ _ (.sl0 _ _ _)
theorem HP.sub {P:Program} {G:List (Nat × Obj)} {f:FuncId} {args args':List D} {Q:AV→Prop} (hl:args.length=args'.length)
  (hr:∀ (i:Nat) x y,args[i]?=some x→args'[i]?=some y→x=y∨∃ wf,x=.nils∧y=.sl wf []) (h:HP P G f args' Q):HP P G f args Q:=by
 refine HCall.sub (by simpa using hl) (fun i x y hx hy=>?_) h
 rw [List.getElem?_map] at hx hy
 obtain ⟨a,ha,rfl⟩:=Option.map_eq_some_iff.1 hx
 obtain ⟨b,hb,rfl⟩:=Option.map_eq_some_iff.1 hy
 rcases hr i a b ha hb with e | ⟨wf,e1,e2⟩
 ·exact .inl (by rw [e])
 ·exact .inr ⟨wf,by rw [e1],by rw [e2]⟩
theorem EW (tf:Nat→TI) (dd:Option Nat) (s:St) (x y t):opE tf (.call { callee:=.builtin .min,args:=#[x,y],argTypes:=t }) dd s=(opV tf (.call { callee:=.builtin .min,args:=#[x,y],argTypes:=t }) s).bind fun x=>.ok (x,ef0):=dZ rfl
theorem C6 (tf:Nat→TI) (dd:Option Nat) (s:St) (x y t):opE tf (.call { callee:=.builtin .max,args:=#[x,y],argTypes:=t }) dd s=(opV tf (.call { callee:=.builtin .max,args:=#[x,y],argTypes:=t }) s).bind fun x=>.ok (x,ef0):=dZ rfl
attribute [go_sem] EW C6
end Go.Ab

namespace Go.Ab
section
variable {P:Program} {cf:Cf} {Q:Exit→St→Prop} {s:St} {k:List It} {B:Base} {β:Name→Option Blk} {tm:Array Value} {w:World}
theorem Sim.Hm (h:Sim B β s tm w) {p:Name} {ob:Ob} {k:Blk} (hp:s.hp p=some ob) (hk:β p=some k) {w':World} (hio:wio w'=wio w) (hsz:w'.heap.size=w.heap.size) (hw:∀ b,b≠k.b→w'.heap[b]?=w.heap[b]?):Sim B β (s.set p none) tm w':=by
 have hsub:∀ q o,(s.set p none).hp q=some o→q≠p∧s.hp q=some o:=by
  intro q o ho
  by_cases e:q=p
  ·subst e;simp [St.set,au] at ho
  ·exact ⟨e,by simpa [St.set,au,e] using ho⟩
 have hne:∀ q,(s.set p none).hp q≠none→s.hp q≠none:=by
  intro q hq e
  cases ho:(s.set p none).hp q with
  | none=>exact hq ho
  | some o=>rw [(hsub q o ho).2] at e;cases e
 have hr:∀ v d,Rep w.heap (s.own B.A β) v d→Rep w'.heap ((s.set p none).own B.A β) v d:=fun v d hd=>hd.mono (fun b hb _=>hw b fun e=>hb (.inr ⟨p,k,by rw [hp];simp,hk,e.symm⟩)) (by
  rintro b _ (hA | ⟨q,k,hq,hk,e⟩)
  ·exact .inl hA
  ·exact .inr ⟨q,k,hne q hq,hk,e⟩)
 have hst:∀ q,nm s.used q→Stays s.hp (s.set p none).hp β β q:=fun q _ o' ho'=>⟨o',(hsub q o' ho').2,Ob.bE _,rfl⟩
 refine { tms:=h.tms,io:=hio.trans h.io,size:=by rw [hsz];exact h.size,frame:=fun b hb hn=>?_,slots:=fun i=>(h.slots i).mono hr (fun _ h=>h) hst,objs:=?_,blocks:=fun q k hq hk=>(by rw [hsz];exact h.blocks q k (hne q hq) hk), inj:=fun q q' k l hq hq' hk hl e=>h.inj q q' k l (hne q hq) (hne q' hq') hk hl e,us:=h.us,stay:=h.stay }
 ·rw [hw b ?_]
  ·exact h.frame b hb hn
  ·intro e
   obtain ⟨_,_,h3⟩:=h.blocks p k (by rw [hp];simp) hk
   rcases h3 with h3 | h3
   ·omega
   ·exact hn (e ▸ h3)
 ·intro q o ho
  obtain ⟨hqp,ho'⟩:=hsub q o ho
  obtain ⟨h1,h2⟩:=h.objs q o ho'
  exact ⟨h1,h2.mono hr (fun _ h=>h) hst rfl fun l hl=>hw l.b fun e=>hqp (h.inj q p l k (by rw [ho'];simp) (by rw [hp];simp) hl hk e)⟩
theorem Dh (E:Eng P cf Q) {o:Oper} (p:Name) (j n:Nat) (ty tg:Option Nat) (w:W) (cs:List AV) (hp:s.hp p=some (.boxT ty cs)) (hj:cs[j]?=some (.d .nils)) (hn:n ∉ s.used) (h:E.stp o ((s.add n (.arrT tg w [])).set p (some (.boxT ty (cs.set j (.vw [n] 0 0))))) k .no):E.stp o s k .no:=by
 rw [aE] at h ⊢
 intro B hB ds β a w' hds hs Q'
 have h1:=hs.dU hn tg w
 have hpn:p≠[n]:=fE (hs.objs p _ hp).1 hn
 refine h B hB ds (au β [n] none) a w' hds (h1.rebox (cs:=cs) (by simpa [St.add,au,hpn] using hp) (by simp) fun v i x x' hx hx' hv=>?_) Q'
 by_cases e:j=i
 ·subst e
  rw [hj] at hx
  cases hx
  rw [List.getElem?_set_self (List.getElem?_eq_some_iff.1 hj).1] at hx'
  cases hx'
  have:=hv.toD
  cases this
  exact .vw _ _ _ _ ⟨n,[],rfl,List.mem_cons_self⟩ rfl fun ty' w' xs hx=>by
   have:some (Ob.arrT tg w [])=some (.arrT ty' w' xs):=by rw [← hx];simp [St.add,au]
   cases this
   exact ⟨Nat.le_refl _,none,0,rfl,.inl ⟨rfl,rfl⟩⟩
 ·rw [List.getElem?_set_ne e,hx] at hx'
  cases hx'
  exact hv
theorem oB (E:Eng P cf Q) {d t e:Nat} {x y:Operand} {ty:TypeId} {pos:String} {af:Array Edge} (tg:Option Nat) (p q:Name) (xs ys:List D) (hk:(P.ti t).k=.slice e) (hz:(P.ti e).zOk=true) (hw:(P.ti e).isW (P.ti e).w=true) (hew:(P.ti e).w=none)
  (htg:tg.getD e=e) (hd:d<cf.n∧d ∉ s.used) (hx:ev s x=.vw p 0 xs.length) (hp:s.hp p=some (.arrT tg none xs)) (hy:ev s y=.vw q 0 ys.length) (hq:s.hp q=some (.arr none ys)) (hl:(xs.length+ys.length)*(P.ti e).by1≤140737488355328)
  (h:E.run k (((s.set p none).add d (.arrT tg none (xs++ys))).put d (.vw [d] 0 (xs.length+ys.length)))) :
  E.stp { dst:=some d,op:=.call { callee:=.builtin .append,args:=#[x,y],argTypes:=#[t,t] },type:=ty,pos:=pos,after:=af,guard:=none } s k .no:=by
 rw [aE]
 rw [E.run_eq] at h
 intro B hB ds β a w hds hs Q'
 have hvx:=hs.ev x
 have hvy:=hs.ev y
 rw [hx] at hvx
 rw [hy] at hvy
 have key:=iI (P:=P) (t:=t) hs hvx hvy hk hz hw ty (some d) tg htg
 have e1:ia tg B.n (P.ti e) (some d) s (.vw p 0 xs.length) (.vw q 0 ys.length)=.need ((xs.length+ys.length)*(P.ti e).by1≤140737488355328) (.ok (((s.set p none).add d (.arrT tg none (xs++ys))).put d (.vw [d] 0 (xs.length+ys.length)))):=by
  unfold ia
  have hlo:bD (P.ti e).w s.hp (.vw q 0 ys.length)=some ys:=by simp [bD,hq,hew]
  rw [hlo]
  simp only [hp]
  rw [if_pos ⟨trivial,hew.symm⟩]
  have hd2:d<B.n∧d ∉ (s.set p none).used:=⟨by rw [hB.1];exact hd.1,hd.2⟩
  unfold fP
  simp only
  rw [if_pos hd2]
  simp
 rw [e1] at key
 obtain ⟨dd,v,w',β',hdd,hrun,hsim⟩:=key hl
 cases hdd
 exact aA (v:=v) (by simp) (by simp [execOp,resolve,invoke,builtin,hrun]) (.inl rfl) ⟨hds,_,β',aP h,hsim⟩
end
section
variable {P:Program} {cf:Cf} {Q:Exit→St→Prop} {s:St} {k:List It}
theorem ez {o:Oper} {d:Nat} {x:AV} (hd:o.dst=some d) (hdn:d<cf.n) (hnd:∀ c,o.op≠.defer c)
  (hrun:∀ (B:Base) (β:Name→Option Blk) (a:Act) (w:World),Sim B β s a.tmps w→∃ v,(execOp a.eval o).run P w=.ok (.value v) w∧VR w.heap (s.own B.A β) s.used s.hp β v x) (h:run P cf k Q (s.put d x)):AOk P cf o s k Q:=by
 intro B hB ds β a w hds hs Q'
 obtain ⟨v,h1,h2⟩:=hrun B β a w hs
 refine aA (v:=v) hnd h1 (.inl rfl) ?_
 rw [hd]
 exact ⟨hds,_,β,aP h,hs.put (by rw [hB.1];exact hdn) h2⟩
theorem j8 (E:Eng P cf Q) {o:Oper} {d:Nat} {x:AV} (hd:o.dst=some d) (hdn:d<cf.n) (hnd:∀ c,o.op≠.defer c)
  (hrun:∀ (B:Base) (β:Name→Option Blk) (a:Act) (w:World),Sim B β s a.tmps w→∃ v,(execOp a.eval o).run P w=.ok (.value v) w∧VR w.heap (s.own B.A β) s.used s.hp β v x) (h:E.run k (s.put d x)):E.stp o s k .no:=by
 rw [aE]
 rw [E.run_eq] at h
 exact ez hd hdn hnd hrun h
theorem qB {t e:Nat} (h:(P.ti t).k=.ptr e):P.underlying t=some (.pointer e):=by
 obtain ⟨i,d,_,hd,hk,_⟩:=b7 (P:=P) (t:=t) (by rw [h];rfl)
 rw [h] at hk
 cases d<;>simp [tk] at hk
 rw [hd,hk]
def zY (hp:Name→Option Ob):AV→Option Bool
 | .d .nilp=>some true
 | .d (.ptr _)=>some false
 | .bx p _=>match hp p with
   | some (.boxT _ _)=>some false
   | _=>none
 | _=>none
theorem uP {H:Array Obj} {own:Nat→Prop} {used:List Nat} {hp:Name→Option Ob} {β:Name→Option Blk} {v:Value} {x:AV} {b:Bool} (h:VR H own used hp β v x) (hn:zY hp x=some b):∃ ad,v=.pointer ad∧ad.isNone=b:=by
 cases x with
 | d z =>
   cases z<;>simp [zY] at hn
   ·subst hn
    have:=h.toD
    cases this;exact ⟨none,rfl,rfl⟩
   ·subst hn
    have:=h.toD
    cases this;exact ⟨_,rfl,rfl⟩
 | bx p c =>
   simp only [zY] at hn
   split at hn
   ·rename_i ty cs ho
    cases hn
    cases h with
    | bx _ _ _ _ _ hx =>
      obtain ⟨k,_,_,rfl⟩:=hx _ _ ho
      exact ⟨_,rfl,rfl⟩
   ·cases hn
 | _=>simp [zY] at hn
theorem j6 (E:Eng P cf Q) {t e:TypeId} {x:Operand} {yt:TypeId} {dst:Nat} {ty:TypeId} {ps:String} {af:Array Edge} (b:Bool) (hk:(P.ti t).k=.ptr e) (hd:dst<cf.n) (hx:zY s.hp (ev s x)=some b) (h:E.run k (s.put dst (.d (.bool b)))) :
  E.stp { dst:=some dst,op:=.binOp .eql t x (.const (.pointer none)) yt,type:=ty,pos:=ps,after:=af,guard:=none } s k .no:=by
 refine j8 E rfl hd (by simp) (fun B β a w hs=>⟨.bool b,?_,.d _ _ (.bool _)⟩) h
 obtain ⟨ad,hv,rfl⟩:=uP (hs.ev x) hx
 have hu:=qB hk
 refine gB ?_ ?_
 ·rw [hv];rfl
 ·rw [hv]
  exact run_eql_pointer_nil w t ad (by rw [hu];simp [Program.pointee,hu])
theorem run_neq_ptr_same {tp te:TypeId} {j:TypeInfo} (w:World) (a:Addr) (hp:P.underlying tp=some (.pointer te)) (hte:P.info? te=some j):(binOp .neq tp (.pointer (some a)) (.pointer (some a))).run P w=.ok (.bool false) w:=by
 have h:∀ d:Nat,(Op.equalIn (d+1) tp (.pointer (some a)) (.pointer (some a))).run P w=.ok true w:=fun d=>by
  simp [Op.equalIn,run_underlying hp,sizeOf,typeInfo,hte,run_sameAddr_same]
 simp only [binOp]
 simp [Op.equal,Op.maxDepth,h 9999]
theorem vN (E:Eng P cf Q) {t e:TypeId} {x y:Operand} {yt:TypeId} {dst:Nat} {ty:TypeId} {ps:String} {af:Array Edge} (p:Name) (c:Nat) (hk:(P.ti t).k=.ptr e) (he:(P.info? e).isSome=true) (hd:dst<cf.n) (hx:ev s x=.bx p c) (hy:ev s y=.bx p c) (hp:(match s.hp p with | some (.boxT _ _)=>true | _=>false)=true)
  (h:E.run k (s.put dst (.d (.bool false)))):E.stp { dst:=some dst,op:=.binOp .neq t x y yt,type:=ty,pos:=ps,after:=af,guard:=none } s k .no:=by
 refine j8 E rfl hd (by simp) (fun B β a w hs=>⟨.bool false,?_,.d _ _ (.bool _)⟩) h
 split at hp
 rotate_left
 ·cases hp
 rename_i ty' cs ho
 obtain ⟨k,hkk⟩:∃ k:Blk,∀ v,VR w.heap (s.own B.A β) s.used s.hp β v (.bx p c)→v=.pointer (some ⟨k.b,c,none⟩):=by
  obtain ⟨k,_,_,hk,_⟩:=(hs.objs p _ ho).2
  refine ⟨k,fun v hv=>?_⟩
  cases hv with
  | bx _ _ _ _ _ hx =>
    obtain ⟨k',hk',_,rfl⟩:=hx _ _ ho
    rw [hk] at hk';cases hk';rfl
 have h1:=hkk _ (hx ▸ hs.ev x)
 have h2:=hkk _ (hy ▸ hs.ev y)
 obtain ⟨j,hj⟩:=Option.isSome_iff_exists.1 he
 refine gB ?_ ?_
 ·rw [h1,h2];rfl
 ·rw [h1,h2]
  exact run_neq_ptr_same w _ (qB hk) hj
theorem Bi {B:Base} {β:Name→Option Blk} {tm:Array Value} {w:World} (hs:Sim B β s tm w) {p:Name} {t:Nat} {cs:List AV} (hp:s.hp p=some (.boxT (some t) cs)):∃ k:Blk,(∀ v c,VR w.heap (s.own B.A β) s.used s.hp β v (.bx p c)→v=.pointer (some ⟨k.b,c,none⟩))∧w.shape? k.b=some (t,cs.length):=by
 obtain ⟨k,c,e,hk,_,hc,_,hl,_⟩:=(hs.objs p _ hp).2
 refine ⟨k,fun v c hv=>?_,by simp [World.shape?,hc,hl]⟩
 cases hv with
 | bx _ _ _ _ _ hx =>
   obtain ⟨k',hk',_,rfl⟩:=hx _ _ hp
   rw [hk] at hk';cases hk';rfl
theorem Fh (E:Eng P cf Q) {a' b' e:TypeId} {x:Operand} {dst:Nat} {ty:TypeId} {ps:String} {af:Array Edge} (p:Name) (c t:Nat) (cs:List AV) (hk:(P.ti a').k=.ptr e) (hu:P.underlying b'=some .unsafePointer) (he:(P.info? e).any (fun j=>j.size != 0)=true) (hd:dst<cf.n) (hx:ev s x=.bx p c)
  (hp:s.hp p=some (.boxT (some t) cs)) (hc:c<cs.length) (h:E.run k (s.put dst (.bx p c))):E.stp { dst:=some dst,op:=.convert a' b' x,type:=ty,pos:=ps,after:=af,guard:=none } s k .no:=by
 refine j8 E (x:=.bx p c) rfl hd (by simp) (fun B β a w hs=>⟨a.eval x,?_,hx ▸ hs.ev x⟩) h
 obtain ⟨k,hkk,hsh⟩:=Bi hs hp
 have h1:=hkk _ _ (hx ▸ hs.ev x)
 rw [Option.any_eq_true] at he
 obtain ⟨j,hj,hj0⟩:=he
 have:=Lib.run_to_unsafe (P:=P) w (src:=a') (dst:=b') (⟨k.b,c,none⟩:Addr) (qB hk) hu hj (by simpa using hj0) hsh hc
 simp [execOp,h1,this]
theorem Fk (E:Eng P cf Q) {a' b' e:TypeId} {x:Operand} {dst:Nat} {ty:TypeId} {ps:String} {af:Array Edge} (p:Name) (c t:Nat) (cs:List AV) (hk:(P.ti b').k=.ptr e) (hu:P.underlying a'=some .unsafePointer) (he:(P.info? e).isSome=true) (hd:dst<cf.n) (hx:ev s x=.bx p c)
  (hp:s.hp p=some (.boxT (some t) cs)) (m:Nat) (hm:cs.length=m) (hl:liesAt P P.depth t (m / P.cellsOf t) c e 1=true) (h:E.run k (s.put dst (.bx p c))):E.stp { dst:=some dst,op:=.convert a' b' x,type:=ty,pos:=ps,after:=af,guard:=none } s k .no:=by
 refine j8 E (x:=.bx p c) rfl hd (by simp) (fun B β a w hs=>⟨a.eval x,?_,hx ▸ hs.ev x⟩) h
 obtain ⟨k,hkk,hsh⟩:=Bi hs hp
 have h1:=hkk _ _ (hx ▸ hs.ev x)
 obtain ⟨j,hj⟩:=Option.isSome_iff_exists.1 he
 rw [hm] at hsh
 have:=Lib.run_from_unsafe (P:=P) w (src:=a') (dst:=b') (⟨k.b,c,none⟩:Addr) hu (qB hk) hj hsh hl
 simp [execOp,h1,this]
theorem xb (E:Eng P cf Q) {fv x:Operand} {at':Array TypeId} {dst:Nat} {ty:TypeId} {ps:String} {af:Array Edge} (f:FuncId) (y:AV) (hr:∀ v w,(callFunc f #[v]).run P w=.ok (.value v) w) (hd:dst<cf.n) (hf:ev s fv=.clo f []) (hx:ev s x=y) (h:E.run k (s.put dst y)) :
  E.stp { dst:=some dst,op:=.call { callee:=.value fv,args:=#[x],argTypes:=at' },type:=ty,pos:=ps,after:=af,guard:=none } s k .no:=by
 refine j8 E (x:=y) rfl hd (by simp) (fun B β a w hs=>⟨a.eval x,?_,hx ▸ hs.ev x⟩) h
 have hf':=hs.ev fv
 rw [hf] at hf'
 generalize hfv:a.eval fv=fval at hf'
 cases hf' with
 | clo _ cvs _ hcs hcv =>
 have hc0:cvs=#[]:=Array.eq_empty_of_size_eq_zero (by simpa using hcs)
 subst hc0
 have e:(execOp a.eval { dst:=some dst,op:=.call { callee:=.value fv,args:=#[x],argTypes:=at' },type:=ty,pos:=ps,after:=af,guard:=none }:Sem Next)=callFunc f (#[]++#[x].map a.eval++#[]):=by
  show (do let d ← (Deferred.ofValue (a.eval fv) (#[x].map a.eval));invoke d.target d.args:Sem Next)=_
  rw [hfv];rfl
 rw [e]
 simpa using hr (a.eval x) w
theorem Ez {fv:Operand} {args:Array Operand} {at':Array TypeId} {dst:Nat} {ty:TypeId} {ps:String} {af:Array Edge} {g:Option (Nat × Bool)} (f:FuncId) (ds:List D) (vs:List Value) (r:D) (v:Value) (hv:vals ds=some vs) (hrv:r.val=some v) (hr:∀ w,(callFunc f vs.toArray).run P w=.ok (.value v) w) (hd:dst<cf.n) (hf:ev s fv=.clo f [])
  (hx:args.toList.map (ev s)=ds.map .d) (h:run P cf k Q (s.put dst (.d r))):AOk P cf { dst:=some dst,op:=.call { callee:=.value fv,args:=args,argTypes:=at' },type:=ty,pos:=ps,after:=af,guard:=g } s k Q:=by
 refine ez (x:=.d r) rfl hd (by simp) (fun B β a w hs=>⟨v,?_,.d _ _ (D.wz hrv)⟩) h
 have hf':=hs.ev fv
 rw [hf] at hf'
 generalize hfv:a.eval fv=fval at hf'
 cases hf' with
 | clo _ cvs _ hcs hcv =>
 have hc0:cvs=#[]:=Array.eq_empty_of_size_eq_zero (by simpa using hcs)
 subst hc0
 have e:(execOp a.eval { dst:=some dst,op:=.call { callee:=.value fv,args:=args,argTypes:=at' },type:=ty,pos:=ps,after:=af,guard:=g }:Sem Next)=callFunc f (#[]++args.map a.eval++#[]):=by
  show (do let d ← (Deferred.ofValue (a.eval fv) (args.map a.eval));invoke d.target d.args:Sem Next)=_
  rw [hfv];rfl
 have e2:#[]++args.map a.eval++#[]=vs.toArray:=by
  obtain ⟨g1,g2⟩:=nX hv
  have hsz:args.size=ds.length:=by have:=congrArg List.length hx;simpa using this
  apply Array.ext
  ·simp [hsz,g1]
  ·intro i hi hi'
   have hia:i<args.size:=by simpa using hi
   have hid:i<ds.length:=by omega
   have h1:(args.toList.map (ev s))[i]?=(ds.map AV.d)[i]?:=by rw [hx]
   simp only [List.getElem?_map,Array.getElem?_toList,Array.getElem?_eq_getElem hia,List.getElem?_eq_getElem hid,Option.map_some,Option.some.injEq] at h1
   have h2:=hs.ev args[i]
   rw [h1] at h2
   have h3:=h2.toD.val (g2 i _ (List.getElem?_eq_getElem hid) ▸ List.getElem?_eq_getElem (by omega:i<vs.length))
   simpa using h3
 rw [e,e2]
 exact hr w
theorem Ii (E:Eng P cf Q) {fv:Operand} {args:Array Operand} {at':Array TypeId} {dst:Nat} {ty:TypeId} {ps:String} {af:Array Edge} (f:FuncId) (ds:List D) (vs:List Value) (r:D) (v:Value) (hv:vals ds=some vs) (hrv:r.val=some v) (hr:∀ w,(callFunc f vs.toArray).run P w=.ok (.value v) w) (hd:dst<cf.n) (hf:ev s fv=.clo f [])
  (hx:args.toList.map (ev s)=ds.map .d) (h:E.run k (s.put dst (.d r))):E.stp { dst:=some dst,op:=.call { callee:=.value fv,args:=args,argTypes:=at' },type:=ty,pos:=ps,after:=af,guard:=none } s k .no:=by
 rw [aE]
 rw [E.run_eq] at h
 exact Ez f ds vs r v hv hrv hr hd hf hx h
end
end Go.Ab

namespace Go.Ab
theorem uD {P:Program} {e:TypeId} (hc:P.cellsOf e=1) (count o n:Nat) (hn:o+n≤count):liesAt P P.depth e count o e n=true:=by
 have hd:P.depth=(2*(P.types.size+Made.depth)+1)+1:=rfl
 rw [hd]
 simp only [liesAt,Bool.or_eq_true]
 left
 rw [hd]
 simp [rowAt,hc,hn,sameLayout,Nat.mod_one]
theorem gL {P:Program} (w:World) (pt it ty e:TypeId) (hp:P.underlying pt=some (.pointer e)) (hc:P.cellsOf e=1) (g o cells:Nat) (hsh:w.shape? g=some (e,cells)) (l:List UInt8) (h0:l≠[]) (hn:o+l.length≤cells) (h63:l.length≤9223372036854775807)
  (hcell:∀ j x,l[j]?=some x→w.cell? ((⟨g,o,none⟩:Addr).add j)=some (.int .u8 x.toNat)) :
  (Builtin.unsafeString_ #[pt,it] ty #[.pointer (some ⟨g,o,none⟩),.int .i64 l.length]).run P w=.ok (.string ⟨l.toArray⟩) (w.freeze ⟨g,o,none⟩ l.length):=by
 have hl:l.length≠0:=by simpa using h0
 have hlb:=Lib.run_loadBytes (P:=P) w l ⟨g,o,none⟩ .empty hcell
 have hlies:=uD (P:=P) hc (cells / P.cellsOf e) o l.length (by rw [hc];simpa using hn)
 have h63':¬ (9223372036854775807:Int)<(l.length:Int):=by omega
 obtain ⟨z1,z2,z3,hdef⟩:∃ z1 z2 z3,Builtin.unsafeString_ #[pt,it] ty #[.pointer (some ⟨g,o,none⟩),.int .i64 l.length] =
  (do
   let n ← asInt (.int .i64 l.length)
   if n<0 then runtimePanic (.error z1)
   if n > IntKind.i64.max then unsupported (.unsafePointer z2)
   if n=0 then pure (.string .empty)
   else if ← variablesAt ⟨g,o,none⟩ (← elemOf pt) n.toNat then do
    let s ← loadBytes ⟨g,o,none⟩ .empty n.toNat
    freeze ⟨g,o,none⟩ n.toNat
    pure (.string s)
   else unsupported (.unsafePointer z3)):=⟨_,_,_,rfl⟩
 rw [hdef]
 have hmax:IntKind.i64.max=9223372036854775807:=rfl
 have hneg:¬ (l.length:Int)<0:=by omega
 simp [asInt,asIntOf,hmax,h63',hneg,hl,variablesAt,hsh,elemOf,run_underlying hp,hlies,hlb]
def byD (c:UInt8):D:=.int .u8 (c.toNat:Nat)
section
variable {P:Program} {cf:Cf} {Q:Exit→St→Prop} {s:St} {k:List It}
theorem Cg {d:Nat} {x:Operand} {at':Array TypeId} {ty:TypeId} {pos:String} {af:Array Edge} {g:Option (Nat × Bool)} (hd:d<cf.n) (hx:ev s x=.d .nils) (h:run P cf k Q (s.put d (.d .nilp))) :
  AOk P cf { dst:=some d,op:=.call { callee:=.builtin .unsafeSliceData,args:=#[x],argTypes:=at' },type:=ty,pos:=pos,after:=af,guard:=g } s k Q:=by
 refine ez rfl hd (by simp) (fun B β a w hs=>⟨.pointer none,?_,.d _ _ .nilp⟩) h
 have hv:=hs.ev x
 rw [hx] at hv
 have hv:=hv.nils
 simp [execOp,resolve,invoke,builtin,hv,Lib.run_unsafeSliceData_nil]
theorem CT {d:Nat} {x:Operand} {at':Array TypeId} {ty:TypeId} {pos:String} {af:Array Edge} {g:Option (Nat × Bool)} (p:Name) (tg:Option Nat) (w0:W) (xs:List D) (l:Nat) (hd:d<cf.n) (hx:ev s x=.vw p 0 l) (hp:s.hp p=some (.arrT tg w0 xs)) (hl:0<l) (h:run P cf k Q (s.put d (.el p 0 0))) :
  AOk P cf { dst:=some d,op:=.call { callee:=.builtin .unsafeSliceData,args:=#[x],argTypes:=at' },type:=ty,pos:=pos,after:=af,guard:=g } s k Q:=by
 refine ez rfl hd (by simp) (fun B β a w hs=>?_) h
 have hv:=hs.ev x
 rw [hx] at hv
 generalize hax:a.eval x=vx at hv
 cases hv with
 | vw _ _ _ _ hn h1 hx' =>
   obtain ⟨hle,a0,cap,rfl,hc⟩:=hx' _ _ _ hp
   rcases hc with ⟨h0,_⟩ | ⟨k,hk,rfl,hcap,hz⟩
   ·omega
   ·refine ⟨.pointer (some ⟨k.b,k.o+0*wd w0,none⟩),?_,.el _ _ _ _ hn rfl fun ty' w' xs' hp'=>?_⟩
    ·obtain ⟨oo,hoo⟩:∃ oo,k.o+0*wd w0=oo:=⟨_,rfl⟩
     rw [hoo] at hax ⊢
     have:=Lib.run_unsafeSliceData_row (P:=P) w at' ty ⟨k.b,oo,none⟩ l cap (by omega)
     simp [execOp,resolve,invoke,builtin,hax,this]
    ·rw [hp] at hp';cases hp'
     exact ⟨by omega,k,hk,rfl⟩
theorem DD (E:Eng P cf Q) {d pt it:Nat} {x y:Operand} {ty:TypeId} {pos:String} {af:Array Edge} (hd:d<cf.n) (hx:ev s x=.d .nilp) (hy:ev s y=.d (.int .i64 0)) (h:E.run k (s.put d (.d (.str [])))) :
  E.stp { dst:=some d,op:=.call { callee:=.builtin .unsafeString,args:=#[x,y],argTypes:=#[pt,it] },type:=ty,pos:=pos,after:=af,guard:=none } s k .no:=by
 rw [aE]
 rw [E.run_eq] at h
 refine ez rfl hd (by simp) (fun B β a w hs=>⟨.string .empty,?_,.d _ _ (.str [])⟩) h
 have hv:=hs.ev x
 rw [hx] at hv
 have hv:=hv.toD
 have hw:=hs.ev y
 rw [hy] at hw
 have hw:=hw.int
 generalize hax:a.eval x=vx at hv
 cases hv
 have:=Lib.run_unsafeString_none (P:=P) w pt it ty none
 simp [execOp,resolve,invoke,builtin,hax,hw,this]
theorem GG (E:Eng P cf Q) {d pt it e:Nat} {x y:Operand} {ty:TypeId} {pos:String} {af:Array Edge} (p:Name) (l:List UInt8) (hd:d<cf.n) (hpt:P.underlying pt=some (.pointer e)) (hc:P.cellsOf e=1) (h0:l≠[]) (h63:l.length≤9223372036854775807)
  (hx:ev s x=.el p 0 0) (hp:s.hp p=some (.arrT (some e) none (l.map byD))) (hy:ev s y=.d (.int .i64 l.length)) (h:E.run k ((s.set p none).put d (.d (.str l)))) :
  E.stp { dst:=some d,op:=.call { callee:=.builtin .unsafeString,args:=#[x,y],argTypes:=#[pt,it] },type:=ty,pos:=pos,after:=af,guard:=none } s k .no:=by
 rw [aE]
 rw [E.run_eq] at h
 intro B hB ds β a w hds hs Q'
 have hv:=hs.ev x
 rw [hx] at hv
 have hw:=hs.ev y
 rw [hy] at hw
 have hw:=hw.int
 generalize hax:a.eval x=vx at hv
 cases hv with
 | el _ _ _ _ hn h1 hx' =>
 obtain ⟨hlt,k0,hk,rfl⟩:=hx' _ _ _ hp
 rcases (hs.objs p _ hp).2 with ⟨_,h0'⟩ | ⟨k1,c,e',hk1,hh,hz,hl,hok,hrep⟩
 ·simp at h0';exact absurd h0' h0
 rw [hk] at hk1
 cases hk1
 simp only [wd,Nat.mul_one,List.length_map] at hl
 have hsh:w.shape? k0.b=some (e,c.size):=by simp [World.shape?,hh]
 have hcell:∀ j x,l[j]?=some x→w.cell? ((⟨k0.b,k0.o+0*wd none+0,none⟩:Addr).add j)=some (.int .u8 x.toNat):=fun j x hj=>by
  have hjl:=(List.getElem?_eq_some_iff.1 hj).1
  have h2:=hrep j (byD x) 0 (byD x) (by simp [hj]) rfl
  have h3:k0.o+j<c.size:=by omega
  rw [show k0.o+j*wd none+0=k0.o+j by simp [wd]] at h2
  simp only [Array.getD_eq_getD_getElem?,Array.getElem?_eq_getElem h3,Option.getD_some] at h2
  have h4:c[k0.o+j]=.int .u8 x.toNat:=by
   generalize c[k0.o+j]=v at h2
   cases h2;rfl
  rw [bj]
  simp [World.cell?,hh,wd,h3,h4]
 have hrun:=gL (P:=P) w pt it ty e hpt hc k0.b (k0.o+0*wd none+0) c.size hsh l h0 (by simp [wd];omega) h63 hcell
 obtain ⟨oo,hoo⟩:∃ oo,k0.o+0*wd none+0=oo:=⟨_,rfl⟩
 rw [hoo] at hrun hax
 refine aA (v:=.string ⟨l.toArray⟩) (w':=w.freeze ⟨k0.b,oo,none⟩ l.length) (by simp) (by simp [execOp,resolve,invoke,builtin,hax,hw,hrun]) (.inl rfl) ⟨hds,_,β,aP h,?_⟩
 refine Sim.put (hs.Hm hp hk (w':=w.freeze ⟨k0.b,oo,none⟩ l.length) ?_ ?_ fun b hb=>?_) (by rw [hB.1];exact hd) (.d _ _ (.str l))
 ·unfold World.freeze;split<;>rfl
 ·unfold World.freeze;split<;>simp
 ·unfold World.freeze
  split
  ·rfl
  ·simp only [Array.getElem?_modify]
   rw [if_neg (fun e=>hb e.symm)]
section
variable {ops:Array Oper} {K:St→Ns→Prop} {r:List Oper} {ns:Ns}
theorem dH (E:XEng P cf ops K) {d:Nat} {x:Operand} {ty:TypeId} {pos:String} {af:Array Edge} (p:Name) (c:Nat) (ty':Option Nat) (cs:List AV) (hd:d<cf.n) (hx:ev s x=.bx p c) (hp:s.hp p=some (.boxT ty' cs)) (h:E.run r (s.put d (.bx p c)) (ns++[([p],[],[])])) :
  E.stp { dst:=some d,op:=.nilCheck x,type:=ty,pos:=pos,after:=af,guard:=none } r s ns .no:=by
 refine ky E (x:=.bx p c) [p] (fun t ht=>by rw [Option.mem_def,Option.some.injEq] at ht;rw [← ht];exact hd) (fun s' hh he=>?_) h
 have h1:ev s' x=.bx p c:=(he x (by simp [Op.operands])).trans hx
 have h2:s'.hp p=some (.boxT ty' cs):=(hh p (by simp)).trans hp
 refine cZ (o:={ dst:=some d,op:=.nilCheck x,type:=ty,pos:=pos,after:=af,guard:=none }) rfl ?_
 have h3:opR P.ti cf.n (.nilCheck x) (some d) s'=.ok (s'.put d (.bx p c)):=by
  unfold opR Az
  simp only [h1,h2]
  simp [R.bind,bx,hd]
 unfold stp
 simp only [h3,R.run]
 rw [cF];rfl
theorem F0 (E:XEng P cf ops K) {d:Nat} {x:Operand} {at':Array TypeId} {ty:TypeId} {pos:String} {af:Array Edge} {g:Option (Nat × Bool)} (hd:d<cf.n) (hx:ev s x=.d .nils) (h:E.run r (s.put d (.d .nilp)) (ns++[([],[],[])])) :
  E.stp { dst:=some d,op:=.call { callee:=.builtin .unsafeSliceData,args:=#[x],argTypes:=at' },type:=ty,pos:=pos,after:=af,guard:=g } r s ns .no:=by
 refine ky E (x:=.d .nilp) [] (fun t ht=>by rw [Option.mem_def,Option.some.injEq] at ht;rw [← ht];exact hd) (fun s' _ he=>?_) h
 exact Cg hd ((he x (by simp [Op.operands,Call.operands])).trans hx) (by rw [cF];rfl)
theorem Ih (E:XEng P cf ops K) {d:Nat} {x:Operand} {at':Array TypeId} {ty:TypeId} {pos:String} {af:Array Edge} {g:Option (Nat × Bool)} (p:Name) (tg:Option Nat) (w0:W) (xs:List D) (l:Nat) (hd:d<cf.n) (hx:ev s x=.vw p 0 l) (hp:s.hp p=some (.arrT tg w0 xs)) (hl:0<l)
  (h:E.run r (s.put d (.el p 0 0)) (ns++[([p],[],[])])) :
  E.stp { dst:=some d,op:=.call { callee:=.builtin .unsafeSliceData,args:=#[x],argTypes:=at' },type:=ty,pos:=pos,after:=af,guard:=g } r s ns .no:=by
 refine ky E (x:=.el p 0 0) [p] (fun t ht=>by rw [Option.mem_def,Option.some.injEq] at ht;rw [← ht];exact hd) (fun s' hh he=>?_) h
 exact CT p tg w0 xs l hd ((he x (by simp [Op.operands,Call.operands])).trans hx) ((hh p (by simp)).trans hp) hl (by rw [cF];rfl)
end
end
theorem qe (tf:Nat→TI) (dd:Option Nat) (s:St) (x:Operand):opE tf (.nilCheck x) dd s=.no:=rfl
attribute [go_sem] qe
end Go.Ab

namespace Go.Ab
section
variable {P:Program} {F:Fence} {n:Nat} {ops:Array Oper} {Q Q':Exit→Act→World→Prop}
theorem uV {o:Oper} {a:Act} {w:World} {K K':Act→World→Prop} (h:∀ a w,K a w→K' a w) (hq:∀ e a w,Q e a w→Q' e a w) (hh:o.wpIn F n P a w K Q):o.wpIn F n P a w K' Q':=by
 unfold Oper.wpIn at *
 refine ⟨hh.1,?_⟩
 have hh:=hh.2
 generalize (o.semAt F.round a.eval).run P w=r at *
 cases r with
 | ok x w' =>
   cases x<;>simp only [Oper.uponIn] at hh ⊢ <;>
    first
     | exact h _ _ hh
     | exact ⟨hh.1,CallsIn.mono hh.2 (fun e w'' he=>by cases e<;>first | exact h _ _ he | exact hq _ _ _ he | exact he.elim fun a he=>he.elim fun w he=>⟨a,w,hq _ _ _ he⟩ | exact he)⟩
     | exact ⟨hh.1,RowsIn.mono hh.2 (fun _ _ he=>h _ _ he)⟩
     | exact ⟨hh.1,RoundIn.mono hh.2 (fun e w'' he=>by cases e<;>first | exact h _ _ he | exact hq _ _ _ he | exact he.elim fun a he=>he.elim fun w he=>⟨a,w,hq _ _ _ he⟩ | exact he)⟩
 | halt x w'=>cases x<;>simp only [Oper.uponIn] at hh ⊢<;>first | exact hq _ _ _ hh | exact hh
theorem dr (hq:∀ e a w,Q e a w→Q' e a w):∀ (l:List Nat) (a:Act) (w:World),wpOpsIn F n P ops Q l a w→wpOpsIn F n P ops Q' l a w
 | [],_,_,h=>hq _ _ _ h
 | i::r,a,w,h=>by
   simp only [wpOpsIn] at h ⊢
   split
   ·rename_i hn
    simp only [hn] at h
    exact dr hq r a w h
   ·rename_i o ho
    simp only [ho] at h
    split
    ·rename_i hw
     simp only [hw,if_true] at h
     exact uV (fun a w=>dr hq r a w) hq h
    ·rename_i hw
     simp only [hw] at h
     exact ⟨h.1,dr hq r _ w h.2⟩
end
section
variable {P:Program} {cf:Cf} {Φ:Exit→Act→World→Prop} {I:Base→List Deferred→Prop} {k:List It} {s:St}
theorem A3 {all:Array Oper} {r:List Oper} (h:∀ E:Eng P cf (yq P cf Φ I k),E.run [.ops all r] s):ARY P cf Φ I (.ops all r::k) s:=by
 have h1:run P cf [.ops all r] (yq P cf Φ I k) s:=veil h
 intro B hB ds β a w hds hI hs l hl
 have h2:=aP h1 B hB ds β a w hds hs l hl
 exact dr (fun _ _ _ hq=>wB hB hI hq) l a w h2
theorem FW {B0:Base} {X:Type} {Iv:X→St} {fr0 fr:List (Nat × AV)} {hp0 hp:List (Name × Ob)} {u0 u:List Nat} (hl:LKL (mk fr0 hp0 u0) hp) (h:ARX cf Φ (CI B0) .ret (mk fr0 hp u)):rq P cf Φ B0 k Iv (mk fr0 hp0 u0) .ret (mk fr hp u):=⟨o8 (fI hl),h⟩
end
end Go.Ab

namespace Go.Ab
theorem zw (p:Name):∀ (a b:List (Name × Option Ob)),wl (a++b) p=match wl b p with | some v=>some v | none=>wl a p
 | [],b=>by cases h:wl b p<;>simp [wl,h]
 | q::r,b=>by
   rw [List.cons_append,wl,zw p r b]
   cases wl b p<;>simp [wl]
theorem AK (p:Name) (z:Option Ob):∀ l:List (Name × Option Ob),(wl l.reverse p).getD z=lkA z l p
 | []=>rfl
 | q::r=>by
   rw [List.reverse_cons,zw,dv]
   by_cases h:p=q.1
   ·simp [wl,h]
   ·simp only [wl,if_neg h]
    exact AK p z r
def wrO (d:Nat) (chp hp':List (Name × Ob)):List (Name × Option Ob):=((hp'.map fun x:Name × Ob=>(dV id d chp x.1,some (x.2.ren (dV id d chp))))++chp.map fun x:Name × Ob=>(x.1,none)).reverse
theorem yG (d:Nat) (chp hp':List (Name × Ob)):(wrO d chp hp').map (fun x=>x.1)=((hp'.map fun x:Name × Ob=>dV id d chp x.1)++chp.map fun x:Name × Ob=>x.1).reverse:=by
 unfold wrO
 rw [List.map_reverse,List.map_append,List.map_map,List.map_map]
 rfl
attribute [go_sem] yG List.reverse_cons List.reverse_nil
theorem vW {α β:Type} [DecidableEq α] (z:β) (i:α):∀ a b:List (α × β),lkA z (a++b) i=lkA (lkA z b i) a i
 | [],_=>rfl
 | q::r,b=>by rw [List.cons_append,dv,dv,vW z i r b]
theorem CB (s:St) (d:Nat) (chp hp':List (Name × Ob)) (r:AV):aft s id d chp hp' r=s.go (some d) (r.ren (dV id d chp)) ⟨wrO d chp hp',[d]⟩:=by
 refine BT (funext fun q=>?_) rfl fun t=>rfl
 show lkA (lkA (s.hp q) (chp.map fun x=>(x.1,none)) q) _ q=(wl (wrO d chp hp') q).getD (s.hp q)
 unfold wrO
 rw [AK,vW]
section
variable {P:Program} {cf:Cf} {ops:Array Oper} {K:St→Ns→Prop} {r:List Oper} {s:St} {ns:Ns}
theorem cl (E:XEng P cf ops K) {d:Nat} {fv:Operand} {args:Array Operand} {at':Array TypeId} {ty:TypeId} {pos:String} {af:Array Edge} {g:Option (Nat × Bool)}
  {f:FuncId} {caps:List AV} (cargs:List AV) (chp:List (Name × Ob)) (cu:List Nat) (x:AV) (hp':List (Name × Ob)) (hc:HCall P cf.G f cargs chp cu (fun y h=>y=x∧h=hp'))
  (hev:ev s fv=.clo f caps) (hargs:args.toList.map (ev s)++caps=cargs) (hd:d<cf.n∧d ∉ s.used) (hcu:dC cu cargs=true) (hpass:dN id cu s chp) (hinj:kI id chp)
  (hl:gp chp hp') (hk:E.run r (aft s id d chp hp' x) (ns++[(chp.map (·.1),(wrO d chp hp').map (·.1),[d])])) :
  E.stp { dst:=some d,op:=.call { callee:=.value fv,args:=args,argTypes:=at' },type:=ty,pos:=pos,after:=af,guard:=g } r s ns .no:=by
 rw [E.stp_eq]
 refine ⟨x.ren (dV id d chp),(chp.map (·.1),⟨wrO d chp hp',[d]⟩),fun s' hu hh he B hB ds' β a w hds hs Q'=>?_,fun y hy=>?_,hd.1,?_⟩
 ·have hm:∀ y,y=fv∨y∈args→ev s' y=ev s y:=fun y hy=>he y (by
   simp only [Op.operands,Call.operands]
   rcases hy with rfl | hy<;>simp_all)
  have hpass':dN id cu s' chp:=by
   have:∀ l:List (Name × Ob),(∀ q∈l,q.1∈chp.map (·.1))→dN id cu s l→dN id cu s' l:=by
    intro l
    induction l with
    | nil=>intros;trivial
    | cons q r ih =>
      intro hq h
      refine ⟨⟨?_,h.1.2⟩,ih (fun x hx=>hq x (List.mem_cons_of_mem _ hx)) h.2⟩
      rw [show s'.hp (id q.1)=s.hp (id q.1) from hh _ (hq q List.mem_cons_self)]
      exact h.1.1
   exact this chp (fun q hq=>List.mem_map.2 ⟨q,hq,rfl⟩) hpass
  have hok:AOk P cf { dst:=some d,op:=.call { callee:=.value fv,args:=args,argTypes:=at' },type:=ty,pos:=pos,after:=af,guard:=g } s' [] (fun _ s2=>s2=aft s' id d chp hp' x):=by
   refine qd d id cargs chp cu _ ((hm fv (.inl rfl)).trans hev) ?_ hcu (hu d (by simp)) (fun t ht=>?_) hpass' hinj hc fun y h hr=>?_
   ·rw [uy (s:=s) (s':=s') fun y hy=>hm y (.inr (by simpa using hy)),hargs,rK]
   ·obtain rfl:=Option.some.inj ht
    exact ⟨hd.1,rfl⟩
   ·obtain ⟨rfl,rfl⟩:=hr
    exact ⟨hl,by rw [cF];rfl⟩
  refine Oper.wpIn_mono ?_ (hok B hB ds' β a w hds hs Q')
  rintro a' w' ⟨hd',s2,β',hrun,hs2⟩
  obtain ⟨_,s3,β3,rfl,hs3⟩:=hrun B hB ds' β' a' w' hd' hs2
  exact ⟨hd',β3,by rw [← CB];exact hs3⟩
 ·obtain rfl:=List.mem_singleton.1 hy
  exact hd.2
 ·rw [← E.run_eq,← CB]
  exact hk
theorem DS {H:Array Obj} {own:Nat→Prop} {v:Value} {wf:W} {l:List D} (h:Rep H own v (.sl wf l)):v.oneCell'=true:=by
 generalize hz:D.sl wf l=d at h
 cases h<;>first | rfl | cases hz
theorem uq {H:Array Obj} {own:Nat→Prop} {us:List Nat} {hp:Name→Option Ob} {β:Name→Option Blk} {v:Value} {wf:W} {l:List D} (h:VR H own us hp β v (.d (.sl wf l))):v.oneCell'=true:=by
 cases h with
 | d _ _ h=>exact DS h
theorem b6 (E:XEng P cf ops K) {t:Nat} (u:Nat) (p:Name) (wf:W) (xs:List D) {off len:Nat} {fv:Operand} {args:Array Operand} {at':Array TypeId} {ty:TypeId} {pos:String} {af:Array Edge} {gg:Option (Nat × Bool)}
  {f:FuncId} {caps:List AV} {ds:List D} {x:AV} (hc:HP P cf.G f ds (fun r=>r=x)) (hfv:∀ s,ev s fv=.clo f caps) (hp:s.hp p=some (.arr wf xs)) (hev:s.fr u=.vw p off len) (hu:(t == u)=false) (hin:Operand.tmp u∈args)
  (hargs:args.toList.map (ev (s.put u (.d (.sl wf ((xs.drop off).take len)))))++caps=ds.map .d) (hdst:t<cf.n) (hk:E.run r ((s.set p none).put t x) (ns++[([p],[p],[])])) :
  E.stp { dst:=some t,op:=.call { callee:=.value fv,args:=args,argTypes:=at' },type:=ty,pos:=pos,after:=af,guard:=gg } r s ns .no:=by
 have htu:¬ t=u:=by simpa using hu
 have hgo:∀ s:St,(s.set p none).put t x=s.go (some t) x ⟨[(p,none)],[]⟩:=fun s=>by unfold St.go;rw [qY];rfl
 rw [E.stp_eq]
 refine ⟨x,([p],⟨[(p,none)],[]⟩),fun s' _ hh he=>?_,fun y hy=>(by cases hy),hdst,?_⟩
 ·have hm:∀ y,y∈args→ev s' y=ev s y:=fun y hy=>he y (by
   simp only [Op.operands,Call.operands]
   simp_all)
  have hp':s'.hp p=some (.arr wf xs):=(hh p (by simp)).trans hp
  have hev':s'.fr u=.vw p off len:=(hm (.tmp u) hin).trans hev
  obtain ⟨y,hy⟩:∃ y,y=AV.d (.sl wf ((xs.drop off).take len)):=⟨_,rfl⟩
  rw [← hy] at hargs
  have hargs':args.toList.map (ev ((s'.set p none).put u y))++caps=ds.map .d:=by
   rw [← hargs]
   congr 1
   refine List.map_congr_left fun z hz=>?_
   have h0:=hm z (by simpa using hz)
   cases z with
   | tmp i =>
     by_cases e:i=u
     ·subst e
      show ((s'.set p none).put i _).fr i=(s.put i _).fr i
      simp [St.put,de]
     ·have h0':s'.fr i=s.fr i:=h0
      show ((s'.set p none).put u _).fr i=(s.put u _).fr i
      simp [St.put,St.set,de,e,h0']
   | _=>rfl
  have h1:=js (k:=[]) (Q:=fun _ s2=>s2=((s'.set p none).put u y).put t x) (dst:=some t) (fv:=fv) (args:=args) (at':=at') (ty:=ty) (pos:=pos) (af:=af) (g:=gg) hc
   (hfv _) hargs' (fun y hy=>by rw [Option.mem_def,Option.some.injEq] at hy;rw [← hy];exact hdst) (fun r hr=>by subst hr;rw [cF];rfl)
  intro B hB ds' β a w hds hs Q'
  have hs0:=hs.drop p
  have hs1:Sim B β ((s'.set p none).put u y) a.tmps w:=hs0.setv (by
   have:=(hs.frz hp').slots u
   rw [show (s'.frz p wf xs).fr u=(s'.fr u).frz p wf xs from rfl,hev',AV.frz,if_pos rfl,← hy] at this
   exact this)
  refine Oper.wpIn_mono ?_ (h1 B hB ds' β a w hds hs1 Q')
  rintro a' w' ⟨hd',s2,β',hrun,hs2⟩
  obtain ⟨_,s3,β3,rfl,hs3⟩:=hrun B hB ds' β' a' w' hd' hs2
  refine ⟨hd',β3,?_⟩
  rw [← hgo]
  have hv:=hs3.slots u
  have e1:(((s'.set p none).put u y).put t x).fr u=y:=by simp [St.put,de,Ne.symm htu,fun h:u=t=>htu h.symm]
  rw [e1,hy] at hv
  have hnm:=(hs.objs p _ hp').1
  have e2:((s'.set p none).put t x)=(((s'.set p none).put u y).put t x).put u (.vw p off len):=by
   refine jD (fun _=>rfl) rfl fun i=>?_
   simp only [St.put,St.set,de]
   by_cases h1:i=u
   ·subst h1
    have h3:¬ i=t:=fun h=>htu h.symm
    simp [h3,hev']
   ·simp [h1]
  have h5:=hs3.setv (t:=u) (x:=.vw p off len) (.vw _ _ _ _ hnm (by
   exact uq hv) (fun ty w xs h=>by
    have h:au s'.hp p none p=some _:=h
    simp [au] at h))
  rw [e2]
  exact h5
 ·rw [← E.run_eq,← hgo]
  exact hk
end
end Go.Ab

namespace Go.Proofs.YtejpnabbmgpmaaaGreatDoor
open Go.Ab
theorem IS:∀ (m:Nat) (ks:List Int),m≤3→iV [.int .i64 0,.int .i64 0,.int .i64 0] ((ks.take m).map i64) 0 3=[i64 (if 0<m then ks.getD 0 0 else 0),i64 (if 1<m then ks.getD 1 0 else 0),i64 (if 2<m then ks.getD 2 0 else 0)]
 | 0,_,_=>rfl
 | 1,[],_=>rfl
 | 2,[],_=>rfl
 | 3,[],_=>rfl
 | 1,[x],_=>rfl
 | 2,[x],_=>rfl
 | 3,[x],_=>rfl
 | 1,x::y::r,_=>by simp [iV,i64]
 | 2,[x,y],_=>rfl
 | 3,[x,y],_=>rfl
 | 2,x::y::z::r,_=>by simp [iV,i64]
 | 3,[x,y,z],_=>rfl
 | 3,x::y::z::w::r,_=>by simp [iV,i64]
theorem zS {α:Type} (k:Nat) (l:List α) (N:Nat) (h:l.length=N) [Decidable ((N:Int)<(k:Int))]:List.take ((if (N:Int)<(k:Int) then (N:Int) else (k:Int)).toNat-0) l=l.take k:=by
 split
 ·rw [List.take_of_length_le (by omega),List.take_of_length_le (by omega)]
 ·congr 1
theorem AM {G}:HCall Tryz.prog G 144 [.d .nils] [] [] (fun r hp'=>r=.vw [0] 0 0∧hp'=[([0],.arr (some 3) [])]):=by
 refine HCall.thaw (Q:=fun r hp'=>(r=.d .nils∧hp'=[])∨(r=.vw [0] 0 0∧hp'=[([0],.arr (some 3) [])])) ?_ 0 (some 3) (by simp) ?_
 ·refine ao Tryz.func144 rfl (by decide +kernel) (by simp [Tryz.ntmps144]) (veil fun E=>?_)
  simp only [go_sem]
  refine Es E 3 (some 3) rfl ?_
  refine qO E (e:=89) (by simp only [go_sem]) (by simp only [go_sem]) rfl fun b hb=>?_
  simp only [go_sem]
  refine aG E (fun h=>?_) (fun h=>?_)<;>simp only [go_sem]
  ·refine ⟨_,[],[],id,.inl ⟨rfl,rfl⟩,?_⟩
   simp only [go_sem]
  ·refine ⟨_,_,[0],tau [([0],[7])],.inr ⟨rfl,rfl⟩,?_⟩
   simp only [go_sem]
 ·rintro r hp' (⟨rfl,rfl⟩ | h)
  ·exact .inr ⟨rfl,rfl,rfl,rfl⟩
  ·exact .inl h
theorem aR {ks:List Int} {k:Nat} (h:k<ks.length):(ks.map i64).getD k .nilp=i64 (ks.getD k 0):=by simp [h]
theorem o9 (ks:List Int) (o:Nat):∀ (a b:List EF) (i:Nat),aU ks o (a++b) i=aU ks o a i++aU ks o b (i+a.length)
 | [],b,i=>by simp [aU]
 | f::r,b,i=>by
   simp only [List.cons_append,aU,o9 ks o r b (i+1),List.length_cons]
   rw [show i+1+r.length=i+(r.length+1) by omega]
def dy (ks:List Int) (o:Nat) (l:List EF) (i:Nat):List EF:=aU ks o (l.take i) 0++l.drop i
theorem yp (ks:List Int) (o:Nat) (l:List EF) (i:Nat):(dy ks o l i).length=l.length:=by
 simp only [dy,List.length_append,dh,List.length_take,List.length_drop];omega
theorem va (ks:List Int) (o:Nat) (l:List EF):dy ks o l 0=l:=by simp [dy,aU]
theorem x5 (ks:List Int) (o:Nat) (l:List EF):dy ks o l l.length=aU ks o l 0:=by simp [dy]
theorem ve {ks:List Int} {o:Nat} {l:List EF} {i:Nat} (h:i<l.length):dy ks o l (i+1)=(dy ks o l i).set i (if o+i<ks.length then { fdE l i with to:=ks.getD (o+i) 0 } else fdE l i):=by
 have h1:l.take (i+1)=l.take i++[l[i]]:=by simp
 have h2:l.drop i=l[i]::l.drop (i+1):=List.drop_eq_getElem_cons h
 have hf:fdE l i=l[i]:=by simp [fdE,h]
 unfold dy
 rw [h1,o9,h2,hf]
 have h3:(aU ks o (l.take i) 0).length=i:=by rw [dh,List.length_take];omega
 rw [List.set_append_right _ _ (by omega),h3,Nat.sub_self]
 simp only [aU,Nat.zero_add,List.length_take,Nat.min_eq_left (Nat.le_of_lt h),List.append_assoc,List.singleton_append,List.set_cons_zero]
theorem oW {ks:List Int} {o:Nat} {l:List EF} {i:Nat} (h:i<l.length):(dy ks o l i)[i]?=some (fdE l i):=by
 have h3:(aU ks o (l.take i) 0).length=i:=by rw [dh,List.length_take];omega
 unfold dy
 rw [List.getElem?_append_right (by omega),h3,Nat.sub_self,List.drop_eq_getElem_cons h]
 simp [fdE,h]
theorem vy {G} (n:EN) (ks:List Int) (hl:n.l.length≤1000000) (hks:ks.length≤1000000):HP Tryz.prog G 115 [enD n,.sl none (ks.map i64)] (fun r=>r=.d (enD (bg n ks))):=by
 unfold enD efD
 refine aL Tryz.func115 rfl (by decide +kernel) (by simp [Tryz.ntmps115]) (veil fun E=>?_)
 simp only [go_sem]
 refine ab E (lO n.k) rfl rfl (by simp) ?_
 rintro _ rfl
 simp only [go_sem]
 have hk3:=cG n.k
 refine Im E [6] 6 77 [.int .i64 0,.int .i64 0,.int .i64 0] ?_ rfl rfl (by decide) rfl ?_
 ·rw [aa];decide
 simp only [go_sem]
 refine jc 8 mixed E (by simp only [List.take_succ_cons,List.take_zero];exact rfl) (by simp only [List.drop_succ_cons,List.drop_zero];exact rfl) rfl rfl (by decide +kernel) fun X=>?_
 simp only [go_sem]
 refine ⟨by split<;>constructor<;>omega,by decide +kernel,?_⟩
 rw [zS (aY n.k) (ks.map i64) ks.length (by simp),← List.map_take]
 refine GJ E (d:=21) (dT:=58) (e0:=3) (by simp only [go_sem]) (by rw [EP]) (by rw [ti3];decide) rfl rfl rfl ?_
 rw [IS _ _ hk3]
 obtain ⟨a,ha⟩:∃ a,a=if 0<aY n.k then ks.getD 0 0 else 0:=⟨_,rfl⟩
 obtain ⟨b,hb⟩:∃ b,b=if 1<aY n.k then ks.getD 1 0 else 0:=⟨_,rfl⟩
 obtain ⟨c,hc⟩:∃ c,c=if 2<aY n.k then ks.getD 2 0 else 0:=⟨_,rfl⟩
 rw [← ha,← hb,← hc]
 simp only [go_sem]
 refine ak mixed E fun X=>?_
 simp only [go_sem]
 simp only [List.getD_cons_succ,List.getD_cons_zero]
 simp only [go_sem]
 simp only [List.getD_cons_succ,List.getD_cons_zero]
 simp only [go_sem]
 refine ⟨by decide +kernel,?_⟩
 refine aG E (fun hp=>?_) (fun hp=>?_)<;>simp only [go_sem]
 ·refine ae E [.d .nils] [] [] AM rfl rfl ⟨by simp only [go_sem],by rw [aa];decide⟩ rfl (by simp only [go_sem]) (by simp only [go_sem]) ?_
  rintro _ _ ⟨rfl,rfl⟩
  simp only [go_sem]
  refine aC E (X:=Unit) (fun _=>[(1,.d (.sl none (ks.map i64))),(2,.bx [2] 0),(4,.bx [4] 0),(5,.bx [5] 0),(41,.d (i64 0)),(42,.d (i64 0))])
   (fun _=>[([2],.box [.d (i64 n.k),.d (i64 a),.d (i64 b),.d (i64 c),.d (i64 n.n),.d (.str n.name),.d (.str n.s),.vw [37,0] 0 0,.d (i64 n.pos)]),([4],.box [.d (i64 0),.d (i64 0),.d (i64 0),.d (i64 0),.d (i64 0),.d (.str []),.d (.str []),.d .nils,.d (i64 0)]),([5],.box [.d (i64 (aY n.k)),.d (.bool (aJ n.k))]),([37,0],.arr (some 3) [])]) [2,4,5,37] (fun _=>0) () id ?_ ?_
  ·simp only [go_sem]
   all_goals rfl
  rintro _ E0
  refine aO E0 fun Q' hQ E'=>?_
  simp only [go_sem]
  rw [hQ]
  simp only [go_sem]
  refine ⟨[([37,0],some 3,[])],?_⟩
  simp only [go_sem]
  have hw:bg n ks={ n with a:=a,b:=b,c:=c,l:=[] }:=by
   have hp':aJ n.k=false:=by simpa using hp
   simp [bg,ha,hb,hc,hp']
  rw [hw]
  rfl
 ·refine ae E [.d (efD n.l)] [] [] (zm n.l hl) rfl rfl ⟨by simp only [go_sem],by rw [aa];decide⟩ rfl (by simp only [go_sem]) (by simp only [go_sem]) ?_
  rintro _ _ ⟨rfl,rfl⟩
  simp only [go_sem]
  refine aC E (X:={ i:Nat // i≤n.l.length }) (fun x=>[(1,.d (.sl none (ks.map i64))),(2,.bx [2] 0),(4,.bx [4] 0),(5,.bx [5] 0),(41,.d (i64 n.l.length)),(42,.d (i64 x.1))])
   (fun x=>[([2],.box [.d (i64 n.k),.d (i64 a),.d (i64 b),.d (i64 c),.d (i64 n.n),.d (.str n.name),.d (.str n.s),.vw [37,0] 0 n.l.length,.d (i64 n.pos)]),([4],.box [.d (i64 0),.d (i64 0),.d (i64 0),.d (i64 0),.d (i64 0),.d (.str []),.d (.str []),.d .nils,.d (i64 0)]),([5],.box [.d (i64 (aY n.k)),.d (.bool (aJ n.k))]),([37,0],.arr (some 3) ((dy ks (aY n.k) n.l x.1).map fD))]) [2,4,5,37] (fun x=>n.l.length-x.1) ⟨0,Nat.zero_le _⟩ id ?_ ?_
  ·simp only [go_sem]
   all_goals (first | rfl | (rw [va]))
  rintro ⟨i,hi⟩ E0
  refine aO E0 fun Q' hQ E'=>?_
  simp only at hi ⊢
  simp only [go_sem]
  refine ah E' (fun h1=>?_) (fun h1=>?_)<;>simp only [go_sem]
  ·have h1':i<n.l.length:=by omega
   rw [ai ⟨by omega,by omega⟩]
   have hpl:=yp ks (aY n.k) n.l i
   have hst:=ve (ks:=ks) (o:=aY n.k) h1'
   refine ah E' (fun h2=>?_) (fun h2=>?_)<;>simp only [go_sem]
   ·have h2':aY n.k+i<ks.length:=by omega
    rw [if_pos h2'] at hst
    refine ak mixed E' fun X=>?_
    simp only [go_sem]
    refine ⟨⟨by omega,by omega⟩,?_⟩
    rw [show ((aY n.k:Nat)+(i:Int)).toNat=aY n.k+i by omega,aR h2']
    simp only [go_sem]
    have hgt:(List.map fD (dy ks (aY n.k) n.l i)).getD i .nilp=.agg [.str (fdE n.l i).nm,.str (fdE n.l i).var,i64 (fdE n.l i).to]:=by
     rw [List.getD_eq_getElem?_getD,List.getElem?_map,oW h1'];rfl
    refine ⟨⟨by omega,by omega⟩,?_⟩
    rw [hgt]
    simp only [go_sem]
    have hmp:(List.map fD (dy ks (aY n.k) n.l i)).set i (.agg [.str (fdE n.l i).nm,.str (fdE n.l i).var,i64 (ks.getD (aY n.k+i) 0)])=(dy ks (aY n.k) n.l (i+1)).map fD:=by
     rw [hst,List.map_set];rfl
    rw [hmp]
    refine ⟨by decide +kernel,?_⟩
    rw [hQ]
    simp only [go_sem]
    refine ⟨⟨i+1,by omega⟩,by show n.l.length-(i+1)<_;omega,id,?_⟩
    rw [ai ⟨by omega,by omega⟩]
    simp only [go_sem]
    all_goals rfl
   ·have h2':¬ aY n.k+i<ks.length:=by omega
    rw [if_neg h2'] at hst
    have hst2:dy ks (aY n.k) n.l (i+1)=dy ks (aY n.k) n.l i:=by
     rw [hst]
     refine List.ext_getElem? fun j=>?_
     rw [List.getElem?_set]
     split
     ·rename_i e;subst e
      rw [if_pos (by omega),oW h1']
     ·rfl
    rw [hQ]
    simp only [go_sem]
    refine ⟨⟨i+1,by omega⟩,by show n.l.length-(i+1)<_;omega,id,?_⟩
    rw [hst2,ai ⟨by omega,by omega⟩]
    simp only [go_sem]
    all_goals rfl
  ·rw [hQ]
   simp only [go_sem]
   have hi2:i=n.l.length:=by omega
   subst hi2
   rw [x5]
   refine ⟨[([37,0],some 3,(aU ks (aY n.k) n.l 0).map fD)],?_⟩
   simp only [go_sem]
   have hw:bg n ks={ n with a:=a,b:=b,c:=c,l:=aU ks (aY n.k) n.l 0 }:=by
    have hp':aJ n.k=true:=by simpa using hp
    simp [bg,ha,hb,hc,hp']
   rw [hw,List.take_of_length_le (by rw [List.length_map,dh];exact Nat.le_refl _)]
end Go.Proofs.YtejpnabbmgpmaaaGreatDoor

namespace Go.Proofs.YtejpnabbmgpmaaaGreatDoor
open Go.Ab
end Go.Proofs.YtejpnabbmgpmaaaGreatDoor

namespace Go.Proofs.YtejpnabbmgpmaaaGreatDoor
open Go.Ab
def ba (s p:List UInt8):Bool:=decide (p.length≤s.length) && (s.take p.length == p)
theorem wO {G} (s p:List UInt8):HP Tryz.prog G 161 [.str s,.str p] (fun r=>r=.d (.bool (ba s p))):=by
 refine aj Tryz.func161 rfl (by decide +kernel) (by simp [Tryz.ntmps161]) (veil fun E=>?_)
 simp only [go_sem]
 refine ar E (fun h=>?_) (fun h=>?_)<;>simp only [go_sem]
 ·have hl:p.length≤s.length:=by simpa using h
  refine ⟨by simpa using hl,?_⟩
  simp [ba,hl,HO]
 ·have hl:¬ p.length≤s.length:=by simpa using h
  simp [ba,hl]
theorem yx {s p:List UInt8} (h:ba s p=true):p.length≤s.length:=by
 simp only [ba,Bool.and_eq_true,decide_eq_true_eq] at h
 exact h.1
theorem Dp {G} (s p:List UInt8):HP Tryz.prog G 151 [.str s,.str p] (fun r=>r=.tup [.d (.str (if ba s p then s.drop p.length else s)),.d (.bool (ba s p))]):=by
 refine aj Tryz.func151 rfl (by decide +kernel) (by simp [Tryz.ntmps151]) (veil fun E=>?_)
 simp only [go_sem]
 refine ab E (wO s p) rfl rfl (by simp) ?_
 rintro _ rfl
 simp only [go_sem]
 refine aG E (fun h=>?_) (fun h=>?_)<;>simp only [go_sem]
 ·have h:ba s p=false:=by simpa using h
  simp [h]
 ·have h:ba s p=true:=by simpa using h
  have:=yx h
  simp [h]
  refine ⟨by omega,?_⟩
  rw [List.take_of_length_le]
  simp
theorem pK {G} (s p:List UInt8):HP Tryz.prog G 127 [.str s,.str p] (fun r=>r=.tup [.d (.str (if ba s p then s.drop p.length else s)),.d (.bool (ba s p))]):=by
 refine aj Tryz.func127 rfl (by decide +kernel) (by simp [Tryz.ntmps127]) (veil fun E=>?_)
 simp only [go_sem]
 refine ab E (Dp s p) rfl rfl (by simp) ?_
 rintro _ rfl
 simp only [go_sem]
def eH (n:Int):List UInt8:=if n<0 then 126::Lib.decDigits n.natAbs else Lib.decDigits n.toNat
theorem jT (u:Nat):∃ c r,Lib.decDigits u=c::r∧48≤c.toNat∧c.toNat≤57:=by
 induction u using Nat.strongRecOn with
 | ind u ih =>
   rw [Lib.decDigits]
   split
   ·rename_i h
    exact ⟨_,[],rfl,by rw [UInt8.toNat_ofNat'];omega,by rw [UInt8.toNat_ofNat'];omega⟩
   ·obtain ⟨c,r,h1,h2,h3⟩:=ih (u / 10) (by omega)
    exact ⟨c,r++[UInt8.ofNat (48+u % 10)],by rw [h1];rfl,h2,h3⟩
theorem yS (u:Nat):ba (Lib.decDigits u) [45]=false:=by
 obtain ⟨c,r,h1,h2,h3⟩:=jT u
 rw [h1]
 simp [ba]
 rintro rfl
 revert h2;decide
end Go.Proofs.YtejpnabbmgpmaaaGreatDoor

namespace Go.Proofs.YtejpnabbmgpmaaaGreatDoor
open Go.Ab
def HX (k a b:Int):Int:=if k=1 then w64 (a+b) else if k=2 then w64 (a-b) else if k=3 then w64 (a*b) else if k=4 then Iq a b else if k=5 then (if a<b then 1 else 0) else if k=6 then (if a=b then 1 else 0) else 0
def HE (k b:Int):Int:=if k=1 then 0 else if k=2 then 0 else if k=3 then 0 else if k=4 then IY b else if k=5 then 0 else if k=6 then 0 else 2
end Go.Proofs.YtejpnabbmgpmaaaGreatDoor

namespace Go.Proofs.YtejpnabbmgpmaaaGreatDoor
open Go.Ab
def dd (u:Nat):List UInt8:=if u=0 then [] else Lib.decDigits u
theorem Fy (m:Int):m.tdiv 10=if m<0 then -((m.natAbs / 10:Nat):Int) else ((m.natAbs / 10:Nat):Int):=by
 cases m with
 | ofNat k=>rw [if_neg (show ¬ Int.ofNat k<0 from Int.not_lt.2 (Int.natCast_nonneg k))];rfl
 | negSucc k=>rw [if_pos (Int.negSucc_lt_zero k)];rfl
end Go.Proofs.YtejpnabbmgpmaaaGreatDoor

