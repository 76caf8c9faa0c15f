/-
  Whether a tree may be, in plain words. (with the parts that follow it)
-/
import Derived.Test.YtejpnabbmgpmaaaGreatDoorVPE
import Derived.Test.YtejpnabbmgpmaaaGreatDoorVPD
import Derived.Test.YtejpnabbmgpmaaaGreatDoorVPC
import Derived.Laws.CopyRow
import Derived.Laws.IdiomCopy
import Derived.Lib.Builder
import Derived.LaidEqlPtr
import Derived.Laws.Pointers
import Derived.Laws.Externs
import Derived.Lib.UnsafeStr
import Derived.Lib.ItoaLen
import Derived.Lib.Bytealg
set_option linter.all false
namespace Go.Proofs.YtejpnabbmgpmaaaGreatDoor
open Go.Ab
def fP (n:EN):Bool:=if n.k=4∨n.k=5∨n.k=7∨n.k=8∨n.k=12 then aD n.name else if n.k=13 then eY n.name else n.name.isEmpty
def cE (n:EN):Bool :=
 if n.k=1 then n.s.isEmpty else if n.k=2 then (decide (n.n=0) || decide (n.n=1)) && n.s.isEmpty else if n.k=10 then decide (1≤n.n) && decide (n.n≤7) && n.s.isEmpty
 else if n.k=3 then decide (n.n=0) && decide (n.s.length≤200) else decide (n.n=0) && n.s.isEmpty
def fc (k:Int) (f:EF):Bool:=if k=11 then aD f.nm && f.var.isEmpty else eY f.nm && aD f.var
def cD (n:EN):Bool :=
 if aL n.k then (n.l.all (fc n.k)) && (decide ((if n.k=14 then 1 else 0)≤n.l.length) && decide (n.l.length≤30) && decide ((n.l.map (·.nm)).Nodup)) else n.l.isEmpty
def fR (n:EN):Bool:=([n.a,n.b,n.c].drop (aU n.k)).all fun x=>decide (x=0)
def a8 (n:EN):Bool:=decide (1≤n.k) && decide (n.k≤14) && decide (0≤n.pos) && decide (n.pos≤1048576) && (fP n && cE n && cD n && fR n)
def eX (ns:List EN) (i:Nat):Bool:=((ar (ndE ns i)).all fun k=>decide (0≤k) && decide (k<(i:Int))) && (decide ((ndE ns i).k≠8) || decide ((ndE ns (ndE ns i).a.toNat).k=5))
def ED (ns:List EN) (k:Nat):Nat:=(ns.flatMap ar).countP fun x=>decide (x=(k:Int))
def tz (d:List Int) (n:EN):Int:=(ar n).foldl (fun m k=>max m (d.getD k.toNat 0)) 0+1
def eS:List EN→List Int→List Int
 | [],d=>d
 | n::r,d=>eS r (d++[tz d n])
def td (ns:List EN):Int:=(eS ns []).getD (ns.length-1) 0
def okE (ns:List EN):Bool:=(List.range ns.length).all fun i=>a8 (ndE ns i) && eX ns i
def n9 (ns:List EN):Bool:=(List.range (ns.length-1)).all fun k=>decide (ED ns k=1)
def jL (ns:List EN):Int:=if ns.length=0∨600<ns.length then 8 else if okE ns && n9 ns then (if 100<td ns then 6 else 0) else 4
end Go.Proofs.YtejpnabbmgpmaaaGreatDoor

namespace Go.Proofs.YtejpnabbmgpmaaaGreatDoor
open Go.Ab
theorem Gr:tU Tryz.prog 4=some (.bool false):=by kernel_rfl
theorem oC {κ:Type} [DecidableEq κ] (a b:κ) (d:D):∀ ms:List (κ × D),mlook (mset ms a d) b=if a=b then some d else mlook ms b
 | []=>rfl
 | q::r=>by
   simp only [mset]
   split
   ·rename_i e
    simp only [mlook]
    rw [e]
    split<;>rfl
   ·rename_i e
    simp only [mlook,oC a b d r]
    split
    ·rename_i e2
     rw [if_neg (fun e3=>e (e2.trans e3.symm))]
    ·rfl
def setOf (l:List (List UInt8)):List (List UInt8 × D):=l.foldl (fun ms u=>mset ms u (.bool true)) []
theorem setOf_snoc (l:List (List UInt8)) (u:List UInt8):setOf (l++[u])=mset (setOf l) u (.bool true):=by simp [setOf]
theorem yZ (l:List (List UInt8)) (u:List UInt8):(mlook (setOf l) u).getD (.bool false)=.bool (decide (u∈l)):=by
 suffices h:∀ l:List (List UInt8),mlook (setOf l) u=if u∈l then some (.bool true) else none by
  rw [h];split<;>simp_all
 intro l
 induction hl:l.length generalizing l with
 | zero=>have:l=[]:=List.length_eq_zero_iff.1 hl;subst this;rfl
 | succ n ih =>
   have hne:l≠[]:=by intro e;rw [e] at hl;simp at hl
   obtain ⟨r,x,rfl⟩:∃ r x,l=r++[x]:=⟨l.dropLast,l.getLast hne,(List.dropLast_concat_getLast hne).symm⟩
   rw [setOf_snoc,oC,ih r (by simpa using hl)]
   by_cases h1:x=u
   ·subst h1;simp
   ·rw [if_neg h1]
    simp [Ne.symm h1]
def twice (l:List (List UInt8)):Bool:=!decide l.Nodup
theorem ur {l:List (List UInt8)} {i:Nat} (hi:i<l.length) (h:(l.take i).Nodup) (h2:l.getD i [] ∉ l.take i):(l.take (i+1)).Nodup:=by
 have e:l.getD i []=l[i]:=by simp [hi]
 rw [e] at h2
 rw [List.take_succ_eq_append_getElem hi,List.nodup_append]
 exact ⟨h,by simp,fun x hx y hy=>by rw [List.mem_singleton.1 hy];rintro rfl;exact h2 hx⟩
theorem zV {l:List (List UInt8)} {i:Nat} (hi:i<l.length) (h2:l.getD i []∈l.take i):twice l=true:=by
 have e:l.getD i []=l[i]:=by simp [hi]
 rw [e] at h2
 have:¬ l.Nodup:=fun hn=>by
  have hs:(l.take (i+1)).Nodup:=hn.sublist (List.take_sublist _ _)
  rw [List.take_succ_eq_append_getElem hi,List.nodup_append] at hs
  exact hs.2.2 _ h2 _ (by simp) rfl
 simp [twice,this]
theorem tD {G} (l:List (List UInt8)) (hl:l.length≤1000000):HP Tryz.prog G 46 [strs l] (fun r=>r=.d (.bool (twice l))):=by
 refine aj Tryz.func46 rfl (by decide +kernel) (by simp [Tryz.ntmps46]) (veil fun E=>?_)
 unfold strs
 simp only [go_sem]
 refine w1 E (by simp) (by simp [aa]) ?_
 simp only [go_sem]
 refine eE E (X:={ i:Nat // i≤l.length∧(l.take i).Nodup }) (fun x=>[(3,.mp [6]),(7,.d (.sl none (l.map .str))),(8,.d (i64 l.length)),(9,.d (i64 x.1))]) (fun x=>[([6],.map (menc D.str (setOf (l.take x.1))))]) [6] (fun x=>l.length-x.1) ⟨0,by simp⟩ ?_ ?_
 ·simp only [go_sem]
  all_goals rfl
 rintro ⟨i,hi,hn⟩ E'
 simp only [go_sem]
 refine ah E' (fun h1=>?_) (fun h1=>?_)<;>simp only [go_sem]
 ·have hi':i<l.length:=by omega
  refine ⟨by omega,?_⟩
  rw [fj hi']
  simp only [go_sem]
  refine xr E' [6] (setOf (l.take i)) (l.getD i []) (.bool false) (by rw [xS]) (z7 (by rw [ti9])) Gr rfl rfl rfl (by simp) ?_
  simp only [go_sem]
  rw [yZ]
  refine ah E' (fun h2=>?_) (fun h2=>?_)<;>simp only [go_sem]
  ·rw [zV hi' h2]
  refine sj E' [6] (setOf (l.take i)) (l.getD i []) (.bool true) (by rw [xS]) (z7 (by rw [ti9])) rfl rfl rfl rfl rfl ?_
  simp only [go_sem]
  refine ⟨⟨i+1,by omega,ur hi' hn h2⟩,by show l.length-(i+1)<_;omega,by rw [ai ⟨by omega,by omega⟩];rfl,?_⟩
  rw [List.take_succ_eq_append_getElem hi',setOf_snoc]
  simp [hi']
 ·have hil:i=l.length:=by omega
  subst hil
  rw [List.take_length] at hn
  simp [twice,hn]
structure iW (B:Nat) (n:EN):Prop where
 nm:n.name.length≤B
 s:n.s.length≤B
 l:n.l.length≤1000000
 f:∀ f∈n.l,f.nm.length≤B∧f.var.length≤B
abbrev BIG:Nat:=9223372036854775807
theorem qc (l:List UInt8):(l == [])=l.isEmpty:=by cases l<;>rfl
theorem Cw {G} (n:EN) (h:iW BIG n):HP Tryz.prog G 102 [enD n] (fun r=>r=.d (.bool (fP n))):=by
 generalize hb:fP n=b
 unfold fP at hb
 have c1:=o7 (G:=G) n.name h.nm
 have c2:=sL (G:=G) n.name h.nm
 generalize aD n.name=x at c1 hb
 generalize eY n.name=y at c2 hb
 unfold enD efD
 refine aj Tryz.func102 rfl (by decide +kernel) (by simp [Tryz.ntmps102]) (veil fun E=>?_)
 simp only [go_sem]
 refine ah E (fun h4=>?_) (fun h4=>?_)<;>simp only [go_sem]
 ·rw [decide_eq_true h4]
  try simp only [go_sem]
  refine ae E (c1) rfl rfl (by simp) ?_
  rintro _ rfl
  simp only [go_sem]
  subst hb
  rw [if_pos (by omega)]
 refine ah E (fun h5=>?_) (fun h5=>?_)<;>simp only [go_sem]
 ·rw [decide_eq_true h5]
  try simp only [go_sem]
  refine ae E (c1) rfl rfl (by simp) ?_
  rintro _ rfl
  simp only [go_sem]
  subst hb
  rw [if_pos (by omega)]
 refine ah E (fun h7=>?_) (fun h7=>?_)<;>simp only [go_sem]
 ·rw [decide_eq_true h7]
  try simp only [go_sem]
  refine ae E (c1) rfl rfl (by simp) ?_
  rintro _ rfl
  simp only [go_sem]
  subst hb
  rw [if_pos (by omega)]
 refine ah E (fun h8=>?_) (fun h8=>?_)<;>simp only [go_sem]
 ·rw [decide_eq_true h8]
  try simp only [go_sem]
  refine ae E (c1) rfl rfl (by simp) ?_
  rintro _ rfl
  simp only [go_sem]
  subst hb
  rw [if_pos (by omega)]
 refine ah E (fun h12=>?_) (fun h12=>?_)<;>simp only [go_sem]
 ·try simp only [go_sem]
  refine ae E (c1) rfl rfl (by simp) ?_
  rintro _ rfl
  simp only [go_sem]
  subst hb
  rw [if_pos (by omega)]
 refine ah E (fun h13=>?_) (fun h13=>?_)<;>simp only [go_sem]
 ·refine ae E (c2) rfl rfl (by simp) ?_
  rintro _ rfl
  simp only [go_sem]
  subst hb
  rw [if_neg (by omega),if_pos h13]
 ·subst hb
  rw [if_neg (by omega),if_neg h13,qc]
theorem BY {G} (k:Int) (f:EF) (h1:f.nm.length≤BIG) (h2:f.var.length≤BIG):HP Tryz.prog G 133 [i64 k,fD f] (fun r=>r=.d (.bool (fc k f))):=by
 generalize hb:fc k f=b
 unfold fc at hb
 have c1:=o7 (G:=G) f.nm h1
 have c2:=sL (G:=G) f.nm h1
 have c3:=o7 (G:=G) f.var h2
 generalize aD f.nm=x at c1 hb
 generalize eY f.nm=y at c2 hb
 generalize aD f.var=z at c3 hb
 unfold fD
 refine aj Tryz.func133 rfl (by decide +kernel) (by simp [Tryz.ntmps133]) (veil fun E=>?_)
 simp only [go_sem]
 refine ah E (fun h=>?_) (fun h=>?_)<;>simp only [go_sem]
 ·refine ae E (c1) rfl rfl (by simp) ?_
  rintro _ rfl
  simp only [go_sem]
  repeat (first
   | (apply dP E;(· simp only [go_sem]);(· intro h;(try simp only [bq] at h);simp only [↓h,go_sem];rfl);simp only [go_sem])
   | (apply bJ E;(· simp only [go_sem]);(· intro h;(try simp only [bq] at h);simp only [↓h,go_sem];rfl);(· intro h;(try simp only [bq] at h);simp only [↓h,go_sem];rfl);simp only [go_sem])
   | (apply bK E;(· simp only [go_sem]);(· rfl);(· intro h h';(try simp only [bq] at h h');simp only [↓h,↓h',go_sem];rfl);simp only [go_sem])
   | (apply bj E;(· simp only [go_sem]);(· rfl);(· intro h h';(try simp only [bq] at h h');simp only [↓h,↓h',go_sem];rfl);(· intro h h';(try simp only [bq] at h h');simp only [↓h,↓h',go_sem];rfl);simp only [go_sem])
   | (apply dv E;(· decide);simp only [go_sem]))
  rw [if_pos h,← qc] at hb
  rw [hb]
 ·refine ae E (c2) rfl rfl (by simp) ?_
  rintro _ rfl
  simp only [go_sem]
  repeat (first
   | (apply dP E;(· simp only [go_sem]);(· intro h;(try simp only [bq] at h);simp only [↓h,go_sem];rfl);simp only [go_sem])
   | (apply bJ E;(· simp only [go_sem]);(· intro h;(try simp only [bq] at h);simp only [↓h,go_sem];rfl);(· intro h;(try simp only [bq] at h);simp only [↓h,go_sem];rfl);simp only [go_sem])
   | (apply bK E;(· simp only [go_sem]);(· rfl);(· intro h h';(try simp only [bq] at h h');simp only [↓h,↓h',go_sem];rfl);simp only [go_sem])
   | (apply bj E;(· simp only [go_sem]);(· rfl);(· intro h h';(try simp only [bq] at h h');simp only [↓h,↓h',go_sem];rfl);(· intro h h';(try simp only [bq] at h h');simp only [↓h,↓h',go_sem];rfl);simp only [go_sem])
   | (apply dv E;(· decide);simp only [go_sem]))
  (first | (apply lX E;(· simp only [go_sem]);(· intro h hk;(try simp only [bq] at h);refine ae E (c3) rfl (by simp only [↓h,go_sem]<;>rfl) (by simp) ?_;rintro _ rfl;exact hk);simp only [go_sem]) | (apply jY E;(· simp only [go_sem]);(· rfl);(· intro h h' hk;(try simp only [bq] at h h');refine ae E (c3) rfl (by simp only [↓h,↓h',go_sem]<;>rfl) (by simp) ?_;rintro _ rfl;exact hk);simp only [go_sem]))
  repeat (first
   | (apply dP E;(· simp only [go_sem]);(· intro h;(try simp only [bq] at h);simp only [↓h,go_sem];rfl);simp only [go_sem])
   | (apply bJ E;(· simp only [go_sem]);(· intro h;(try simp only [bq] at h);simp only [↓h,go_sem];rfl);(· intro h;(try simp only [bq] at h);simp only [↓h,go_sem];rfl);simp only [go_sem])
   | (apply bK E;(· simp only [go_sem]);(· rfl);(· intro h h';(try simp only [bq] at h h');simp only [↓h,↓h',go_sem];rfl);simp only [go_sem])
   | (apply bj E;(· simp only [go_sem]);(· rfl);(· intro h h';(try simp only [bq] at h h');simp only [↓h,↓h',go_sem];rfl);(· intro h h';(try simp only [bq] at h h');simp only [↓h,↓h',go_sem];rfl);simp only [go_sem])
   | (apply dv E;(· decide);simp only [go_sem]))
  rw [if_neg h] at hb
  rw [hb]
theorem CB {G} (n:EN):HP Tryz.prog G 103 [enD n] (fun r=>r=.d (.bool (cE n))):=by
 generalize hb:cE n=b
 unfold cE at hb
 simp only [← qc] at hb
 unfold enD efD
 refine aj Tryz.func103 rfl (by decide +kernel) (by simp [Tryz.ntmps103]) (veil fun E=>?_)
 simp only [go_sem]
 refine ah E (fun h1=>?_) (fun h1=>?_)<;>simp only [go_sem]
 ·rw [if_pos h1] at hb
  rw [hb]
 rw [if_neg h1] at hb
 refine ah E (fun h2=>?_) (fun h2=>?_)<;>simp only [go_sem]
 ·rw [if_pos h2] at hb
  repeat (first
   | (apply dP E;(· simp only [go_sem]);(· intro h;(try simp only [bq] at h);simp only [↓h,go_sem];rfl);simp only [go_sem])
   | (apply bJ E;(· simp only [go_sem]);(· intro h;(try simp only [bq] at h);simp only [↓h,go_sem];rfl);(· intro h;(try simp only [bq] at h);simp only [↓h,go_sem];rfl);simp only [go_sem])
   | (apply bK E;(· simp only [go_sem]);(· rfl);(· intro h h';(try simp only [bq] at h h');simp only [↓h,↓h',go_sem];rfl);simp only [go_sem])
   | (apply bj E;(· simp only [go_sem]);(· rfl);(· intro h h';(try simp only [bq] at h h');simp only [↓h,↓h',go_sem];rfl);(· intro h h';(try simp only [bq] at h h');simp only [↓h,↓h',go_sem];rfl);simp only [go_sem])
   | (apply dv E;(· decide);simp only [go_sem]))
  rw [hb]
 rw [if_neg h2] at hb
 refine ah E (fun h3=>?_) (fun h3=>?_)<;>simp only [go_sem]
 ·rw [if_pos h3] at hb
  repeat (first
   | (apply dP E;(· simp only [go_sem]);(· intro h;(try simp only [bq] at h);simp only [↓h,go_sem];rfl);simp only [go_sem])
   | (apply bJ E;(· simp only [go_sem]);(· intro h;(try simp only [bq] at h);simp only [↓h,go_sem];rfl);(· intro h;(try simp only [bq] at h);simp only [↓h,go_sem];rfl);simp only [go_sem])
   | (apply bK E;(· simp only [go_sem]);(· rfl);(· intro h h';(try simp only [bq] at h h');simp only [↓h,↓h',go_sem];rfl);simp only [go_sem])
   | (apply bj E;(· simp only [go_sem]);(· rfl);(· intro h h';(try simp only [bq] at h h');simp only [↓h,↓h',go_sem];rfl);(· intro h h';(try simp only [bq] at h h');simp only [↓h,↓h',go_sem];rfl);simp only [go_sem])
   | (apply dv E;(· decide);simp only [go_sem]))
  rw [hb]
 rw [if_neg h3] at hb
 refine ah E (fun h4=>?_) (fun h4=>?_)<;>simp only [go_sem]
 ·rw [if_pos h4] at hb
  repeat (first
   | (apply dP E;(· simp only [go_sem]);(· intro h;(try simp only [bq] at h);simp only [↓h,go_sem];rfl);simp only [go_sem])
   | (apply bJ E;(· simp only [go_sem]);(· intro h;(try simp only [bq] at h);simp only [↓h,go_sem];rfl);(· intro h;(try simp only [bq] at h);simp only [↓h,go_sem];rfl);simp only [go_sem])
   | (apply bK E;(· simp only [go_sem]);(· rfl);(· intro h h';(try simp only [bq] at h h');simp only [↓h,↓h',go_sem];rfl);simp only [go_sem])
   | (apply bj E;(· simp only [go_sem]);(· rfl);(· intro h h';(try simp only [bq] at h h');simp only [↓h,↓h',go_sem];rfl);(· intro h h';(try simp only [bq] at h h');simp only [↓h,↓h',go_sem];rfl);simp only [go_sem])
   | (apply dv E;(· decide);simp only [go_sem]))
  rw [← hb,show decide ((n.s.length:Int)≤200)=decide (n.s.length≤200) from decide_eq_decide.2 (by omega)]
 rw [if_neg h4] at hb
 repeat (first
  | (apply dP E;(· simp only [go_sem]);(· intro h;(try simp only [bq] at h);simp only [↓h,go_sem];rfl);simp only [go_sem])
  | (apply bJ E;(· simp only [go_sem]);(· intro h;(try simp only [bq] at h);simp only [↓h,go_sem];rfl);(· intro h;(try simp only [bq] at h);simp only [↓h,go_sem];rfl);simp only [go_sem])
  | (apply bK E;(· simp only [go_sem]);(· rfl);(· intro h h';(try simp only [bq] at h h');simp only [↓h,↓h',go_sem];rfl);simp only [go_sem])
  | (apply bj E;(· simp only [go_sem]);(· rfl);(· intro h h';(try simp only [bq] at h h');simp only [↓h,↓h',go_sem];rfl);(· intro h h';(try simp only [bq] at h h');simp only [↓h,↓h',go_sem];rfl);simp only [go_sem])
  | (apply dv E;(· decide);simp only [go_sem]))
 rw [hb]
theorem vO {p:EF→Bool} {l:List EF} {i:Nat} (h:i<l.length) (ha:(l.take i).all p=true) (hb:p l[i]=true):(l.take (i+1)).all p=true:=by
 rw [List.take_succ_eq_append_getElem h,List.all_append,ha]
 simp [hb]
theorem Em {l:List EF} {i:Nat} (h:i<l.length):(l.map fD).getD i .nilp=.agg [.str l[i].nm,.str l[i].var,i64 l[i].to]:=by simp [h,fD]
theorem len_nil (l:List EF):decide ((l.length:Int)=0)=l.isEmpty:=by cases l<;>simp<;>omega
theorem Co {G} (n:EN) (h:iW BIG n):HP Tryz.prog G 104 [enD n] (fun r=>r=.d (.bool (cD n))):=by
 generalize hb:cD n=b
 unfold cD at hb
 have hl:=h.l
 unfold enD efD
 refine aj Tryz.func104 rfl (by decide +kernel) (by simp [Tryz.ntmps104]) (veil fun E=>?_)
 simp only [go_sem]
 refine ae E (lK n.k) rfl rfl (by simp) ?_
 rintro _ rfl
 simp only [go_sem]
 refine aI E (fun h1=>?_) (fun h1=>?_)<;>simp only [go_sem]
 ·rw [if_neg (by simpa using h1),← len_nil] at hb
  rw [hb]
 rw [if_pos (by simpa using h1)] at hb
 refine pj E 3 98 none rfl (by rw [aa];decide) ?_
 simp only [go_sem]
 refine aw E (X:={ i:Nat // i≤n.l.length∧(n.l.take i).all (fc n.k)=true }) (fun x=>[(1,.bx [1] 0),(3,.vw [98] 0 x.1),(17,.d (.sl (some 3) (n.l.map fD))),(18,.d (i64 n.l.length)),(19,.d (i64 x.1))])
  (fun x=>[([1],.box [.d (i64 n.k),.d (i64 n.a),.d (i64 n.b),.d (i64 n.c),.d (i64 n.n),.d (.str n.name),.d (.str n.s),.d (.sl (some 3) (n.l.map fD)),.d (i64 n.pos)]),([98],.arr none ((n.l.take x.1).map fun f=>.str f.nm))]) [1,98] (fun x=>n.l.length-x.1) ⟨0,by simp⟩ id ?_ ?_
 ·simp only [go_sem]
  all_goals rfl
 rintro ⟨i,hi,hall⟩ E0
 refine aH E0 fun Q' hQ E'=>?_
 simp only at hi hall ⊢
 simp only [go_sem]
 refine ah E' (fun g1=>?_) (fun g1=>?_)<;>simp only [go_sem]
 ·have hi':i<n.l.length:=by omega
  refine ⟨by omega,?_⟩
  rw [Em hi']
  simp only [go_sem]
  obtain ⟨q1,q2⟩:=h.f _ (List.getElem_mem hi')
  refine ae E' (BY n.k n.l[i] q1 q2) rfl rfl (by simp) ?_
  rintro _ rfl
  simp only [go_sem]
  refine aI E' (fun g2=>?_) (fun g2=>?_)<;>simp only [go_sem]
  ·rw [hQ]
   simp only [go_sem]
   have g2':fc n.k n.l[i]=false:=by simpa using g2
   have:n.l.all (fc n.k)=false:=List.all_eq_false.2 ⟨_,List.getElem_mem hi',by rw [g2'];decide⟩
   rw [← hb,this]
   rfl
  ·have g2':fc n.k n.l[i]=true:=by simpa using g2
   refine ⟨by omega,?_⟩
   rw [hQ]
   simp only [go_sem]
   refine ⟨⟨i+1,by omega,vO hi' hall g2'⟩,by show n.l.length-(i+1)<_;omega,tau [([98],[32])],?_⟩
   rw [ai ⟨by omega,by omega⟩]
   rw [show List.take i (List.map (fun f:EF=>D.str f.nm) (List.take i n.l))++[.str n.l[i].nm]=(n.l.take (i+1)).map fun f=>.str f.nm by
    rw [List.take_of_length_le (by simp;omega),List.take_succ_eq_append_getElem hi',List.map_append];rfl]
   simp only [go_sem]
   all_goals rfl
 ·rw [hQ]
  have h3:i=n.l.length:=by omega
  subst h3
  rw [List.take_length] at *
  rw [hall,Bool.true_and] at hb
  simp only [go_sem]
  refine ah E (fun k1=>?_) (fun k1=>?_)<;>simp only [go_sem]
  ·rw [if_pos k1] at hb
   refine ao E (fun k2=>?_) (fun k2=>?_)<;>simp only [go_sem]
   ·refine ao E (fun k3=>?_) (fun k3=>?_)<;>simp only [go_sem]
    ·have ht:=tD (G:=G) (n.l.map (·.nm)) (by rw [List.length_map];exact hl)
     unfold strs at ht
     rw [List.map_map,show (D.str ∘ fun f:EF=>f.nm)=fun f=>D.str f.nm from rfl] at ht
     rw [jM]
     simp only [go_sem]
     refine oZ E [([98],none,n.l.map fun f=>.str f.nm)] ht (by rintro _ rfl;rfl) (by simp only [go_sem]) rfl (by simp only [go_sem]) (by simp) ?_
     rintro _ rfl
     simp only [go_sem]
     rw [← hb,decide_eq_true (by omega),decide_eq_true (by omega)]
     simp [twice]
    ·rw [← hb,decide_eq_false (p:=n.l.length≤30) (by omega),Bool.and_false,Bool.false_and]
   ·rw [← hb,decide_eq_false (by omega),Bool.false_and,Bool.false_and]
  ·rw [if_neg k1] at hb
   refine ao E (fun k2=>?_) (fun k2=>?_)<;>simp only [go_sem]
   ·refine ao E (fun k3=>?_) (fun k3=>?_)<;>simp only [go_sem]
    ·have ht:=tD (G:=G) (n.l.map (·.nm)) (by rw [List.length_map];exact hl)
     unfold strs at ht
     rw [List.map_map,show (D.str ∘ fun f:EF=>f.nm)=fun f=>D.str f.nm from rfl] at ht
     rw [jM]
     simp only [go_sem]
     refine oZ E [([98],none,n.l.map fun f=>.str f.nm)] ht (by rintro _ rfl;rfl) (by simp only [go_sem]) rfl (by simp only [go_sem]) (by simp) ?_
     rintro _ rfl
     simp only [go_sem]
     rw [← hb,decide_eq_true (by omega),decide_eq_true (by omega)]
     simp [twice]
    ·rw [← hb,decide_eq_false (p:=n.l.length≤30) (by omega),Bool.and_false,Bool.false_and]
   ·rw [← hb,decide_eq_false (by omega),Bool.false_and,Bool.false_and]
end Go.Proofs.YtejpnabbmgpmaaaGreatDoor

namespace Go.Proofs.YtejpnabbmgpmaaaGreatDoor
open Go.Ab
theorem pS {G} (c:UInt8):HP Tryz.prog G 92 [u8 c] (fun r=>r=.d (.bool (sm c))):=by
 refine aj Tryz.func92 rfl (by decide +kernel) (by simp [Tryz.ntmps92]) (veil fun E=>?_)
 unfold u8
 simp only [go_sem]
 refine ao E (fun h1=>?_) (fun h1=>?_)<;>simp only [go_sem]
 ·refine ao E (fun h2=>?_) (fun h2=>?_)<;>simp only [go_sem]
  ·simp [sm,smZ,h1,h2]
  ·simp [sm,smZ,h1,h2]
 ·simp [sm,smZ,h1]
theorem pE {G} (c:UInt8):HP Tryz.prog G 91 [u8 c] (fun r=>r=.d (.bool (gr c))):=by
 refine aj Tryz.func91 rfl (by decide +kernel) (by simp [Tryz.ntmps91]) (veil fun E=>?_)
 unfold u8
 simp only [go_sem]
 refine ao E (fun h1=>?_) (fun h1=>?_)<;>simp only [go_sem]
 ·simp [gr,grZ,h1]
 ·simp [gr,grZ,h1]
theorem xf {G} (l:List UInt8) (hl:l.length≤9223372036854775807):HP Tryz.prog G 90 [.str l] (fun r=>r=.d (i64 (bm l))):=by
 refine aj Tryz.func90 rfl (by decide +kernel) (by simp [Tryz.ntmps90]) (veil fun E=>?_)
 simp only [go_sem]
 refine ao E (fun h0=>?_) (fun h0=>?_)<;>simp only [go_sem]
 ·have:l=[]:=List.length_eq_zero_iff.1 (by omega)
  subst this;rfl
 have h0:1≤l.length:=by omega
 refine ⟨by omega,?_⟩
 refine ae E (pS (l.getD 0 0)) rfl rfl (by simp) ?_
 rintro _ rfl
 simp only [go_sem]
 refine bl E (fun h1=>?_) (fun h1=>?_)<;>simp only [go_sem]
 ·have h1:sm (l.getD 0 0)=false:=by simpa using h1
  refine ⟨by omega,?_⟩
  refine ae E (pE (l.getD 0 0)) rfl rfl (by simp) ?_
  rintro _ rfl
  simp only [go_sem]
  refine aI E (fun h2=>?_) (fun h2=>?_)<;>simp only [go_sem]
  ·have h2:gr (l.getD 0 0)=false:=by simpa using h2
   rw [cj h0,h1,h2];rfl
  ·have h2:gr (l.getD 0 0)=true:=by simpa using h2
   have hsg:(sm (l.getD 0 0) || gr (l.getD 0 0))=true:=by rw [h2,Bool.or_true]
   refine cB E (X:={ i:Nat // i≤l.length∧i+wlen (l.drop i)=wlen (l.drop 1)+1 }) (fun x=>[(0,.d (.str l)),(3,.d (i64 x.1))]) (fun x=>l.length-x.1) rfl ⟨1,h0,by omega⟩ ?_ ?_
   ·simp only [go_sem]
    all_goals rfl
   rintro ⟨i,hi,hw⟩ E'
   simp only [go_sem]
   have hn:bm l=wlen (l.drop 1)+1:=by rw [cj h0,hsg,if_pos rfl]
   refine ao E' (fun h3=>?_) (fun h3=>?_)<;>simp only [go_sem]
   ·have hi':i<l.length:=by omega
    have hwd:=iq hi'
    have yes:mo (l.getD i 0)=true→∃ y:{ i:Nat // i≤l.length∧i+wlen (l.drop i)=wlen (l.drop 1)+1 },l.length-y.1<l.length-i∧AV.d (.int .i64 (w64 ((i:Int)+1)))=AV.d (i64 y.1):=fun h4=>by
     rw [h4,if_pos rfl] at hwd
     refine ⟨⟨i+1,by omega,by omega⟩,by show l.length-(i+1)<_;omega,?_⟩
     rw [ai ⟨by omega,by omega⟩];rfl
    have no:mo (l.getD i 0)=false→AV.d (i64 (i:Int))=AV.d (i64 (bm l:Nat)):=fun h4=>by
     rw [h4,if_neg (by simp)] at hwd
     rw [hn]
     exact congrArg (fun n:Nat=>AV.d (i64 (n:Int))) (by omega)
    refine ⟨by omega,?_⟩
    refine ae E' (pS (l.getD i 0)) rfl rfl (by simp) ?_
    rintro _ rfl
    simp only [go_sem]
    refine bl E' (fun h4=>?_) (fun h4=>?_)<;>simp only [go_sem]
    ·exact yes (by simp only [mo,h4,Bool.true_or])
    refine ⟨by omega,?_⟩
    refine ae E' (pE (l.getD i 0)) rfl rfl (by simp) ?_
    rintro _ rfl
    simp only [go_sem]
    refine bl E' (fun h5=>?_) (fun h5=>?_)<;>simp only [go_sem]
    ·exact yes (by simp only [mo,h5,Bool.or_true,Bool.true_or])
    refine ⟨by omega,?_⟩
    refine ao E' (fun h6=>?_) (fun h6=>?_)<;>simp only [go_sem]
    ·refine ⟨by omega,?_⟩
     refine ah E' (fun h7=>?_) (fun h7=>?_)<;>simp only [go_sem]
     ·exact yes (by simp only [mo,h4,h5,diZ];rw [decide_eq_true h6,decide_eq_true h7];rfl)
     ·exact no (by simp only [mo,h4,h5,diZ];rw [decide_eq_false h7];simp)
    ·exact no (by simp only [mo,h4,h5,diZ];rw [decide_eq_false h6];simp)
   ·have hil:i=l.length:=by omega
    subst hil
    rw [jy] at hw
    rw [hn]
    exact congrArg (fun n:Nat=>AV.d (i64 (n:Int))) (by omega)
 ·have h1:sm (l.getD 0 0)=true:=by simpa using h1
  have hsg:(sm (l.getD 0 0) || gr (l.getD 0 0))=true:=by rw [h1,Bool.true_or]
  refine cB E (X:={ i:Nat // i≤l.length∧i+wlen (l.drop i)=wlen (l.drop 1)+1 }) (fun x=>[(0,.d (.str l)),(3,.d (i64 x.1))]) (fun x=>l.length-x.1) rfl ⟨1,h0,by omega⟩ ?_ ?_
  ·simp only [go_sem]
   all_goals rfl
  rintro ⟨i,hi,hw⟩ E'
  simp only [go_sem]
  have hn:bm l=wlen (l.drop 1)+1:=by rw [cj h0,hsg,if_pos rfl]
  refine ao E' (fun h3=>?_) (fun h3=>?_)<;>simp only [go_sem]
  ·have hi':i<l.length:=by omega
   have hwd:=iq hi'
   have yes:mo (l.getD i 0)=true→∃ y:{ i:Nat // i≤l.length∧i+wlen (l.drop i)=wlen (l.drop 1)+1 },l.length-y.1<l.length-i∧AV.d (.int .i64 (w64 ((i:Int)+1)))=AV.d (i64 y.1):=fun h4=>by
    rw [h4,if_pos rfl] at hwd
    refine ⟨⟨i+1,by omega,by omega⟩,by show l.length-(i+1)<_;omega,?_⟩
    rw [ai ⟨by omega,by omega⟩];rfl
   have no:mo (l.getD i 0)=false→AV.d (i64 (i:Int))=AV.d (i64 (bm l:Nat)):=fun h4=>by
    rw [h4,if_neg (by simp)] at hwd
    rw [hn]
    exact congrArg (fun n:Nat=>AV.d (i64 (n:Int))) (by omega)
   refine ⟨by omega,?_⟩
   refine ae E' (pS (l.getD i 0)) rfl rfl (by simp) ?_
   rintro _ rfl
   simp only [go_sem]
   refine bl E' (fun h4=>?_) (fun h4=>?_)<;>simp only [go_sem]
   ·exact yes (by simp only [mo,h4,Bool.true_or])
   refine ⟨by omega,?_⟩
   refine ae E' (pE (l.getD i 0)) rfl rfl (by simp) ?_
   rintro _ rfl
   simp only [go_sem]
   refine bl E' (fun h5=>?_) (fun h5=>?_)<;>simp only [go_sem]
   ·exact yes (by simp only [mo,h5,Bool.or_true,Bool.true_or])
   refine ⟨by omega,?_⟩
   refine ao E' (fun h6=>?_) (fun h6=>?_)<;>simp only [go_sem]
   ·refine ⟨by omega,?_⟩
    refine ah E' (fun h7=>?_) (fun h7=>?_)<;>simp only [go_sem]
    ·exact yes (by simp only [mo,h4,h5,diZ];rw [decide_eq_true h6,decide_eq_true h7];rfl)
    ·exact no (by simp only [mo,h4,h5,diZ];rw [decide_eq_false h7];simp)
   ·exact no (by simp only [mo,h4,h5,diZ];rw [decide_eq_false h6];simp)
  ·have hil:i=l.length:=by omega
   subst hil
   rw [jy] at hw
   rw [hn]
   exact congrArg (fun n:Nat=>AV.d (i64 (n:Int))) (by omega)
theorem BG {G}:HP Tryz.prog G 126 [] (fun r=>r=.d (strs kwB)):=by
 refine bz Tryz.func126 rfl (by decide +kernel) (by simp [Tryz.ntmps126]) (veil fun E=>?_)
 simp only [go_sem]
 refine ⟨[([1],none,kwB.map .str)],?_⟩
 simp only [go_sem]
 refine ⟨rfl,?_⟩
 rfl
theorem xq {G} (s:List UInt8) (l:List (List UInt8)) (hl:l.length≤9223372036854775807):HP Tryz.prog G 94 [.str s,strs l] (fun r=>r=.d (.bool (decide (s∈l)))):=by
 refine aj Tryz.func94 rfl (by decide +kernel) (by simp [Tryz.ntmps94]) (veil fun E=>?_)
 unfold strs
 simp only [go_sem]
 refine cB E (X:={ i:Nat // i≤l.length∧s ∉ l.take i }) (fun x=>[(0,.d (.str s)),(1,.d (.sl none (l.map .str))),(5,.d (i64 x.1))]) (fun x=>l.length-x.1) rfl ⟨0,by simp,by simp⟩ ?_ ?_
 ·simp only [go_sem]
  all_goals rfl
 rintro ⟨i,hi,hm⟩ E'
 simp only [go_sem]
 refine ah E' (fun h6=>?_) (fun h6=>?_)<;>simp only [go_sem]
 ·have hi':i<l.length:=by omega
  refine ⟨by omega,?_⟩
  rw [fj hi']
  simp only [go_sem]
  refine aI E' (fun h7=>?_) (fun h7=>?_)<;>simp only [go_sem]
  ·have h7:l.getD i []=s:=by simpa using h7
   have:s∈l:=by
    rw [← h7]
    simp [hi']
   rw [decide_eq_true this]
  ·have h7:l.getD i []≠s:=by simpa using h7
   refine ⟨⟨i+1,by omega,qB hi' hm h7⟩,by show l.length-(i+1)<_;omega,?_⟩
   rw [ai ⟨by omega,by omega⟩];rfl
 ·have hil:i=l.length:=by omega
  subst hil
  rw [List.take_length] at hm
  rw [decide_eq_false hm]
theorem DR {G} (s:List UInt8):HP Tryz.prog G 93 [.str s] (fun r=>r=.d (.bool (yD s))):=by
 refine aj Tryz.func93 rfl (by decide +kernel) (by simp [Tryz.ntmps93]) (veil fun E=>?_)
 simp only [go_sem]
 refine ae E BG rfl rfl (by simp) ?_
 rintro _ rfl
 simp only [go_sem]
 refine ae E (xq s kwB Dv) rfl rfl (by simp) ?_
 rintro _ rfl
 simp only [go_sem]
 rfl
theorem iH {G} (s:List UInt8) (hl:s.length≤9223372036854775807):HP Tryz.prog G 48 [.str s] (fun r=>r=.d (.bool (aD s))):=by
 have hw:¬ (0<s.length∧s.length≤20∧bm s=s.length)→br s=false:=fun h=>by
  cases hw:br s with
  | false=>rfl
  | true =>
    refine absurd ?_ h
    simp only [br,Bool.and_eq_true,decide_eq_true_eq] at hw
    exact ⟨js (by simp only [br,Bool.and_eq_true,decide_eq_true_eq];exact hw),hw.1.2,hw.2⟩
 have hwy:0<s.length→s.length≤20→bm s=s.length→br s=true:=fun h1 h2 h3=>by
  simp only [br,Bool.and_eq_true,decide_eq_true_eq]
  refine ⟨⟨?_,h2⟩,h3⟩
  cases s with
  | nil=>simp at h1
  | cons c r=>rfl
 refine aj Tryz.func48 rfl (by decide +kernel) (by simp [Tryz.ntmps48]) (veil fun E=>?_)
 simp only [go_sem]
 refine ao E (fun h1=>?_) (fun h1=>?_)<;>simp only [go_sem]
 ·refine ao E (fun h2=>?_) (fun h2=>?_)<;>simp only [go_sem]
  ·refine ae E (xf s hl) rfl rfl (by simp) ?_
   rintro _ rfl
   simp only [go_sem]
   refine ao E (fun h3=>?_) (fun h3=>?_)<;>simp only [go_sem]
   ·have hwt:=hwy (by omega) (by omega) (by omega)
    refine ⟨by omega,?_⟩
    refine ae E (pS (s.getD 0 0)) rfl rfl (by simp) ?_
    rintro _ rfl
    simp only [go_sem]
    refine bl E (fun h4=>?_) (fun h4=>?_)<;>simp only [go_sem]
    ·refine ae E (DR s) rfl rfl (by simp) ?_
     rintro _ rfl
     simp only [go_sem]
     simp only [aD,hwt,h4,Bool.true_and]
    ·simp only [aD,hwt,h4,Bool.true_and,Bool.false_and]
   ·simp only [aD,hw (by omega),Bool.false_and]
  ·simp only [aD,hw (by omega),Bool.false_and]
 ·simp only [aD,hw (by omega),Bool.false_and]
theorem En {G} (s:List UInt8) (hl:s.length≤9223372036854775807):HP Tryz.prog G 47 [.str s] (fun r=>r=.d (.bool (eY s))):=by
 have hw:¬ (0<s.length∧s.length≤20∧bm s=s.length)→br s=false:=fun h=>by
  cases hw:br s with
  | false=>rfl
  | true =>
    refine absurd ?_ h
    simp only [br,Bool.and_eq_true,decide_eq_true_eq] at hw
    exact ⟨js (by simp only [br,Bool.and_eq_true,decide_eq_true_eq];exact hw),hw.1.2,hw.2⟩
 have hwy:0<s.length→s.length≤20→bm s=s.length→br s=true:=fun h1 h2 h3=>by
  simp only [br,Bool.and_eq_true,decide_eq_true_eq]
  refine ⟨⟨?_,h2⟩,h3⟩
  cases s with
  | nil=>simp at h1
  | cons c r=>rfl
 refine aj Tryz.func47 rfl (by decide +kernel) (by simp [Tryz.ntmps47]) (veil fun E=>?_)
 simp only [go_sem]
 refine ao E (fun h1=>?_) (fun h1=>?_)<;>simp only [go_sem]
 ·refine ao E (fun h2=>?_) (fun h2=>?_)<;>simp only [go_sem]
  ·refine ae E (xf s hl) rfl rfl (by simp) ?_
   rintro _ rfl
   simp only [go_sem]
   refine ao E (fun h3=>?_) (fun h3=>?_)<;>simp only [go_sem]
   ·have hwt:=hwy (by omega) (by omega) (by omega)
    refine ⟨by omega,?_⟩
    refine ae E (pE (s.getD 0 0)) rfl rfl (by simp) ?_
    rintro _ rfl
    simp only [go_sem]
    simp only [eY,hwt,Bool.true_and]
   ·simp only [eY,hw (by omega),Bool.false_and]
  ·simp only [eY,hw (by omega),Bool.false_and]
 ·simp only [eY,hw (by omega),Bool.false_and]
theorem jZ {G} (l:List (List UInt8)) (hl:l.length≤1000000):HP Tryz.prog G 49 [strs l] (fun r=>r=.d (.bool (twice l))):=by
 refine aj Tryz.func49 rfl (by decide +kernel) (by simp [Tryz.ntmps49]) (veil fun E=>?_)
 unfold strs
 simp only [go_sem]
 refine cB E (X:={ i:Nat // i≤l.length∧(l.take i).Nodup }) (fun x=>[(0,.d (.sl none (l.map .str))),(3,.d (i64 x.1))]) (fun x=>l.length-x.1) rfl ⟨0,by simp⟩ ?_ ?_
 ·simp only [go_sem]
  all_goals rfl
 rintro ⟨i,hi,hn⟩ E'
 simp only [go_sem]
 refine ah E' (fun h1=>?_) (fun h1=>?_)<;>simp only [go_sem]
 ·have hi':i<l.length:=by omega
  have hc:=xq (G:=G) (l.getD i []) (l.take i) (by simp only [List.length_take];omega)
  unfold strs at hc
  rw [List.map_take] at hc
  refine al mixed E' fun X=>?_
  simp only [go_sem]
  refine ⟨by omega,?_⟩
  rw [fj hi']
  simp only [go_sem]
  refine ⟨by omega,?_⟩
  refine aF X hc rfl (by first | rfl | (simp only [go_sem];done) | (simp;done)) (by simp) ?_
  simp only [go_sem]
  refine ⟨by decide +kernel,?_⟩
  refine ah E' (fun h2=>?_) (fun h2=>?_)<;>simp only [go_sem]
  ·rw [zV hi' h2]
  ·refine ⟨⟨i+1,by omega,ur hi' hn h2⟩,by show l.length-(i+1)<_;omega,by rw [ai ⟨by omega,by omega⟩];rfl⟩
 ·have hil:i=l.length:=by omega
  subst hil
  rw [List.take_length] at hn
  simp [twice,hn]
end Go.Proofs.YtejpnabbmgpmaaaGreatDoor

namespace Go.Proofs.YtejpnabbmgpmaaaGreatDoor
open Go.Ab
end Go.Proofs.YtejpnabbmgpmaaaGreatDoor

namespace Go.Proofs.YtejpnabbmgpmaaaGreatDoor
open Go.Ab
end Go.Proofs.YtejpnabbmgpmaaaGreatDoor

namespace Go.Proofs.YtejpnabbmgpmaaaGreatDoor
open Go.Ab
end Go.Proofs.YtejpnabbmgpmaaaGreatDoor

namespace Go.Proofs.YtejpnabbmgpmaaaGreatDoor
open Go.Ab
end Go.Proofs.YtejpnabbmgpmaaaGreatDoor

namespace Go.Ab
section
variable {P:Program} {cf:Cf} {Q:Exit→St→Prop} {s:St} {k:List It} {B:Base} {β:Name→Option Blk} {tm:Array Value} {w:World}
theorem Sim.Gh (h:Sim B β s tm w) {p:Name} {t d:Nat} {ds:List D} (hd:d ∉ s.used) (hp:s.hp p=some (.box (ds.map .d))) (hsc:∀ x∈ds,x.scal=true) (h0:0<ds.length) (ht:s.fr t=.bx p 0) :
  ∃ β',Sim B β' (((s.set p none).add d (.arr none ds)).put t (.el [d] 0 0)) tm w:=by
 obtain ⟨k,c,e,hk,hk0,hc,hz,hl,h1,hcs⟩:=(h.objs p _ hp).2
 have hsl:=h.slots t
 rw [ht] at hsl
 have hv:tm.getD t undef=.pointer (some ⟨k.b,0,none⟩):=by
  generalize tm.getD t undef=v at hsl
  cases hsl with
  | bx _ _ _ _ _ hx =>
    obtain ⟨k',hk',_,rfl⟩:=hx _ _ hp
    rw [hk] at hk';cases hk'
    rfl
 have hlen:c.size=ds.length:=by rw [hl];simp
 have hs:=h.renew hd hp hk none none ds 0 (w':=w) rfl rfl (fun _ _=>rfl) (fun _=>⟨c,e,hc,hz,by simp only [wd];omega,fun x hx=>hsc x hx,fun i x j y hi hj=>by
  have hx:=hsc x (List.mem_of_getElem? hi)
  have hxy:j=0∧y=x:=by
   cases x<;>simp [D.scal] at hx<;>(cases j<;>simp [D.cells] at hj<;>simp [hj])
  obtain ⟨rfl,rfl⟩:=hxy
  have:=(hcs i (.d y) (by rw [List.getElem?_map,hi];rfl)).toD
  simpa [wd] using this⟩)
 refine ⟨_,hs.setv ?_⟩
 rw [hv]
 refine .el _ _ _ _ ⟨d,[],rfl,List.mem_cons_self⟩ rfl fun ty' wf xs hx=>?_
 have:(some (Ob.arr none ds))=some (.arrT ty' wf xs):=by rw [← hx];simp [St.add,St.set,av]
 cases this
 exact ⟨h0,⟨k.b,0,k.z⟩,by simp [av],by simp⟩
theorem FP (E:Eng P cf Q) {c:Code} (p:Name) (t d:Nat) (ds:List D) (hd:d ∉ s.used) (hp:s.hp p=some (.box (ds.map .d))) (hsc:(ds.all D.scal)=true) (h0:0<ds.length) (ht:s.fr t=.bx p 0)
  (h:ez E c (((s.set p none).add d (.arr none ds)).put t (.el [d] 0 0)) k):ez E c s k:=by
 intro B hB ds' β a w' hds hs
 obtain ⟨β',hs'⟩:=hs.Gh hd hp (List.all_eq_true.1 hsc) h0 ht
 exact h B hB ds' β' a w' hds hs'
def iG (zs xs:List D) (off len:Nat):List D:=zs.take off++(xs.take (Nat.min xs.length len)++zs.drop (off+Nat.min xs.length len))
theorem qu {zs xs:List D} {off len:Nat} (h:off+len≤zs.length):(iG zs xs off len).length=zs.length:=by
 have h1:Nat.min xs.length len≤len:=Nat.min_le_right _ _
 have h2:Nat.min xs.length len≤xs.length:=Nat.min_le_left _ _
 unfold iG
 obtain ⟨m,hm⟩:∃ m,m=Nat.min xs.length len:=⟨_,rfl⟩
 rw [← hm] at h1 h2 ⊢
 simp only [List.length_append,List.length_take,List.length_drop]
 omega
theorem yd {zs xs:List D} {off len m:Nat} (hm:Nat.min xs.length len=m) (h:off+len≤zs.length) (i:Nat):(iG zs xs off len)[i]?=if i<off then zs[i]? else if i<off+m then xs[i-off]? else zs[i]?:=by
 have h1:Nat.min xs.length len≤len:=Nat.min_le_right _ _
 have h2:Nat.min xs.length len≤xs.length:=Nat.min_le_left _ _
 unfold iG
 rw [hm] at h1 h2 ⊢
 by_cases c1:i<off
 ·rw [if_pos c1,List.getElem?_append_left (by simp;omega),List.getElem?_take_of_lt c1]
 rw [if_neg c1,List.getElem?_append_right (by simp;omega),List.length_take,Nat.min_eq_left (by omega)]
 by_cases c2:i<off+m
 ·rw [if_pos c2,List.getElem?_append_left (by simp;omega),List.getElem?_take_of_lt (by omega)]
 ·rw [if_neg c2,List.getElem?_append_right (by simp;omega),List.length_take,Nat.min_eq_left h2,List.getElem?_drop]
  congr 1;omega
theorem BW {c1 c:Array Value} {o q m:Nat} (hq:q+m≤c1.size) (ho:o+m≤c.size) (i:Nat):(c1.toList.take q++(c.extract o (o+m)).toList++c1.toList.drop (q+m)).toArray.getD i undef=if i<q then c1.getD i undef else if i<q+m then c.getD (o+(i-q)) undef else c1.getD i undef:=by
 have hcl:(c.extract o (o+m)).toList.length=m:=by simp;omega
 rw [Array.getD_eq_getD_getElem?,List.getElem?_toArray]
 by_cases h1:i<q
 ·rw [if_pos h1,List.append_assoc,List.getElem?_append_left (by simp;omega),List.getElem?_take_of_lt h1]
  simp [Array.getD_eq_getD_getElem?]
 rw [if_neg h1]
 by_cases h2:i<q+m
 ·rw [if_pos h2,List.getElem?_append_left (by rw [List.length_append,hcl,List.length_take];simp;omega),List.getElem?_append_right (by simp;omega),List.length_take,Array.length_toList,Nat.min_eq_left (by omega)]
  rw [Array.getElem?_toList,Array.getElem?_extract,if_pos (by omega)]
  simp [Array.getD_eq_getD_getElem?]
 ·rw [if_neg h2,List.getElem?_append_right (by rw [List.length_append,hcl,List.length_take];simp;omega),List.length_append,hcl,List.length_take,Array.length_toList,Nat.min_eq_left (by omega),List.getElem?_drop]
  rw [show q+m+(i-(q+m))=i by omega]
  simp [Array.getD_eq_getD_getElem?]
theorem Fq (E:Eng P cf Q) {x y:Operand} {d:Nat} {dT sT e0:Nat} {ty:TypeId} {pos:String} {af:Array Edge} {p:Name} {off len:Nat} {zs xs:List D} (hd:d<cf.n) (hk:(P.ti dT).k=.slice e0) (hw:(P.ti e0).isW none=true)
  (hx:ev s x=.vw p off len) (hp:s.hp p=some (.arr none zs)) (hy:ev s y=.d (.sl none xs)) (h:E.run k ((s.set p (some (.arr none (iG zs xs off len)))).put d (.d (.int .i64 (Nat.min xs.length len:Nat))))) :
  E.stp { dst:=some d,op:=.call { callee:=.builtin .copy,args:=#[x,y],argTypes:=#[dT,sT] },type:=ty,pos:=pos,after:=af,guard:=none } s k .no:=by
 rw [aB]
 rw [E.run_eq] at h
 intro B hB ds β a w hds hs Q'
 obtain ⟨hg,hwd,_⟩:=bd hw
 have hu:=aN hk
 have hsz:(P.info? e0).map (·.size)=some 1:=by
  obtain ⟨i,_,hi,_,_,hsz,_⟩:=bV hg
  rw [hi]
  simp only [Option.map_some,Option.some.injEq]
  rw [← hsz,← hwd];rfl
 have hvx:=hs.ev x
 rw [hx] at hvx
 have hvy:=(hs.ev y)
 rw [hy] at hvy
 obtain ⟨ay,capy,hay,_,hcy⟩:=hvy.toD.sM
 generalize hax:a.eval x=vx at hvx
 cases hvx with
 | vw _ _ _ _ hn h1' hx' =>
 obtain ⟨hle,a0,cap,rfl,hx''⟩:=hx' _ _ _ hp
 have hexec:∀ v w',(Builtin.copy_ #[dT,sT] ty #[.slice a0 len cap,.slice ay xs.length capy]).run P w=.ok v w'→(execOp a.eval { dst:=some d,op:=.call { callee:=.builtin .copy,args:=#[x,y],argTypes:=#[dT,sT] },type:=ty,pos:=pos,after:=af,guard:=none }).run P w=.ok (.value v) w':=by
  intro v w' hr
  simp [execOp,resolve,invoke,builtin,hax,hay,hr,Result.andThen]
 by_cases hn0:Nat.min xs.length len=0
 ·have hr:=run_copy_none (P:=P) w dT sT ty e0 a0 ay len cap xs.length capy hu hsz hn0
  have hzs:iG zs xs off len=zs:=by simp [iG,hn0]
  have hself:s.set p (some (.arr none (iG zs xs off len)))=s:=by
   rw [hzs]
   cases s
   simp only [St.set,St.mk.injEq,true_and,and_true]
   funext q
   by_cases e:q=p
   ·subst e;simp [av];exact hp.symm
   ·simp [av,e]
  rw [hself,hn0] at h
  exact ax (v:=goInt 0) (by simp) (hexec _ _ hr) (.inl rfl) ⟨hds,_,β,aG h,hs.put (by rw [hB.1];exact hd) (.d _ _ (.int _ _))⟩
 ·have hne:xs≠[]:=by rintro rfl;exact hn0 (Nat.min_eq_left (Nat.zero_le _))
  obtain ⟨b,o,c,e,fz,rfl,hb,hbn,hzz,hok,hrep⟩:=hcy hne
  have hle2:Nat.min xs.length len≤len:=Nat.min_le_right _ _
  have hle3:Nat.min xs.length len≤xs.length:=Nat.min_le_left _ _
  rcases hx'' with ⟨hl0,_⟩ | ⟨k0,hk0,rfl,hcap,hkz⟩
  ·omega
  rcases (hs.objs p _ hp).2 with ⟨hq,_⟩ | ⟨k1,c1,e1,hk1,hc1,hz1,hl1,hw1,hcs1⟩
  ·rw [hk0] at hq;cases hq
  rw [hk0] at hk1;cases hk1
  simp only [wd,Nat.mul_one] at hzz hkz hl1
  generalize hm:Nat.min xs.length len=m at *
  have hcl:(c.extract o (o+m)).toList.length=m:=by simp;omega
  have hget:∀ j,j<m→(c.extract o (o+m)).toList[j]?=some (c.getD (o+j) undef):=fun j hj=>by
   have h2:o+j<c.size:=by omega
   rw [Array.getElem?_toList,Array.getElem?_extract,if_pos (by omega)]
   simp [Array.getD_eq_getD_getElem?,h2]
  have hel:∀ j,j<m→∃ x,xs[j]?=some x∧x.scal=true∧Rep w.heap (s.own B.A β) (c.getD (o+j) undef) x:=fun j hj=>by
   have h2:j<xs.length:=by omega
   refine ⟨xs[j],by simp [h2],hok _ (List.getElem_mem h2),?_⟩
   have h3:(xs[j]).scal=true:=hok _ (List.getElem_mem h2)
   have:=hrep j xs[j] 0 xs[j] (by simp [h2]) (by cases hq:xs[j]<;>rw [hq] at h3<;>simp [D.scal] at h3<;>rfl)
   simpa [wd] using this
  have hr:=run_copy_row (P:=P) w dT sT ty e0 k0.b (k0.o+off*wd none) len cap ⟨b,o,none⟩ xs.length capy c1 e1 (c.extract o (o+m)).toList hu hsz hc1 (by rw [hcl,← hm]) (fun j v hv=>by
   have hj:j<m:=by have:=(List.getElem?_eq_some_iff.1 hv).1;rw [hcl] at this;exact this
   rw [hget j hj] at hv
   have h2:o+j<c.size:=by omega
   rw [aY]
   simp [World.cell?,hb,h2,Array.getD_eq_getD_getElem?] at hv ⊢
   exact hv) (by rw [hcl];simp only [wd,Nat.mul_one];omega) (fun v hv=>by
   obtain ⟨j,hj⟩:=List.mem_iff_getElem?.1 hv
   have hj':j<m:=by have:=(List.getElem?_eq_some_iff.1 hj).1;rw [hcl] at this;exact this
   rw [hget j hj'] at hj
   obtain ⟨x,_,hx1,hx2⟩:=hel j hj'
   cases hj
   exact hx2.lu hx1)
  rw [hcl] at hr
  obtain ⟨hsim,_⟩:=hs.modify (p:=p) (ob':=.arr none (iG zs xs off len)) hp ⟨⟨rfl,rfl⟩,by rw [qu hle];exact Nat.le_refl _⟩ (w':=w.setRow k0.b (List.take (k0.o+off*wd none) c1.toList++(c.extract o (o+m)).toList++List.drop (k0.o+off*wd none+m) c1.toList).toArray) rfl (by simp) (fun b hb=>setRow_other w k0.b b _ (hb k0 hk0)) (fun _ hrr=>.inr ⟨k0,_,e1,hk0,setRow_heap w k0.b c1 _ e1 (0,0) hc1,(by simp only [List.size_toArray,List.length_append,hcl,List.length_take,List.length_drop,Array.length_toList,wd,Nat.mul_one];omega),(by rw [qu hle];simpa [wd] using hl1),(fun x hx=>by
   unfold iG at hx
   rcases List.mem_append.1 hx with hx | hx
   ·exact hw1 _ (List.mem_of_mem_take hx)
   rcases List.mem_append.1 hx with hx | hx
   ·exact hok _ (List.mem_of_mem_take hx)
   ·exact hw1 _ (List.mem_of_mem_drop hx)),fun i x j d hi hj=>by
   have hsx:x.scal=true:=by
    unfold iG at hi
    have hx:=List.mem_of_getElem? hi
    rcases List.mem_append.1 hx with hx | hx
    ·exact hw1 _ (List.mem_of_mem_take hx)
    rcases List.mem_append.1 hx with hx | hx
    ·exact hok _ (List.mem_of_mem_take hx)
    ·exact hw1 _ (List.mem_of_mem_drop hx)
   have hxy:j=0∧d=x:=by
    cases x<;>simp [D.scal] at hsx<;>(cases j<;>simp [D.cells] at hj<;>simp [hj])
   obtain ⟨rfl,rfl⟩:=hxy
   have hwd1:off*wd none=off:=by simp [wd]
   rw [show k0.o+i*wd none+0=k0.o+i by simp [wd],BW (by omega) (by omega)]
   rw [yd hm hle] at hi
   have old:∀ x,zs[i]?=some x→x.scal=true→Rep _ _ (c1.getD (k0.o+i) undef) x:=fun x hz hsx=>by
    have:=hcs1 i x 0 x hz (by cases x<;>simp [D.scal] at hsx<;>rfl)
    rw [show k0.o+i*wd none+0=k0.o+i by simp [wd]] at this
    exact hrr _ _ this
   by_cases g1:i<off
   ·rw [if_pos g1] at hi
    rw [if_pos (by omega)]
    exact old _ hi hsx
   rw [if_neg g1] at hi
   rw [if_neg (by omega)]
   by_cases g2:i<off+m
   ·rw [if_pos g2] at hi
    rw [if_pos (by omega)]
    obtain ⟨y,hy1,_,hy2⟩:=hel (i-off) (by omega)
    rw [hi] at hy1
    cases hy1
    rw [show k0.o+i-(k0.o+off*wd none)=i-off by omega]
    exact hrr _ _ hy2
   ·rw [if_neg g2] at hi
    rw [if_neg (by omega)]
    exact old _ hi hsx⟩)
  exact ax (v:=goInt m) (by simp) (hexec _ _ hr) (.inl rfl) ⟨hds,_,β,aG h,hsim.put (by rw [hB.1];exact hd) (.d _ _ (.int _ _))⟩
end
section
variable {P:Program} {cf:Cf} {Q:Exit→St→Prop} {s:St} {k:List It}
theorem Cd (E:Eng P cf Q) {o:Oper} (t:Nat) (wf:W) (ht:s.fr t=.d .nils) (h:E.stp o (s.put t (.d (.sl wf []))) k .no):E.stp o s k .no:=by
 rw [aB] at h ⊢
 intro B hB ds β a w hds hs Q'
 refine h B hB ds β a w hds (hs.setv ?_) Q'
 have hv:=hs.slots t
 rw [ht] at hv
 rw [hv.nils]
 exact .d _ _ (.sl0 _ _ _)
end
theorem HCall.sub {P:Program} {G:List (Nat × Obj)} {f:FuncId} {args args':List AV} {hp:List (Name × Ob)} {u:List Nat} {Q:AV→List (Name × Ob)→Prop} (hl:args.length=args'.length)
  (hr:∀ (i:Nat) x y,args[i]?=some x→args'[i]?=some y→x=y∨∃ wf,x=.d .nils∧y=.d (.sl wf [])) (h:HCall P G f args' hp u Q):HCall P G f args hp u Q:=by
 refine ⟨h.1,fun B β vs w h1 h2 h3 h4 h5=>h.2 B β vs w (h1.trans hl) h2 h3 h4 { tms:=h5.tms,io:=h5.io,size:=h5.size,frame:=h5.frame,slots:=fun t=>?_,objs:=h5.objs,blocks:=h5.blocks,inj:=h5.inj,us:=h5.us,stay:=h5.stay }⟩
 have hv:=h5.slots t
 rw [dH,aS,if_pos (Nat.zero_le _),Nat.sub_zero] at hv ⊢
 show VR w.heap ((mk (az 0 args) hp u).own B.A β) u _ β _ _
 cases hx:args[t]? with
 | none =>
   rw [List.getElem?_eq_none (by rw [← hl];exact List.getElem?_eq_none_iff.1 hx)]
   exact .un _
 | some x =>
   have hlt:=(List.getElem?_eq_some_iff.1 hx).1
   have hy:args'[t]?=some args'[t]:=List.getElem?_eq_getElem (by omega)
   rw [hx] at hv
   rw [hy]
   rcases hr t _ _ hx hy with e | ⟨wf,e1,e2⟩
   ·rw [← e];exact hv
   ·rw [e1] at hv
    rw [e2]
    have:=VR.nils hv
    rw [this]
    exact .d _ _ (.sl0 _ _ _)
theorem HP.sub {P:Program} {G:List (Nat × Obj)} {f:FuncId} {args args':List D} {Q:AV→Prop} (hl:args.length=args'.length)
  (hr:∀ (i:Nat) x y,args[i]?=some x→args'[i]?=some y→x=y∨∃ wf,x=.nils∧y=.sl wf []) (h:HP P G f args' Q):HP P G f args Q:=by
 refine HCall.sub (by simpa using hl) (fun i x y hx hy=>?_) h
 rw [List.getElem?_map] at hx hy
 obtain ⟨a,ha,rfl⟩:=Option.map_eq_some_iff.1 hx
 obtain ⟨b,hb,rfl⟩:=Option.map_eq_some_iff.1 hy
 rcases hr i a b ha hb with e | ⟨wf,e1,e2⟩
 ·exact .inl (by rw [e])
 ·exact .inr ⟨wf,by rw [e1],by rw [e2]⟩
theorem Cs (tf:Nat→TI) (dd:Option Nat) (s:St) (x y t):opE tf (.call { callee:=.builtin .min,args:=#[x,y],argTypes:=t }) dd s=(opV tf (.call { callee:=.builtin .min,args:=#[x,y],argTypes:=t }) s).bind fun x=>.ok (x,ef0):=dQ rfl
theorem CL (tf:Nat→TI) (dd:Option Nat) (s:St) (x y t):opE tf (.call { callee:=.builtin .max,args:=#[x,y],argTypes:=t }) dd s=(opV tf (.call { callee:=.builtin .max,args:=#[x,y],argTypes:=t }) s).bind fun x=>.ok (x,ef0):=dQ rfl
attribute [go_sem] Cs CL
end Go.Ab

namespace Go.Ab
section
variable {P:Program} {cf:Cf} {Q:Exit→St→Prop} {s:St} {k:List It} {B:Base} {β:Name→Option Blk} {tm:Array Value} {w:World}
theorem Sim.FD (h:Sim B β s tm w) {p:Name} {ob:Ob} {k:Blk} (hp:s.hp p=some ob) (hk:β p=some k) {w':World} (hio:wio w'=wio w) (hsz:w'.heap.size=w.heap.size) (hw:∀ b,b≠k.b→w'.heap[b]?=w.heap[b]?):Sim B β (s.set p none) tm w':=by
 have hsub:∀ q o,(s.set p none).hp q=some o→q≠p∧s.hp q=some o:=by
  intro q o ho
  by_cases e:q=p
  ·subst e;simp [St.set,av] at ho
  ·exact ⟨e,by simpa [St.set,av,e] using ho⟩
 have hne:∀ q,(s.set p none).hp q≠none→s.hp q≠none:=by
  intro q hq e
  cases ho:(s.set p none).hp q with
  | none=>exact hq ho
  | some o=>rw [(hsub q o ho).2] at e;cases e
 have hr:∀ v d,Rep w.heap (s.own B.A β) v d→Rep w'.heap ((s.set p none).own B.A β) v d:=fun v d hd=>hd.mono (fun b hb _=>hw b fun e=>hb (.inr ⟨p,k,by rw [hp];simp,hk,e.symm⟩)) (by
  rintro b _ (hA | ⟨q,k,hq,hk,e⟩)
  ·exact .inl hA
  ·exact .inr ⟨q,k,hne q hq,hk,e⟩)
 have hst:∀ q,nm s.used q→Stays s.hp (s.set p none).hp β β q:=fun q _ o' ho'=>⟨o',(hsub q o' ho').2,Ob.bB _,rfl⟩
 refine { tms:=h.tms,io:=hio.trans h.io,size:=by rw [hsz];exact h.size,frame:=fun b hb hn=>?_,slots:=fun i=>(h.slots i).mono hr (fun _ h=>h) hst,objs:=?_,blocks:=fun q k hq hk=>(by rw [hsz];exact h.blocks q k (hne q hq) hk), inj:=fun q q' k l hq hq' hk hl e=>h.inj q q' k l (hne q hq) (hne q' hq') hk hl e,us:=h.us,stay:=h.stay }
 ·rw [hw b ?_]
  ·exact h.frame b hb hn
  ·intro e
   obtain ⟨_,_,h3⟩:=h.blocks p k (by rw [hp];simp) hk
   rcases h3 with h3 | h3
   ·omega
   ·exact hn (e ▸ h3)
 ·intro q o ho
  obtain ⟨hqp,ho'⟩:=hsub q o ho
  obtain ⟨h1,h2⟩:=h.objs q o ho'
  exact ⟨h1,h2.mono hr (fun _ h=>h) hst rfl fun l hl=>hw l.b fun e=>hqp (h.inj q p l k (by rw [ho'];simp) (by rw [hp];simp) hl hk e)⟩
theorem BV (E:Eng P cf Q) {o:Oper} (p:Name) (j n:Nat) (ty tg:Option Nat) (w:W) (cs:List AV) (hp:s.hp p=some (.boxT ty cs)) (hj:cs[j]?=some (.d .nils)) (hn:n ∉ s.used) (h:E.stp o ((s.add n (.arrT tg w [])).set p (some (.boxT ty (cs.set j (.vw [n] 0 0))))) k .no):E.stp o s k .no:=by
 rw [aB] at h ⊢
 intro B hB ds β a w' hds hs Q'
 have h1:=hs.dL hn tg w
 have hpn:p≠[n]:=e6 (hs.objs p _ hp).1 hn
 refine h B hB ds (av β [n] none) a w' hds (h1.rebox (cs:=cs) (by simpa [St.add,av,hpn] using hp) (by simp) fun v i x x' hx hx' hv=>?_) Q'
 by_cases e:j=i
 ·subst e
  rw [hj] at hx
  cases hx
  rw [List.getElem?_set_self (List.getElem?_eq_some_iff.1 hj).1] at hx'
  cases hx'
  have:=hv.toD
  cases this
  exact .vw _ _ _ _ ⟨n,[],rfl,List.mem_cons_self⟩ rfl fun ty' w' xs hx=>by
   have:some (Ob.arrT tg w [])=some (.arrT ty' w' xs):=by rw [← hx];simp [St.add,av]
   cases this
   exact ⟨Nat.le_refl _,none,0,rfl,.inl ⟨rfl,rfl⟩⟩
 ·rw [List.getElem?_set_ne e,hx] at hx'
  cases hx'
  exact hv
theorem om (E:Eng P cf Q) {d t e:Nat} {x y:Operand} {ty:TypeId} {pos:String} {af:Array Edge} (tg:Option Nat) (p q:Name) (xs ys:List D) (hk:(P.ti t).k=.slice e) (hz:(P.ti e).zOk=true) (hw:(P.ti e).isW (P.ti e).w=true) (hew:(P.ti e).w=none)
  (htg:tg.getD e=e) (hd:d<cf.n∧d ∉ s.used) (hx:ev s x=.vw p 0 xs.length) (hp:s.hp p=some (.arrT tg none xs)) (hy:ev s y=.vw q 0 ys.length) (hq:s.hp q=some (.arr none ys)) (hl:(xs.length+ys.length)*(P.ti e).by1≤140737488355328)
  (h:E.run k (((s.set p none).add d (.arrT tg none (xs++ys))).put d (.vw [d] 0 (xs.length+ys.length)))) :
  E.stp { dst:=some d,op:=.call { callee:=.builtin .append,args:=#[x,y],argTypes:=#[t,t] },type:=ty,pos:=pos,after:=af,guard:=none } s k .no:=by
 rw [aB]
 rw [E.run_eq] at h
 intro B hB ds β a w hds hs Q'
 have hvx:=hs.ev x
 have hvy:=hs.ev y
 rw [hx] at hvx
 rw [hy] at hvy
 have key:=iA (P:=P) (t:=t) hs hvx hvy hk hz hw ty (some d) tg htg
 have e1:ib tg B.n (P.ti e) (some d) s (.vw p 0 xs.length) (.vw q 0 ys.length)=.need ((xs.length+ys.length)*(P.ti e).by1≤140737488355328) (.ok (((s.set p none).add d (.arrT tg none (xs++ys))).put d (.vw [d] 0 (xs.length+ys.length)))):=by
  unfold ib
  have hlo:aX (P.ti e).w s.hp (.vw q 0 ys.length)=some ys:=by simp [aX,hq,hew]
  rw [hlo]
  simp only [hp]
  rw [if_pos ⟨trivial,hew.symm⟩]
  have hd2:d<B.n∧d ∉ (s.set p none).used:=⟨by rw [hB.1];exact hd.1,hd.2⟩
  unfold gq
  simp only
  rw [if_pos hd2]
  simp
 rw [e1] at key
 obtain ⟨dd,v,w',β',hdd,hrun,hsim⟩:=key hl
 cases hdd
 exact ax (v:=v) (by simp) (by simp [execOp,resolve,invoke,builtin,hrun]) (.inl rfl) ⟨hds,_,β',aG h,hsim⟩
end
section
variable {P:Program} {cf:Cf} {Q:Exit→St→Prop} {s:St} {k:List It}
theorem dX {o:Oper} {d:Nat} {x:AV} (hd:o.dst=some d) (hdn:d<cf.n) (hnd:∀ c,o.op≠.defer c)
  (hrun:∀ (B:Base) (β:Name→Option Blk) (a:Act) (w:World),Sim B β s a.tmps w→∃ v,(execOp a.eval o).run P w=.ok (.value v) w∧VR w.heap (s.own B.A β) s.used s.hp β v x) (h:run P cf k Q (s.put d x)):AOk P cf o s k Q:=by
 intro B hB ds β a w hds hs Q'
 obtain ⟨v,h1,h2⟩:=hrun B β a w hs
 refine ax (v:=v) hnd h1 (.inl rfl) ?_
 rw [hd]
 exact ⟨hds,_,β,aG h,hs.put (by rw [hB.1];exact hdn) h2⟩
theorem jT (E:Eng P cf Q) {o:Oper} {d:Nat} {x:AV} (hd:o.dst=some d) (hdn:d<cf.n) (hnd:∀ c,o.op≠.defer c)
  (hrun:∀ (B:Base) (β:Name→Option Blk) (a:Act) (w:World),Sim B β s a.tmps w→∃ v,(execOp a.eval o).run P w=.ok (.value v) w∧VR w.heap (s.own B.A β) s.used s.hp β v x) (h:E.run k (s.put d x)):E.stp o s k .no:=by
 rw [aB]
 rw [E.run_eq] at h
 exact dX hd hdn hnd hrun h
theorem oP {t e:Nat} (h:(P.ti t).k=.ptr e):P.underlying t=some (.pointer e):=by
 obtain ⟨i,d,_,hd,hk,_⟩:=bV (P:=P) (t:=t) (by rw [h];rfl)
 rw [h] at hk
 cases d<;>simp [tk] at hk
 rw [hd,hk]
def x8 (hp:Name→Option Ob):AV→Option Bool
 | .d .nilp=>some true
 | .d (.ptr _)=>some false
 | .bx p _=>match hp p with
   | some (.boxT _ _)=>some false
   | _=>none
 | _=>none
theorem tx {H:Array Obj} {own:Nat→Prop} {used:List Nat} {hp:Name→Option Ob} {β:Name→Option Blk} {v:Value} {x:AV} {b:Bool} (h:VR H own used hp β v x) (hn:x8 hp x=some b):∃ ad,v=.pointer ad∧ad.isNone=b:=by
 cases x with
 | d z =>
   cases z<;>simp [x8] at hn
   ·subst hn
    have:=h.toD
    cases this;exact ⟨none,rfl,rfl⟩
   ·subst hn
    have:=h.toD
    cases this;exact ⟨_,rfl,rfl⟩
 | bx p c =>
   simp only [x8] at hn
   split at hn
   ·rename_i ty cs ho
    cases hn
    cases h with
    | bx _ _ _ _ _ hx =>
      obtain ⟨k,_,_,rfl⟩:=hx _ _ ho
      exact ⟨_,rfl,rfl⟩
   ·cases hn
 | _=>simp [x8] at hn
theorem jP (E:Eng P cf Q) {t e:TypeId} {x:Operand} {yt:TypeId} {dst:Nat} {ty:TypeId} {ps:String} {af:Array Edge} (b:Bool) (hk:(P.ti t).k=.ptr e) (hd:dst<cf.n) (hx:x8 s.hp (ev s x)=some b) (h:E.run k (s.put dst (.d (.bool b)))) :
  E.stp { dst:=some dst,op:=.binOp .eql t x (.const (.pointer none)) yt,type:=ty,pos:=ps,after:=af,guard:=none } s k .no:=by
 refine jT E rfl hd (by simp) (fun B β a w hs=>⟨.bool b,?_,.d _ _ (.bool _)⟩) h
 obtain ⟨ad,hv,rfl⟩:=tx (hs.ev x) hx
 have hu:=oP hk
 refine gU ?_ ?_
 ·rw [hv];rfl
 ·rw [hv]
  exact run_eql_pointer_nil w t ad (by rw [hu];simp [Program.pointee,hu])
theorem run_neq_ptr_same {tp te:TypeId} {j:TypeInfo} (w:World) (a:Addr) (hp:P.underlying tp=some (.pointer te)) (hte:P.info? te=some j):(binOp .neq tp (.pointer (some a)) (.pointer (some a))).run P w=.ok (.bool false) w:=by
 have h:∀ d:Nat,(Op.equalIn (d+1) tp (.pointer (some a)) (.pointer (some a))).run P w=.ok true w:=fun d=>by
  simp [Op.equalIn,run_underlying hp,sizeOf,typeInfo,hte,run_sameAddr_same]
 simp only [binOp]
 simp [Op.equal,Op.maxDepth,h 9999]
theorem vv (E:Eng P cf Q) {t e:TypeId} {x y:Operand} {yt:TypeId} {dst:Nat} {ty:TypeId} {ps:String} {af:Array Edge} (p:Name) (c:Nat) (hk:(P.ti t).k=.ptr e) (he:(P.info? e).isSome=true) (hd:dst<cf.n) (hx:ev s x=.bx p c) (hy:ev s y=.bx p c) (hp:(match s.hp p with | some (.boxT _ _)=>true | _=>false)=true)
  (h:E.run k (s.put dst (.d (.bool false)))):E.stp { dst:=some dst,op:=.binOp .neq t x y yt,type:=ty,pos:=ps,after:=af,guard:=none } s k .no:=by
 refine jT E rfl hd (by simp) (fun B β a w hs=>⟨.bool false,?_,.d _ _ (.bool _)⟩) h
 split at hp
 rotate_left
 ·cases hp
 rename_i ty' cs ho
 obtain ⟨k,hkk⟩:∃ k:Blk,∀ v,VR w.heap (s.own B.A β) s.used s.hp β v (.bx p c)→v=.pointer (some ⟨k.b,c,none⟩):=by
  obtain ⟨k,_,_,hk,_⟩:=(hs.objs p _ ho).2
  refine ⟨k,fun v hv=>?_⟩
  cases hv with
  | bx _ _ _ _ _ hx =>
    obtain ⟨k',hk',_,rfl⟩:=hx _ _ ho
    rw [hk] at hk';cases hk';rfl
 have h1:=hkk _ (hx ▸ hs.ev x)
 have h2:=hkk _ (hy ▸ hs.ev y)
 obtain ⟨j,hj⟩:=Option.isSome_iff_exists.1 he
 refine gU ?_ ?_
 ·rw [h1,h2];rfl
 ·rw [h1,h2]
  exact run_neq_ptr_same w _ (oP hk) hj
theorem zJ {B:Base} {β:Name→Option Blk} {tm:Array Value} {w:World} (hs:Sim B β s tm w) {p:Name} {t:Nat} {cs:List AV} (hp:s.hp p=some (.boxT (some t) cs)):∃ k:Blk,(∀ v c,VR w.heap (s.own B.A β) s.used s.hp β v (.bx p c)→v=.pointer (some ⟨k.b,c,none⟩))∧w.shape? k.b=some (t,cs.length):=by
 obtain ⟨k,c,e,hk,_,hc,_,hl,_⟩:=(hs.objs p _ hp).2
 refine ⟨k,fun v c hv=>?_,by simp [World.shape?,hc,hl]⟩
 cases hv with
 | bx _ _ _ _ _ hx =>
   obtain ⟨k',hk',_,rfl⟩:=hx _ _ hp
   rw [hk] at hk';cases hk';rfl
theorem Dx (E:Eng P cf Q) {a' b' e:TypeId} {x:Operand} {dst:Nat} {ty:TypeId} {ps:String} {af:Array Edge} (p:Name) (c t:Nat) (cs:List AV) (hk:(P.ti a').k=.ptr e) (hu:P.underlying b'=some .unsafePointer) (he:(P.info? e).any (fun j=>j.size != 0)=true) (hd:dst<cf.n) (hx:ev s x=.bx p c)
  (hp:s.hp p=some (.boxT (some t) cs)) (hc:c<cs.length) (h:E.run k (s.put dst (.bx p c))):E.stp { dst:=some dst,op:=.convert a' b' x,type:=ty,pos:=ps,after:=af,guard:=none } s k .no:=by
 refine jT E (x:=.bx p c) rfl hd (by simp) (fun B β a w hs=>⟨a.eval x,?_,hx ▸ hs.ev x⟩) h
 obtain ⟨k,hkk,hsh⟩:=zJ hs hp
 have h1:=hkk _ _ (hx ▸ hs.ev x)
 rw [Option.any_eq_true] at he
 obtain ⟨j,hj,hj0⟩:=he
 have:=Lib.run_to_unsafe (P:=P) w (src:=a') (dst:=b') (⟨k.b,c,none⟩:Addr) (oP hk) hu hj (by simpa using hj0) hsh hc
 simp [execOp,h1,this]
theorem DA (E:Eng P cf Q) {a' b' e:TypeId} {x:Operand} {dst:Nat} {ty:TypeId} {ps:String} {af:Array Edge} (p:Name) (c t:Nat) (cs:List AV) (hk:(P.ti b').k=.ptr e) (hu:P.underlying a'=some .unsafePointer) (he:(P.info? e).isSome=true) (hd:dst<cf.n) (hx:ev s x=.bx p c)
  (hp:s.hp p=some (.boxT (some t) cs)) (m:Nat) (hm:cs.length=m) (hl:liesAt P P.depth t (m / P.cellsOf t) c e 1=true) (h:E.run k (s.put dst (.bx p c))):E.stp { dst:=some dst,op:=.convert a' b' x,type:=ty,pos:=ps,after:=af,guard:=none } s k .no:=by
 refine jT E (x:=.bx p c) rfl hd (by simp) (fun B β a w hs=>⟨a.eval x,?_,hx ▸ hs.ev x⟩) h
 obtain ⟨k,hkk,hsh⟩:=zJ hs hp
 have h1:=hkk _ _ (hx ▸ hs.ev x)
 obtain ⟨j,hj⟩:=Option.isSome_iff_exists.1 he
 rw [hm] at hsh
 have:=Lib.run_from_unsafe (P:=P) w (src:=a') (dst:=b') (⟨k.b,c,none⟩:Addr) hu (oP hk) hj hsh hl
 simp [execOp,h1,this]
theorem tY (E:Eng P cf Q) {fv x:Operand} {at':Array TypeId} {dst:Nat} {ty:TypeId} {ps:String} {af:Array Edge} (f:FuncId) (y:AV) (hr:∀ v w,(callFunc f #[v]).run P w=.ok (.value v) w) (hd:dst<cf.n) (hf:ev s fv=.clo f []) (hx:ev s x=y) (h:E.run k (s.put dst y)) :
  E.stp { dst:=some dst,op:=.call { callee:=.value fv,args:=#[x],argTypes:=at' },type:=ty,pos:=ps,after:=af,guard:=none } s k .no:=by
 refine jT E (x:=y) rfl hd (by simp) (fun B β a w hs=>⟨a.eval x,?_,hx ▸ hs.ev x⟩) h
 have hf':=hs.ev fv
 rw [hf] at hf'
 generalize hfv:a.eval fv=fval at hf'
 cases hf' with
 | clo _ cvs _ hcs hcv =>
 have hc0:cvs=#[]:=Array.eq_empty_of_size_eq_zero (by simpa using hcs)
 subst hc0
 have e:(execOp a.eval { dst:=some dst,op:=.call { callee:=.value fv,args:=#[x],argTypes:=at' },type:=ty,pos:=ps,after:=af,guard:=none }:Sem Next)=callFunc f (#[]++#[x].map a.eval++#[]):=by
  show (do let d ← (Deferred.ofValue (a.eval fv) (#[x].map a.eval));invoke d.target d.args:Sem Next)=_
  rw [hfv];rfl
 rw [e]
 simpa using hr (a.eval x) w
theorem Ba {fv:Operand} {args:Array Operand} {at':Array TypeId} {dst:Nat} {ty:TypeId} {ps:String} {af:Array Edge} {g:Option (Nat × Bool)} (f:FuncId) (ds:List D) (vs:List Value) (r:D) (v:Value) (hv:vals ds=some vs) (hrv:r.val=some v) (hr:∀ w,(callFunc f vs.toArray).run P w=.ok (.value v) w) (hd:dst<cf.n) (hf:ev s fv=.clo f [])
  (hx:args.toList.map (ev s)=ds.map .d) (h:run P cf k Q (s.put dst (.d r))):AOk P cf { dst:=some dst,op:=.call { callee:=.value fv,args:=args,argTypes:=at' },type:=ty,pos:=ps,after:=af,guard:=g } s k Q:=by
 refine dX (x:=.d r) rfl hd (by simp) (fun B β a w hs=>⟨v,?_,.d _ _ (D.u7 hrv)⟩) h
 have hf':=hs.ev fv
 rw [hf] at hf'
 generalize hfv:a.eval fv=fval at hf'
 cases hf' with
 | clo _ cvs _ hcs hcv =>
 have hc0:cvs=#[]:=Array.eq_empty_of_size_eq_zero (by simpa using hcs)
 subst hc0
 have e:(execOp a.eval { dst:=some dst,op:=.call { callee:=.value fv,args:=args,argTypes:=at' },type:=ty,pos:=ps,after:=af,guard:=g }:Sem Next)=callFunc f (#[]++args.map a.eval++#[]):=by
  show (do let d ← (Deferred.ofValue (a.eval fv) (args.map a.eval));invoke d.target d.args:Sem Next)=_
  rw [hfv];rfl
 have e2:#[]++args.map a.eval++#[]=vs.toArray:=by
  obtain ⟨g1,g2⟩:=lT hv
  have hsz:args.size=ds.length:=by have:=congrArg List.length hx;simpa using this
  apply Array.ext
  ·simp [hsz,g1]
  ·intro i hi hi'
   have hia:i<args.size:=by simpa using hi
   have hid:i<ds.length:=by omega
   have h1:(args.toList.map (ev s))[i]?=(ds.map AV.d)[i]?:=by rw [hx]
   simp only [List.getElem?_map,Array.getElem?_toList,Array.getElem?_eq_getElem hia,List.getElem?_eq_getElem hid,Option.map_some,Option.some.injEq] at h1
   have h2:=hs.ev args[i]
   rw [h1] at h2
   have h3:=h2.toD.val (g2 i _ (List.getElem?_eq_getElem hid) ▸ List.getElem?_eq_getElem (by omega:i<vs.length))
   simpa using h3
 rw [e,e2]
 exact hr w
theorem F1 (E:Eng P cf Q) {fv:Operand} {args:Array Operand} {at':Array TypeId} {dst:Nat} {ty:TypeId} {ps:String} {af:Array Edge} (f:FuncId) (ds:List D) (vs:List Value) (r:D) (v:Value) (hv:vals ds=some vs) (hrv:r.val=some v) (hr:∀ w,(callFunc f vs.toArray).run P w=.ok (.value v) w) (hd:dst<cf.n) (hf:ev s fv=.clo f [])
  (hx:args.toList.map (ev s)=ds.map .d) (h:E.run k (s.put dst (.d r))):E.stp { dst:=some dst,op:=.call { callee:=.value fv,args:=args,argTypes:=at' },type:=ty,pos:=ps,after:=af,guard:=none } s k .no:=by
 rw [aB]
 rw [E.run_eq] at h
 exact Ba f ds vs r v hv hrv hr hd hf hx h
end
end Go.Ab

namespace Go.Ab
theorem sK {P:Program} {e:TypeId} (hc:P.cellsOf e=1) (count o n:Nat) (hn:o+n≤count):liesAt P P.depth e count o e n=true:=by
 have hd:P.depth=(2*(P.types.size+Made.depth)+1)+1:=rfl
 rw [hd]
 simp only [liesAt,Bool.or_eq_true]
 left
 rw [hd]
 simp [rowAt,hc,hn,sameLayout,Nat.mod_one]
theorem gS {P:Program} (w:World) (pt it ty e:TypeId) (hp:P.underlying pt=some (.pointer e)) (hc:P.cellsOf e=1) (g o cells:Nat) (hsh:w.shape? g=some (e,cells)) (l:List UInt8) (h0:l≠[]) (hn:o+l.length≤cells) (h63:l.length≤9223372036854775807)
  (hcell:∀ j x,l[j]?=some x→w.cell? ((⟨g,o,none⟩:Addr).add j)=some (.int .u8 x.toNat)) :
  (Builtin.unsafeString_ #[pt,it] ty #[.pointer (some ⟨g,o,none⟩),.int .i64 l.length]).run P w=.ok (.string ⟨l.toArray⟩) (w.freeze ⟨g,o,none⟩ l.length):=by
 have hl:l.length≠0:=by simpa using h0
 have hlb:=Lib.run_loadBytes (P:=P) w l ⟨g,o,none⟩ .empty hcell
 have hlies:=sK (P:=P) hc (cells / P.cellsOf e) o l.length (by rw [hc];simpa using hn)
 have h63':¬ (9223372036854775807:Int)<(l.length:Int):=by omega
 obtain ⟨z1,z2,z3,hdef⟩:∃ z1 z2 z3,Builtin.unsafeString_ #[pt,it] ty #[.pointer (some ⟨g,o,none⟩),.int .i64 l.length] =
  (do
   let n ← asInt (.int .i64 l.length)
   if n<0 then runtimePanic (.error z1)
   if n > IntKind.i64.max then unsupported (.unsafePointer z2)
   if n=0 then pure (.string .empty)
   else if ← variablesAt ⟨g,o,none⟩ (← elemOf pt) n.toNat then do
    let s ← loadBytes ⟨g,o,none⟩ .empty n.toNat
    freeze ⟨g,o,none⟩ n.toNat
    pure (.string s)
   else unsupported (.unsafePointer z3)):=⟨_,_,_,rfl⟩
 rw [hdef]
 have hmax:IntKind.i64.max=9223372036854775807:=rfl
 have hneg:¬ (l.length:Int)<0:=by omega
 simp [asInt,asIntOf,hmax,h63',hneg,hl,variablesAt,hsh,elemOf,run_underlying hp,hlies,hlb]
def byD (c:UInt8):D:=.int .u8 (c.toNat:Nat)
section
variable {P:Program} {cf:Cf} {Q:Exit→St→Prop} {s:St} {k:List It}
theorem zI {d:Nat} {x:Operand} {at':Array TypeId} {ty:TypeId} {pos:String} {af:Array Edge} {g:Option (Nat × Bool)} (hd:d<cf.n) (hx:ev s x=.d .nils) (h:run P cf k Q (s.put d (.d .nilp))) :
  AOk P cf { dst:=some d,op:=.call { callee:=.builtin .unsafeSliceData,args:=#[x],argTypes:=at' },type:=ty,pos:=pos,after:=af,guard:=g } s k Q:=by
 refine dX rfl hd (by simp) (fun B β a w hs=>⟨.pointer none,?_,.d _ _ .nilp⟩) h
 have hv:=hs.ev x
 rw [hx] at hv
 have hv:=hv.nils
 simp [execOp,resolve,invoke,builtin,hv,Lib.run_unsafeSliceData_nil]
theorem Cq {d:Nat} {x:Operand} {at':Array TypeId} {ty:TypeId} {pos:String} {af:Array Edge} {g:Option (Nat × Bool)} (p:Name) (tg:Option Nat) (w0:W) (xs:List D) (l:Nat) (hd:d<cf.n) (hx:ev s x=.vw p 0 l) (hp:s.hp p=some (.arrT tg w0 xs)) (hl:0<l) (h:run P cf k Q (s.put d (.el p 0 0))) :
  AOk P cf { dst:=some d,op:=.call { callee:=.builtin .unsafeSliceData,args:=#[x],argTypes:=at' },type:=ty,pos:=pos,after:=af,guard:=g } s k Q:=by
 refine dX rfl hd (by simp) (fun B β a w hs=>?_) h
 have hv:=hs.ev x
 rw [hx] at hv
 generalize hax:a.eval x=vx at hv
 cases hv with
 | vw _ _ _ _ hn h1 hx' =>
   obtain ⟨hle,a0,cap,rfl,hc⟩:=hx' _ _ _ hp
   rcases hc with ⟨h0,_⟩ | ⟨k,hk,rfl,hcap,hz⟩
   ·omega
   ·refine ⟨.pointer (some ⟨k.b,k.o+0*wd w0,none⟩),?_,.el _ _ _ _ hn rfl fun ty' w' xs' hp'=>?_⟩
    ·obtain ⟨oo,hoo⟩:∃ oo,k.o+0*wd w0=oo:=⟨_,rfl⟩
     rw [hoo] at hax ⊢
     have:=Lib.run_unsafeSliceData_row (P:=P) w at' ty ⟨k.b,oo,none⟩ l cap (by omega)
     simp [execOp,resolve,invoke,builtin,hax,this]
    ·rw [hp] at hp';cases hp'
     exact ⟨by omega,k,hk,rfl⟩
theorem Ch (E:Eng P cf Q) {d pt it:Nat} {x y:Operand} {ty:TypeId} {pos:String} {af:Array Edge} (hd:d<cf.n) (hx:ev s x=.d .nilp) (hy:ev s y=.d (.int .i64 0)) (h:E.run k (s.put d (.d (.str [])))) :
  E.stp { dst:=some d,op:=.call { callee:=.builtin .unsafeString,args:=#[x,y],argTypes:=#[pt,it] },type:=ty,pos:=pos,after:=af,guard:=none } s k .no:=by
 rw [aB]
 rw [E.run_eq] at h
 refine dX rfl hd (by simp) (fun B β a w hs=>⟨.string .empty,?_,.d _ _ (.str [])⟩) h
 have hv:=hs.ev x
 rw [hx] at hv
 have hv:=hv.toD
 have hw:=hs.ev y
 rw [hy] at hw
 have hw:=hw.int
 generalize hax:a.eval x=vx at hv
 cases hv
 have:=Lib.run_unsafeString_none (P:=P) w pt it ty none
 simp [execOp,resolve,invoke,builtin,hax,hw,this]
theorem Fc (E:Eng P cf Q) {d pt it e:Nat} {x y:Operand} {ty:TypeId} {pos:String} {af:Array Edge} (p:Name) (l:List UInt8) (hd:d<cf.n) (hpt:P.underlying pt=some (.pointer e)) (hc:P.cellsOf e=1) (h0:l≠[]) (h63:l.length≤9223372036854775807)
  (hx:ev s x=.el p 0 0) (hp:s.hp p=some (.arrT (some e) none (l.map byD))) (hy:ev s y=.d (.int .i64 l.length)) (h:E.run k ((s.set p none).put d (.d (.str l)))) :
  E.stp { dst:=some d,op:=.call { callee:=.builtin .unsafeString,args:=#[x,y],argTypes:=#[pt,it] },type:=ty,pos:=pos,after:=af,guard:=none } s k .no:=by
 rw [aB]
 rw [E.run_eq] at h
 intro B hB ds β a w hds hs Q'
 have hv:=hs.ev x
 rw [hx] at hv
 have hw:=hs.ev y
 rw [hy] at hw
 have hw:=hw.int
 generalize hax:a.eval x=vx at hv
 cases hv with
 | el _ _ _ _ hn h1 hx' =>
 obtain ⟨hlt,k0,hk,rfl⟩:=hx' _ _ _ hp
 rcases (hs.objs p _ hp).2 with ⟨_,h0'⟩ | ⟨k1,c,e',hk1,hh,hz,hl,hok,hrep⟩
 ·simp at h0';exact absurd h0' h0
 rw [hk] at hk1
 cases hk1
 simp only [wd,Nat.mul_one,List.length_map] at hl
 have hsh:w.shape? k0.b=some (e,c.size):=by simp [World.shape?,hh]
 have hcell:∀ j x,l[j]?=some x→w.cell? ((⟨k0.b,k0.o+0*wd none+0,none⟩:Addr).add j)=some (.int .u8 x.toNat):=fun j x hj=>by
  have hjl:=(List.getElem?_eq_some_iff.1 hj).1
  have h2:=hrep j (byD x) 0 (byD x) (by simp [hj]) rfl
  have h3:k0.o+j<c.size:=by omega
  rw [show k0.o+j*wd none+0=k0.o+j by simp [wd]] at h2
  simp only [Array.getD_eq_getD_getElem?,Array.getElem?_eq_getElem h3,Option.getD_some] at h2
  have h4:c[k0.o+j]=.int .u8 x.toNat:=by
   generalize c[k0.o+j]=v at h2
   cases h2;rfl
  rw [aY]
  simp [World.cell?,hh,wd,h3,h4]
 have hrun:=gS (P:=P) w pt it ty e hpt hc k0.b (k0.o+0*wd none+0) c.size hsh l h0 (by simp [wd];omega) h63 hcell
 obtain ⟨oo,hoo⟩:∃ oo,k0.o+0*wd none+0=oo:=⟨_,rfl⟩
 rw [hoo] at hrun hax
 refine ax (v:=.string ⟨l.toArray⟩) (w':=w.freeze ⟨k0.b,oo,none⟩ l.length) (by simp) (by simp [execOp,resolve,invoke,builtin,hax,hw,hrun]) (.inl rfl) ⟨hds,_,β,aG h,?_⟩
 refine Sim.put (hs.FD hp hk (w':=w.freeze ⟨k0.b,oo,none⟩ l.length) ?_ ?_ fun b hb=>?_) (by rw [hB.1];exact hd) (.d _ _ (.str l))
 ·unfold World.freeze;split<;>rfl
 ·unfold World.freeze;split<;>simp
 ·unfold World.freeze
  split
  ·rfl
  ·simp only [Array.getElem?_modify]
   rw [if_neg (fun e=>hb e.symm)]
section
variable {ops:Array Oper} {K:St→Ns→Prop} {r:List Oper} {ns:Ns}
theorem dD (E:XEng P cf ops K) {d:Nat} {x:Operand} {ty:TypeId} {pos:String} {af:Array Edge} (p:Name) (c:Nat) (ty':Option Nat) (cs:List AV) (hd:d<cf.n) (hx:ev s x=.bx p c) (hp:s.hp p=some (.boxT ty' cs)) (h:E.run r (s.put d (.bx p c)) (ns++[([p],[],[])])) :
  E.stp { dst:=some d,op:=.nilCheck x,type:=ty,pos:=pos,after:=af,guard:=none } r s ns .no:=by
 refine iI E (x:=.bx p c) [p] (fun t ht=>by rw [Option.mem_def,Option.some.injEq] at ht;rw [← ht];exact hd) (fun s' hh he=>?_) h
 have h1:ev s' x=.bx p c:=(he x (by simp [Op.operands])).trans hx
 have h2:s'.hp p=some (.boxT ty' cs):=(hh p (by simp)).trans hp
 refine dW (o:={ dst:=some d,op:=.nilCheck x,type:=ty,pos:=pos,after:=af,guard:=none }) rfl ?_
 have h3:opR P.ti cf.n (.nilCheck x) (some d) s'=.ok (s'.put d (.bx p c)):=by
  unfold opR xH
  simp only [h1,h2]
  simp [R.bind,bt,hd]
 unfold stp
 simp only [h3,R.run]
 rw [cA];rfl
theorem DT (E:XEng P cf ops K) {d:Nat} {x:Operand} {at':Array TypeId} {ty:TypeId} {pos:String} {af:Array Edge} {g:Option (Nat × Bool)} (hd:d<cf.n) (hx:ev s x=.d .nils) (h:E.run r (s.put d (.d .nilp)) (ns++[([],[],[])])) :
  E.stp { dst:=some d,op:=.call { callee:=.builtin .unsafeSliceData,args:=#[x],argTypes:=at' },type:=ty,pos:=pos,after:=af,guard:=g } r s ns .no:=by
 refine iI E (x:=.d .nilp) [] (fun t ht=>by rw [Option.mem_def,Option.some.injEq] at ht;rw [← ht];exact hd) (fun s' _ he=>?_) h
 exact zI hd ((he x (by simp [Op.operands,Call.operands])).trans hx) (by rw [cA];rfl)
theorem FA (E:XEng P cf ops K) {d:Nat} {x:Operand} {at':Array TypeId} {ty:TypeId} {pos:String} {af:Array Edge} {g:Option (Nat × Bool)} (p:Name) (tg:Option Nat) (w0:W) (xs:List D) (l:Nat) (hd:d<cf.n) (hx:ev s x=.vw p 0 l) (hp:s.hp p=some (.arrT tg w0 xs)) (hl:0<l)
  (h:E.run r (s.put d (.el p 0 0)) (ns++[([p],[],[])])) :
  E.stp { dst:=some d,op:=.call { callee:=.builtin .unsafeSliceData,args:=#[x],argTypes:=at' },type:=ty,pos:=pos,after:=af,guard:=g } r s ns .no:=by
 refine iI E (x:=.el p 0 0) [p] (fun t ht=>by rw [Option.mem_def,Option.some.injEq] at ht;rw [← ht];exact hd) (fun s' hh he=>?_) h
 exact Cq p tg w0 xs l hd ((he x (by simp [Op.operands,Call.operands])).trans hx) ((hh p (by simp)).trans hp) hl (by rw [cA];rfl)
end
end
theorem o8 (tf:Nat→TI) (dd:Option Nat) (s:St) (x:Operand):opE tf (.nilCheck x) dd s=.no:=rfl
attribute [go_sem] o8
end Go.Ab

namespace Go.Ab
section
variable {P:Program} {F:Fence} {n:Nat} {ops:Array Oper} {Q Q':Exit→Act→World→Prop}
theorem sw {o:Oper} {a:Act} {w:World} {K K':Act→World→Prop} (h:∀ a w,K a w→K' a w) (hq:∀ e a w,Q e a w→Q' e a w) (hh:o.wpIn F n P a w K Q):o.wpIn F n P a w K' Q':=by
 unfold Oper.wpIn at *
 refine ⟨hh.1,?_⟩
 have hh:=hh.2
 generalize (o.semAt F.round a.eval).run P w=r at *
 cases r with
 | ok x w' =>
   cases x<;>simp only [Oper.uponIn] at hh ⊢ <;>
    first
     | exact h _ _ hh
     | exact ⟨hh.1,CallsIn.mono hh.2 (fun e w'' he=>by cases e<;>first | exact h _ _ he | exact hq _ _ _ he | exact he.elim fun a he=>he.elim fun w he=>⟨a,w,hq _ _ _ he⟩ | exact he)⟩
     | exact ⟨hh.1,RowsIn.mono hh.2 (fun _ _ he=>h _ _ he)⟩
     | exact ⟨hh.1,RoundIn.mono hh.2 (fun e w'' he=>by cases e<;>first | exact h _ _ he | exact hq _ _ _ he | exact he.elim fun a he=>he.elim fun w he=>⟨a,w,hq _ _ _ he⟩ | exact he)⟩
 | halt x w'=>cases x<;>simp only [Oper.uponIn] at hh ⊢<;>first | exact hq _ _ _ hh | exact hh
theorem dc (hq:∀ e a w,Q e a w→Q' e a w):∀ (l:List Nat) (a:Act) (w:World),wpOpsIn F n P ops Q l a w→wpOpsIn F n P ops Q' l a w
 | [],_,_,h=>hq _ _ _ h
 | i::r,a,w,h=>by
   simp only [wpOpsIn] at h ⊢
   split
   ·rename_i hn
    simp only [hn] at h
    exact dc hq r a w h
   ·rename_i o ho
    simp only [ho] at h
    split
    ·rename_i hw
     simp only [hw,if_true] at h
     exact sw (fun a w=>dc hq r a w) hq h
    ·rename_i hw
     simp only [hw] at h
     exact ⟨h.1,dc hq r _ w h.2⟩
end
section
variable {P:Program} {cf:Cf} {Φ:Exit→Act→World→Prop} {I:Base→List Deferred→Prop} {k:List It} {s:St}
theorem yO {all:Array Oper} {r:List Oper} (h:∀ E:Eng P cf (yq P cf Φ I k),E.run [.ops all r] s):ARY P cf Φ I (.ops all r::k) s:=by
 have h1:run P cf [.ops all r] (yq P cf Φ I k) s:=veil h
 intro B hB ds β a w hds hI hs l hl
 have h2:=aG h1 B hB ds β a w hds hs l hl
 exact dc (fun _ _ _ hq=>tN hB hI hq) l a w h2
theorem Ee {B0:Base} {X:Type} {Iv:X→St} {fr0 fr:List (Nat × AV)} {hp0 hp:List (Name × Ob)} {u0 u:List Nat} (hl:LKL (mk fr0 hp0 u0) hp) (h:ARX cf Φ (CI B0) .ret (mk fr0 hp u)):rq P cf Φ B0 k Iv (mk fr0 hp0 u0) .ret (mk fr hp u):=⟨od (fL hl),h⟩
end
end Go.Ab

namespace Go.Ab
theorem zq (p:Name):∀ (a b:List (Name × Option Ob)),wl (a++b) p=match wl b p with | some v=>some v | none=>wl a p
 | [],b=>by cases h:wl b p<;>simp [wl,h]
 | q::r,b=>by
   rw [List.cons_append,wl,zq p r b]
   cases wl b p<;>simp [wl]
theorem xJ (p:Name) (z:Option Ob):∀ l:List (Name × Option Ob),(wl l.reverse p).getD z=lkA z l p
 | []=>rfl
 | q::r=>by
   rw [List.reverse_cons,zq,dk]
   by_cases h:p=q.1
   ·simp [wl,h]
   ·simp only [wl,if_neg h]
    exact xJ p z r
def wrO (d:Nat) (chp hp':List (Name × Ob)):List (Name × Option Ob):=((hp'.map fun x:Name × Ob=>(dJ id d chp x.1,some (x.2.ren (dJ id d chp))))++chp.map fun x:Name × Ob=>(x.1,none)).reverse
theorem vP (d:Nat) (chp hp':List (Name × Ob)):(wrO d chp hp').map (fun x=>x.1)=((hp'.map fun x:Name × Ob=>dJ id d chp x.1)++chp.map fun x:Name × Ob=>x.1).reverse:=by
 unfold wrO
 rw [List.map_reverse,List.map_append,List.map_map,List.map_map]
 rfl
attribute [go_sem] vP List.reverse_cons List.reverse_nil
theorem uU {α β:Type} [DecidableEq α] (z:β) (i:α):∀ a b:List (α × β),lkA z (a++b) i=lkA (lkA z b i) a i
 | [],_=>rfl
 | q::r,b=>by rw [List.cons_append,dk,dk,uU z i r b]
theorem Ah (s:St) (d:Nat) (chp hp':List (Name × Ob)) (r:AV):aft s id d chp hp' r=s.go (some d) (r.ren (dJ id d chp)) ⟨wrO d chp hp',[d]⟩:=by
 refine Ag (funext fun q=>?_) rfl fun t=>rfl
 show lkA (lkA (s.hp q) (chp.map fun x=>(x.1,none)) q) _ q=(wl (wrO d chp hp') q).getD (s.hp q)
 unfold wrO
 rw [xJ,uU]
section
variable {P:Program} {cf:Cf} {ops:Array Oper} {K:St→Ns→Prop} {r:List Oper} {s:St} {ns:Ns}
theorem cg (E:XEng P cf ops K) {d:Nat} {fv:Operand} {args:Array Operand} {at':Array TypeId} {ty:TypeId} {pos:String} {af:Array Edge} {g:Option (Nat × Bool)}
  {f:FuncId} {caps:List AV} (cargs:List AV) (chp:List (Name × Ob)) (cu:List Nat) (x:AV) (hp':List (Name × Ob)) (hc:HCall P cf.G f cargs chp cu (fun y h=>y=x∧h=hp'))
  (hev:ev s fv=.clo f caps) (hargs:args.toList.map (ev s)++caps=cargs) (hd:d<cf.n∧d ∉ s.used) (hcu:dh cu cargs=true) (hpass:dI id cu s chp) (hinj:kn id chp)
  (hl:gf chp hp') (hk:E.run r (aft s id d chp hp' x) (ns++[(chp.map (·.1),(wrO d chp hp').map (·.1),[d])])) :
  E.stp { dst:=some d,op:=.call { callee:=.value fv,args:=args,argTypes:=at' },type:=ty,pos:=pos,after:=af,guard:=g } r s ns .no:=by
 rw [E.stp_eq]
 refine ⟨x.ren (dJ id d chp),(chp.map (·.1),⟨wrO d chp hp',[d]⟩),fun s' hu hh he B hB ds' β a w hds hs Q'=>?_,fun y hy=>?_,hd.1,?_⟩
 ·have hm:∀ y,y=fv∨y∈args→ev s' y=ev s y:=fun y hy=>he y (by
   simp only [Op.operands,Call.operands]
   rcases hy with rfl | hy<;>simp_all)
  have hpass':dI id cu s' chp:=by
   have:∀ l:List (Name × Ob),(∀ q∈l,q.1∈chp.map (·.1))→dI id cu s l→dI id cu s' l:=by
    intro l
    induction l with
    | nil=>intros;trivial
    | cons q r ih =>
      intro hq h
      refine ⟨⟨?_,h.1.2⟩,ih (fun x hx=>hq x (List.mem_cons_of_mem _ hx)) h.2⟩
      rw [show s'.hp (id q.1)=s.hp (id q.1) from hh _ (hq q List.mem_cons_self)]
      exact h.1.1
   exact this chp (fun q hq=>List.mem_map.2 ⟨q,hq,rfl⟩) hpass
  have hok:AOk P cf { dst:=some d,op:=.call { callee:=.value fv,args:=args,argTypes:=at' },type:=ty,pos:=pos,after:=af,guard:=g } s' [] (fun _ s2=>s2=aft s' id d chp hp' x):=by
   refine pa d id cargs chp cu _ ((hm fv (.inl rfl)).trans hev) ?_ hcu (hu d (by simp)) (fun t ht=>?_) hpass' hinj hc fun y h hr=>?_
   ·rw [tA (s:=s) (s':=s') fun y hy=>hm y (.inr (by simpa using hy)),hargs,qA]
   ·obtain rfl:=Option.some.inj ht
    exact ⟨hd.1,rfl⟩
   ·obtain ⟨rfl,rfl⟩:=hr
    exact ⟨hl,by rw [cA];rfl⟩
  refine Oper.wpIn_mono ?_ (hok B hB ds' β a w hds hs Q')
  rintro a' w' ⟨hd',s2,β',hrun,hs2⟩
  obtain ⟨_,s3,β3,rfl,hs3⟩:=hrun B hB ds' β' a' w' hd' hs2
  exact ⟨hd',β3,by rw [← Ah];exact hs3⟩
 ·obtain rfl:=List.mem_singleton.1 hy
  exact hd.2
 ·rw [← E.run_eq,← Ah]
  exact hk
theorem CJ {H:Array Obj} {own:Nat→Prop} {v:Value} {wf:W} {l:List D} (h:Rep H own v (.sl wf l)):v.oneCell'=true:=by
 generalize hz:D.sl wf l=d at h
 cases h<;>first | rfl | cases hz
theorem tB {H:Array Obj} {own:Nat→Prop} {us:List Nat} {hp:Name→Option Ob} {β:Name→Option Blk} {v:Value} {wf:W} {l:List D} (h:VR H own us hp β v (.d (.sl wf l))):v.oneCell'=true:=by
 cases h with
 | d _ _ h=>exact CJ h
theorem bX (E:XEng P cf ops K) {t:Nat} (u:Nat) (p:Name) (wf:W) (xs:List D) {off len:Nat} {fv:Operand} {args:Array Operand} {at':Array TypeId} {ty:TypeId} {pos:String} {af:Array Edge} {gg:Option (Nat × Bool)}
  {f:FuncId} {caps:List AV} {ds:List D} {x:AV} (hc:HP P cf.G f ds (fun r=>r=x)) (hfv:∀ s,ev s fv=.clo f caps) (hp:s.hp p=some (.arr wf xs)) (hev:s.fr u=.vw p off len) (hu:(t == u)=false) (hin:Operand.tmp u∈args)
  (hargs:args.toList.map (ev (s.put u (.d (.sl wf ((xs.drop off).take len)))))++caps=ds.map .d) (hdst:t<cf.n) (hk:E.run r ((s.set p none).put t x) (ns++[([p],[p],[])])) :
  E.stp { dst:=some t,op:=.call { callee:=.value fv,args:=args,argTypes:=at' },type:=ty,pos:=pos,after:=af,guard:=gg } r s ns .no:=by
 have htu:¬ t=u:=by simpa using hu
 have hgo:∀ s:St,(s.set p none).put t x=s.go (some t) x ⟨[(p,none)],[]⟩:=fun s=>by unfold St.go;rw [qd];rfl
 rw [E.stp_eq]
 refine ⟨x,([p],⟨[(p,none)],[]⟩),fun s' _ hh he=>?_,fun y hy=>(by cases hy),hdst,?_⟩
 ·have hm:∀ y,y∈args→ev s' y=ev s y:=fun y hy=>he y (by
   simp only [Op.operands,Call.operands]
   simp_all)
  have hp':s'.hp p=some (.arr wf xs):=(hh p (by simp)).trans hp
  have hev':s'.fr u=.vw p off len:=(hm (.tmp u) hin).trans hev
  obtain ⟨y,hy⟩:∃ y,y=AV.d (.sl wf ((xs.drop off).take len)):=⟨_,rfl⟩
  rw [← hy] at hargs
  have hargs':args.toList.map (ev ((s'.set p none).put u y))++caps=ds.map .d:=by
   rw [← hargs]
   congr 1
   refine List.map_congr_left fun z hz=>?_
   have h0:=hm z (by simpa using hz)
   cases z with
   | tmp i =>
     by_cases e:i=u
     ·subst e
      show ((s'.set p none).put i _).fr i=(s.put i _).fr i
      simp [St.put,cU]
     ·have h0':s'.fr i=s.fr i:=h0
      show ((s'.set p none).put u _).fr i=(s.put u _).fr i
      simp [St.put,St.set,cU,e,h0']
   | _=>rfl
  have h1:=jJ (k:=[]) (Q:=fun _ s2=>s2=((s'.set p none).put u y).put t x) (dst:=some t) (fv:=fv) (args:=args) (at':=at') (ty:=ty) (pos:=pos) (af:=af) (g:=gg) hc
   (hfv _) hargs' (fun y hy=>by rw [Option.mem_def,Option.some.injEq] at hy;rw [← hy];exact hdst) (fun r hr=>by subst hr;rw [cA];rfl)
  intro B hB ds' β a w hds hs Q'
  have hs0:=hs.drop p
  have hs1:Sim B β ((s'.set p none).put u y) a.tmps w:=hs0.setv (by
   have:=(hs.frz hp').slots u
   rw [show (s'.frz p wf xs).fr u=(s'.fr u).frz p wf xs from rfl,hev',AV.frz,if_pos rfl,← hy] at this
   exact this)
  refine Oper.wpIn_mono ?_ (h1 B hB ds' β a w hds hs1 Q')
  rintro a' w' ⟨hd',s2,β',hrun,hs2⟩
  obtain ⟨_,s3,β3,rfl,hs3⟩:=hrun B hB ds' β' a' w' hd' hs2
  refine ⟨hd',β3,?_⟩
  rw [← hgo]
  have hv:=hs3.slots u
  have e1:(((s'.set p none).put u y).put t x).fr u=y:=by simp [St.put,cU,Ne.symm htu,fun h:u=t=>htu h.symm]
  rw [e1,hy] at hv
  have hnm:=(hs.objs p _ hp').1
  have e2:((s'.set p none).put t x)=(((s'.set p none).put u y).put t x).put u (.vw p off len):=by
   refine jH (fun _=>rfl) rfl fun i=>?_
   simp only [St.put,St.set,cU]
   by_cases h1:i=u
   ·subst h1
    have h3:¬ i=t:=fun h=>htu h.symm
    simp [h3,hev']
   ·simp [h1]
  have h5:=hs3.setv (t:=u) (x:=.vw p off len) (.vw _ _ _ _ hnm (by
   exact tB hv) (fun ty w xs h=>by
    have h:av s'.hp p none p=some _:=h
    simp [av] at h))
  rw [e2]
  exact h5
 ·rw [← E.run_eq,← hgo]
  exact hk
end
end Go.Ab

namespace Go.Proofs.YtejpnabbmgpmaaaGreatDoor
open Go.Ab
theorem Hj:∀ (m:Nat) (ks:List Int),m≤3→iG [.int .i64 0,.int .i64 0,.int .i64 0] ((ks.take m).map i64) 0 3=[i64 (if 0<m then ks.getD 0 0 else 0),i64 (if 1<m then ks.getD 1 0 else 0),i64 (if 2<m then ks.getD 2 0 else 0)]
 | 0,_,_=>rfl
 | 1,[],_=>rfl
 | 2,[],_=>rfl
 | 3,[],_=>rfl
 | 1,[x],_=>rfl
 | 2,[x],_=>rfl
 | 3,[x],_=>rfl
 | 1,x::y::r,_=>by simp [iG,i64]
 | 2,[x,y],_=>rfl
 | 3,[x,y],_=>rfl
 | 2,x::y::z::r,_=>by simp [iG,i64]
 | 3,[x,y,z],_=>rfl
 | 3,x::y::z::w::r,_=>by simp [iG,i64]
theorem xG {α:Type} (k:Nat) (l:List α) (N:Nat) (h:l.length=N) [Decidable ((N:Int)<(k:Int))]:List.take ((if (N:Int)<(k:Int) then (N:Int) else (k:Int)).toNat-0) l=l.take k:=by
 split
 ·rw [List.take_of_length_le (by omega),List.take_of_length_le (by omega)]
 ·congr 1
theorem y7 {G}:HCall Tryz.prog G 144 [.d .nils] [] [] (fun r hp'=>r=.vw [0] 0 0∧hp'=[([0],.arr (some 3) [])]):=by
 refine HCall.thaw (Q:=fun r hp'=>(r=.d .nils∧hp'=[])∨(r=.vw [0] 0 0∧hp'=[([0],.arr (some 3) [])])) ?_ 0 (some 3) (by simp) ?_
 ·refine an Tryz.func144 rfl (by decide +kernel) (by simp [Tryz.ntmps144]) (veil fun E=>?_)
  simp only [go_sem]
  refine Cd E 3 (some 3) rfl ?_
  refine p3 E (e:=89) (by simp only [go_sem]) (by simp only [go_sem]) rfl fun b hb=>?_
  simp only [go_sem]
  refine aI E (fun h=>?_) (fun h=>?_)<;>simp only [go_sem]
  ·refine ⟨_,[],[],id,.inl ⟨rfl,rfl⟩,?_⟩
   simp only [go_sem]
  ·refine ⟨_,_,[0],tau [([0],[7])],.inr ⟨rfl,rfl⟩,?_⟩
   simp only [go_sem]
 ·rintro r hp' (⟨rfl,rfl⟩ | h)
  ·exact .inr ⟨rfl,rfl,rfl,rfl⟩
  ·exact .inl h
theorem b9 {ks:List Int} {k:Nat} (h:k<ks.length):(ks.map i64).getD k .nilp=i64 (ks.getD k 0):=by simp [h]
theorem nO (ks:List Int) (o:Nat):∀ (a b:List EF) (i:Nat),aP ks o (a++b) i=aP ks o a i++aP ks o b (i+a.length)
 | [],b,i=>by simp [aP]
 | f::r,b,i=>by
   simp only [List.cons_append,aP,nO ks o r b (i+1),List.length_cons]
   rw [show i+1+r.length=i+(r.length+1) by omega]
def dp (ks:List Int) (o:Nat) (l:List EF) (i:Nat):List EF:=aP ks o (l.take i) 0++l.drop i
theorem wV (ks:List Int) (o:Nat) (l:List EF) (i:Nat):(dp ks o l i).length=l.length:=by
 simp only [dp,List.length_append,cW,List.length_take,List.length_drop];omega
theorem sA (ks:List Int) (o:Nat) (l:List EF):dp ks o l 0=l:=by simp [dp,aP]
theorem wE (ks:List Int) (o:Nat) (l:List EF):dp ks o l l.length=aP ks o l 0:=by simp [dp]
theorem sX {ks:List Int} {o:Nat} {l:List EF} {i:Nat} (h:i<l.length):dp ks o l (i+1)=(dp ks o l i).set i (if o+i<ks.length then { fdE l i with to:=ks.getD (o+i) 0 } else fdE l i):=by
 have h1:l.take (i+1)=l.take i++[l[i]]:=by simp
 have h2:l.drop i=l[i]::l.drop (i+1):=List.drop_eq_getElem_cons h
 have hf:fdE l i=l[i]:=by simp [fdE,h]
 unfold dp
 rw [h1,nO,h2,hf]
 have h3:(aP ks o (l.take i) 0).length=i:=by rw [cW,List.length_take];omega
 rw [List.set_append_right _ _ (by omega),h3,Nat.sub_self]
 simp only [aP,Nat.zero_add,List.length_take,Nat.min_eq_left (Nat.le_of_lt h),List.append_assoc,List.singleton_append,List.set_cons_zero]
theorem oH {ks:List Int} {o:Nat} {l:List EF} {i:Nat} (h:i<l.length):(dp ks o l i)[i]?=some (fdE l i):=by
 have h3:(aP ks o (l.take i) 0).length=i:=by rw [cW,List.length_take];omega
 unfold dp
 rw [List.getElem?_append_right (by omega),h3,Nat.sub_self,List.drop_eq_getElem_cons h]
 simp [fdE,h]
theorem uj {G} (n:EN) (ks:List Int) (hl:n.l.length≤1000000) (hks:ks.length≤1000000):HP Tryz.prog G 115 [enD n,.sl none (ks.map i64)] (fun r=>r=.d (enD (aZ n ks))):=by
 unfold enD efD
 refine bz Tryz.func115 rfl (by decide +kernel) (by simp [Tryz.ntmps115]) (veil fun E=>?_)
 simp only [go_sem]
 refine ae E (lK n.k) rfl rfl (by simp) ?_
 rintro _ rfl
 simp only [go_sem]
 have hk3:=da n.k
 refine FP E [6] 6 77 [.int .i64 0,.int .i64 0,.int .i64 0] ?_ rfl rfl (by decide) rfl ?_
 ·rw [aa];decide
 simp only [go_sem]
 refine iD 8 mixed E (by simp only [List.take_succ_cons,List.take_zero];exact rfl) (by simp only [List.drop_succ_cons,List.drop_zero];exact rfl) rfl rfl (by decide +kernel) fun X=>?_
 simp only [go_sem]
 refine ⟨by split<;>constructor<;>omega,by decide +kernel,?_⟩
 rw [xG (aU n.k) (ks.map i64) ks.length (by simp),← List.map_take]
 refine Fq E (d:=21) (dT:=58) (e0:=3) (by simp only [go_sem]) (by rw [Gs]) (by rw [ti3];decide) rfl rfl rfl ?_
 rw [Hj _ _ hk3]
 obtain ⟨a,ha⟩:∃ a,a=if 0<aU n.k then ks.getD 0 0 else 0:=⟨_,rfl⟩
 obtain ⟨b,hb⟩:∃ b,b=if 1<aU n.k then ks.getD 1 0 else 0:=⟨_,rfl⟩
 obtain ⟨c,hc⟩:∃ c,c=if 2<aU n.k then ks.getD 2 0 else 0:=⟨_,rfl⟩
 rw [← ha,← hb,← hc]
 simp only [go_sem]
 refine al mixed E fun X=>?_
 simp only [go_sem]
 simp only [List.getD_cons_succ,List.getD_cons_zero]
 simp only [go_sem]
 simp only [List.getD_cons_succ,List.getD_cons_zero]
 simp only [go_sem]
 refine ⟨by decide +kernel,?_⟩
 refine aI E (fun hp=>?_) (fun hp=>?_)<;>simp only [go_sem]
 ·refine ab E [.d .nils] [] [] y7 rfl rfl ⟨by simp only [go_sem],by rw [aa];decide⟩ rfl (by simp only [go_sem]) (by simp only [go_sem]) ?_
  rintro _ _ ⟨rfl,rfl⟩
  simp only [go_sem]
  refine aw E (X:=Unit) (fun _=>[(1,.d (.sl none (ks.map i64))),(2,.bx [2] 0),(4,.bx [4] 0),(5,.bx [5] 0),(41,.d (i64 0)),(42,.d (i64 0))])
   (fun _=>[([2],.box [.d (i64 n.k),.d (i64 a),.d (i64 b),.d (i64 c),.d (i64 n.n),.d (.str n.name),.d (.str n.s),.vw [37,0] 0 0,.d (i64 n.pos)]),([4],.box [.d (i64 0),.d (i64 0),.d (i64 0),.d (i64 0),.d (i64 0),.d (.str []),.d (.str []),.d .nils,.d (i64 0)]),([5],.box [.d (i64 (aU n.k)),.d (.bool (aL n.k))]),([37,0],.arr (some 3) [])]) [2,4,5,37] (fun _=>0) () id ?_ ?_
  ·simp only [go_sem]
   all_goals rfl
  rintro _ E0
  refine aH E0 fun Q' hQ E'=>?_
  simp only [go_sem]
  rw [hQ]
  simp only [go_sem]
  refine ⟨[([37,0],some 3,[])],?_⟩
  simp only [go_sem]
  have hw:aZ n ks={ n with a:=a,b:=b,c:=c,l:=[] }:=by
   have hp':aL n.k=false:=by simpa using hp
   simp [aZ,ha,hb,hc,hp']
  rw [hw]
  rfl
 ·refine ab E [.d (efD n.l)] [] [] (yp n.l hl) rfl rfl ⟨by simp only [go_sem],by rw [aa];decide⟩ rfl (by simp only [go_sem]) (by simp only [go_sem]) ?_
  rintro _ _ ⟨rfl,rfl⟩
  simp only [go_sem]
  refine aw E (X:={ i:Nat // i≤n.l.length }) (fun x=>[(1,.d (.sl none (ks.map i64))),(2,.bx [2] 0),(4,.bx [4] 0),(5,.bx [5] 0),(41,.d (i64 n.l.length)),(42,.d (i64 x.1))])
   (fun x=>[([2],.box [.d (i64 n.k),.d (i64 a),.d (i64 b),.d (i64 c),.d (i64 n.n),.d (.str n.name),.d (.str n.s),.vw [37,0] 0 n.l.length,.d (i64 n.pos)]),([4],.box [.d (i64 0),.d (i64 0),.d (i64 0),.d (i64 0),.d (i64 0),.d (.str []),.d (.str []),.d .nils,.d (i64 0)]),([5],.box [.d (i64 (aU n.k)),.d (.bool (aL n.k))]),([37,0],.arr (some 3) ((dp ks (aU n.k) n.l x.1).map fD))]) [2,4,5,37] (fun x=>n.l.length-x.1) ⟨0,Nat.zero_le _⟩ id ?_ ?_
  ·simp only [go_sem]
   all_goals (first | rfl | (rw [sA]))
  rintro ⟨i,hi⟩ E0
  refine aH E0 fun Q' hQ E'=>?_
  simp only at hi ⊢
  simp only [go_sem]
  refine ah E' (fun h1=>?_) (fun h1=>?_)<;>simp only [go_sem]
  ·have h1':i<n.l.length:=by omega
   rw [ai ⟨by omega,by omega⟩]
   have hpl:=wV ks (aU n.k) n.l i
   have hst:=sX (ks:=ks) (o:=aU n.k) h1'
   refine ah E' (fun h2=>?_) (fun h2=>?_)<;>simp only [go_sem]
   ·have h2':aU n.k+i<ks.length:=by omega
    rw [if_pos h2'] at hst
    refine al mixed E' fun X=>?_
    simp only [go_sem]
    refine ⟨by omega,?_⟩
    rw [show ((aU n.k:Nat)+(i:Int)).toNat=aU n.k+i by omega,b9 h2']
    simp only [go_sem]
    have hgt:(List.map fD (dp ks (aU n.k) n.l i)).getD i .nilp=.agg [.str (fdE n.l i).nm,.str (fdE n.l i).var,i64 (fdE n.l i).to]:=by
     rw [List.getD_eq_getElem?_getD,List.getElem?_map,oH h1'];rfl
    refine ⟨by omega,?_⟩
    rw [hgt]
    simp only [go_sem]
    have hmp:(List.map fD (dp ks (aU n.k) n.l i)).set i (.agg [.str (fdE n.l i).nm,.str (fdE n.l i).var,i64 (ks.getD (aU n.k+i) 0)])=(dp ks (aU n.k) n.l (i+1)).map fD:=by
     rw [hst,List.map_set];rfl
    rw [hmp]
    refine ⟨by decide +kernel,?_⟩
    rw [hQ]
    simp only [go_sem]
    refine ⟨⟨i+1,by omega⟩,by show n.l.length-(i+1)<_;omega,id,?_⟩
    rw [ai ⟨by omega,by omega⟩]
    simp only [go_sem]
    all_goals rfl
   ·have h2':¬ aU n.k+i<ks.length:=by omega
    rw [if_neg h2'] at hst
    have hst2:dp ks (aU n.k) n.l (i+1)=dp ks (aU n.k) n.l i:=by
     rw [hst]
     refine List.ext_getElem? fun j=>?_
     rw [List.getElem?_set]
     split
     ·rename_i e;subst e
      rw [if_pos (by omega),oH h1']
     ·rfl
    rw [hQ]
    simp only [go_sem]
    refine ⟨⟨i+1,by omega⟩,by show n.l.length-(i+1)<_;omega,id,?_⟩
    rw [hst2,ai ⟨by omega,by omega⟩]
    simp only [go_sem]
    all_goals rfl
  ·rw [hQ]
   simp only [go_sem]
   have hi2:i=n.l.length:=by omega
   subst hi2
   rw [wE]
   refine ⟨[([37,0],some 3,(aP ks (aU n.k) n.l 0).map fD)],?_⟩
   simp only [go_sem]
   have hw:aZ n ks={ n with a:=a,b:=b,c:=c,l:=aP ks (aU n.k) n.l 0 }:=by
    have hp':aL n.k=true:=by simpa using hp
    simp [aZ,ha,hb,hc,hp']
   rw [hw,List.take_of_length_le (by rw [List.length_map,cW];exact Nat.le_refl _)]
end Go.Proofs.YtejpnabbmgpmaaaGreatDoor

namespace Go.Proofs.YtejpnabbmgpmaaaGreatDoor
open Go.Ab
end Go.Proofs.YtejpnabbmgpmaaaGreatDoor

namespace Go.Proofs.YtejpnabbmgpmaaaGreatDoor
open Go.Ab
def aV (s p:List UInt8):Bool:=decide (p.length≤s.length) && (s.take p.length == p)
theorem vq {G} (s p:List UInt8):HP Tryz.prog G 161 [.str s,.str p] (fun r=>r=.d (.bool (aV s p))):=by
 refine aj Tryz.func161 rfl (by decide +kernel) (by simp [Tryz.ntmps161]) (veil fun E=>?_)
 simp only [go_sem]
 refine ao E (fun h=>?_) (fun h=>?_)<;>simp only [go_sem]
 ·have hl:p.length≤s.length:=by simpa using h
  refine ⟨by simpa using hl,?_⟩
  simp [aV,hl,F7]
 ·have hl:¬ p.length≤s.length:=by simpa using h
  simp [aV,hl]
theorem vC {s p:List UInt8} (h:aV s p=true):p.length≤s.length:=by
 simp only [aV,Bool.and_eq_true,decide_eq_true_eq] at h
 exact h.1
theorem Da {G} (s p:List UInt8):HP Tryz.prog G 151 [.str s,.str p] (fun r=>r=.tup [.d (.str (if aV s p then s.drop p.length else s)),.d (.bool (aV s p))]):=by
 refine aj Tryz.func151 rfl (by decide +kernel) (by simp [Tryz.ntmps151]) (veil fun E=>?_)
 simp only [go_sem]
 refine ae E (vq s p) rfl rfl (by simp) ?_
 rintro _ rfl
 simp only [go_sem]
 refine aI E (fun h=>?_) (fun h=>?_)<;>simp only [go_sem]
 ·have h:aV s p=false:=by simpa using h
  simp [h]
 ·have h:aV s p=true:=by simpa using h
  have:=vC h
  simp [h]
  refine ⟨by omega,?_⟩
  rw [List.take_of_length_le]
  simp
theorem oN {G} (s p:List UInt8):HP Tryz.prog G 127 [.str s,.str p] (fun r=>r=.tup [.d (.str (if aV s p then s.drop p.length else s)),.d (.bool (aV s p))]):=by
 refine aj Tryz.func127 rfl (by decide +kernel) (by simp [Tryz.ntmps127]) (veil fun E=>?_)
 simp only [go_sem]
 refine ae E (Da s p) rfl rfl (by simp) ?_
 rintro _ rfl
 simp only [go_sem]
def eh (n:Int):List UInt8:=if n<0 then 126::Lib.decDigits n.natAbs else Lib.decDigits n.toNat
theorem nt (u:Nat):∃ c r,Lib.decDigits u=c::r∧48≤c.toNat∧c.toNat≤57:=by
 induction u using Nat.strongRecOn with
 | ind u ih =>
   rw [Lib.decDigits]
   split
   ·rename_i h
    exact ⟨_,[],rfl,by rw [UInt8.toNat_ofNat'];omega,by rw [UInt8.toNat_ofNat'];omega⟩
   ·obtain ⟨c,r,h1,h2,h3⟩:=ih (u / 10) (by omega)
    exact ⟨c,r++[UInt8.ofNat (48+u % 10)],by rw [h1];rfl,h2,h3⟩
theorem wD (u:Nat):aV (Lib.decDigits u) [45]=false:=by
 obtain ⟨c,r,h1,h2,h3⟩:=nt u
 rw [h1]
 simp [aV]
 rintro rfl
 revert h2;decide
end Go.Proofs.YtejpnabbmgpmaaaGreatDoor

namespace Go.Proofs.YtejpnabbmgpmaaaGreatDoor
open Go.Ab
def FI (k a b:Int):Int:=if k=1 then w64 (a+b) else if k=2 then w64 (a-b) else if k=3 then w64 (a*b) else if k=4 then Ha a b else if k=5 then (if a<b then 1 else 0) else if k=6 then (if a=b then 1 else 0) else 0
def F5 (k b:Int):Int:=if k=1 then 0 else if k=2 then 0 else if k=3 then 0 else if k=4 then GX b else if k=5 then 0 else if k=6 then 0 else 2
end Go.Proofs.YtejpnabbmgpmaaaGreatDoor

namespace Go.Proofs.YtejpnabbmgpmaaaGreatDoor
open Go.Ab
def dd (u:Nat):List UInt8:=if u=0 then [] else Lib.decDigits u
theorem B9 (u:Nat) (h:u≠0):dd u=dd (u / 10)++[UInt8.ofNat (48+u % 10)]:=by
 unfold dd
 rw [if_neg h,Lib.decDigits]
 by_cases h10:u<10
 ·rw [dif_pos h10,if_pos (by omega),show u % 10=u by omega];rfl
 ·rw [dif_neg h10,if_neg (by omega)]
theorem yN (m:Int):m.tmod 10=if m<0 then -((m.natAbs % 10:Nat):Int) else ((m.natAbs % 10:Nat):Int):=by
 cases m with
 | ofNat k=>rw [if_neg (show ¬ Int.ofNat k<0 from Int.not_lt.2 (Int.natCast_nonneg k))];rfl
 | negSucc k=>rw [if_pos (Int.negSucc_lt_zero k)];rfl
theorem zg (m:Int):m.tdiv 10=if m<0 then -((m.natAbs / 10:Nat):Int) else ((m.natAbs / 10:Nat):Int):=by
 cases m with
 | ofNat k=>rw [if_neg (show ¬ Int.ofNat k<0 from Int.not_lt.2 (Int.natCast_nonneg k))];rfl
 | negSucc k=>rw [if_pos (Int.negSucc_lt_zero k)];rfl
theorem yz (d:Nat) (h:d<10):IntKind.u8.wrap (w64 (48+(d:Int)))=(((UInt8.ofNat (48+d)).toNat:Nat):Int):=by
 rw [UInt8.toNat_ofNat']
 simp only [IntKind.wrap,IntKind.bits,IntKind.signed,ly]
 split<;>simp<;>omega
theorem Ev {m:Int} (hm:inR m):inR (m.tdiv 10)∧w64 (m.tdiv 10)=m.tdiv 10∧(m.tdiv 10).natAbs=m.natAbs / 10:=by
 obtain ⟨h1,h2⟩:=hm
 have h:=zg m
 have h3:inR (m.tdiv 10):=by
  rw [h];constructor<;>split<;>omega
 refine ⟨h3,ai h3,?_⟩
 rw [h];split<;>omega
theorem BO {m:Int} (h:m.tmod 10<0):w64 (0-m.tmod 10)=((m.natAbs % 10:Nat):Int):=by
 have e:=yN m
 rw [ai (by constructor<;>rw [e]<;>split<;>omega),e]
 split at e<;>omega
theorem BA {m:Int} (h:¬ m.tmod 10<0):m.tmod 10=((m.natAbs % 10:Nat):Int):=by
 have e:=yN m
 split at e<;>omega
theorem EM {m:Int} {acc:List UInt8} {n:Int} (hn:inR n) (h:dd m.natAbs++acc=dd n.natAbs):acc.length≤21:=by
 have h1:=congrArg List.length h
 rw [List.length_append] at h1
 have h2:=Lib.itoa_length_le n hn.1 hn.2
 have h3:(dd n.natAbs).length≤(Lib.itoa n).length:=by
  unfold dd Lib.itoa
  by_cases hz:n.natAbs=0
  ·rw [if_pos hz];simp
  ·rw [if_neg hz]
   by_cases h0:n<0
   ·rw [if_pos h0];simp
   ·rw [if_neg h0,show n.natAbs=n.toNat by omega];exact Nat.le_refl _
 omega
end Go.Proofs.YtejpnabbmgpmaaaGreatDoor

namespace Go.Proofs.YtejpnabbmgpmaaaGreatDoor
open Go.Ab
def bf (c:UInt8):Bool:=decide (48≤c.toNat) && decide (c.toNat≤57)
def bx (l:List UInt8):Nat:=l.foldl (fun v c=>10*v+(c.toNat-48)) 0
theorem ko (l:List UInt8) (c:UInt8):bx (l++[c])=10*bx l+(c.toNat-48):=by simp [bx]
theorem nW {l:List UInt8} {i:Nat} (h:i<l.length):l.take (i+1)=l.take i++[l[i]]:=by simp
theorem cT {l:List UInt8} {i:Nat} (h:i<l.length):bx (l.take (i+1))=10*bx (l.take i)+(l[i].toNat-48):=by
 rw [nW h,ko]
theorem vF (l:List UInt8) (i:Nat):bx (l.take i)≤bx l:=by
 suffices h:∀ r m:List UInt8,bx m≤bx (m++r) by
  have:=h (l.drop i) (l.take i)
  rwa [List.take_append_drop] at this
 intro r
 induction r with
 | nil=>intro m;simp
 | cons c r ih =>
   intro m
   have h1:=ih (m++[c])
   rw [ko,List.append_assoc] at h1
   have h2:bx (m++c::r)=bx (m++([c]++r)):=rfl
   rw [h2];omega
theorem Bz (l:List UInt8) (h:l.all bf=true) (h0:¬ l.head?=some 48):l.length=0∨10 ^ (l.length-1)≤bx l:=by
 cases l with
 | nil=>exact .inl rfl
 | cons c r =>
   refine .inr ?_
   suffices hh:∀ i,i≤r.length→10 ^ i≤bx ((c::r).take (i+1)) by
    have:=hh r.length (Nat.le_refl _)
    rwa [show r.length+1=(c::r).length from rfl,List.take_length] at this
   intro i
   induction i with
   | zero =>
     intro _
     have hd:=List.all_eq_true.1 h c List.mem_cons_self
     simp only [bf,Bool.and_eq_true,decide_eq_true_eq] at hd
     have:c.toNat≠48:=fun e=>h0 (by
      have:c=48:=UInt8.toNat_inj.1 (by rw [e];rfl)
      subst this;rfl)
     simp [bx];omega
   | succ i ih =>
     intro hi
     rw [cT (by simp;omega),Nat.pow_succ]
     have:=ih (by omega)
     omega
def bT (l:List UInt8):Bool:=!l.isEmpty && !(decide (1<l.length) && l.head? == some 48) && l.all bf && decide (bx l≤9223372036854775808)
def bL (neg:Bool) (l:List UInt8):Bool:=bT l && !(neg && decide (bx l=0)) && !(!neg && decide (bx l=9223372036854775808))
def ch (neg:Bool) (l:List UInt8):AV:=.tup [.d (i64 (if bL neg l then (if neg then -(bx l:Int) else bx l) else 0)),.d (i64 (if bL neg l then 0 else 5))]
def oU (s:List UInt8):AV:=if aV s [126] then ch true (s.drop 1) else ch false s
theorem n6 {l:List UInt8} (h:bT l=true):1≤l.length∧l.length≤19:=by
 simp only [bT,Bool.and_eq_true,Bool.not_eq_true',decide_eq_true_eq,Bool.and_eq_false_iff,decide_eq_false_iff_not,beq_eq_false_iff_ne] at h
 obtain ⟨⟨⟨h1,h2⟩,h3⟩,h4⟩:=h
 have h0:l.length≠0:=by
  intro e;rw [List.length_eq_zero_iff.1 e] at h1;simp at h1
 refine ⟨by omega,?_⟩
 rcases h2 with h2 | h2
 ·omega
 ·rcases Bz l h3 h2 with h5 | h5
  ·omega
  ·apply Decidable.byContradiction;intro h6
   have:10 ^ 19≤10 ^ (l.length-1):=Nat.pow_le_pow_right (by omega) (by omega)
   omega
theorem eV {l:List UInt8} {i:Nat} (hi:i<l.length) (h:bf l[i]=false):bT l=false:=by
 cases hd:bT l with
 | false=>rfl
 | true =>
   simp only [bT,Bool.and_eq_true] at hd
   have:=List.all_eq_true.1 hd.1.2 _ (List.getElem_mem hi)
   rw [h] at this;cases this
theorem sG {l:List UInt8} (h1:1<l.length) (h:l.head?=some 48):bT l=false:=by
 simp [bT,h1,h]
theorem oG {l:List UInt8} {i:Nat} (h:9223372036854775808<bx (l.take i)):bT l=false:=by
 have:=vF l i
 have:¬ bx l≤9223372036854775808:=by omega
 simp [bT,this]
theorem mS {neg:Bool} {l:List UInt8} (h:bT l=false):bL neg l=false:=by simp [bL,h]
theorem fM {neg:Bool} {l:List UInt8} (h:bL neg l=false):ch neg l=.tup [.d (i64 0),.d (i64 5)]:=by simp [ch,h]
theorem kc {l:List UInt8} (h0:1≤l.length) (hlead:¬ (1<l.length∧l.head?=some 48)) (hall:l.all bf=true) (hv:bx l≤9223372036854775808):bT l=true:=by
 simp only [bT,Bool.and_eq_true,Bool.not_eq_true',decide_eq_true_eq,Bool.and_eq_false_iff,decide_eq_false_iff_not,beq_eq_false_iff_ne]
 refine ⟨⟨⟨?_,?_⟩,hall⟩,hv⟩
 ·cases l with
  | nil=>simp at h0
  | cons c r=>rfl
 ·by_cases h:1<l.length
  ·exact .inr fun e=>hlead ⟨h,e⟩
  ·exact .inl h
theorem qz {l:List UInt8} {i:Nat} (hi:i<l.length) (hall:(l.take i).all bf=true) (h:bf l[i]=true):(l.take (i+1)).all bf=true:=by
 rw [nW hi,List.all_append,hall]
 simp [h]
end Go.Proofs.YtejpnabbmgpmaaaGreatDoor

namespace Go.Proofs.YtejpnabbmgpmaaaGreatDoor
open Go.Ab
structure Tok where
 k:Int
 s:List UInt8
 n:Int
 pos:Int
 deriving Inhabited,DecidableEq
structure Fnd where
 t:Tok
 n:Nat
 e:Int
 deriving DecidableEq
def noT:Tok:=⟨0,[],0,0⟩
def dr (e:Int):Fnd:=⟨noT,0,e⟩
def fT (t:Tok):D:=.agg [i64 t.k,.str t.s,i64 t.n,i64 t.pos]
def pT (f:Fnd):D:=.agg [i64 f.t.k,.str f.t.s,i64 f.t.n,i64 f.t.pos,i64 f.n,i64 f.e]
def eK (c:UInt8):Bool:=decide (32≤c.toNat) && decide (c.toNat≤126) && decide (c.toNat≠34) && decide (c.toNat≠92)
def iE:List UInt8:=[48,49,50,51,52,53,54,55,56,57,97,98,99,100,101,102]
def fk:List UInt8→UInt8 × Nat
 | []=>(0,0)
 | c::r =>
   if c=34∨c=92 then (c,1)
   else if c=110 then (10,1)
   else if c=116 then (9,1)
   else if c=120 then
    match r with
    | a::b::_=>if Lib.indexByte iE a<0∨Lib.indexByte iE b<0 then (0,0) else (UInt8.ofNat (16*Lib.indexByte iE a+Lib.indexByte iE b).toNat,3)
    | _=>(0,0)
   else (0,0)
def du:Nat→List UInt8→Nat→List UInt8→List UInt8 × Nat × Int
 | 0,_,_,_=>([],0,5)
 | _+1,[],_,_=>([],0,5)
 | m+1,c::r,i,acc =>
   if c=34 then (if 200<acc.length then ([],0,7) else (acc,i+1,0))
   else if c=92 then (if (fk r).2=0 then ([],0,5) else du m (r.drop (fk r).2) (i+(fk r).2+1) (acc++[(fk r).1]))
   else if eK c then du m r (i+1) (acc++[c])
   else ([],0,5)
def cy:List UInt8→List UInt8 × Nat × Int
 | []=>([],0,5)
 | c::r=>if c=34 then du r.length.succ r 1 [] else ([],0,5)
def jw:List UInt8→Nat
 | []=>0
 | c::r=>if bf c then jw r+1 else 0
def Ac:List UInt8:=[59,58,44,46,61,60,62,43,45,42,47,94,40,41,123,125,91,93,124,38]
def nw (s:List UInt8) (n:Nat):Fnd :=
 if 20<n then dr 7 else if yD (s.take n) then ⟨⟨1,s.take n,0,0⟩,n,0⟩ else if gr ((s.take n).getD 0 0) then ⟨⟨3,s.take n,0,0⟩,n,0⟩ else ⟨⟨2,s.take n,0,0⟩,n,0⟩
def qY (s:List UInt8):Fnd :=
 if bm (s.drop 1)=0∨gr (s.getD 1 0) then dr 5 else if 20<bm (s.drop 1) then dr 7 else ⟨⟨6,(s.drop 1).take (bm (s.drop 1)),0,0⟩,bm (s.drop 1)+1,0⟩
def rF (neg:Bool) (l:List UInt8):Int × Int:=if bL neg l then (if neg then -(bx l:Int) else bx l,0) else (0,5)
def xX (s:List UInt8):Int × Int:=if aV s [126] then rF true (s.drop 1) else rF false s
def Ad (s:List UInt8):Fnd :=
 ⟨⟨4,[],(xX (s.take (jw (s.drop 1)+1))).1,0⟩,jw (s.drop 1)+1,(xX (s.take (jw (s.drop 1)+1))).2⟩
def sv (s:List UInt8):Fnd:=⟨⟨5,(cy s).1,0,0⟩,(cy s).2.1,(cy s).2.2⟩
def lP (s:List UInt8):Fnd :=
 if aV s [45,62] || aV s [61,61] then ⟨⟨7,s.take 2,0,0⟩,2,0⟩ else if Lib.indexByte Ac (s.getD 0 0)<0 then dr 5 else ⟨⟨7,s.take 1,0,0⟩,1,0⟩
def bN (s:List UInt8):Fnd :=
 if 0<bm s then nw s (bm s)
 else if s.getD 0 0=39 then qY s
 else if bf (s.getD 0 0) || decide (s.getD 0 0=126) then Ad s
 else if s.getD 0 0=34 then sv s
 else lP s
def s9:List UInt8:=[32,9,10]
def cF:List UInt8→Option Nat
 | []=>none
 | c::r=>if c=10 then some 0 else (cF r).map (·+1)
def dn:Nat→List UInt8→Nat
 | 0,_=>0
 | _+1,[]=>0
 | m+1,c::r =>
   if c=32∨c=9∨c=10 then dn m r+1
   else if c=35 then
    match cF (c::r) with
    | none=>(c::r).length
    | some k=>k+dn m ((c::r).drop k)
   else 0
def aK (s:List UInt8):Nat:=dn s.length.succ s
def de:Nat→List UInt8→Nat→List (Nat × Fnd)
 | 0,_,_=>[]
 | m+1,s,at' =>
   if s.drop (aK s)=[] then []
   else if (bN (s.drop (aK s))).e≠0 then [(at'+aK s,bN (s.drop (aK s)))]
   else (at'+aK s,bN (s.drop (aK s)))::de m ((s.drop (aK s)).drop (bN (s.drop (aK s))).n) (at'+aK s+(bN (s.drop (aK s))).n)
def aA (s:List UInt8):List (Nat × Fnd):=de s.length.succ s 0
def eZ:List (Nat × Fnd)→Option (Nat × Int)
 | []=>none
 | q::r=>if q.2.e≠0 then some (q.1,q.2.e) else eZ r
def mF (q:Nat × Fnd):Tok:={ q.2.t with pos:=q.1 }
def cG (s:List UInt8):List Tok × Nat × Int :=
 match eZ (aA s) with
 | some (i,e)=>([],i,e)
 | none=>((aA s).map mF,s.length,0)
end Go.Proofs.YtejpnabbmgpmaaaGreatDoor

namespace Go.Proofs.YtejpnabbmgpmaaaGreatDoor
open Go.Ab
structure PS where
 l:List Tok
 fin:Int
 err:Int
 pos:Int
 nest:Nat
def PS.peek (s:PS):Tok:=match s.l with
 | []=>⟨0,[],0,s.fin⟩
 | t::_=>t
def PS.next (s:PS):PS:={ s with l:=s.l.tail }
def PS.fail (s:PS) (e p:Int):PS:=if s.err=0 then { s with err:=e,pos:=p } else s
def PS.wrong (s:PS):PS:=s.fail 5 s.peek.pos
def PS.is (s:PS) (k:Int) (t:List UInt8):Bool:=!s.l.isEmpty && decide (s.peek.k=k) && decide (s.peek.s=t)
def PS.sees (s:PS) (k:Int) (t:List UInt8):Bool:=decide (s.err=0) && s.is k t
def PS.may (s:PS) (k:Int) (t:List UInt8):PS:=if s.sees k t then s.next else s
def PS.must (s:PS) (k:Int) (t:List UInt8):PS:=if s.sees k t then s.next else s.wrong
def PS.has (s:PS) (k:Int):Bool:=decide (s.err=0) && decide (s.peek.k=k)
def PS.of (s:PS) (k:Int):List UInt8 × PS:=if s.has k then (s.peek.s,s.next) else ([],s.wrong)
abbrev PR:=List EN × PS
def nd0 (k:Int) (pos:Int):EN:=⟨k,0,0,0,0,[],[],[],pos⟩
def bP (n:EN):List EN:=aE n []
def noE:List EN:=bP (nd0 1 0)
def gk (ns:List EN):EN:=ndE ns (ns.length-1)
def gb:List UInt8:=[116,114,117,101]
def dC:List UInt8:=[102,97,108,115,101]
def jo:List UInt8:=[99,97,115,101]
def Br:List UInt8:=[102,117,110]
def zf:List UInt8:=[108,101,116]
def iJ:List UInt8:=[114,101,99]
def bIn:List UInt8:=[105,110]
def bIf:List UInt8:=[105,102]
def l7:List UInt8:=[116,104,101,110]
def mL:List UInt8:=[101,108,115,101]
def bOf:List UInt8:=[111,102]
def x5:List UInt8:=[101,110,100]
def bTo:List UInt8:=[45,62]
section
variable (ex:PS→PR)
def PS.parted (s:PS) (t:Tok) (l:List EF):PS :=
 if s.err≠0 then s else if l.length=30 then s.fail 8 t.pos else if (l.any fun f=>decide (f.nm=t.s)) then s.fail 5 t.pos else s
def fV (s:PS) (l:List EF):EF × PS :=
 let r:=s.of 2
 (⟨r.1,[],0⟩,((r.2.parted s.peek l).must 7 [61]))
def dN (s:PS) (l:List EF):EF × PS :=
 let r:=s.of 3
 let q:=(r.2.parted s.peek l).of 2
 (⟨r.1,q.1,0⟩,q.2.must 7 bTo)
def bn (between:List UInt8) (part:PS→List EF→EF × PS):Nat→PS→List EF→List (List EN)→List EF × List (List EN) × PS
 | 0,s,l,ks=>(l,ks,s)
 | m+1,s,l,ks =>
   let f:=part s l
   let e:=ex f.2
   if e.2.sees 7 between then bn between part m e.2.next (l++[f.1]) (ks++[e.1]) else (l++[f.1],ks++[e.1],e.2)
def dO (s:PS) (pos:Int):PR :=
 if s.sees 7 [125] then (bP (nd0 11 pos),s.next)
 else
  let r:=bn ex [44] fV s.l.length.succ s [] []
  (aE { nd0 11 pos with l:=r.1 } r.2.1,r.2.2.must 7 [125])
def fY (s:PS) (pos:Int):PR :=
 let e:=ex s
 let s1:=e.2.must 1 bOf
 let r:=bn ex [124] dN s1.l.length.succ s1 [] []
 (aE { nd0 14 pos with l:=r.1 } (e.1::r.2.1),r.2.2.must 1 x5)
def cS (s:PS):PR :=
 let t:=s.peek
 if s.err≠0 then (noE,s.wrong)
 else if t.k=4 then (bP { nd0 1 t.pos with n:=t.n },s.next)
 else if t.k=5 then (bP { nd0 3 t.pos with s:=t.s },s.next)
 else if t.k=2 then (bP { nd0 4 t.pos with name:=t.s },s.next)
 else if s.sees 1 gb then (bP { nd0 2 t.pos with n:=1 },s.next)
 else if s.sees 1 dC then (bP (nd0 2 t.pos),s.next)
 else if s.sees 7 [40] then
  let e:=ex s.next
  (e.1,e.2.must 7 [41])
 else if s.sees 7 [123] then dO ex s.next t.pos
 else if s.sees 1 jo then fY ex s.next t.pos
 else (noE,s.wrong)
def eL:Nat→List EN→PS→PR
 | 0,a,s=>(a,s)
 | m+1,a,s=>if s.sees 7 [46] then eL m (aE { nd0 12 s.peek.pos with name:=(s.next.of 2).1 } [a]) (s.next.of 2).2 else (a,s)
def cR (s:PS):PR :=
 let r:=cS ex s
 eL r.2.l.length.succ r.1 r.2
def PS.begins (s:PS):Bool :=
 let t:=s.peek
 decide (t.k=4) || decide (t.k=5) || decide (t.k=2) || (decide (t.k=1) && (decide (t.s=gb) || decide (t.s=dC) || decide (t.s=jo))) || (decide (t.k=7) && (decide (t.s=[40]) || decide (t.s=[123])))
def gm:Nat→List EN→PS→PR
 | 0,a,s=>(a,s)
 | m+1,a,s=>if decide (s.err=0) && s.begins then gm m (aE (nd0 6 (gk a).pos) [a,(cR ex s).1]) (cR ex s).2 else (a,s)
def kj (s:PS):PR :=
 if s.has 3 then
  let r:=cR ex s.next
  (aE { nd0 13 s.peek.pos with name:=s.peek.s } [r.1],r.2)
 else
  let r:=cR ex s
  gm ex r.2.l.length.succ r.1 r.2
def opS (s:PS):List (List UInt8 × Int)→Option Int
 | []=>none
 | q::r=>if s.sees 7 q.1 then some q.2 else opS s r
def eD:List (List UInt8 × Int):=[([42],3),([47],4)]
def gC:List (List UInt8 × Int):=[([43],1),([45],2),([94],7)]
def iL:List (List UInt8 × Int):=[([60],5),([61,61],6)]
def iP (ops:List (List UInt8 × Int)) (sub:PS→PR):Nat→List EN→PS→PR
 | 0,a,s=>(a,s)
 | m+1,a,s=>match opS s ops with
   | some n=>iP ops sub m (aE { nd0 10 s.peek.pos with n:=n } [a,(sub s.next).1]) (sub s.next).2
   | none=>(a,s)
def iB (s:PS):PR:=iP eD (kj ex) (kj ex s).2.l.length.succ (kj ex s).1 (kj ex s).2
def rZ (s:PS):PR:=iP gC (iB ex) (iB ex s).2.l.length.succ (iB ex s).1 (iB ex s).2
def qk (s:PS):PR :=
 let a:=rZ ex s
 match opS a.2 iL with
 | some n =>
   let b:=rZ ex a.2.next
   (aE { nd0 10 a.2.peek.pos with n:=n } [a.1,b.1],b.2)
 | none=>a
def p7 (s:PS) (pos:Int):PR :=
 let k:Int:=if s.sees 1 iJ then 8 else 7
 let x:=(s.may 1 iJ).of 2
 let s2:=x.2.must 7 [61]
 let a:=ex s2
 let s3:=if k=8∧(gk a.1).k≠5 then a.2.fail 5 s2.peek.pos else a.2
 let b:=ex (s3.must 1 bIn)
 (aE { nd0 k pos with name:=x.1 } [a.1,b.1],b.2)
def ifS (s:PS) (pos:Int):PR :=
 let a:=ex s
 let b:=ex (a.2.must 1 l7)
 let c:=ex (b.2.must 1 mL)
 (aE (nd0 9 pos) [a.1,b.1,c.1],c.2)
def lU (s:PS):PR :=
 let t:=s.peek
 if s.sees 1 Br then
  let x:=s.next.of 2
  let b:=ex (x.2.must 7 bTo)
  (aE { nd0 5 t.pos with name:=x.1 } [b.1],b.2)
 else if s.sees 1 zf then p7 ex s.next t.pos
 else if s.sees 1 bIf then ifS ex s.next t.pos
 else qk ex s
end
def gh:Nat→PS→PR
 | 0,s=>(noE,s.fail 6 s.peek.pos)
 | m+1,s=>if s.err≠0 then (noE,s) else
   let r:=lU (gh m) { s with nest:=s.nest+1 }
   (r.1,{ r.2 with nest:=s.nest })
end Go.Proofs.YtejpnabbmgpmaaaGreatDoor

namespace Go.Proofs.YtejpnabbmgpmaaaGreatDoor
open Go.Ab
def PSo (N:Int) (s:PS):Prop:=(∀ t∈s.l,0≤t.pos∧t.pos≤N)∧(0≤s.fin∧s.fin≤N)∧(0≤s.pos∧s.pos≤N)
structure SS (s r:PS):Prop where
 suf:∃ k,r.l=s.l.drop k
 fin:r.fin=s.fin
 nest:r.nest=s.nest
 pos:∀ N,PSo N s→0≤r.pos∧r.pos≤N
theorem SS.refl (s:PS):SS s s:=⟨⟨0,rfl⟩,rfl,rfl,fun _ h=>h.2.2⟩
theorem SS.po {s r:PS} (h:SS s r) {N:Int} (g:PSo N s):PSo N r:=by
 obtain ⟨k,hk⟩:=h.suf
 refine ⟨fun t ht=>?_,by rw [h.fin];exact g.2.1,h.pos N g⟩
 rw [hk] at ht
 exact g.1 t (List.mem_of_mem_drop ht)
theorem SS.trans {a b c:PS} (h:SS a b) (g:SS b c):SS a c:=by
 obtain ⟨k,hk⟩:=h.suf
 obtain ⟨j,hj⟩:=g.suf
 exact ⟨⟨k+j,by rw [hj,hk,List.drop_drop]⟩,g.fin.trans h.fin,g.nest.trans h.nest,fun N hN=>g.pos N (h.po hN)⟩
theorem SS.len {s r:PS} (h:SS s r):r.l.length≤s.l.length:=by
 obtain ⟨k,hk⟩:=h.suf
 rw [hk,List.length_drop];omega
theorem SS.next (s:PS):SS s s.next:=⟨⟨1,by simp [PS.next]⟩,rfl,rfl,fun _ h=>h.2.2⟩
theorem jn {N:Int} {s:PS} (h:PSo N s):0≤s.peek.pos∧s.peek.pos≤N:=by
 unfold PS.peek
 split
 ·exact h.2.1
 ·rename_i t r e
  exact h.1 t (by rw [e];exact List.mem_cons_self)
theorem SS.fail (s:PS) (e p:Int) (h:∀ N,PSo N s→0≤p∧p≤N):SS s (s.fail e p):=by
 unfold PS.fail
 split
 ·exact ⟨⟨0,rfl⟩,rfl,rfl,h⟩
 ·exact SS.refl s
theorem SS.failp (s:PS) (e:Int):SS s (s.fail e s.peek.pos):=SS.fail s e _ fun _ h=>jn h
theorem SS.wrong (s:PS):SS s s.wrong:=SS.failp s 5
theorem SS.may (s:PS) (k:Int) (t:List UInt8):SS s (s.may k t):=by
 unfold PS.may;split
 ·exact SS.next s
 ·exact SS.refl s
theorem SS.must (s:PS) (k:Int) (t:List UInt8):SS s (s.must k t):=by
 unfold PS.must;split
 ·exact SS.next s
 ·exact SS.wrong s
theorem SS.of (s:PS) (k:Int):SS s (s.of k).2:=by
 unfold PS.of;split
 ·exact SS.next s
 ·exact SS.wrong s
theorem aR {s:PS} {k:Int} {t:List UInt8} (h:s.sees k t=true):s.next.l.length+1=s.l.length:=by
 unfold PS.sees PS.is at h
 simp only [Bool.and_eq_true,Bool.not_eq_true',decide_eq_true_eq] at h
 have:s.l≠[]:=by
  intro e;rw [e] at h;simp at h
 show s.l.tail.length+1=_
 rw [List.length_tail]
 have:=List.length_pos_iff.2 this
 omega
theorem fg {s:PS} {k:Int} (h:s.peek.k=k) (hk:k≠0):s.next.l.length+1=s.l.length:=by
 have:s.l≠[]:=by
  intro e;unfold PS.peek at h;rw [e] at h;exact hk h.symm
 show s.l.tail.length+1=_
 rw [List.length_tail]
 have:=List.length_pos_iff.2 this
 omega
theorem Cr {s:PS} {k:Int} (h:s.has k=true) (hk:k≠0):s.next.l.length+1=s.l.length:=by
 unfold PS.has at h
 simp only [Bool.and_eq_true,decide_eq_true_eq] at h
 exact fg h.2 hk
def bg (ls:List (List EN)):Nat:=(ls.map List.length).sum
theorem lM:∀ (ls:List (List EN)) (acc:List EN) (rs:List Int),(bM ls acc rs).1.length=acc.length+bg ls
 | [],_,_=>by simp [bM,bg]
 | l::r,acc,rs=>by
   rw [bM,lM r]
   simp [bg,Nat.add_assoc]
theorem cz (n:EN) (ls:List (List EN)):(aE n ls).length=bg ls+1:=by
 simp [aE,lM]
def eW (b:Nat) (ns:List EN):Prop:=∀ n∈ns,n.l.length≤b
theorem vi (n:EN) (ks:List Int):(aZ n ks).l.length≤n.l.length:=by
 show (if aL n.k then aP ks (aU n.k) n.l 0 else []).length≤_
 split
 ·rw [cW];exact Nat.le_refl _
 ·exact Nat.zero_le _
theorem rG {b:Nat}:∀ (ls:List (List EN)) (acc:List EN) (rs:List Int),(∀ l∈ls,eW b l)→eW b acc→eW b (bM ls acc rs).1
 | [],_,_,_,h=>h
 | l::r,acc,rs,hl,h=>by
   refine rG r _ _ (fun x hx=>hl x (List.mem_cons_of_mem _ hx)) fun n hn=>?_
   rcases List.mem_append.1 hn with hn | hn
   ·exact h n hn
   ·obtain ⟨m,hm,rfl⟩:=List.mem_map.1 hn
    exact Nat.le_trans (vi _ _) (hl l List.mem_cons_self m hm)
theorem ct {b:Nat} {n:EN} {ls:List (List EN)} (hn:n.l.length≤b) (hl:∀ l∈ls,eW b l):eW b (aE n ls):=by
 intro m hm
 rcases List.mem_append.1 hm with hm | hm
 ·exact rG ls [] [] hl (fun _ h=>by cases h) m hm
 ·rw [List.mem_singleton.1 hm]
  exact Nat.le_trans (vi _ _) hn
theorem eW.mono {b c:Nat} {ns:List EN} (h:eW b ns) (hc:b≤c):eW c ns:=fun n hn=>Nat.le_trans (h n hn) hc
structure GP (d:Nat) (s:PS) (r:PR):Prop where
 ss:SS s r.2
 tr:Tr r.1
 sz:r.1.length+4*r.2.l.length≤4*s.l.length+d
 wd:eW (s.l.length+1-r.2.l.length) r.1
theorem GP.pre {d e:Nat} {s s':PS} {r:PR} (h:GP d s' r) (hs:SS s s') (he:4*s'.l.length+d≤4*s.l.length+e):GP e s r :=
 ⟨hs.trans h.ss,h.tr,Nat.le_trans h.sz he,h.wd.mono (by have:=hs.len;omega)⟩
theorem GP.post {d:Nat} {s:PS} {l:List EN} {s' s'':PS} (h:GP d s (l,s')) (hs:SS s' s''):GP d s (l,s'') :=
 ⟨h.ss.trans hs,h.tr,by have:=h.sz;have:=hs.len;simp only at *;omega,h.wd.mono (by have:=hs.len;have:=h.ss.len;simp only at *;omega)⟩
theorem GP.leaf {s s':PS} {n:EN} (hn:cn n=0) (hl:n.l=[]) (hs:SS s s') {d:Nat} (hd:1+4*s'.l.length≤4*s.l.length+d):GP d s (bP n,s') :=
 ⟨hs,.join n [] hn (fun _ h=>by cases h),by show (aE n []).length+_≤_;rw [cz];simp only [bg,List.map_nil,List.sum_nil];omega,ct (by rw [hl];exact Nat.zero_le _) (fun _ h=>by cases h)⟩
theorem GP.Dt {s s1:PS} {a:PR} {n:EN} {d e:Nat} (ha:GP d s1 a) (hs:SS s s1) (hn:cn n=1) (hl:n.l=[]) (he:4*s1.l.length+d+1≤4*s.l.length+e):GP e s (aE n [a.1],a.2):=by
 have h1:=ha.sz
 have h3:=hs.len
 refine ⟨hs.trans ha.ss,.join n _ hn (fun l h=>by rw [List.mem_singleton.1 h];exact ha.tr),?_,ct (by rw [hl];exact Nat.zero_le _) fun l h=>?_⟩
 ·rw [cz]
  simp only [bg,List.map_cons,List.map_nil,List.sum_cons,List.sum_nil]
  omega
 ·rw [List.mem_singleton.1 h]
  exact ha.wd.mono (by simp only;omega)
theorem GP.qF {s s1 s2:PS} {a b:PR} {n:EN} {d d' e:Nat} (ha:GP d s1 a) (hb:GP d' s2 b) (hs:SS s s1) (hm:SS a.2 s2) (hn:cn n=2) (hl:n.l=[])
  (he:4*s1.l.length+4*s2.l.length+d+d'+1≤4*s.l.length+4*a.2.l.length+e):GP e s (aE n [a.1,b.1],b.2):=by
 have h1:=ha.sz
 have h2:=hb.sz
 have h3:=hs.len
 have h4:=hm.len
 have h5:=ha.ss.len
 have h6:=hb.ss.len
 refine ⟨((hs.trans ha.ss).trans hm).trans hb.ss,.join n _ hn (fun l h=>?_),?_,ct (by rw [hl];exact Nat.zero_le _) fun l h=>?_⟩
 ·rcases List.mem_cons.1 h with rfl | h
  ·exact ha.tr
  ·rw [List.mem_singleton.1 h];exact hb.tr
 ·rw [cz]
  simp only [bg,List.map_cons,List.map_nil,List.sum_cons,List.sum_nil]
  omega
 ·rcases List.mem_cons.1 h with rfl | h
  ·exact ha.wd.mono (by simp only;omega)
  ·rw [List.mem_singleton.1 h];exact hb.wd.mono (by simp only;omega)
theorem GP.Gn {s s1 s2 s3:PS} {a b c:PR} {n:EN} {d e:Nat} (ha:GP d s1 a) (hb:GP d s2 b) (hc:GP d s3 c) (hs:SS s s1) (hm:SS a.2 s2) (hm':SS b.2 s3) (hn:cn n=3) (hl:n.l=[])
  (he:4*s1.l.length+3*d+1≤4*s.l.length+e):GP e s (aE n [a.1,b.1,c.1],c.2):=by
 have h1:=ha.sz
 have h2:=hb.sz
 have h2':=hc.sz
 have h3:=hs.len
 have h4:=hm.len
 have h4':=hm'.len
 have h5:=ha.ss.len
 have h6:=hb.ss.len
 have h7:=hc.ss.len
 refine ⟨((((hs.trans ha.ss).trans hm).trans hb.ss).trans hm').trans hc.ss,.join n _ hn (fun l h=>?_),?_,ct (by rw [hl];exact Nat.zero_le _) fun l h=>?_⟩
 ·simp only [List.mem_cons,List.not_mem_nil,or_false] at h
  rcases h with rfl | rfl | rfl
  ·exact ha.tr
  ·exact hb.tr
  ·exact hc.tr
 ·rw [cz]
  simp only [bg,List.map_cons,List.map_nil,List.sum_cons,List.sum_nil]
  omega
 ·simp only [List.mem_cons,List.not_mem_nil,or_false] at h
  rcases h with rfl | rfl | rfl
  ·exact ha.wd.mono (by simp only;omega)
  ·exact hb.wd.mono (by simp only;omega)
  ·exact hc.wd.mono (by simp only;omega)
end Go.Proofs.YtejpnabbmgpmaaaGreatDoor

namespace Go.Proofs.YtejpnabbmgpmaaaGreatDoor
open Go.Ab
theorem sn (l:List EN):∀ (a:List (List EN)) (acc:List EN) (rs:List Int),bM (a++[l]) acc rs=((bM a acc rs).1++l.map (aO (bM a acc rs).1.length),(bM a acc rs).2++[(((bM a acc rs).1.length+l.length:Nat):Int)-1])
 | [],_,_=>rfl
 | _::r,_,_=>sn l r _ _
def fN (ls:List (List EN)) (i:Nat):List EN × List Int:=bM (ls.take i) [] []
theorem vK {ls:List (List EN)} {i:Nat} (h:i<ls.length):fN ls (i+1)=((fN ls i).1++ls[i].map (aO (fN ls i).1.length),(fN ls i).2++[(((fN ls i).1.length+ls[i].length:Nat):Int)-1]):=by
 unfold fN
 rw [List.take_succ_eq_append_getElem h,sn]
theorem AD (ls:List (List EN)):fN ls ls.length=bM ls [] []:=by rw [fN,List.take_length]
theorem xY (a b:List (List EN)):bg (a++b)=bg a+bg b:=by simp [bg]
theorem Am {ls:List (List EN)} {i:Nat} (h:i<ls.length):(fN ls i).1.length+ls[i].length≤bg ls:=by
 have h1:(fN ls i).1.length=bg (ls.take i):=by unfold fN;rw [lM];simp
 have h2:bg ls=bg (ls.take i)+bg (ls.drop i):=by rw [← xY,List.take_append_drop]
 have h3:bg (ls.drop i)=ls[i].length+bg (ls.drop (i+1)):=by rw [List.drop_eq_getElem_cons h];unfold bg;rw [List.map_cons,List.sum_cons]
 omega
theorem ta:∀ (ls:List (List EN)) (acc:List EN) (rs:List Int),(bM ls acc rs).2.length=rs.length+ls.length
 | [],_,_=>by simp [bM]
 | l::r,acc,rs=>by rw [bM,ta];simp;omega
theorem Cj (ls:List (List EN)) (i:Nat):(fN ls i).2.length≤i:=by unfold fN;rw [ta];simp;omega
def j1 (off:Nat) (K:List Int) (x:Nat):List Int:=((K.take x).map fun k:Int=>k+off)++K.drop x
theorem xy (off:Nat) (K:List Int):j1 off K K.length=K.map fun k:Int=>k+off:=by simp [j1]
theorem zM (off:Nat) (K:List Int) (x:Nat):(j1 off K x).length=K.length:=by
 simp only [j1,List.length_append,List.length_map,List.length_take,List.length_drop];omega
theorem Ar {off:Nat} {K:List Int} {x:Nat} (h:x<K.length):(j1 off K x).getD x 0=K.getD x 0:=by
 unfold j1
 rw [List.getD_eq_getElem?_getD,List.getElem?_append_right (by simp;omega)]
 simp [Nat.min_eq_left (Nat.le_of_lt h),h]
theorem vN {off:Nat} {K:List Int} {x:Nat} (h:x<K.length):(j1 off K x).set x (K.getD x 0+off)=j1 off K (x+1):=by
 have h1:K.take (x+1)=K.take x++[K[x]]:=by simp
 have h2:K.drop x=K[x]::K.drop (x+1):=List.drop_eq_getElem_cons h
 unfold j1
 have h3:((K.take x).map fun k:Int=>k+off).length=x:=by simp;omega
 rw [h1,h2,List.set_append_right _ _ (by omega),h3,Nat.sub_self,List.set_cons_zero,List.map_append,List.append_assoc]
 simp [h]
theorem Cy {ls:List (List EN)} {i:Nat} (h:i<ls.length):(ls.map exD).getD i .nilp=.agg [.sl (some 9) (ls[i].map enD)]:=by simp [h,exD]
theorem pg (M:EN):enD M=.agg [i64 M.k,i64 M.a,i64 M.b,i64 M.c,i64 M.n,.str M.name,.str M.s,.sl (some 3) (M.l.map fD),i64 M.pos]:=rfl
theorem qe {G} (n:EN) (ls:List (List EN)) (hn:n.l.length≤1000000) (hL:ls.length≤1000000) (hS:bg ls≤1000000) (hk:∀ l∈ls,∀ m∈l,fU l.length m) (hw:∀ l∈ls,eW 900000 l) :
  HP Tryz.prog G 77 [enD n,.sl (some 1) (ls.map exD)] (fun r=>r=.d (exD (aE n ls))):=by
 unfold enD efD
 refine bz Tryz.func77 rfl (by decide +kernel) (by simp [Tryz.ntmps77]) (veil fun E=>?_)
 simp only [go_sem]
 refine pj E 6 98 none rfl (by rw [aa];decide) ?_
 simp only [go_sem]
 refine pn E [5] 0 97 (some 9) [.d .nils] rfl rfl (by rw [aa];decide) ?_
 simp only [go_sem]
 refine aw E (X:={ i:Nat // i≤ls.length }) (fun x=>[(2,.bx [2] 0),(4,.bx [4] 0),(5,.bx [5] 0),(6,.vw [98] 0 (fN ls x.1).2.length),(14,.d (.sl (some 1) (ls.map exD))),(15,.d (i64 ls.length)),(16,.d (i64 x.1))])
  (fun x=>[([2],.box [.d (i64 n.k),.d (i64 n.a),.d (i64 n.b),.d (i64 n.c),.d (i64 n.n),.d (.str n.name),.d (.str n.s),.d (.sl (some 3) (n.l.map fD)),.d (i64 n.pos)]),([4],.box [.d .nils]),([5],.box [.vw [97] 0 (fN ls x.1).1.length]),([97],.arr (some 9) ((fN ls x.1).1.map enD)),([98],.arr none ((fN ls x.1).2.map i64))]) [2,4,5,97,98] (fun x=>ls.length-x.1) ⟨0,Nat.zero_le _⟩ id ?_ ?_
 ·simp only [go_sem]
  exact ⟨rfl,rfl,rfl,rfl⟩
 rintro ⟨i,hi⟩ E0
 refine aH E0 fun Q' hQ E'=>?_
 simp only at hi ⊢
 simp only [go_sem]
 refine ah E' (fun h1=>?_) (fun h1=>?_)<;>simp only [go_sem]
 ·have h1':i<ls.length:=by omega
  refine ⟨by omega,?_⟩
  rw [Cy h1']
  obtain ⟨l,hle⟩:∃ l,l=ls[i]:=⟨_,rfl⟩
  have hmem:l∈ls:=by rw [hle];exact List.getElem_mem h1'
  have hcl:=Am h1'
  have hcs:=vK h1'
  have hcr:=Cj ls i
  rw [← hle] at hcl hcs ⊢
  obtain ⟨acc,hacc⟩:∃ acc,acc=(fN ls i).1:=⟨_,rfl⟩
  obtain ⟨rs,hrs⟩:∃ rs,rs=(fN ls i).2:=⟨_,rfl⟩
  rw [← hacc] at hcl hcs
  rw [← hrs] at hcr hcs
  simp only [← hacc,← hrs]
  simp only [go_sem]
  refine aw E' (X:={ j:Nat // j≤l.length }) (fun x=>[(2,.bx [2] 0),(4,.bx [4] 0),(5,.bx [5] 0),(6,.vw [98] 0 rs.length),(14,.d (.sl (some 1) (ls.map exD))),(15,.d (i64 ls.length)),(16,.d (i64 i)),(9,.d (i64 acc.length)),(24,.d (.sl (some 9) (l.map enD))),(25,.d (i64 l.length)),(26,.d (i64 x.1))])
   (fun x=>[([2],.box [.d (i64 n.k),.d (i64 n.a),.d (i64 n.b),.d (i64 n.c),.d (i64 n.n),.d (.str n.name),.d (.str n.s),.d (.sl (some 3) (n.l.map fD)),.d (i64 n.pos)]),([4],.box [.d .nils]),([5],.box [.vw [97] 0 (acc.length+x.1)]),([97],.arr (some 9) ((acc++(l.take x.1).map (aO acc.length)).map enD)),([98],.arr none (rs.map i64))]) [2,4,5,97,98] (fun x=>l.length-x.1) ⟨0,Nat.zero_le _⟩ id ?_ ?_
  ·simp only [go_sem]
   all_goals first | rfl | simp
  rintro ⟨j,hj⟩ E2
  refine aH E2 fun Q2 hQ2 E3=>?_
  simp only at hj ⊢
  simp only [go_sem]
  refine ah E3 (fun h2=>?_) (fun h2=>?_)<;>simp only [go_sem]
  ·have h2':j<l.length:=by omega
   refine ⟨by omega,?_⟩
   rw [cM h2',dA h2']
   obtain ⟨m,hm⟩:∃ m,m=l[j]:=⟨_,rfl⟩
   have hmm:m∈l:=by rw [hm];exact List.getElem_mem h2'
   have hmk:=hk l hmem m hmm
   have hml:=hw l hmem m hmm
   rw [← hm]
   simp only [go_sem]
   refine ab E3 [.d (enD m)] [] [] (mW m (by omega)) rfl rfl ⟨by simp only [go_sem],by rw [aa];decide⟩ rfl (by simp only [go_sem]) (by simp only [go_sem]) ?_
   rintro _ _ ⟨rfl,rfl⟩
   simp only [go_sem]
   have hKl:(ar m).length≤1000000:=by
    rw [dU];unfold cn
    have:=da m.k
    split<;>omega
   have hKk:∀ q,q<(ar m).length→0≤(ar m).getD q 0∧(ar m).getD q 0<l.length:=fun q hq=>hmk _ (by simp [hq])
   have hwm:aZ m ((ar m).map fun k:Int=>k+acc.length)=aO acc.length m:=rfl
   obtain ⟨K,hK⟩:∃ K,K=ar m:=⟨_,rfl⟩
   rw [← hK] at hKl hKk hwm ⊢
   refine aw E3 (X:={ q:Nat // q≤K.length }) (fun x=>[(2,.bx [2] 0),(4,.bx [4] 0),(5,.bx [5] 0),(6,.vw [98] 0 rs.length),(11,.bx [11] 0),(12,.vw [96] 0 K.length),(14,.d (.sl (some 1) (ls.map exD))),(15,.d (i64 ls.length)),(16,.d (i64 i)),(9,.d (i64 acc.length)),(24,.d (.sl (some 9) (l.map enD))),(25,.d (i64 l.length)),(26,.d (i64 j)),(33,.d (i64 K.length)),(34,.d (i64 x.1))])
    (fun x=>[([2],.box [.d (i64 n.k),.d (i64 n.a),.d (i64 n.b),.d (i64 n.c),.d (i64 n.n),.d (.str n.name),.d (.str n.s),.d (.sl (some 3) (n.l.map fD)),.d (i64 n.pos)]),([4],.box [.d .nils]),([5],.box [.vw [97] 0 (acc.length+j)]),([97],.arr (some 9) ((acc++(l.take j).map (aO acc.length)).map enD)),([98],.arr none (rs.map i64)),
     ([11],.box [.d (i64 m.k),.d (i64 m.a),.d (i64 m.b),.d (i64 m.c),.d (i64 m.n),.d (.str m.name),.d (.str m.s),.d (.sl (some 3) (m.l.map fD)),.d (i64 m.pos)]),([96],.arr none ((j1 acc.length K x.1).map i64))]) [2,4,5,11,96,97,98] (fun x=>K.length-x.1) ⟨0,Nat.zero_le _⟩ (tau [([96],[31,0])]) ?_ ?_
   ·simp only [go_sem]
    all_goals rfl
   rintro ⟨q,hq⟩ E4
   refine aH E4 fun Q4 hQ4 E5=>?_
   simp only at hq ⊢
   simp only [go_sem]
   refine ah E5 (fun h3=>?_) (fun h3=>?_)<;>simp only [go_sem]
   ·have h3':q<K.length:=by omega
    have hpl:=zM acc.length K q
    have hin:=hKk q h3'
    rw [show ((j1 acc.length K q).map i64).getD q .nilp=i64 (K.getD q 0) by rw [← Ar h3',b9 (by omega)]]
    simp only [go_sem]
    refine ⟨⟨by omega,by omega⟩,⟨by omega,by omega⟩,?_⟩
    have hmp:((j1 acc.length K q).map i64).set q (.int .i64 (w64 (K.getD q 0+acc.length)))=(j1 acc.length K (q+1)).map i64:=by
     rw [ai ⟨by omega,by omega⟩,← vN h3',List.map_set]
    rw [hmp,hQ4]
    simp only [go_sem]
    refine ⟨⟨q+1,by omega⟩,by show K.length-(q+1)<_;omega,id,?_⟩
    rw [ai ⟨by omega,by omega⟩]
    simp only [go_sem]
    all_goals rfl
   ·have hq2:q=K.length:=by omega
    subst hq2
    rw [xy,hQ4]
    simp only [go_sem]
    refine ky E3 [96] none ((K.map fun k:Int=>k+acc.length).map i64) rfl ?_
    simp only [go_sem]
    refine al mixed E3 fun X=>?_
    simp only [go_sem]
    rw [List.take_of_length_le (l:=List.map i64 _) (by simp)]
    refine aF X (uj m (K.map fun k:Int=>k+acc.length) (by omega) (by rw [List.length_map];exact hKl)) rfl rfl (by simp) ?_
    obtain ⟨M,hM⟩:∃ M,M=aO acc.length m:=⟨_,rfl⟩
    rw [hwm,← hM,pg M]
    simp only [go_sem]
    have hout:List.take (acc.length+j) (List.map enD (acc++List.map (aO acc.length) (List.take j l)))++[.agg [i64 M.k,i64 M.a,i64 M.b,i64 M.c,i64 M.n,.str M.name,.str M.s,.sl (some 3) (M.l.map fD),i64 M.pos]]=(acc++(l.take (j+1)).map (aO acc.length)).map enD:=by
     rw [List.take_of_length_le (by simp;omega),List.take_succ_eq_append_getElem h2',← hm]
     simp only [List.map_append,List.map_cons,List.map_nil,← hM,← pg M,List.append_assoc]
    rw [hout]
    refine ⟨by omega,by decide +kernel,?_⟩
    rw [hQ2]
    simp only [go_sem]
    refine ⟨⟨j+1,by omega⟩,by show l.length-(j+1)<_;omega,tau [([97],[51])],?_⟩
    rw [ai ⟨by omega,by omega⟩]
    simp only [go_sem]
    exact ⟨rfl,rfl⟩
  ·rw [hQ2]
   simp only [go_sem]
   have hj2:j=l.length:=by omega
   subst hj2
   have hro:List.map i64 rs++[.int .i64 (w64 (((acc.length+l.length:Nat):Int)-1))]=(rs++[((acc.length+l.length:Nat):Int)-1]).map i64:=by
    rw [ai ⟨by omega,by omega⟩]
    simp only [List.map_append,List.map_cons,List.map_nil]
   rw [hro]
   refine ⟨by omega,?_⟩
   rw [hQ]
   simp only [go_sem]
   refine ⟨⟨i+1,by omega⟩,by show ls.length-(i+1)<_;omega,tau [([98],[60])],?_⟩
   simp only [hcs]
   rw [ai ⟨by omega,by omega⟩]
   simp only [go_sem]
   simp only [List.length_append,List.length_map,List.length_singleton]
   refine ⟨⟨trivial,rfl⟩,?_⟩
   first | rfl | exact ⟨rfl,rfl⟩ | exact ⟨trivial,rfl⟩ | exact ⟨rfl,trivial⟩ | trivial
 ·rw [hQ]
  have hi2:i=ls.length:=by omega
  subst hi2
  rw [AD]
  obtain ⟨acc,hacc⟩:∃ acc,acc=(bM ls [] []).1:=⟨_,rfl⟩
  obtain ⟨rs,hrs⟩:∃ rs,rs=(bM ls [] []).2:=⟨_,rfl⟩
  have hal:acc.length=bg ls:=by rw [hacc,lM];simp
  have hrl:rs.length=ls.length:=by rw [hrs,ta];simp
  have hj:aE n ls=acc++[aZ n rs]:=by unfold aE;rw [← hacc,← hrs]
  rw [← hacc,← hrs]
  simp only [go_sem]
  refine ky E [98] none (rs.map i64) rfl ?_
  simp only [go_sem]
  refine al mixed E fun X=>?_
  simp only [go_sem]
  refine aF X (uj n rs hn (by omega)) rfl rfl (by simp) ?_
  obtain ⟨M,hM⟩:∃ M,M=aZ n rs:=⟨_,rfl⟩
  rw [← hM,pg M]
  simp only [go_sem]
  have hout:List.map enD acc++[.agg [i64 M.k,i64 M.a,i64 M.b,i64 M.c,i64 M.n,.str M.name,.str M.s,.sl (some 3) (M.l.map fD),i64 M.pos]]=(aE n ls).map enD:=by
   rw [hj,← hM,List.map_append,← pg];rfl
  rw [hout]
  refine ⟨by omega,by decide +kernel,[([68],some 9,(aE n ls).map enD)],?_⟩
  simp only [go_sem]
  rw [List.take_of_length_le (by rw [hj];simp)]
  rfl
end Go.Proofs.YtejpnabbmgpmaaaGreatDoor

