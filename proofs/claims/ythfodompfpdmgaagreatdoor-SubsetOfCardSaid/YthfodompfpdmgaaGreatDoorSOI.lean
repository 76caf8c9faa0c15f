/-
  Texts joined: a builder that grows, strings.Join; a cluster's key. (with the parts that follow it)
-/
import Derived.Test.YthfodompfpdmgaaGreatDoorSOH
import Derived.Test.YthfodompfpdmgaaGreatDoorSOG
import Derived.Test.YthfodompfpdmgaaGreatDoorSOD
import Derived.Shelf.SlIter.Nil
import Derived.Shelf.SlIter.Sorted
import Derived.Shelf.SortM.Plain
import Derived.Shelf.SortM.SortNone
import Derived.Ground.GgzProg
import Derived.Ground.SlgmProg
import Derived.Sort.KeysCollected
set_option linter.all false
namespace Go.Proofs.YthfodompfpdmgaaGreatDoor
open Go.Ab
def spB:List UInt8:=[32]
def u0 (sep:List UInt8):List (List UInt8)→List UInt8
 | []=>[]
 | a::r=>a++r.flatMap (sep++·)
def AM:List (Name × Ob):=[([0],.boxT (some 177) [.bx [0] 0,.d .nils])]
def yI (n:Nat):List (Name × Ob):=[([0],.boxT (some 177) [.bx [0] 0,.vw [2] 0 0]),([2],.arrT (some 5) none (List.replicate n .unk))]
def pF (n:Nat):List (Name × Ob):=[([0],.boxT (some 177) [.bx [0] 0,.vw [1] 0 0]),([1],.arrT (some 5) none (List.replicate n .unk))]
theorem yx {G}:HCall Tryz.prog G 147 [.bx [0] 0] rH [0] (fun r hp'=>r=.tup []∧hp'=AM):=by
 unfold rH AM
 refine aL Tryz.func147 rfl (by decide +kernel) (by simp [Tryz.ntmps147]) (veil fun E=>?_)
 simp only [go_sem]
 refine tP E (e:=177) true (by rw [k5]) (by simp only [go_sem]) rfl ?_
 simp only [go_sem]
 refine HA E (e:=177) [0] 0 177 [.d .nilp,.d .nils] (by rw [k5]) Hk (by kernel_rfl) (by simp only [go_sem]) rfl rfl (by decide) ?_
 simp only [go_sem]
 refine Cc E 172 (.bx [0] 0) noesc (by simp only [go_sem]) rfl rfl ?_
 simp only [go_sem]
 simp only [Hr]
 simp only [go_sem]
 refine GL E (e:=177) [0] 0 177 [.d .nilp,.d .nils] (by rw [k5]) Hk (by kernel_rfl) (by simp only [go_sem]) rfl rfl 2 rfl (by kernel_rfl) ?_
 simp only [go_sem]
 refine ⟨_,_,[0],id,⟨rfl,rfl⟩,?_⟩
 simp only [go_sem]
theorem Fs {G} (n:Nat):HCall Tryz.prog G 147 [.bx [0] 0] (pF n) [0,1] (fun r hp'=>r=.tup []∧hp'=pF n):=by
 unfold pF
 generalize List.replicate n D.unk=xs
 refine aL Tryz.func147 rfl (by decide +kernel) (by simp [Tryz.ntmps147]) (veil fun E=>?_)
 simp only [go_sem]
 refine tP E (e:=177) false (by rw [k5]) (by simp only [go_sem]) rfl ?_
 simp only [go_sem]
 refine wB E (e:=177) [0] 0 (by rw [k5]) (by kernel_rfl) (by simp only [go_sem]) rfl rfl rfl ?_
 simp only [go_sem]
 refine ⟨_,_,[0,1],id,⟨rfl,rfl⟩,?_⟩
 simp only [go_sem]
theorem Fv {G} (n:Nat) (s:List UInt8) (hl:s.length≤100000000):HCall Tryz.prog G 124 [.bx [0] 0,.d (.str s)] (pF n) [0,1] (fun r hp'=>r=.tup [.d (i64 (s.length:Nat)),.d .nili]∧hp'=tv s):=by
 have h0:=Fs (G:=G) n
 unfold pF at *
 unfold tv
 generalize List.replicate n D.unk=xs at *
 refine aL Tryz.func124 rfl (by decide +kernel) (by simp [Tryz.ntmps124]) (veil fun E=>?_)
 simp only [go_sem]
 refine bn E [.bx [0] 0] [([0],.boxT (some 177) [.bx [0] 0,.vw [1] 0 0]),([1],.arrT (some 5) none xs)] [0,1] h0 rfl rfl ⟨by simp only [go_sem],by rw [aa];decide⟩ rfl (by simp only [go_sem]) (by simp only [go_sem]) ?_
 rintro _ _ ⟨rfl,rfl⟩
 simp only [go_sem]
 refine ⟨Nat.le_refl _,?_⟩
 refine wR E (d:=14) (e:=5) (some 5) [1] xs 0 s (by rw [mP]) (by rw [ti9]) (by rw [ti5];rfl) (by rw [ti5];rfl) (by rw [ti5];rfl) rfl ⟨by simp only [go_sem],by rw [aa];decide⟩ rfl rfl rfl (by rw [ti5];simp [TI.by1];omega) ?_
 rw [List.take_zero,List.nil_append,Nat.zero_add]
 simp only [go_sem]
 refine ⟨_,_,[0,1,2],tau [([2],[14])],⟨rfl,rfl⟩,?_⟩
 simp only [go_sem]
theorem DP (n:Nat) (hn:n≤281474976710656) (w:World):∃ cs:Array Value,(callFunc 173 #[.int .i64 n]).run Tryz.prog w=.ok (.value (.slice (some ⟨w.heap.size,0,none⟩) n cs.size)) (w.drew.drew.alloc (.cells cs 5))∧n≤cs.size∧∀ v∈cs,v.oneCell'=true:=by
 obtain ⟨cs,h1,h2,h3⟩:=DR (P:=Tryz.prog) w #[3] 175 5 (by kernel_rfl) n hn
 refine ⟨cs,?_,h2,h3⟩
 rw [run_callFunc_extern Tryz.func173 (by kernel_rfl) (by kernel_rfl) (by kernel_rfl) (e:=Extern.BytealgMakeNoZero.makeNoZero #[3] #[175]) (by kernel_rfl),h1]
 rfl
theorem B3 {G} (n:Nat) (hn:n≤200000000):HCall Tryz.prog G 148 [.bx [0] 0,.d (i64 (n:Int))] AM [0] (fun r hp'=>r=.tup []∧hp'=yI n):=by
 unfold AM yI
 refine aL Tryz.func148 rfl (by decide +kernel) (by simp [Tryz.ntmps148]) (veil fun E=>?_)
 simp only [go_sem]
 refine ag mixed E fun X=>?_
 simp only [go_sem]
 refine aI X (d:=6) [0] 0 (some 177) [.bx [0] 0,.d .nils] (by simp only [go_sem]) rfl rfl ?_
 simp only [go_sem]
 refine y8 X (d:=9) (t:=175) (e:=5) (by rw [mP]) (by simp only [go_sem]) rfl ?_
 simp only [go_sem]
 have hw:w64 (w64 (2*0)+(n:Int))=(n:Int):=by rw [show w64 (2*0)=0 by decide +kernel,Int.zero_add,ab ⟨by omega,by omega⟩]
 refine Hb X (d:=13) (e:=5) (n:=n) 173 (DP n (by omega)) ⟨by simp only [go_sem],by rw [aa];decide⟩ rfl (by simp only [go_sem];rw [hw]) ?_
 simp only [go_sem]
 refine aI X (d:=15) [0] 0 (some 177) [.bx [0] 0,.d .nils] (by simp only [go_sem]) rfl rfl ?_
 simp only [go_sem]
 refine Hd X (d:=19) (t:=175) (e:=5) (b:=0) [13] (some 5) none (List.replicate n .unk) (by rw [mP]) (by rw [ti5];rfl) (by simp only [go_sem]) rfl rfl rfl (Nat.zero_le _) ?_
 simp only [go_sem]
 refine ⟨by decide +kernel,?_⟩
 refine CY E (d:=25) (e0:=5) (by simp only [go_sem]) (by rw [mP]) (by rw [ti5];rfl) rfl rfl rfl ?_
 simp only [go_sem]
 refine ⟨_,_,[0,2],tau [([2],[13])],⟨rfl,rfl⟩,?_⟩
 simp only [go_sem]
theorem Db {G} (n:Nat) (h0:0<n) (hn:n≤200000000):HCall Tryz.prog G 123 [.bx [0] 0,.d (i64 (n:Int))] rH [0] (fun r hp'=>r=.tup []∧hp'=yI n):=by
 have hc:=yx (G:=G)
 have hg:=B3 (G:=G) n hn
 unfold yI rH AM at *
 generalize List.replicate n D.unk=xs at *
 refine aL Tryz.func123 rfl (by decide +kernel) (by simp [Tryz.ntmps123]) (veil fun E=>?_)
 simp only [go_sem]
 refine bn E [.bx [0] 0] [([0],.boxT (some 177) [.d .nilp,.d .nils])] [0] hc rfl rfl ⟨by simp only [go_sem],by rw [aa];decide⟩ rfl (by simp only [go_sem]) (by simp only [go_sem]) ?_
 rintro _ _ ⟨rfl,rfl⟩
 simp only [go_sem]
 refine ai E (fun h1=>?_) (fun h1=>?_)<;>simp only [go_sem]
 ·omega
 refine ag mixed E fun X=>?_
 simp only [go_sem]
 refine aI X (d:=10) [0] 0 (some 177) [.bx [0] 0,.d .nils] (by simp only [go_sem]) rfl rfl ?_
 simp only [go_sem]
 refine y8 X (d:=13) (t:=175) (e:=5) (by rw [mP]) (by simp only [go_sem]) rfl ?_
 simp only [go_sem]
 refine aI X (d:=15) [0] 0 (some 177) [.bx [0] 0,.d .nils] (by simp only [go_sem]) rfl rfl ?_
 simp only [go_sem]
 refine ⟨by decide +kernel,?_⟩
 refine ai E (fun h2=>?_) (fun h2=>?_)<;>simp only [go_sem]
 ·refine bn E [.bx [0] 0,.d (i64 (n:Int))] [([0],.boxT (some 177) [.bx [0] 0,.d .nils])] [0] hg rfl rfl ⟨by simp only [go_sem],by rw [aa];decide⟩ rfl (by simp only [go_sem]) (by simp only [go_sem]) ?_
  rintro _ _ ⟨rfl,rfl⟩
  simp only [go_sem]
  refine ⟨_,_,[0,2],tau [([2],[24,2])],⟨rfl,rfl⟩,?_⟩
  simp only [go_sem]
 ·rw [show w64 0=0 by decide +kernel] at h2
  omega
theorem BY (k:Nat) (h1:1≤k) (h2:k≤10000):2<(9223372036854775807:Int).tdiv (k:Int):=by
 rw [Int.tdiv_eq_ediv_of_nonneg (by decide)]
 have:(3:Int)≤9223372036854775807 / (k:Int):=(Int.le_ediv_iff_mul_le (by omega)).2 (by omega)
 omega
def dI (l:List (List UInt8)):Nat:=(l.map List.length).sum
theorem oV {l:List (List UInt8)} {i:Nat} (h:i<l.length):dI (l.take (i+1))=dI (l.take i)+(l.getD i []).length:=by
 unfold dI
 rw [List.take_succ_eq_append_getElem h,List.map_append,List.sum_append,List.getD_eq_getElem?_getD,List.getElem?_eq_getElem h]
 simp
theorem qN (l:List (List UInt8)) (i:Nat):dI (l.take i)≤dI l:=by
 have h:dI l=dI (l.take i)+dI (l.drop i):=by
  unfold dI
  rw [← List.sum_append,← List.map_append,List.take_append_drop]
 omega
theorem yQ (r:List (List UInt8)):(r.flatMap (spB++·)).length=dI r+r.length:=by
 induction r with
 | nil=>rfl
 | cons a r ih =>
   rw [List.flatMap_cons,List.length_append,List.length_append,ih]
   unfold dI
   rw [List.map_cons,List.sum_cons,List.length_cons,show spB.length=1 from rfl]
   omega
theorem Fu {G} (l:List (List UInt8)) (hn:l.length≤10000) (hs:dI l≤90000000):HP Tryz.prog G 85 [strs l,.str [32]] (fun r=>r=.d (.str (u0 spB l))):=by
 unfold strs
 have hml:(l.map D.str).length=l.length:=List.length_map ..
 have hget:=fun i (h:i<l.length)=>ir (l:=l) h
 have hle:=qN l
 have hstp:=fun i (h:i<l.length)=>oV (l:=l) h
 refine ao Tryz.func85 rfl (by decide +kernel) (by simp [Tryz.ntmps85]) (veil fun E=>?_)
 simp only [go_sem]
 refine ai E (fun h0=>?_) (fun h0=>?_)<;>simp only [go_sem]
 ·have:l=[]:=List.length_eq_zero_iff.1 (by omega)
  rw [this];rfl
 refine ai E (fun h1=>?_) (fun h1=>?_)<;>simp only [go_sem]
 ·obtain ⟨a,rfl⟩:=List.length_eq_one_iff.1 (show l.length=1 by omega)
  refine ⟨by simp,?_⟩
  simp only [List.map_cons,List.map_nil,List.getD_cons_zero]
  simp only [go_sem]
  simp [u0]
 have hk:=BY (l.length-1) (by omega) (by omega)
 have ew:w64 ((l.length:Int)-1)=((l.length-1:Nat):Int):=by rw [ab ⟨by omega,by omega⟩];omega
 have hk2:(9223372036854775807:Int).tdiv ((l.length-1:Nat):Int)≤9223372036854775807:=by
  rw [Int.tdiv_eq_ediv_of_nonneg (by decide)]
  exact Int.ediv_le_self _ (by decide)
 refine ⟨by rw [ew];omega,?_⟩
 refine ai E (fun h2=>?_) (fun h2=>?_)<;>simp only [go_sem]
 ·exfalso
  rw [ew,ab ⟨by omega,by omega⟩] at h2
  omega
 have e5:w64 (0+w64 (1*w64 ((l.length:Int)-1)))=((1*(l.length-1):Nat):Int):=by
  rw [ew,ab (n:=1*((l.length-1:Nat):Int)) ⟨by omega,by omega⟩,Int.zero_add,ab ⟨by omega,by omega⟩]
  omega
 have hall:=qN l
 refine au E (X:={ i:Nat // i≤l.length }) (fun x=>[(0,.d (.sl none (l.map .str))),(1,.d (.str [32])),(5,.d (i64 ((1*(l.length-1)+dI (l.take x.1):Nat):Int))),(39,.d (.sl none (l.map .str))),(40,.d (i64 (l.length:Nat))),(41,.d (i64 x.1))])
  (fun _=>[]) [] (fun x=>l.length-x.1) ⟨0,Nat.zero_le _⟩ id ?_ ?_
 ·simp only [go_sem]
  rw [e5]
  all_goals ((repeat' apply And.intro)<;>first | rfl | trivial)
 rintro ⟨i,hi⟩ E0
 refine aR E0 fun Q' hQ E'=>?_
 simp only at hi ⊢
 simp only [go_sem]
 refine ai E' (fun g=>?_) (fun g=>?_)<;>simp only [go_sem]
 ·have hi':i<l.length:=by omega
  have h3:=hstp i hi'
  have h4:=hle (i+1)
  refine ⟨by omega,?_⟩
  rw [hget i hi']
  simp only [go_sem]
  generalize l.getD i []=s at h3 ⊢
  refine ai E' (fun g2=>?_) (fun g2=>?_)<;>simp only [go_sem]
  ·exfalso
   rw [ab ⟨by omega,by omega⟩] at g2
   omega
  rw [hQ]
  simp only [go_sem]
  rw [ab (n:=((1*(l.length-1)+dI (l.take i):Nat):Int)+(s.length:Int)) ⟨by omega,by omega⟩,ab (n:=(i:Int)+1) ⟨by omega,by omega⟩]
  refine ⟨⟨i+1,by omega⟩,by show l.length-(i+1)<l.length-i;omega,id,?_⟩
  simp only [go_sem]
  rw [show ((1*(l.length-1)+dI (l.take (i+1)):Nat):Int)=((1*(l.length-1)+dI (l.take i):Nat):Int)+(s.length:Int) by omega]
  all_goals ((repeat' apply And.intro)<;>first | rfl | trivial)
 have hi':i=l.length:=by omega
 subst hi'
 rw [List.take_length] at *
 rw [hQ]
 simp only [go_sem]
 obtain ⟨a,r,hl⟩:∃ a r,l=a::r:=by
  cases l with
  | nil=>simp at h0
  | cons a r=>exact ⟨a,r,rfl⟩
 subst hl
 rw [List.length_cons] at *
 have hsa:dI (a::r)=a.length+dI r:=by unfold dI;rw [List.map_cons,List.sum_cons]
 have hfl:=fun i=>yQ (r.take i)
 have hrl:=qN r
 have hbd:∀ i,((r.take i).flatMap (spB++·)).length≤90000000+20000:=fun i=>by
  have h1:=hfl i
  have h2:=hrl i
  rw [List.length_take] at h1
  omega
 have hst2:∀ i,i<r.length→(r.take (i+1)).flatMap (spB++·)=(r.take i).flatMap (spB++·)++[32]++r.getD i []:=fun i hi=>by
  rw [List.take_succ_eq_append_getElem hi,List.flatMap_append,List.getD_eq_getElem?_getD,List.getElem?_eq_getElem hi]
  simp [spB]
 have hgr:=fun i (h:i<r.length)=>ir (l:=r) h
 have hel:∀ i,(r.getD i []).length≤90000000:=fun i=>by
  by_cases hi:i<r.length
  ·have h1:=oV hi
   have h2:=hrl (i+1)
   omega
  ·rw [List.getD_eq_getElem?_getD,List.getElem?_eq_none (by omega)]
   exact Nat.zero_le _
 refine aM E (tau [([0],[8])]) [.bx [0] 0,.d (i64 ((1*(r.length+1-1)+dI (a::r):Nat):Int))] rH [0] (Db (1*(r.length+1-1)+dI (a::r)) (by omega) (by omega)) rfl rfl ⟨by simp only [go_sem],by rw [aa];decide⟩ rfl (by unfold rH;simp only [go_sem]) (by unfold rH;simp only [go_sem]) ?_
 rintro _ _ ⟨rfl,rfl⟩
 unfold yI rH
 simp only [go_sem]
 refine ⟨by omega,?_⟩
 refine aM E (tau [([0],[8]),([1],[57,2])]) [.bx [0] 0,.d (.str a)] (pF (1*r.length+dI (a::r))) [0,1] (Fv _ a (by omega)) rfl rfl ⟨by simp only [go_sem],by rw [aa];decide⟩ rfl (by unfold pF;simp only [go_sem]) (by unfold pF;simp only [go_sem]) ?_
 rintro _ _ ⟨rfl,rfl⟩
 unfold tv pF
 simp only [go_sem]
 refine ⟨by omega,?_⟩
 refine au E (X:={ i:Nat // i≤r.length }) (fun x=>[(1,.d (.str [32])),(8,.bx [0] 0),(63,.d (.sl none (r.map .str))),(64,.d (i64 (r.length:Nat))),(65,.d (i64 x.1))])
  (fun x=>eE (a++(r.take x.1).flatMap (spB++·))) [0,1] (fun x=>r.length-x.1) ⟨0,Nat.zero_le _⟩ (tau [([0],[8]),([1],[61,2])]) ?_ ?_
 ·unfold eE
  simp only [go_sem]
  rw [List.append_nil]
  all_goals ((repeat' apply And.intro)<;>first | rfl | trivial)
 rintro ⟨i,hi⟩ E0
 refine aR E0 fun Q' hQ E'=>?_
 simp only at hi ⊢
 have hb0:=hbd i
 have hs0:=hst2 i
 generalize hacc:a++(r.take i).flatMap (spB++·)=acc
 have hal:acc.length≤190000000:=by rw [← hacc,List.length_append];omega
 unfold eE
 simp only [go_sem]
 refine ai E' (fun g=>?_) (fun g=>?_)<;>simp only [go_sem]
 ·have hi':i<r.length:=by omega
  refine ⟨by omega,?_⟩
  rw [hgr i hi']
  simp only [go_sem]
  have hs1:=hs0 hi'
  have hls:=hel i
  generalize r.getD i []=s at hs1 hls ⊢
  have hnx:a++(r.take (i+1)).flatMap (spB++·)=acc++[32]++s:=by rw [hs1,← hacc];simp only [List.append_assoc]
  refine bn E' [.bx [0] 0,.d (.str [32])] (eE acc) [0,1] (rP acc [32] (by simp only [List.length_cons,List.length_nil];omega)) rfl rfl ⟨by simp only [go_sem],by rw [aa];decide⟩ rfl (by unfold eE;simp only [go_sem]) (by unfold eE;simp only [go_sem]) ?_
  rintro _ _ ⟨rfl,rfl⟩
  unfold tv eE
  simp only [go_sem]
  refine aM E' (tau [([1],[70,2])]) [.bx [0] 0,.d (.str s)] (eE (acc++[32])) [0,1] (rP (acc++[32]) s (by simp only [List.length_append,List.length_cons,List.length_nil];omega)) rfl rfl ⟨by simp only [go_sem],by rw [aa];decide⟩ rfl (by unfold eE;simp only [go_sem]) (by unfold eE;simp only [go_sem]) ?_
  rintro _ _ ⟨rfl,rfl⟩
  unfold tv eE
  simp only [go_sem]
  rw [ab ⟨by omega,by omega⟩,hQ]
  simp only [go_sem]
  refine ⟨⟨i+1,by omega⟩,by show r.length-(i+1)<r.length-i;omega,tau [([1],[72,2])],?_⟩
  simp only [hnx]
  unfold eE
  simp only [go_sem]
  all_goals ((repeat' apply And.intro)<;>first | rfl | trivial)
 ·have hi':i=r.length:=by omega
  subst hi'
  have hfr:=hfl r.length
  rw [List.take_length] at hacc hfr
  have hne:acc≠[]:=fun e=>by
   have:=congrArg List.length hacc
   rw [e,List.length_append] at this
   simp only [List.length_nil] at this
   omega
  rw [hQ]
  simp only [go_sem]
  refine bn E [.bx [0] 0] (eE acc) [0,1] (AL acc hne (by omega)) rfl rfl ⟨by simp only [go_sem],by rw [aa];decide⟩ rfl (by unfold eE;simp only [go_sem]) (by unfold eE;simp only [go_sem]) ?_
  rintro _ _ ⟨rfl,rfl⟩
  simp only [go_sem]
  rw [← hacc];rfl
def mf (b:Bool):List UInt8:=if b then [116,114,117,101] else [102,97,108,115,101]
theorem Ci {G} (b:Bool):HP Tryz.prog G 121 [.bool b] (fun r=>r=.d (.str (mf b))):=by
 refine ao Tryz.func121 rfl (by decide +kernel) (by simp [Tryz.ntmps121]) (veil fun E=>?_)
 simp only [go_sem]
 refine aX E (fun h=>?_) (fun h=>?_)<;>simp only [go_sem]
 ·rw [show b=true by simpa using h];rfl
 ·rw [show b=false by simpa using h];rfl
theorem Ak {G} (b:Bool):HP Tryz.prog G 83 [.bool b] (fun r=>r=.d (.str (mf b))):=by
 refine ao Tryz.func83 rfl (by decide +kernel) (by simp [Tryz.ntmps83]) (veil fun E=>?_)
 simp only [go_sem]
 refine ae E (Ci b) rfl rfl (by simp) ?_
 rintro _ rfl
 simp only [go_sem]
def fS (c:Clu):List UInt8:=if c.2.1 then mf c.1++[32,97,108,108] else u0 spB (mf c.1::c.2.2.map Lib.itoa)
end Go.Proofs.YthfodompfpdmgaaGreatDoor

namespace Go.Proofs.YthfodompfpdmgaaGreatDoor
open Go.Ab
variable {t:TypeId} {fz:Nat × Nat}
structure An (c:Clu):Prop where
 len:c.2.2.length≤2000
 mem:∀ x∈c.2.2,0≤x∧x<2000
theorem xm {l:List Int} (h:∀ x∈l,0≤x∧x<2000):dI (l.map Lib.itoa)≤30*l.length:=by
 induction l with
 | nil=>exact Nat.le_refl _
 | cons a r ih =>
   have h1:=h a List.mem_cons_self
   have h2:=ih fun x hx=>h x (List.mem_cons_of_mem _ hx)
   have h3:=Lib.itoa_length_le a (by omega) (by omega)
   unfold dI at h2 ⊢
   simp only [List.map_cons,List.sum_cons,List.length_cons]
   omega
theorem AT (b:Bool):(mf b).length≤5:=by cases b<;>decide
set_option maxHeartbeats 2000000 in
theorem EK (c:Clu) (hc:An c):HP Tryz.prog (GT t fz) 48 [cH c] (fun r=>r=.d (.str (fS c))):=by
 have hl:=hc.len
 have hb:=AT c.1
 refine fc ?_
 unfold cH
 refine aP Tryz.func48 rfl (by decide +kernel) (by simp [Tryz.ntmps48]) (veil fun E=>?_)
 simp only [go_sem]
 refine aX E (fun h1=>?_) (fun h1=>?_)<;>simp only [go_sem]
 ·refine ae E (Ak c.1) rfl rfl (by simp) ?_
  rintro _ rfl
  simp only [go_sem]
  refine ⟨by omega,[],?_⟩
  simp only [go_sem]
  refine ⟨_,rfl,?_⟩
  rw [fS,if_pos (by simpa using h1)]
  exact .refl _
 refine ae E (Ak c.1) rfl rfl (by simp) ?_
 rintro _ rfl
 simp only [go_sem]
 refine au E (X:={ i:Nat // i≤c.2.2.length }) (fun x=>[(3,.vw [98] 0 (x.1+1)),(17,.d (.sl none (c.2.2.map i64))),(18,.d (i64 c.2.2.length)),(19,.d (i64 x.1))])
  (fun x=>[([98],.arr none ((mf c.1::(c.2.2.take x.1).map Lib.itoa).map .str))]) [98] (fun x=>c.2.2.length-x.1) ⟨0,Nat.zero_le _⟩ (tau [([98],[15])]) ?_ ?_
 ·simp only [go_sem]
  all_goals first | rfl | ((repeat' apply And.intro)<;>first | rfl | trivial)
 rintro ⟨i,hi⟩ E0
 refine aR E0 fun Q' hQ E'=>?_
 simp only at hi ⊢
 simp only [go_sem]
 refine ai E' (fun h2=>?_) (fun h2=>?_)<;>simp only [go_sem]
 ·have hi':i<c.2.2.length:=by omega
  have hx:=hc.mem _ (List.getElem_mem hi')
  refine ⟨by omega,?_⟩
  rw [aD hi']
  simp only [go_sem]
  refine ae E' (Ff _ ⟨by omega,by omega⟩) rfl rfl (by simp) ?_
  rintro _ rfl
  simp only [go_sem]
  refine ⟨by omega,?_⟩
  rw [hQ]
  refine ⟨⟨i+1,hi'⟩,by show c.2.2.length-(i+1)<c.2.2.length-i;omega,tau [([98],[27])],?_⟩
  simp only [go_sem]
  rw [ab ⟨by omega,by omega⟩,List.take_of_length_le (by simp;omega),List.take_succ_eq_append_getElem hi',List.map_append,List.map_append]
  (repeat' apply And.intro)<;>first | rfl | trivial
 ·have hie:i=c.2.2.length:=by omega
  subst hie
  rw [hQ,List.take_length]
  simp only [go_sem]
  have hj:=Fu (G:=GT t fz) (mf c.1::c.2.2.map Lib.itoa) (by simp;omega) (by
   have:=xm hc.mem
   unfold dI at this ⊢
   simp only [List.map_cons,List.sum_cons]
   omega)
  unfold strs at hj
  refine bt E [98] none (.str (mf c.1)::(c.2.2.map Lib.itoa).map .str) rfl rfl ?_
  simp only [go_sem]
  refine ae E hj rfl (by simp only [go_sem];rw [List.take_of_length_le (by rw [List.length_map,List.length_map];exact Nat.le_refl _)]) (by simp) ?_
  rintro _ rfl
  simp only [go_sem]
  refine ⟨[],?_⟩
  simp only [go_sem]
  refine ⟨_,rfl,?_⟩
  rw [fS,if_neg (by simpa using h1)]
  exact .refl _
end Go.Proofs.YthfodompfpdmgaaGreatDoor

namespace Go.Proofs.YthfodompfpdmgaaGreatDoor
open Go.Ab
end Go.Proofs.YthfodompfpdmgaaGreatDoor

namespace Go.Proofs.YthfodompfpdmgaaGreatDoor
open Go.Ab
structure BS where
 cls:List Nat
 sets:List (List Nat)
 atm:List (List UInt8 × D)
structure rb (l:List EA) (i:Nat) (b:BS):Prop where
 len:b.cls.length=i
 at':∀ x,x<i→b.cls.getD x 0<b.sets.length∧x∈b.sets.getD (b.cls.getD x 0) []
 in':∀ c,c<b.sets.length→b.sets.getD c []≠[]∧∀ x∈b.sets.getD c [],x<i∧b.cls.getD x 0=c
 dn:∀ c,c<b.sets.length→(b.sets.getD c []).Nodup
 k1:∀ x,x<i→mlook b.atm (lj (l.getD x default))=some (i64 (b.cls.getD x 0:Nat))
 k2:∀ key d,mlook b.atm key=some d→∃ x,x<i∧lj (l.getD x default)=key∧d=i64 (b.cls.getD x 0:Nat)
 sf:∀ x y,x<i→y<i→b.cls.getD x 0=b.cls.getD y 0→lj (l.getD x default)=lj (l.getD y default)
 le:b.sets.length≤i
theorem ec {α:Type} {a:List α} {x d:α} {n:Nat}:(a++[x]).getD n d=if n<a.length then a.getD n d else if n=a.length then x else d:=by
 simp only [List.getD_eq_getElem?_getD]
 by_cases h:n<a.length
 ·rw [if_pos h,List.getElem?_append_left h]
 ·rw [if_neg h,List.getElem?_append_right (by omega)]
  by_cases e:n=a.length
  ·subst e;simp
  ·rw [if_neg e,List.getElem?_eq_none (by simp;omega)];rfl
theorem o5 {α:Type} {a:List α} {x d:α} {m n:Nat} (hm:m<a.length):(a.set m x).getD n d=if n=m then x else a.getD n d:=by
 simp only [List.getD_eq_getElem?_getD]
 by_cases e:n=m
 ·subst e;simp [hm]
 ·rw [if_neg e,List.getElem?_set_ne (fun h=>e h.symm)]
theorem rb.init (l:List EA):rb l 0 ⟨[],[],[]⟩:=⟨rfl,fun x h=>by omega,fun c h=>by simp at h,fun c h=>by simp at h,fun x h=>by omega,fun k d h=>by simp [mlook] at h,fun x y h=>by omega,Nat.le_refl _⟩
section
variable {l:List EA} {i:Nat} {b:BS}
structure CW (l:List EA) (i:Nat) (b:BS) (S:List (List Nat)) (c:Nat) (atm:List (List UInt8 × D)):Prop where
 lt:c<S.length
 le:S.length≤i+1
 lb:b.sets.length≤S.length
 nx:rb l (i+1) ⟨b.cls++[c],S.set c (S.getD c []++[i]),atm⟩
theorem CW.tl {S:List (List Nat)} {c:Nat} {atm:List (List UInt8 × D)} (h:CW l i b S c atm):(S.getD c []).length≤i:=by
 have hc:c<(S.set c (S.getD c []++[i])).length:=by simpa using h.lt
 have h1:=h.nx.dn c hc
 have h2:=(h.nx.in' c hc).2
 have h1':((S.set c (S.getD c []++[i])).getD c []).Nodup:=h1
 have h2':∀ x∈(S.set c (S.getD c []++[i])).getD c [],x<i+1:=fun x hx=>(h2 x hx).1
 rw [o5 h.lt,if_pos rfl] at h1' h2'
 have:=eC h1' h2'
 rw [List.length_append,List.length_singleton] at this
 omega
theorem rb.old (h:rb l i b) {d:D} (hk:mlook b.atm (lj (l.getD i default))=some d):∃ c,d=i64 (c:Nat)∧CW l i b b.sets c b.atm:=by
 obtain ⟨y,hy,hyk,rfl⟩:=h.k2 _ _ hk
 obtain ⟨c,hc⟩:∃ c,b.cls.getD y 0=c:=⟨_,rfl⟩
 have hlt:c<b.sets.length:=by rw [← hc];exact (h.at' y hy).1
 refine ⟨c,by rw [hc],hlt,by have:=h.le;omega,Nat.le_refl _,?_⟩
 have hlen:=h.len
 have hcl:∀ x,x<i→(b.cls++[c]).getD x 0=b.cls.getD x 0:=fun x hx=>by rw [ec,if_pos (by omega)]
 have hci:(b.cls++[c]).getD i 0=c:=by rw [ec,if_neg (by omega),if_pos hlen.symm]
 have hse:∀ k,(b.sets.set c (b.sets.getD c []++[i])).getD k []=if k=c then b.sets.getD c []++[i] else b.sets.getD k []:=fun k=>o5 hlt
 refine ⟨by simp [hlen],fun x hx=>?_,fun k hkl=>?_,fun k hkl=>?_,fun x hx=>?_,fun key d hkd=>?_,fun x y' hx hy' he=>?_,by simpa using Nat.le_succ_of_le h.le⟩
 ·show (b.cls++[c]).getD x 0<(b.sets.set c _).length∧x∈(b.sets.set c _).getD ((b.cls++[c]).getD x 0) []
  rw [List.length_set,hse]
  by_cases e:x=i
  ·subst e
   rw [hci,if_pos rfl]
   exact ⟨hlt,by simp⟩
  ·have hx':x<i:=by omega
   rw [hcl x hx']
   obtain ⟨a1,a2⟩:=h.at' x hx'
   refine ⟨a1,?_⟩
   by_cases e2:b.cls.getD x 0=c
   ·rw [if_pos e2,← e2];exact List.mem_append_left _ a2
   ·rw [if_neg e2];exact a2
 ·have hkl':k<b.sets.length:=by simpa using hkl
  show (b.sets.set c _).getD k []≠[]∧∀ x∈(b.sets.set c _).getD k [],x<i+1∧(b.cls++[c]).getD x 0=k
  rw [hse]
  obtain ⟨a1,a2⟩:=h.in' k hkl'
  by_cases e:k=c
  ·subst e
   rw [if_pos rfl]
   refine ⟨by simp,fun x hx=>?_⟩
   rcases List.mem_append.1 hx with hx | hx
   ·obtain ⟨b1,b2⟩:=a2 x hx
    exact ⟨by omega,by rw [hcl x b1,b2]⟩
   ·rw [List.mem_singleton.1 hx]
    exact ⟨by omega,hci⟩
  ·rw [if_neg e]
   refine ⟨a1,fun x hx=>?_⟩
   obtain ⟨b1,b2⟩:=a2 x hx
   exact ⟨by omega,by rw [hcl x b1,b2]⟩
 ·have hkl':k<b.sets.length:=by simpa using hkl
  show ((b.sets.set c _).getD k []).Nodup
  rw [hse]
  split
  ·rw [List.nodup_append]
   refine ⟨h.dn c hlt,by simp,fun x hx y hy=>?_⟩
   rw [List.mem_singleton.1 hy]
   have:=((h.in' c hlt).2 x hx).1
   omega
  ·exact h.dn k hkl'
 ·show mlook b.atm _=some (i64 ((b.cls++[c]).getD x 0:Nat))
  by_cases e:x=i
  ·subst e;rw [hci,hk,hc]
  ·rw [hcl x (by omega)];exact h.k1 x (by omega)
 ·obtain ⟨x,hx,h1,h2⟩:=h.k2 key d hkd
  exact ⟨x,by omega,h1,by show d=i64 ((b.cls++[c]).getD x 0:Nat);rw [hcl x hx];exact h2⟩
 ·have he':(b.cls++[c]).getD x 0=(b.cls++[c]).getD y' 0:=he
  by_cases e1:x=i
  ·by_cases e2:y'=i
   ·rw [e1,e2]
   ·rw [e1,hci,hcl y' (by omega)] at he'
    rw [e1,← hyk]
    exact h.sf y y' hy (by omega) (by rw [hc];exact he')
  ·by_cases e2:y'=i
   ·rw [e2,hci,hcl x (by omega)] at he'
    rw [e2,← hyk]
    exact h.sf x y (by omega) hy (by rw [hc];exact he')
   ·rw [hcl x (by omega),hcl y' (by omega)] at he'
    exact h.sf x y' (by omega) (by omega) he'
theorem rb.new (h:rb l i b) (hk:mlook b.atm (lj (l.getD i default))=none):CW l i b (b.sets++[[]]) b.sets.length (mset b.atm (lj (l.getD i default)) (i64 (b.sets.length:Nat))):=by
 refine ⟨by simp,by have:=h.le;simp;omega,by simp,?_⟩
 obtain ⟨c,hc⟩:∃ c,b.sets.length=c:=⟨_,rfl⟩
 rw [hc]
 have hlen:=h.len
 have hcl:∀ x,x<i→(b.cls++[c]).getD x 0=b.cls.getD x 0:=fun x hx=>by rw [ec,if_pos (by omega)]
 have hci:(b.cls++[c]).getD i 0=c:=by rw [ec,if_neg (by omega),if_pos hlen.symm]
 have hset:(b.sets++[[]]).set c ((b.sets++[[]]).getD c []++[i])=b.sets++[[i]]:=by
  rw [ec,if_neg (by omega),if_pos hc.symm,← hc,List.set_append_right _ _ (Nat.le_refl _)]
  simp
 have hse:∀ k,(b.sets++[[i]]).getD k []=if k<c then b.sets.getD k [] else if k=c then [i] else []:=fun k=>by rw [ec,hc]
 rw [hset]
 have hcx:∀ x,x<i→b.cls.getD x 0<c:=fun x hx=>by rw [← hc];exact (h.at' x hx).1
 refine ⟨by simp [hlen],fun x hx=>?_,fun k hkl=>?_,fun k hkl=>?_,fun x hx=>?_,fun key d hkd=>?_,fun x y' hx hy' he=>?_,by have:=h.le;simp;omega⟩
 ·show (b.cls++[c]).getD x 0<(b.sets++[[i]]).length∧x∈(b.sets++[[i]]).getD ((b.cls++[c]).getD x 0) []
  rw [List.length_append,hse]
  by_cases e:x=i
  ·subst e
   rw [hci,if_neg (by omega),if_pos rfl]
   exact ⟨by simp;omega,by simp⟩
  ·have hx':x<i:=by omega
   rw [hcl x hx',if_pos (hcx x hx')]
   obtain ⟨a1,a2⟩:=h.at' x hx'
   exact ⟨by omega,a2⟩
 ·show (b.sets++[[i]]).getD k []≠[]∧∀ x∈(b.sets++[[i]]).getD k [],x<i+1∧(b.cls++[c]).getD x 0=k
  rw [hse]
  have hkl':k<c+1:=by simpa [hc] using hkl
  by_cases e:k=c
  ·subst e
   rw [if_neg (by omega),if_pos rfl]
   refine ⟨by simp,fun x hx=>?_⟩
   rw [List.mem_singleton.1 hx]
   exact ⟨by omega,hci⟩
  ·rw [if_pos (by omega)]
   obtain ⟨a1,a2⟩:=h.in' k (by omega)
   refine ⟨a1,fun x hx=>?_⟩
   obtain ⟨b1,b2⟩:=a2 x hx
   exact ⟨by omega,by rw [hcl x b1,b2]⟩
 ·show ((b.sets++[[i]]).getD k []).Nodup
  rw [hse]
  have hkl':k<c+1:=by simpa [hc] using hkl
  split
  ·exact h.dn k (by omega)
  ·split<;>simp
 ·show mlook (mset b.atm _ _) _=some (i64 ((b.cls++[c]).getD x 0:Nat))
  rw [jn]
  by_cases e:x=i
  ·subst e;rw [if_pos rfl,hci]
  ·rw [hcl x (by omega),if_neg]
   ·exact h.k1 x (by omega)
   ·intro e2
    have:=h.k1 x (by omega)
    rw [e2,hk] at this
    cases this
 ·have hkd':mlook (mset b.atm (lj (l.getD i default)) (i64 (c:Nat))) key=some d:=hkd
  rw [jn] at hkd'
  split at hkd'
  ·rename_i e
   exact ⟨i,by omega,e.symm,by show d=i64 ((b.cls++[c]).getD i 0:Nat);rw [hci];exact (Option.some.inj hkd').symm⟩
  ·obtain ⟨x,hx,h1,h2⟩:=h.k2 key d hkd'
   exact ⟨x,by omega,h1,by show d=i64 ((b.cls++[c]).getD x 0:Nat);rw [hcl x hx];exact h2⟩
 ·have he':(b.cls++[c]).getD x 0=(b.cls++[c]).getD y' 0:=he
  by_cases e1:x=i
  ·by_cases e2:y'=i
   ·rw [e1,e2]
   ·rw [e1,hci,hcl y' (by omega)] at he'
    have:=hcx y' (by omega)
    omega
  ·by_cases e2:y'=i
   ·rw [e2,hci,hcl x (by omega)] at he'
    have:=hcx x (by omega)
    omega
   ·rw [hcl x (by omega),hcl y' (by omega)] at he'
    exact h.sf x y' (by omega) (by omega) he'
end
structure FrI (dn:List (Nat × KISI)) (F:List (KISI × List Nat)):Prop where
 val:∀ key L,(key,L)∈F→L≠[]∧L.Nodup∧∀ x,x∈L↔(x,key)∈dn
 all:∀ x key,(x,key)∈dn→∃ L,(key,L)∈F
 nd:(F.map (·.1)).Nodup
 ln:F.length≤dn.length
theorem FrI.init:FrI [] []:=⟨fun _ _ h=>by simp at h,fun _ _ h=>by simp at h,by simp,by simp⟩
theorem FrI.old {dn:List (Nat × KISI)} {F:List (KISI × List Nat)} (h:FrI dn F) {m x:Nat} {key:KISI} {L:List Nat} (hm:F[m]?=some (key,L)) (hx:(x,key) ∉ dn):FrI (dn++[(x,key)]) (F.set m (key,L++[x])):=by
 have hlt:m<F.length:=(List.getElem?_eq_some_iff.1 hm).1
 have hget:F[m]=(key,L):=(List.getElem?_eq_some_iff.1 hm).2
 have hmem:(key,L)∈F:=List.mem_of_getElem? hm
 have hkeys:(F.set m (key,L++[x])).map (·.1)=F.map (·.1):=by
  rw [List.map_set]
  apply List.ext_getElem (by simp)
  intro n h1 h2
  rw [List.getElem_set]
  split
  ·rename_i e;subst e;simp [hget]
  ·rfl
 have huni:∀ k M,(k,M)∈F.set m (key,L++[x])→(k=key∧M=L++[x])∨(k≠key∧(k,M)∈F):=by
  intro k M hkM
  obtain ⟨n,hn,e⟩:=List.getElem_of_mem hkM
  rw [List.getElem_set] at e
  split at e
  ·cases e;exact .inl ⟨rfl,rfl⟩
  ·rename_i hne
   have hn':n<F.length:=by simpa using hn
   refine .inr ⟨?_,e ▸ List.getElem_mem hn'⟩
   rintro rfl
   have:=h.nd
   rw [List.Nodup,List.pairwise_iff_getElem] at this
   rcases Nat.lt_or_gt_of_ne hne with g | g
   ·exact this m n (by simpa using hlt) (by simpa using hn') g (by simp [hget,e])
   ·exact this n m (by simpa using hn') (by simpa using hlt) g (by simp [hget,e])
 obtain ⟨v1,v2,v3⟩:=h.val key L hmem
 refine ⟨fun k M hkM=>?_,fun y k hyk=>?_,by rw [hkeys];exact h.nd,by simpa using Nat.le_succ_of_le h.ln⟩
 ·rcases huni k M hkM with ⟨rfl,rfl⟩ | ⟨hne,hkF⟩
  ·refine ⟨by simp,?_,fun y=>?_⟩
   ·rw [List.nodup_append]
    refine ⟨v2,by simp,fun a ha b hb e=>?_⟩
    rw [List.mem_singleton.1 hb] at e
    subst e
    exact hx ((v3 _).1 ha)
   ·rw [List.mem_append,v3,List.mem_append,List.mem_singleton,List.mem_singleton]
    simp
  ·obtain ⟨w1,w2,w3⟩:=h.val k M hkF
   refine ⟨w1,w2,fun y=>?_⟩
   rw [w3,List.mem_append,List.mem_singleton]
   constructor
   ·exact .inl
   ·rintro (g | g)
    ·exact g
    ·cases g;exact absurd rfl hne
 ·by_cases e:k=key
  ·subst e
   exact ⟨_,List.mem_iff_getElem?.2 ⟨m,by rw [List.getElem?_set_self hlt]⟩⟩
  ·rcases List.mem_append.1 hyk with g | g
   ·obtain ⟨M,hM⟩:=h.all y k g
    obtain ⟨n,hn⟩:=List.mem_iff_getElem?.1 hM
    have hne:m≠n:=by
     rintro rfl
     rw [hm] at hn
     cases hn
     exact e rfl
    exact ⟨M,List.mem_iff_getElem?.2 ⟨n,by rw [List.getElem?_set_ne hne];exact hn⟩⟩
   ·cases List.mem_singleton.1 g
    exact absurd rfl e
theorem FrI.new {dn:List (Nat × KISI)} {F:List (KISI × List Nat)} (h:FrI dn F) {x:Nat} {key:KISI} (hk:key ∉ F.map (·.1)):FrI (dn++[(x,key)]) (F++[(key,[x])]):=by
 have hno:∀ y,(y,key) ∉ dn:=fun y hy=>by
  obtain ⟨M,hM⟩:=h.all y key hy
  exact hk (List.mem_map.2 ⟨_,hM,rfl⟩)
 refine ⟨fun k M hkM=>?_,fun y k hyk=>?_,?_,by have:=h.ln;simp;omega⟩
 ·rcases List.mem_append.1 hkM with g | g
  ·obtain ⟨w1,w2,w3⟩:=h.val k M g
   refine ⟨w1,w2,fun y=>?_⟩
   rw [w3,List.mem_append,List.mem_singleton]
   constructor
   ·exact .inl
   ·rintro (g2 | g2)
    ·exact g2
    ·cases g2
     exact absurd (List.mem_map.2 ⟨_,g,rfl⟩) hk
  ·cases List.mem_singleton.1 g
   refine ⟨by simp,by simp,fun y=>?_⟩
   rw [List.mem_append,List.mem_singleton,List.mem_singleton]
   constructor
   ·rintro rfl;exact .inr rfl
   ·rintro (g2 | g2)
    ·exact absurd g2 (hno y)
    ·cases g2;rfl
 ·rcases List.mem_append.1 hyk with g | g
  ·obtain ⟨M,hM⟩:=h.all y k g
   exact ⟨M,List.mem_append_left _ hM⟩
  ·cases List.mem_singleton.1 g
   exact ⟨[x],by simp⟩
 ·rw [List.map_append,List.nodup_append]
  refine ⟨h.nd,by simp,fun a ha b hb e=>?_⟩
  simp only [List.map_cons,List.map_nil,List.mem_singleton] at hb
  subst hb;subst e
  exact hk ha
def dnA (l:List EA) (i:Nat):List (Nat × KISI):=(List.range i).flatMap fun x=>(e9 (l.getD x default)).map fun q=>(x,q)
end Go.Proofs.YthfodompfpdmgaaGreatDoor

namespace Go.Proofs.YthfodompfpdmgaaGreatDoor
open Go.Ab
theorem u2 {α β:Type} [DecidableEq α] {z:β} {i:α}:∀ {l:List (α × β)},i ∉ l.map (·.1)→lkA z l i=z
 | [],_=>rfl
 | q::r,h=>by
   rw [bB,if_neg (fun e=>h (by simp [e])),u2 (fun g=>h (by simp only [List.map_cons,List.mem_cons];exact .inr g))]
theorem xf (l:List (Name × Ob)):(l.map fun x=>(x.1,some x.2)).map (·.1)=l.map (·.1):=by simp [Function.comp_def]
section
variable {h:Nat} {τ:Name→Name}
theorem lS:∀ (xs:List (Option (List D))) (i:Nat),(∀ j ys,xs[j]?=some (some ys)→τ [h,i+j]=[h,i+j])→bM τ (vwL h i xs)=vwL h i xs
 | [],_,_=>rfl
 | none::r,i,hτ=>by
   rw [vwL,bM,lS r (i+1) fun j ys hj=>by rw [show i+1+j=i+(j+1) by omega];exact hτ (j+1) ys (by simpa using hj)]
   rfl
 | some zs::r,i,hτ=>by
   rw [vwL,bM,lS r (i+1) fun j ys hj=>by rw [show i+1+j=i+(j+1) by omega];exact hτ (j+1) ys (by simpa using hj)]
   have:=hτ 0 zs rfl
   rw [Nat.add_zero] at this
   simp only [AV.ren,this]
theorem fL {u:List Nat} (hu:u.contains h=true):∀ (xs:List (Option (List D))) (i:Nat),bZ u (vwL h i xs)=true
 | [],_=>rfl
 | none::r,i=>by rw [vwL,bZ,fL hu r];rfl
 | some _::r,i=>by
   rw [vwL,bZ,fL hu r]
   simp [AV.inU,nmb,-List.contains_eq_mem,hu]
theorem BE {u:List Nat} {l:List AV} {m:Nat} {x:AV} (hl:bZ u l=true) (hx:x.inU u=true):bZ u (l.set m x)=true:=by
 induction l generalizing m with
 | nil=>rfl
 | cons y r ih =>
   simp only [bZ,Bool.and_eq_true] at hl
   cases m with
   | zero=>simp [bZ,hx,hl.2]
   | succ m=>simp [bZ,hl.1,ih hl.2]
theorem yD (l:List AV) (m:Nat) (x:AV):bM τ (l.set m x)=(bM τ l).set m (x.ren τ):=by
 induction l generalizing m with
 | nil=>rfl
 | cons y r ih =>
   cases m with
   | zero=>rfl
   | succ m=>simp only [List.set_cons_succ,bM,ih]
theorem Ao (a b:List AV):bM τ (a++b)=bM τ a++bM τ b:=by
 induction a with
 | nil=>rfl
 | cons x r ih=>simp [bM,ih]
theorem yJ (xs:List (Option (List D))) (i:Nat) (o:Option (List D)):vwL h i (xs++[o])=vwL h i xs++(match o with | some ys=>[.vw [h,i+xs.length] 0 ys.length] | none=>[.un]):=by
 induction xs generalizing i with
 | nil=>cases o<;>simp [vwL]
 | cons x r ih =>
   cases x<;>(simp only [List.cons_append,vwL,ih,List.length_cons];rw [show i+1+r.length=i+(r.length+1) by omega])
theorem D9 {xs:List (Option (List D))} {m:Nat} {ys:List D} {p:Name} (hm:xs[m]?=some (some ys)) (h1:τ [h,m]=p) (h2:∀ j,j≠m→τ [h,j]=[h,j]) :
  bM τ (vwL h 0 xs)=(vwL h 0 (xs.set m none)).set m (.vw p 0 ys.length):=by
 apply List.ext_getElem?
 intro i
 rw [bI,eQ,Nat.zero_add]
 have hlt:m<xs.length:=(List.getElem?_eq_some_iff.1 hm).1
 by_cases e:i=m
 ·subst e
  rw [List.getElem?_set_self (by rw [cw,List.length_set];exact hlt),hm]
  simp [AV.ren,h1]
 ·rw [List.getElem?_set_ne (fun g=>e g.symm),eQ,List.getElem?_set_ne (fun g=>e g.symm),Nat.zero_add]
  cases xs[i]? with
  | none=>rfl
  | some o=>cases o<;>simp [AV.ren,h2 i e]
theorem Dp {xs:List (Option (List D))} {m:Nat} {ys:List D} {p:Name} (hm:xs[m]?=some (some ys)) (h1:τ p=[h,m]) (h2:∀ j,τ [h,j]=[h,j]) :
  bM τ ((vwL h 0 (xs.set m none)).set m (.vw p 0 ys.length))=vwL h 0 xs:=by
 rw [yD,lS _ _ fun j _ _=>by rw [Nat.zero_add];exact h2 j]
 apply List.ext_getElem?
 intro i
 have hlt:m<xs.length:=(List.getElem?_eq_some_iff.1 hm).1
 by_cases e:i=m
 ·subst e
  rw [List.getElem?_set_self (by rw [cw,List.length_set];exact hlt),eQ,hm,Nat.zero_add]
  simp [AV.ren,h1]
 ·rw [List.getElem?_set_ne (fun g=>e g.symm),eQ,eQ,List.getElem?_set_ne (fun g=>e g.symm)]
theorem qH {xs:List (Option (List D))} {m i:Nat} {ys:List D} (h:(xs.set m none)[i]?=some (some ys)):i≠m∧xs[i]?=some (some ys):=by
 by_cases e:m=i
 ·subst e
  by_cases hl:m<xs.length
  ·rw [List.getElem?_set_self hl] at h;cases h
  ·rw [List.getElem?_eq_none (by simpa using Nat.le_of_not_lt hl)] at h;cases h
 ·rw [List.getElem?_set_ne e] at h
  exact ⟨fun g=>e g.symm,h⟩
end
theorem mS {τ ρ:Name→Name}:∀ {l:List (Name × Ob)},(l.map (·.1)).Nodup→(∀ q∈l,ρ (τ q.1)=q.1)→lC τ l
 | [],_,_=>trivial
 | q::r,hn,hr=>by
   rw [List.map_cons,List.nodup_cons] at hn
   refine ⟨fun x hx e=>hn.1 ?_,mS hn.2 fun x hx=>hr x (List.mem_cons_of_mem _ hx)⟩
   have h1:=hr q List.mem_cons_self
   have h2:=hr x (List.mem_cons_of_mem _ hx)
   rw [e,h2] at h1
   exact List.mem_map.2 ⟨x,hx,h1⟩
theorem oD (h:Nat) (xs:List (Option (List D))):∀ i,((dk h i xs).map (·.1)).Nodup∧∀ p∈(dk h i xs).map (·.1),∃ j,i≤j∧p=[h,j]:=by
 induction xs with
 | nil=>intro i;exact ⟨by simp [dk],by simp [dk]⟩
 | cons x r ih =>
   intro i
   obtain ⟨h1,h2⟩:=ih (i+1)
   cases x with
   | none=>exact ⟨h1,fun p hp=>by obtain ⟨j,hj,e⟩:=h2 p hp;exact ⟨j,by omega,e⟩⟩
   | some ys =>
     refine ⟨?_,fun p hp=>?_⟩
     ·rw [dk,List.map_cons,List.nodup_cons]
      refine ⟨fun hm=>?_,h1⟩
      obtain ⟨j,hj,e⟩:=h2 _ hm
      simp at e;omega
     ·rw [dk,List.map_cons] at hp
      rcases List.mem_cons.1 hp with rfl | hp
      ·exact ⟨i,Nat.le_refl _,rfl⟩
      ·obtain ⟨j,hj,e⟩:=h2 p hp;exact ⟨j,by omega,e⟩
def nohd (p:Name):Bool:=match p with
 | a::_=>a != 202 && a != 203
 | []=>true
theorem Ad {hp:List (Name × Ob)} {xs ys:List (Option (List D))} (hn:(hp.map (·.1)).Nodup) (hh:(hp.all fun q=>nohd q.1)=true):((hp++eZ 202 xs (eZ 203 ys [])).map (·.1)).Nodup:=by
 have hh':∀ q∈hp,nohd q.1=true:=List.all_eq_true.1 hh
 obtain ⟨a1,a2⟩:=oD 202 xs 0
 obtain ⟨b1,b2⟩:=oD 203 ys 0
 unfold eZ
 rw [List.append_nil,List.map_append,List.map_append,List.nodup_append,List.nodup_append]
 refine ⟨hn,⟨a1,b1,fun p hp q hq e=>?_⟩,fun p hpm q hq e=>?_⟩
 ·obtain ⟨j,_,rfl⟩:=a2 p hp
  obtain ⟨k,_,rfl⟩:=b2 q hq
  simp at e
 ·subst e
  obtain ⟨x,hx,rfl⟩:=List.mem_map.1 hpm
  have:=hh' x hx
  rcases List.mem_append.1 hq with hq | hq
  ·obtain ⟨j,_,e⟩:=a2 _ hq
   rw [e] at this
   revert this;simp [nohd]
  ·obtain ⟨j,_,e⟩:=b2 _ hq
   rw [e] at this
   revert this;simp [nohd]
theorem Du {τ:Name→Name} (ρ:Name→Name) {s:St} {fr:List (Nat × AV)} {hp:List (Name × Ob)} {xs ys:List (Option (List D))} {u:List Nat} (h1:frL τ u s fr∧hpL τ u s hp)
  (h2:∀ i zs,xs[i]?=some (some zs)→s.hp (τ [202,i])=some (.arr none zs)∧ρ (τ [202,i])=[202,i]) (h3:∀ i zs,ys[i]?=some (some zs)→s.hp (τ [203,i])=some (.arr none zs)∧ρ (τ [203,i])=[203,i])
  (hu:(u.contains 202 && u.contains 203)=true) (hn:(hp.map (·.1)).Nodup) (hh:(hp.all fun q=>nohd q.1)=true) (hρ:hp.map (fun q=>ρ (τ q.1))=hp.map (·.1)):LeL [] τ s fr (hp++eZ 202 xs (eZ 203 ys [])) u:=by
 rw [Bool.and_eq_true] at hu
 refine ⟨h1.1,qy h1.2 (wj hu.1 (fun i zs h=>(h2 i zs h).1) (wj hu.2 (fun i zs h=>(h3 i zs h).1) trivial)),mS (ρ:=ρ) (Ad hn hh) fun q hq=>?_,rfl,kl fun q _ hq=>?_⟩
 ·rcases List.mem_append.1 hq with hq | hq
  ·obtain ⟨n,hn',e⟩:=List.getElem_of_mem hq
   have:=congrArg (fun l:List Name=>l[n]?) hρ
   simp only [List.getElem?_map,List.getElem?_eq_getElem hn',e,Option.map_some,Option.some.injEq] at this
   exact this
  ·rcases List.mem_append.1 hq with hq | hq
   ·obtain ⟨j,zs,hj,rfl⟩:=(cF 202 xs 0 q).1 hq
    rw [Nat.zero_add]
    exact (h2 j zs hj).2
   ·rcases List.mem_append.1 hq with hq | hq
    ·obtain ⟨j,zs,hj,rfl⟩:=(cF 203 ys 0 q).1 hq
     rw [Nat.zero_add]
     exact (h3 j zs hj).2
    ·cases hq
 ·cases q with
  | mk p o=>cases p<;>simp [nmb] at hq
section
variable {d:Nat} {C1 F:List (Name × Ob)} {p:Name}
end
def om (xs ys:List (Option (List D))):List (Name × Ob):=eZ 202 xs (eZ 203 ys [])
section
variable {xs ys:List (Option (List D))}
theorem rU {q:Name × Ob} (h:q∈om xs ys):(∃ j zs,xs[j]?=some (some zs)∧q=([202,j],.arr none zs))∨∃ j zs,ys[j]?=some (some zs)∧q=([203,j],.arr none zs):=by
 rcases List.mem_append.1 h with h | h
 ·obtain ⟨j,zs,h1,h2⟩:=(cF 202 xs 0 q).1 h
  exact .inl ⟨j,zs,h1,by rw [h2,Nat.zero_add]⟩
 ·rcases List.mem_append.1 h with h | h
  ·obtain ⟨j,zs,h1,h2⟩:=(cF 203 ys 0 q).1 h
   exact .inr ⟨j,zs,h1,by rw [h2,Nat.zero_add]⟩
  ·cases h
theorem Fb {j:Nat} {zs:List D} (h:xs[j]?=some (some zs)):([202,j],Ob.arr none zs)∈om xs ys:=List.mem_append_left _ ((cF 202 xs 0 _).2 ⟨j,zs,h,by rw [Nat.zero_add]⟩)
theorem EU {j:Nat} {zs:List D} (h:ys[j]?=some (some zs)):([203,j],Ob.arr none zs)∈om xs ys:=List.mem_append_right _ (List.mem_append_left _ ((cF 203 ys 0 _).2 ⟨j,zs,h,by rw [Nat.zero_add]⟩))
theorem DB {q:Name × Ob} (h:q∈om xs ys):nohd q.1=false:=by
 rcases rU h with ⟨j,zs,_,rfl⟩ | ⟨j,zs,_,rfl⟩<;>rfl
theorem Dj {q:Name × Ob} (h:q∈om xs ys):lkA none ((om xs ys).map fun x=>(x.1,some x.2)) q.1=some q.2:=by
 rcases rU h with ⟨j,zs,h1,rfl⟩ | ⟨j,zs,h1,rfl⟩
 ·exact hI (fr:=[]) (u:=[]) h1
 ·exact DQ (fr:=[]) (u:=[]) (by decide) h1
theorem Bx {C:List (Name × Ob)} (hh:(C.all fun q=>nohd q.1)=true) {q:Name × Ob} (h:q∈om xs ys):q.1 ∉ C.map (·.1):=by
 intro g
 obtain ⟨x,hx,e⟩:=List.mem_map.1 g
 have:=List.all_eq_true.1 hh x hx
 rw [e,DB h] at this
 cases this
theorem Ct {C:List (Name × Ob)} (hh:(C.all fun q=>nohd q.1)=true) {q:Name × Ob} (h:q∈om xs ys):lkA none ((C++om xs ys).map fun x=>(x.1,some x.2)) q.1=some q.2:=by
 rw [List.map_append,qw,u2 (l:=C.map _) (by rw [xf];exact Bx hh h)]
 exact Dj h
end
section
variable {P:Program} {cf:Cf} {Q:Exit→St→Prop} {s:St} {k:List It}
theorem kX (E:Eng P cf Q) {o:Oper} {τ:Name→Name} {s2:St} (hle:Le cf.U τ s s2) (h:E.stp o s2 k .no):E.stp o s k .no:=by
 rw [aK] at h ⊢
 exact h.le hle
end
theorem AO (τ:Name→Name) (l:List AV):bM τ l=l.map (AV.ren τ):=by
 induction l with
 | nil=>rfl
 | cons x r ih=>simp [bM,ih]
end Go.Proofs.YthfodompfpdmgaaGreatDoor

namespace Go.Proofs.YthfodompfpdmgaaGreatDoor
open Go.Ab
theorem f161:∃ f0 f1:Field,Tryz.prog.underlying 161=some (.struct #[f0,f1])∧f0.offset=0∧f1.offset=1∧f0.type=3∧f1.type=9:=by
 have h:(match Tryz.prog.underlying 161 with
  | some (.struct ⟨[f0,f1]⟩)=>f0.offset == 0 && f1.offset == 1 && f0.type == 3 && f1.type == 9
  | _=>false)=true:=by kernel_rfl
 split at h
 ·rename_i f0 f1 hu
  simp only [Bool.and_eq_true,beq_iff_eq] at h
  exact ⟨f0,f1,hu,h.1.1.1,h.1.1.2,h.1.2,h.2⟩
 ·cases h
end Go.Proofs.YthfodompfpdmgaaGreatDoor

namespace Go.Proofs.YthfodompfpdmgaaGreatDoor
open Go.Ab
variable {t:TypeId} {fz:Nat × Nat}
theorem p8:fJ Tryz.prog 9 (fun l:List UInt8=>D.str l) (fun l=>.string ⟨l.toArray⟩):=FJ (by rw [ti9])
structure IF (l:List EA) where
 i:Nat
 b:BS
 F:List (KISI × List Nat)
 c:List D
 es:List (Int × D)
 clk:Nat
 bs:List Nat
 hi:i≤l.length
 hb:rb l i b
 hF:FrI (dnA l i) F
 hq:Queue c 0 0 (List.range b.sets.length)
 hio:HI es (List.range b.sets.length)
 hbs:bs.length=F.length
structure IE (l:List EA) (i:Nat) (L:List Stp') where
 j:Nat
 F:List (KISI × List Nat)
 clk:Nat
 bs:List Nat
 hj:j≤L.length
 hF:FrI (dnA l i++(L.take j).map fun q=>(i,q)) F
 hbs:bs.length=F.length
def stC (s:EA):List AV:=[.d (.bool s.plus),.d (.bool s.al),.d (.bool s.int),.d (.bool s.bool),.d (.bool s.str),.d (.bool s.arr),.d (.bool s.rc),.d (.bool s.tg),.d (.sl none (s.vars.map i64)),.d (i64 s.dom),.d (i64 s.cod),.d (.sl (some 2) (s.fl.map aG)),.d (.sl (some 2) (s.tl.map aG))]
def gx (s:EA) (atm:List (List UInt8 × D)):List (Name × Ob):=[([204],.map (menc (fun n:List UInt8=>D.str n) atm)),([6],.box (stC s))]
end Go.Proofs.YthfodompfpdmgaaGreatDoor

namespace Go.Proofs.YthfodompfpdmgaaGreatDoor
open Go.Ab
variable {t:TypeId} {fz:Nat × Nat}
def atM:Nat→List Clu→List (List UInt8 × D)
 | _,[]=>[]
 | n,c::r=>(fS c,i64 n)::atM (n+1) r
def plc (k:List UInt8):Nat→List Clu→Option Nat
 | _,[]=>none
 | n,c::r=>if fS c=k then some n else plc k (n+1) r
theorem sM (k:List UInt8):∀ (n:Nat) (W:List Clu),mlook (atM n W) k=(plc k n W).map fun i=>i64 (i:Nat)
 | _,[]=>rfl
 | n,c::r=>by
   rw [atM,plc,mlook]
   by_cases h:fS c=k
   ·simp [h]
   ·simp [h,sM k (n+1) r]
theorem vE (c:Clu):∀ (n:Nat) (W:List Clu),plc (fS c) n W=none→mset (atM n W) (fS c) (i64 ((n+W.length:Nat):Int))=atM n (W++[c])
 | n,[],_=>rfl
 | n,d::r,h=>by
   rw [plc] at h
   by_cases e:fS d=fS c
   ·rw [if_pos e] at h;cases h
   ·rw [if_neg e] at h
    rw [atM,mset,if_neg e,List.cons_append,atM,← vE c (n+1) r h,List.length_cons]
    rw [show n+(r.length+1)=n+1+r.length by omega]
def ak (W:List Clu) (c:Clu):Nat × List Clu:=match plc (fS c) 0 W with
 | some i=>(i,W)
 | none=>(W.length,W++[c])
def bO (ns:List TN) (root:Int) (W:List Clu) (fl:Bool) (a:Nat):List (Name × Ob):=[([0],.box [.d (.sl (some 4) (ns.map ah)),.d (i64 root),.mp [1],.vw [a] 0 W.length,.d (.bool fl)]),([1],.map (menc (fun l:List UInt8=>D.str l) (atM 0 W))),([a],.arr (some 3) (W.map cH))]
set_option maxHeartbeats 4000000 in
theorem qq (ns:List TN) (root:Int) (W:List Clu) (fl:Bool) (c:Clu) (hc:An c) (hW:W.length≤100000000) :
  HCall Tryz.prog (GT t fz) 24 [.bx [0] 0,.d (cH c)] (bO ns root W fl 2) [0,1,2] (fun r hp'=>r=.d (i64 ((ak W c).1:Nat))∧hp'=bO ns root (ak W c).2 fl 6):=by
 have ck:=EK (t:=t) (fz:=fz) c hc
 generalize hR:ak W c=R
 unfold ak at hR
 unfold bO
 have hcd:cH c=.agg [.bool c.1,.bool c.2.1,.sl none (c.2.2.map i64)]:=rfl
 rw [hcd] at ck ⊢
 refine aL Tryz.func24 rfl (by decide +kernel) (by simp [Tryz.ntmps24]) (veil fun E=>?_)
 simp only [go_sem]
 refine ae E ck rfl rfl (by simp) ?_
 rintro _ rfl
 simp only [go_sem]
 refine mU E [1] (atM 0 W) (fS c) (i64 0) (by rw [Gc]) p8 Hn rfl rfl rfl (by simp) ?_
 rw [sM]
 cases hp:plc (fS c) 0 W with
 | some i =>
   rw [hp] at hR
   subst hR
   simp only [go_sem]
   refine ⟨_,_,[0,1,2,6],tau [([6],[2])],⟨rfl,rfl⟩,?_⟩
   simp only [go_sem]
 | none =>
   rw [hp] at hR
   have hset:=vE c 0 W hp
   rw [Nat.zero_add] at hset
   simp only [go_sem]
   refine ag mixed E fun X=>?_
   simp only [go_sem]
   refine aI X [0] 0 none [.d (.sl (some 4) (ns.map ah)),.d (i64 root),.mp [1],.vw [2] 0 W.length,.d (.bool fl)] (by simp only [go_sem]) rfl rfl ?_
   simp only [go_sem]
   refine aI X [0] 0 none [.d (.sl (some 4) (ns.map ah)),.d (i64 root),.mp [1],.vw [2] 0 W.length,.d (.bool fl)] (by simp only [go_sem]) rfl rfl ?_
   simp only [go_sem]
   refine rB X [1] (atM 0 W) (fS c) (i64 (W.length:Nat)) (by rw [Gc]) p8 rfl rfl rfl rfl ?_
   rw [hset]
   simp only [go_sem]
   refine ⟨by decide +kernel,?_⟩
   refine ag mixed E fun X=>?_
   simp only [go_sem]
   refine aI X [0] 0 none [.d (.sl (some 4) (ns.map ah)),.d (i64 root),.mp [1],.vw [2] 0 W.length,.d (.bool fl)] (by simp only [go_sem]) rfl rfl ?_
   simp only [go_sem]
   refine ⟨by omega,?_⟩
   refine aI X [0] 0 none [.d (.sl (some 4) (ns.map ah)),.d (i64 root),.mp [1],.vw [2] 0 W.length,.d (.bool fl)] (by simp only [go_sem]) rfl rfl ?_
   simp only [go_sem]
   refine ⟨by decide +kernel,?_⟩
   subst hR
   rw [ab ⟨by omega,by omega⟩,show (((W.length+1:Nat):Int)-1)=(W.length:Nat) by omega]
   refine ⟨_,_,[0,1,2,6],tau [([6],[38])],⟨rfl,rfl⟩,?_⟩
   simp only [go_sem]
   simp [hcd]
end Go.Proofs.YthfodompfpdmgaaGreatDoor

namespace Go.Proofs.YthfodompfpdmgaaGreatDoor
open Go.Ab
variable {t:TypeId} {fz:Nat × Nat}
theorem pP {G} (ns:List TN) (root:Int) (h:Inn ns) (p:Bool) (l:List Int) (hl:l.length≤10000000) (hk:∀ x∈l,okP ns x) :
  HCall Tryz.prog G 25 [.d (.ptr (bD ns root)),.d (.bool p),.d (aj l)] [] [] (fun r hp'=>r=.agg [.d (.bool (ofC ns p l).1),.d (.bool (ofC ns p l).2.1),.vw [0] 0 (ofC ns p l).2.2.length]∧hp'=[([0],.arr none ((ofC ns p l).2.2.map i64))]):=by
 refine HCall.Hy (Gg ns root h p l hl hk) 0 none (by simp) ?_
 rintro r hp' (⟨e,rfl,rfl⟩ | ⟨L,e,rfl,rfl⟩)
 ·rw [e]
  exact .inr ⟨[.bool p,.bool true],[],rfl,rfl,rfl,rfl⟩
 ·rw [e]
  exact .inl ⟨rfl,rfl⟩
theorem vT (ns:List TN) (p:Bool) (l:List Int):(ofC ns p l).1=p:=by unfold ofC;split<;>rfl
theorem j3 {ns:List TN} (h:Inn ns) {p:Bool} {l:List Int} (hk:∀ x∈l,okP ns x):An (ofC ns p l):=by
 have h1:=iU h hk
 have h2:=ie h hk
 have hn:=h.len
 unfold ofC
 split
 ·exact ⟨Nat.zero_le _,by simp⟩
 ·refine ⟨Nat.le_trans (List.length_filter_le _ _) h1,fun x hx=>?_⟩
  obtain ⟨h3,h4⟩:=h2 x (List.mem_filter.1 hx).1
  omega
theorem cx (W:List Clu) (c:Clu):(ak W c).2.length≤W.length+1:=by
 unfold ak
 split
 ·exact Nat.le_succ _
 ·simp
noncomputable def fB (ns:List TN) (p:Bool) (l:List Int) (W:List Clu):(Nat × Nat) × List Clu :=
 (((ak W (ofC ns (!p) (l.map fun x=>(nd ns x.toNat).a))).1,(ak (ak W (ofC ns (!p) (l.map fun x=>(nd ns x.toNat).a))).2 (ofC ns p (l.map fun x=>(nd ns x.toNat).b))).1),
   (ak (ak W (ofC ns (!p) (l.map fun x=>(nd ns x.toNat).a))).2 (ofC ns p (l.map fun x=>(nd ns x.toNat).b))).2)
set_option maxHeartbeats 4000000 in
theorem EI (ns:List TN) (root:Int) (W:List Clu) (fl p:Bool) (l:List Int) (h:Inn ns) (hl:l.length≤2000) (hk:∀ x∈l,okP ns x) (hka:∀ x∈l,okP ns (nd ns x.toNat).a) (hkb:∀ x∈l,okP ns (nd ns x.toNat).b) (hW:W.length≤900000) :
  HCall Tryz.prog (GT t fz) 52 [.bx [0] 0,.d (.bool p),.d (aj l)] (bO ns root W fl 2) [0,1,2] (fun r hp'=>r=.tup [.d (i64 ((fB ns p l W).1.1:Nat)),.d (i64 ((fB ns p l W).1.2:Nat))]∧hp'=bO ns root (fB ns p l W).2 fl 6):=by
 generalize hR:fB ns p l W=R
 unfold fB at hR
 unfold bO aj
 refine aL Tryz.func52 rfl (by decide +kernel) (by simp [Tryz.ntmps52]) (veil fun E=>?_)
 simp only [go_sem]
 refine fZ E 8 98 none rfl (by rw [aa];decide) ?_
 refine fZ E 9 97 none rfl (by show ¬ _∈[98,0,1,2];decide) ?_
 simp only [go_sem]
 refine au E (X:={ i:Nat // i≤l.length }) (fun x=>[(0,.bx [0] 0),(1,.d (.bool p)),(8,.vw [98] 0 x.1),(9,.vw [97] 0 x.1),(13,.d (.sl none (l.map i64))),(14,.d (i64 l.length)),(15,.d (i64 x.1))])
  (fun x=>[([0],.box [.d (.sl (some 4) (ns.map ah)),.d (i64 root),.mp [1],.vw [2] 0 W.length,.d (.bool fl)]),([1],.map (menc (fun l:List UInt8=>D.str l) (atM 0 W))),([2],.arr (some 3) (W.map cH)),
   ([98],.arr none (((l.take x.1).map fun x=>(nd ns x.toNat).a).map i64)),([97],.arr none (((l.take x.1).map fun x=>(nd ns x.toNat).b).map i64))]) [97,98,0,1,2] (fun x=>l.length-x.1) ⟨0,Nat.zero_le _⟩ id ?_ ?_
 ·simp only [go_sem]
  all_goals first | rfl | ((repeat' apply And.intro)<;>first | rfl | trivial)
 rintro ⟨i,hi⟩ E0
 refine aR E0 fun Q' hQ E'=>?_
 simp only at hi ⊢
 simp only [go_sem]
 refine ai E' (fun h1=>?_) (fun h1=>?_)<;>simp only [go_sem]
 ·have hi':i<l.length:=by omega
  have hx:=hk _ (List.getElem_mem hi')
  have hx1:=hx.1
  have hx2:=hx.2
  have hn:=h.len
  refine ⟨by omega,?_⟩
  rw [aD hi']
  simp only [go_sem]
  refine ag mixed E' fun X=>?_
  simp only [go_sem]
  refine aI X [0] 0 none [.d (.sl (some 4) (ns.map ah)),.d (i64 root),.mp [1],.vw [2] 0 W.length,.d (.bool fl)] (by simp only [go_sem]) rfl rfl ?_
  simp only [go_sem]
  refine ⟨by omega,?_⟩
  rw [dO hx]
  simp only [go_sem]
  refine ⟨by omega,?_⟩
  refine aI X [0] 0 none [.d (.sl (some 4) (ns.map ah)),.d (i64 root),.mp [1],.vw [2] 0 W.length,.d (.bool fl)] (by simp only [go_sem]) rfl rfl ?_
  simp only [go_sem]
  refine ⟨by omega,?_⟩
  rw [dO hx]
  simp only [go_sem]
  refine ⟨by omega,?_⟩
  refine ⟨by decide +kernel,?_⟩
  rw [hQ]
  refine ⟨⟨i+1,hi'⟩,by show l.length-(i+1)<l.length-i;omega,tau [([98],[30]),([97],[42])],?_⟩
  simp only [go_sem]
  rw [ab ⟨by omega,by omega⟩,List.take_of_length_le (show (((l.take i).map fun x=>(nd ns x.toNat).a).map i64).length≤i by simp;omega),List.take_of_length_le (show (((l.take i).map fun x=>(nd ns x.toNat).b).map i64).length≤i by simp;omega),List.take_succ_eq_append_getElem hi',List.map_append,List.map_append,List.map_append,List.map_append]
  (repeat' apply And.intro)<;>first | rfl | trivial
 ·have hie:i=l.length:=by omega
  subst hie
  rw [hQ,List.take_length]
  simp only [go_sem]
  obtain ⟨l1,hl1⟩:∃ l1,l1=l.map fun x=>(nd ns x.toNat).a:=⟨_,rfl⟩
  obtain ⟨l2,hl2⟩:∃ l2,l2=l.map fun x=>(nd ns x.toNat).b:=⟨_,rfl⟩
  have e1:l.length=l1.length:=by rw [hl1,List.length_map]
  have e2:l.length=l2.length:=by rw [hl2,List.length_map]
  have k1:∀ x∈l1,okP ns x:=fun x hx=>by
   rw [hl1] at hx
   obtain ⟨y,hy,rfl⟩:=List.mem_map.1 hx
   exact hka y hy
  have k2:∀ x∈l2,okP ns x:=fun x hx=>by
   rw [hl2] at hx
   obtain ⟨y,hy,rfl⟩:=List.mem_map.1 hx
   exact hkb y hy
  have o1:=j3 h (p:=!p) k1
  have o2:=j3 h (p:=p) k2
  have c1:=pP (G:=GT t fz) ns root h (!p) l1 (by omega) k1
  have c2:=pP (G:=GT t fz) ns root h p l2 (by omega) k2
  rw [← hl1,← hl2] at hR
  rw [← hl1,← hl2]
  generalize ofC ns (!p) l1=C1 at c1 o1 hR
  generalize ofC ns p l2=C2 at c2 o2 hR
  have c3:=qq (t:=t) (fz:=fz) ns root W fl C1 o1 (by omega)
  have w1:=cx W C1
  generalize ak W C1=P1 at c3 w1 hR
  have c4:=qq (t:=t) (fz:=fz) ns root P1.2 fl C2 o2 (by omega)
  generalize ak P1.2 C2=P2 at c4 hR
  rw [show cH C1=.agg [.bool C1.1,.bool C1.2.1,.sl none (C1.2.2.map i64)] from rfl] at c3
  rw [show cH C2=.agg [.bool C2.1,.bool C2.2.1,.sl none (C2.2.2.map i64)] from rfl] at c4
  unfold bO at c3 c4
  refine bA E [.A [98] none (l1.map i64),.U [0] [.sl (some 4) (ns.map ah),i64 root,.unk,.unk,.unk],.B [0] (bD ns root)] [.ptr (bD ns root),.bool (!p),.sl none (l1.map i64)] c1 ?_ ?_ rfl ?_ ⟨by simp only [go_sem],by rw [aa];decide⟩ ?_
  ·rintro r hp' ⟨rfl,rfl⟩
   exact ⟨rfl,by simp [bT,Ob.flat,bU]⟩
  ·unfold bD
   simp only [go_sem]
   refine ⟨_,rfl,?_⟩
   simp only [go_sem]
   exact .inr trivial
  ·unfold bD
   simp only [go_sem]
   rw [List.take_of_length_le (by simp;omega)]
  rintro _ _ ⟨rfl,rfl⟩
  simp only [go_sem]
  refine bt E [49,0] none (C1.2.2.map i64) rfl rfl ?_
  simp only [go_sem]
  refine bn E _ _ _ c3 rfl (by simp only [go_sem]) ⟨by simp only [go_sem],by first | (rw [aa];decide) | (simp only [go_sem]<;>(try rw [aa])<;>decide)⟩ (by simp only [go_sem]) (by simp only [go_sem]) (by simp only [go_sem]) ?_
  rintro _ _ ⟨rfl,rfl⟩
  refine ⟨by simp only [go_sem];try simp,?_⟩
  simp only [go_sem]
  refine bA E [.A [97] none (l2.map i64),.U [0] [.sl (some 4) (ns.map ah),i64 root,.unk,.unk,.unk],.B [0] (bD ns root)] [.ptr (bD ns root),.bool p,.sl none (l2.map i64)] c2 ?_ ?_ rfl ?_ ⟨by simp only [go_sem],by rw [aa];decide⟩ ?_
  ·rintro r hp' ⟨rfl,rfl⟩
   exact ⟨rfl,by simp [bT,Ob.flat,bU]⟩
  ·unfold bD
   simp only [go_sem]
   refine ⟨_,rfl,?_⟩
   simp only [go_sem]
   exact .inr trivial
  ·unfold bD
   simp only [go_sem]
   rw [List.take_of_length_le (by simp;omega)]
  rintro _ _ ⟨rfl,rfl⟩
  simp only [go_sem]
  refine bt E [56,0] none (C2.2.2.map i64) rfl rfl ?_
  simp only [go_sem]
  refine aM E (tau [([2],[50,6])]) _ _ _ c4 rfl (by simp only [go_sem]) ⟨by simp only [go_sem],by first | (rw [aa];decide) | (simp only [go_sem]<;>(try rw [aa])<;>decide)⟩ rfl (by simp only [go_sem]) (by simp only [go_sem]) ?_
  rintro _ _ ⟨rfl,rfl⟩
  refine ⟨by simp only [go_sem];try simp,?_⟩
  simp only [go_sem]
  subst hR
  refine ⟨_,_,[0,1,2,6],tau [([6],[57,6])],⟨rfl,rfl⟩,?_⟩
  simp only [go_sem]
end Go.Proofs.YthfodompfpdmgaaGreatDoor

namespace Go.Proofs
open Go.Shelf
def Tryz.nq:Go.Shelf.Ren:=⟨fun | 10=>130 | n=>n,fun | 33=>113 | 23=>145 | 0=>0 | 4=>4 | 26=>9 | 3=>46 | n=>n,fun | n=>n⟩
theorem Tryz.FF:Go.Proofs.SlLaysZ.n10 Tryz.prog Tryz.nq:={
 mixed:=by kernel_rfl
 f10:=⟨Tryz.f130.name,by decide,Tryz.func130.trans (congrArg some (by kernel_rfl))⟩
 t0:=Tryz.underlying0
 a0:=Tryz.isAgg0
 z0:=Tryz.sizeOf0
 v0:=Tryz.zeroValue0
 t4:=Tryz.underlying4
 a4:=Tryz.isAgg4
 z4:=Tryz.sizeOf4
 v4:=Tryz.zeroValue4
 t23:=Tryz.underlying145
 a23:=Tryz.isAgg145
 z23:=Tryz.sizeOf145
 v23:=Tryz.zeroValue145
 t26:=Tryz.underlying9
 a26:=Tryz.isAgg9
 z26:=Tryz.sizeOf9
 v26:=Tryz.zeroValue9
 t33:=Tryz.underlying113
 a33:=Tryz.isAgg113
 z33:=Tryz.sizeOf113
 v33:=Tryz.zeroValue113 }
def Tryz.dY:Go.Shelf.Ren:=⟨fun | 6=>92 | 8=>128 | 9=>129 | 11=>160 | 13=>127 | 12=>161 | 23=>158 | 24=>159 | 14=>180 | 15=>181 | 16=>182 | 17=>183 | 18=>184 | 19=>185 | 20=>186 | 21=>187 | 22=>188 | 25=>203 | 26=>175 | 27=>176 | 28=>204 | 29=>205 | 30=>206 | 31=>212 | n=>n,fun | 26=>9 | 28=>150 | 24=>139 | 0=>0 | 3=>3 | 37=>184 | 48=>208 | 50=>210 | 4=>4 | 40=>201 | 39=>200 | 45=>100 | 5=>5 | 9=>9 | 51=>223 | 55=>227 | 57=>243 | 58=>102 | 33=>113 | n=>n,fun | n=>n⟩
theorem Tryz.Bl:Go.Proofs.SlLaysZ.n6 Tryz.prog Tryz.dY:={
 mixed:=by kernel_rfl
 f6:=⟨Tryz.f92.name,by decide,Tryz.func92.trans (congrArg some (by kernel_rfl))⟩
 f8:=⟨Tryz.f128.name,by decide,Tryz.func128.trans (congrArg some (by kernel_rfl))⟩
 f11:=⟨Tryz.f160.name,by decide,Tryz.func160.trans (congrArg some (by kernel_rfl))⟩
 t0:=Tryz.underlying0
 a0:=Tryz.isAgg0
 z0:=Tryz.sizeOf0
 v0:=Tryz.zeroValue0
 t24:=Tryz.underlying139
 a24:=Tryz.isAgg139
 z24:=Tryz.sizeOf139
 v24:=Tryz.zeroValue139
 t26:=Tryz.underlying9
 a26:=Tryz.isAgg9
 z26:=Tryz.sizeOf9
 v26:=Tryz.zeroValue9
 t28:=Tryz.underlying150
 a28:=Tryz.isAgg150
 z28:=Tryz.sizeOf150
 v28:=Tryz.zeroValue150
 i26:=by kernel_rfl }
def Tryz.rm:Go.Shelf.Ren:=⟨fun | 6=>129 | 8=>127 | 9=>161 | 19=>158 | 20=>159 | 21=>180 | 22=>181 | 23=>182 | 24=>183 | 25=>184 | 26=>185 | 27=>186 | 28=>187 | 29=>188 | 36=>203 | 31=>175 | 32=>176 | 37=>204 | 38=>205 | 39=>206 | 41=>212 | n=>n,fun | 27=>139 | 29=>9 | 3=>3 | 32=>184 | 26=>139 | 0=>0 | 44=>208 | 46=>210 | 4=>4 | 36=>201 | 35=>200 | 41=>100 | 5=>5 | 9=>9 | 53=>223 | 57=>227 | 63=>243 | 64=>102 | n=>n,fun | n=>n⟩
theorem Tryz.uT:Go.Proofs.SlLaysM.n6 Tryz.prog Tryz.rm:={
 mixed:=by kernel_rfl
 f6:=⟨Tryz.f129.name,by decide,Tryz.func129.trans (congrArg some (by kernel_rfl))⟩
 f8:=Tryz.func127.trans (congrArg some (by kernel_rfl))
 f9:=⟨Tryz.f161.name,by decide,Tryz.func161.trans (congrArg some (by kernel_rfl))⟩
 f19:=Tryz.func158.trans (congrArg some (by kernel_rfl))
 f20:=Tryz.func159.trans (congrArg some (by kernel_rfl))
 f21:=⟨Tryz.f180.name,by decide,Tryz.func180.trans (congrArg some (by kernel_rfl))⟩
 f22:=⟨Tryz.f181.name,by decide,Tryz.func181.trans (congrArg some (by kernel_rfl))⟩
 f23:=⟨Tryz.f182.name,by decide,Tryz.func182.trans (congrArg some (by kernel_rfl))⟩
 f24:=⟨Tryz.f183.name,by decide,Tryz.func183.trans (congrArg some (by kernel_rfl))⟩
 f25:=⟨Tryz.f184.name,by decide,Tryz.func184.trans (congrArg some (by kernel_rfl))⟩
 f26:=⟨Tryz.f185.name,by decide,Tryz.func185.trans (congrArg some (by kernel_rfl))⟩
 f27:=⟨Tryz.f186.name,by decide,Tryz.func186.trans (congrArg some (by kernel_rfl))⟩
 f28:=⟨Tryz.f187.name,by decide,Tryz.func187.trans (congrArg some (by kernel_rfl))⟩
 f29:=⟨Tryz.f188.name,by decide,Tryz.func188.trans (congrArg some (by kernel_rfl))⟩
 f31:=Tryz.func175.trans (congrArg some (by kernel_rfl))
 f32:=Tryz.func176.trans (congrArg some (by kernel_rfl))
 f36:=⟨Tryz.f203.name,by decide,Tryz.func203.trans (congrArg some (by kernel_rfl))⟩
 f37:=⟨Tryz.f204.name,by decide,Tryz.func204.trans (congrArg some (by kernel_rfl))⟩
 f38:=⟨Tryz.f205.name,by decide,Tryz.func205.trans (congrArg some (by kernel_rfl))⟩
 f39:=⟨Tryz.f206.name,by decide,Tryz.func206.trans (congrArg some (by kernel_rfl))⟩
 f41:=⟨Tryz.f212.name,by decide,Tryz.func212.trans (congrArg some (by kernel_rfl))⟩
 t0:=Tryz.underlying0
 a0:=Tryz.isAgg0
 z0:=Tryz.sizeOf0
 v0:=Tryz.zeroValue0
 t3:=Tryz.underlying3
 a3:=Tryz.isAgg3
 z3:=Tryz.sizeOf3
 v3:=Tryz.zeroValue3
 t4:=Tryz.underlying4
 a4:=Tryz.isAgg4
 z4:=Tryz.sizeOf4
 v4:=Tryz.zeroValue4
 t5:=Tryz.underlying5
 a5:=Tryz.isAgg5
 z5:=Tryz.sizeOf5
 v5:=Tryz.zeroValue5
 t9:=Tryz.underlying9
 a9:=Tryz.isAgg9
 z9:=Tryz.sizeOf9
 v9:=Tryz.zeroValue9
 t26:=Tryz.underlying139
 a26:=Tryz.isAgg139
 z26:=Tryz.sizeOf139
 v26:=Tryz.zeroValue139
 t27:=Tryz.underlying139
 a27:=Tryz.isAgg139
 z27:=Tryz.sizeOf139
 v27:=Tryz.zeroValue139
 t29:=Tryz.underlying9
 a29:=Tryz.isAgg9
 z29:=Tryz.sizeOf9
 v29:=Tryz.zeroValue9
 t32:=Tryz.underlying184
 a32:=Tryz.isAgg184
 z32:=Tryz.sizeOf184
 v32:=Tryz.zeroValue184
 t35:=Tryz.underlying200
 a35:=Tryz.isAgg200
 z35:=Tryz.sizeOf200
 v35:=Tryz.zeroValue200
 t36:=Tryz.underlying201
 a36:=Tryz.isAgg201
 z36:=Tryz.sizeOf201
 v36:=Tryz.zeroValue201
 t41:=Tryz.underlying100
 a41:=Tryz.isAgg100
 z41:=Tryz.sizeOf100
 v41:=Tryz.zeroValue100
 t44:=Tryz.underlying208
 a44:=Tryz.isAgg208
 z44:=Tryz.sizeOf208
 v44:=Tryz.zeroValue208
 t46:=Tryz.underlying210
 a46:=Tryz.isAgg210
 z46:=Tryz.sizeOf210
 v46:=Tryz.zeroValue210
 t53:=Tryz.underlying223
 a53:=Tryz.isAgg223
 z53:=Tryz.sizeOf223
 v53:=Tryz.zeroValue223
 t57:=Tryz.underlying227
 a57:=Tryz.isAgg227
 z57:=Tryz.sizeOf227
 v57:=Tryz.zeroValue227
 t63:=Tryz.underlying243
 a63:=Tryz.isAgg243
 z63:=Tryz.sizeOf243
 v63:=Tryz.zeroValue243
 t64:=Tryz.underlying102
 a64:=Tryz.isAgg102
 z64:=Tryz.sizeOf102
 v64:=Tryz.zeroValue102 }
end Go.Proofs

namespace Go.Proofs.YthfodompfpdmgaaGreatDoor
open Go.Ab Go.Lib Go.Shelf Go.RowKit Go.Proofs
theorem Gq {G} (m:D) (hm:m.scal=true):HCall Tryz.prog G 93 [.d m] [] [] (fun r hp'=>r=.clo 130 [.bx [1] 0]∧hp'=[([1],.box [.d m])]):=by
 cases m<;>first | (simp [D.scal] at hm;done) | (
  refine aL Tryz.func93 rfl (by decide +kernel) (by simp [Tryz.ntmps93]) (veil fun E=>?_)
  simp only [go_sem]
  refine ⟨_,_,[1],id,⟨rfl,rfl⟩,?_⟩
  simp only [go_sem])
def jh (l:List (List UInt8)):List (List UInt8):=l.mergeSort fun x y=>decide (x≤y)
def lI (clk:Nat) (bs:List Nat) (es:List (List UInt8 × D)):D:=mpD clk bs (menc (fun l:List UInt8=>D.str l) es)
theorem uN {own:Nat→Prop} {w:World} {v:Value} {clk:Nat} {bs:List Nat} {es:List (List UInt8 × D)} (h:Rep w.heap own v (lI clk bs es)) (hst:Stamps clk bs (menc (fun l:List UInt8=>D.str l) es)) (hnd:(es.map (·.1)).Nodup) (hl:es.length≤10000000) (hb:∀ q∈es,q.1.length≤1000000) :
  ∃ b D0,v=.map (some b)∧w.ownsMap (H:=Unit) Tryz.prog 9 (fun _=>some (.nil,[])) b es.length D0∧Maps.size D0=es.length∧(es.map (·.1)).Perm (strKeys D0):=by
 unfold lI mpD at h
 cases h with
 | mpd b _ ents _ _ _ hbk hn hs hbs hk hv =>
 have hsz:ents.size=es.length:=by simpa [menc] using hs.1
 have hu9:Tryz.prog.underlying 9=some .string:=by kernel_rfl
 have hkey:∀ i (hi:i<es.length),∃ x,ents[i]?=some x∧x.key=.string ⟨es[i].1.toArray⟩:=fun i hi=>by
  have h1:=hk i (.str es[i].1) (by simp [menc,hi])
  have hie:i<ents.size:=by omega
  refine ⟨ents[i],by simp [hie],?_⟩
  rw [Array.getD_eq_getD_getElem?,Array.getElem?_eq_getElem hie,Option.getD_some] at h1
  generalize ents[i].key=kk at h1
  cases h1
  rfl
 have hkl:ents.toList.map (·.key)=(es.map (·.1)).map fun l:List UInt8=>Value.string ⟨l.toArray⟩:=by
  apply List.ext_getElem (by simp [hsz])
  intro i h1 h2
  have hi:i<es.length:=by simpa using h2
  obtain ⟨x,hx,hxk⟩:=hkey i hi
  have hie:i<ents.size:=by omega
  rw [Array.getElem?_eq_getElem hie,Option.some.injEq] at hx
  simp [hx,hxk]
 have hrd:∀ i (hi:i<es.length) (hie:i<ents.size),WideElems.rd (H:=Unit) Tryz.prog 9 (fun _=>some (.nil,[])) ents[i]=some (.string es[i].1,.nil):=fun i hi hie=>by
  obtain ⟨x,hx,hxk⟩:=hkey i hi
  rw [Array.getElem?_eq_getElem hie,Option.some.injEq] at hx
  have h2:keyOf Tryz.prog 9 ents[i].key=some (.string es[i].1):=by
   have:=hb _ (List.getElem_mem hi)
   rw [hx,hxk]
   simp [keyOf,hu9,mapKey,maxLen,ByteArray.size]
   omega
  rw [WideElems.rd,h2]
  rfl
 have hrg:ents.toList.map (WideElems.rg (H:=Unit) Tryz.prog 9 (fun _=>some (.nil,[])))=es.map fun q=>(Lit.string q.1,DataW.nil):=by
  apply List.ext_getElem (by simp [hsz])
  intro i h1 h2
  have hi:i<es.length:=by simpa using h2
  have hie:i<ents.size:=by omega
  rw [List.getElem_map,List.getElem_map,Array.getElem_toList,WideElems.rg_of (hrd i hi hie)]
 refine ⟨b,.map ((ents.toList.map (WideElems.rg (H:=Unit) Tryz.prog 9 (fun _=>some (.nil,[])))).foldr DataW.insert []),rfl,⟨ents,clk,hbk,⟨by rw [hsz];unfold maxLen;omega,⟨fun x hx=>?_,by rw [hbs];exact hst.2.1,?_⟩,fun x hx=>?_⟩,Nat.le_of_eq hsz,rfl⟩,?_,?_⟩
 ·exact hst.2.2 _ (by rw [← hbs];exact List.mem_map.2 ⟨x,hx,rfl⟩)
 ·rw [hkl,List.Nodup,List.pairwise_map]
  refine hnd.imp fun hab e=>hab ?_
  simpa using e
 ·obtain ⟨i,hi,rfl⟩:=List.getElem_of_mem hx
  have hie:i<ents.size:=by simpa using hi
  exact ⟨_,by rw [Array.getElem_toList];exact hrd i (by omega) hie⟩
 ·rw [hrg,Maps.size_eq,length_sorted,List.length_map]
 ·rw [hrg]
  refine List.Perm.symm ?_
  show (List.map (fun p:Lit × DataW Unit=>strOf p.1) _).Perm _
  refine ((WideShapes.sorted_perm _).map _).trans ?_
  rw [List.map_map]
  exact .refl _
theorem CM:∀ vs w,(callFunc 92 vs).run Tryz.prog w=.ok (.enter 92 vs) w:=fun vs w=>cP Tryz.func92 rfl (by decide +kernel) vs w
theorem CE {G} (hsort:AnyZ.SortsIn Tryz.prog Tryz.dY Fence.wide 3) (clk:Nat) (bs:List Nat) (es:List (List UInt8 × D)) (hst:Stamps clk bs (menc (fun l:List UInt8=>D.str l) es)) (hnd:(es.map (·.1)).Nodup) (hl:es.length≤10000000) (hb:∀ q∈es,q.1.length≤1000000) :
  HCall Tryz.prog G 92 [.clo 130 [.bx [1] 0]] [([1],.box [.d (lI clk bs es)])] [1] (fun r hp'=>r=.d (.sl none ((jh (es.map (·.1))).map .str))∧hp'=[([1],.box [.d (lI clk bs es)])]):=by
 refine ⟨CM,fun B β vs w h1 h2 h3 h4 hs=>?_⟩
 have hsz:vs.size=1:=by rw [hs.tms,h1];rfl
 obtain ⟨v0,rfl⟩:∃ v0,vs=#[v0]:=by
  rcases vs with ⟨_ | ⟨x,_ | ⟨y,r⟩⟩⟩<;>simp at hsz
  exact ⟨x,rfl⟩
 have hs0:VR w.heap _ _ _ β v0 (.clo 130 [.bx [1] 0]):=hs.slots 0
 have hhp:(mk (aO 0 [.clo 130 [.bx [1] 0]]) [([1],.box [.d (lI clk bs es)])] [1]).hp [1]=some (.box [.d (lI clk bs es)]):=by simp [mk,lkA]
 cases hs0 with
 | clo _ vs' _ hcs hcv =>
 obtain ⟨p,rfl⟩:∃ p,vs'=#[p]:=by
  rcases vs' with ⟨_ | ⟨x,_ | ⟨y,r⟩⟩⟩<;>simp at hcs
  exact ⟨x,rfl⟩
 have hp0:VR w.heap _ _ _ β p (.bx [1] 0):=hcv 0 _ rfl
 cases hp0 with
 | bx _ _ _ _ _ hat =>
 obtain ⟨k,hk,hk0,rfl⟩:=hat _ _ hhp
 obtain ⟨k',c,e,hk',_,hc,hcz,hcl,hone,hvr⟩:=(hs.objs [1] _ hhp).2
 obtain rfl:=Option.some.inj (hk.symm.trans hk')
 have hm0:=(hvr 0 _ rfl).toD
 obtain ⟨b,D0,hv,hown,hD0,hperm⟩:=uN hm0 hst hnd hl hb
 have hcell:w.cell? ⟨k.b,0,none⟩=some (.map (some b)):=by
  have hlt:0<c.size:=by rw [hcl];exact Nat.zero_lt_one
  rw [Array.getD_eq_getD_getElem?,Array.getElem?_eq_getElem hlt,Option.getD_some] at hv
  simp [World.cell?,hc,hlt,hv]
 have hseq:=AnyZ.keys_gives (ρ:=Tryz.nq) Tryz.FF Fence.wide (4-1-1-1) trivial rfl (by omega) k.b b es.length D0 w (aN hc) hcell hown
 have hrun:=AnyZ.sorted_in (ρ:=Tryz.dY) Tryz.Bl Fence.wide 4 trivial trivial trivial trivial rfl (by omega) hsort (fun vs w=>cP Tryz.func129 rfl (by decide +kernel) vs w) 130 #[.pointer (some ⟨k.b,0,none⟩)] trivial (fun vs w=>cP Tryz.func130 rfl (by decide +kernel) vs w)
  _ _ (by rw [hD0];unfold maxLen;omega) (by rw [hD0];omega) w hseq
 have hcl':=(callsIn_wide (n:=0)).2 ((callsIn_wide (n:=4)).1 hrun)
 refine hcl'.mono ?_
 rintro _ w' ⟨v,ss,rfl,hS,hrow,hnil,hbe⟩
 have hgr:=hs.grown hbe.size hbe.block (by unfold wio;rw [hbe.os,hbe.output])
 have hsr:(ss.mergeSort fun x y=>decide (x≤y))=jh (es.map (·.1)):=mergeSort_of_perm (hS.trans hperm.symm)
 rw [hsr] at hrow
 have hlen:(jh (es.map (·.1))).length=ss.length:=by rw [← hsr,List.length_mergeSort]
 generalize jh (es.map (·.1))=L at hrow hlen ⊢
 refine ⟨v,.d (.sl none (L.map .str)),_,[1],β,rfl,⟨rfl,rfl⟩,?_⟩
 refine { tms:=rfl,io:=hgr.io,size:=hgr.size,frame:=hgr.frame,slots:=fun t=>?_,objs:=hgr.objs,blocks:=hgr.blocks,inj:=hgr.inj,us:=hgr.us,stay:=hgr.stay }
 rw [dP,bB,iJ]
 by_cases ht:t=0
 ·subst ht
  rw [if_pos rfl]
  refine .d _ _ ?_
  show Rep _ _ v _
  rcases hrow.2 with ⟨rfl,hz⟩ | ⟨g,cap,cur,rfl,hbase,hcur,hcap,_,hcs2,htk⟩
  ·have:L=[]:=List.length_eq_zero_iff.1 (by omega)
   subst this
   exact .sl0 _ _ _
  ·have hLm:(L.map D.str).length=ss.length:=by rw [List.length_map,hlen]
   rw [← hLm]
   refine .sl g 0 cap cur _ _ none _ hcur ?_ (by omega) (by simp [wd];omega) (fun x hx=>?_) fun i x j d hi hj=>?_
   ·rintro (hA | ⟨q,kq,hq,hkq,hgq⟩)
    ·have:=B.hA g hA
     rw [h2] at this
     omega
    ·have:=(hs.blocks q kq hq hkq).1
     omega
   ·obtain ⟨y,_,rfl⟩:=List.mem_map.1 hx
    rfl
   ·rw [List.getElem?_map,Option.map_eq_some_iff] at hi
    obtain ⟨y,hy,rfl⟩:=hi
    have hj0:j=0:=by
     have:=(List.getElem?_eq_some_iff.1 hj).1
     simpa [D.cells] using this
    subst hj0
    obtain rfl:=Option.some.inj hj
    have hil:=(List.getElem?_eq_some_iff.1 hy).1
    have h3:=congrArg (fun l:List Value=>l[i]?) htk
    have hic:i<cur.size:=by rw [hcs2];omega
    have hni:i<ss.length*1:=by omega
    simp only [List.getElem?_take,if_pos hni,Array.getElem?_toList,Array.getElem?_eq_getElem hic,List.getElem?_map,hy,Option.map_some,Option.some.injEq] at h3
    have h4:cur.getD (0+i*wd none+0) undef=encStr y:=by
     rw [show 0+i*wd none+0=i by simp [wd],Array.getD_eq_getD_getElem?,Array.getElem?_eq_getElem hic,Option.getD_some,h3]
    rw [h4]
    exact .str y
 ·rw [if_neg ht];exact .un _
theorem Bu:AnyZ.SortsIn Tryz.prog Tryz.dY Fence.wide 3 :=
 ⟨fun blk off cap ss W hH hblk hsz=>callsIn_wide.2 (AnyM.slices_Sort_string Tryz.uT blk off cap ss W hH hblk hsz),fun p cap W=>callsIn_wide.2 (AnyM.slices_Sort_string_none Tryz.uT p cap W)⟩
theorem EG {G} (clk:Nat) (bs:List Nat) (es:List (List UInt8 × D)) (hst:Stamps clk bs (menc (fun l:List UInt8=>D.str l) es)) (hnd:(es.map (·.1)).Nodup) (hl:es.length≤10000000) (hb:∀ q∈es,q.1.length≤1000000) :
 HCall Tryz.prog G 92 [.clo 130 [.bx [1] 0]] [([1],.box [.d (lI clk bs es)])] [1] (fun r hp'=>r=.d (.sl none ((jh (es.map (·.1))).map .str))∧hp'=[([1],.box [.d (lI clk bs es)])]):=CE Bu clk bs es hst hnd hl hb
end Go.Proofs.YthfodompfpdmgaaGreatDoor

namespace Go.Ab
section
variable {P:Program} {cf:Cf} {s:St} {κ:Type} [DecidableEq κ] {ke:κ→D} {kv:κ→Value}
theorem BV {mt kt et:Nat} {x y:Operand} {d:Nat} {ty:TypeId} {ps:String} {af:Array Edge} (p:Name) (clk:Nat) (bs:List Nat) (es:List (D × AV)) (ks:List κ) (key:κ) (i:Nat) (z:D) (v:AV) (hm:(P.ti mt).k=.map kt et) (K:fJ P kt ke kv) (hz:gA P et=some z) (hd:d<cf.n)
  (hx:ev s x=.ma p) (hy:ev s y=.d (ke key)) (hp:s.hp p=some (.mapA clk bs es)) (hks:es.map (·.1)=ks.map ke) (hi:midx ks key=some i) (hv:es[i]?=some (ke key,v)) :
  QE P cf { dst:=some d,op:=.lookup mt x y false,type:=ty,pos:=ps,after:=af,guard:=none } s v ([p],ef0):=by
 refine uw (by simp) (fun t' ht=>by cases ht;exact hd) fun B s' β a w hh he hs=>?_
 have hxv:=hs.ev x
 rw [he x (by simp [Op.operands]),hx] at hxv
 have hyv:=hs.ev y
 rw [he y (by simp [Op.operands]),hy] at hyv
 have hyv:=K.val hyv.toD
 have hp':=(hh p (by simp)).trans hp
 generalize hval:a.eval x=xv at hxv
 cases hxv with
 | ma _ _ hn h1 h =>
   obtain ⟨k,hk,rfl⟩:=h _ _ _ hp'
   obtain ⟨k',ents,hk',hb,⟨hsz,hbo,hbs⟩,hent⟩:=(hs.objs p _ hp').2
   obtain rfl:=Option.some.inj (hk.symm.trans hk')
   have hkeys:=iz K hks hsz hent
   have hf:=K.find key ents.toList ks w hkeys
   rw [hi] at hf
   obtain ⟨en,h2,h3,h4⟩:=hent i _ hv
   obtain ⟨zv,hzr,_⟩:=iP hz
   refine ⟨en.val,?_,h4⟩
   simp only [execOp,hval,hyv,Instr.lookup,Sem.run_bind,run_underlying (ez hm),Result.andThen_ok,MapKept.run_getObj_map hb,K.chk,Sem.run_pure]
   rw [hf]
   simp [h2]
theorem B1 {mt kt et:Nat} {x y:Operand} {d:Nat} {ty:TypeId} {ps:String} {af:Array Edge} (p:Name) (clk:Nat) (bs:List Nat) (es:List (D × AV)) (ks:List κ) (key:κ) (z:D) (hm:(P.ti mt).k=.map kt et) (K:fJ P kt ke kv) (hz:gA P et=some z) (hd:d<cf.n)
  (hx:ev s x=.ma p) (hy:ev s y=.d (ke key)) (hp:s.hp p=some (.mapA clk bs es)) (hks:es.map (·.1)=ks.map ke) (hi:midx ks key=none) :
  QE P cf { dst:=some d,op:=.lookup mt x y false,type:=ty,pos:=ps,after:=af,guard:=none } s (.d z) ([p],ef0):=by
 refine uw (by simp) (fun t' ht=>by cases ht;exact hd) fun B s' β a w hh he hs=>?_
 have hxv:=hs.ev x
 rw [he x (by simp [Op.operands]),hx] at hxv
 have hyv:=hs.ev y
 rw [he y (by simp [Op.operands]),hy] at hyv
 have hyv:=K.val hyv.toD
 have hp':=(hh p (by simp)).trans hp
 generalize hval:a.eval x=xv at hxv
 cases hxv with
 | ma _ _ hn h1 h =>
   obtain ⟨k,hk,rfl⟩:=h _ _ _ hp'
   obtain ⟨k',ents,hk',hb,⟨hsz,hbo,hbs⟩,hent⟩:=(hs.objs p _ hp').2
   obtain rfl:=Option.some.inj (hk.symm.trans hk')
   have hkeys:=iz K hks hsz hent
   have hf:=K.find key ents.toList ks w hkeys
   rw [hi] at hf
   obtain ⟨zv,hzr,hzrep⟩:=iP hz
   refine ⟨zv,?_,.d _ _ (hzrep _ _)⟩
   simp only [execOp,hval,hyv,Instr.lookup,Sem.run_bind,run_underlying (ez hm),Result.andThen_ok,MapKept.run_getObj_map hb,K.chk,Sem.run_pure]
   rw [hf]
   simp [hzr]
theorem Gz {mt kt et:Nat} {x y z:Operand} {ty:TypeId} {ps:String} {af:Array Edge} (p:Name) (clk:Nat) (bs:List Nat) (es:List (D × AV)) (ks:List κ) (key:κ) (i:Nat) (v0 v:AV) (hm:(P.ti mt).k=.map kt et) (K:fJ P kt ke kv)
  (hx:ev s x=.ma p) (hy:ev s y=.d (ke key)) (hz:ev s z=v) (hp:s.hp p=some (.mapA clk bs es)) (hks:es.map (·.1)=ks.map ke) (hi:midx ks key=some i) (hv:es[i]?=some (ke key,v0)) :
  QE P cf { dst:=none,op:=.mapUpdate mt x y z,type:=ty,pos:=ps,after:=af,guard:=none } s .un ([p],⟨[(p,some (.mapA clk bs (es.set i (ke key,v))))],[]⟩):=by
 intro s' _ hh he' B hB ds β a w hds hs Q'
 have hxv:=hs.ev x
 rw [he' x (by simp [Op.operands]),hx] at hxv
 have hyv:=hs.ev y
 rw [he' y (by simp [Op.operands]),hy] at hyv
 have hyv:=K.val hyv.toD
 have hzv:=hs.ev z
 rw [he' z (by simp [Op.operands]),hz] at hzv
 have hp':=(hh p (by simp)).trans hp
 generalize hval:a.eval x=xv at hxv
 cases hxv with
 | ma _ _ hn h1 h =>
   obtain ⟨k,hk,rfl⟩:=h _ _ _ hp'
   obtain ⟨k',ents,hk',hb,⟨hsz,hbo,hbs⟩,hent⟩:=(hs.objs p _ hp').2
   obtain rfl:=Option.some.inj (hk.symm.trans hk')
   have hkeys:=iz K hks hsz hent
   have hf:=K.find key ents.toList ks w hkeys
   rw [hi] at hf
   obtain ⟨en,h2,h3,h4⟩:=hent i _ hv
   have hke:=K.val h3
   have h2':ents.toList[i]?=some en:=by simpa using h2
   have hrun:(execOp a.eval { dst:=none,op:=.mapUpdate mt x y z,type:=ty,pos:=ps,after:=af,guard:=none }).run P w=.ok .skip { w with heap:=w.heap.setIfInBounds k.b (.map (ents.modify i fun e=>{ e with key:=kv key,val:=a.eval z }) clk) }:=by
    simp only [execOp,hval,hyv,Instr.mapUpdate,Sem.run_bind,run_underlying (ez hm),Result.andThen_ok,MapKept.run_getObj_map hb,K.chk,Sem.run_pure]
    rw [hf]
    simp [setObj,Sem.run,Instr.keyThatStays,h2,hke,K.same,hb]
   have hsim:=(hs.modify (p:=p) (ob':=.mapA clk bs (es.set i (ke key,v))) hp' trivial (w':={ w with heap:=w.heap.setIfInBounds k.b (.map (ents.modify i fun e=>{ e with key:=kv key,val:=a.eval z }) clk) }) rfl (by simp)
    (fun b' hb'=>by
     have:b'≠k.b:=hb' k hk
     simp [Ne.symm this]) (fun hv' hr'=>by
     refine ⟨k,ents.modify i fun e=>{ e with key:=kv key,val:=a.eval z },hk,by simp [aN hb],⟨by simpa using hsz,jD hbo _ _ fun _=>rfl,(wW i (fun e=>{ e with key:=kv key,val:=a.eval z }) fun _=>rfl).trans hbs⟩,fun j x' hj=>?_⟩
     by_cases hij:i=j
     ·subst hij
      rw [List.getElem?_set_self (List.getElem?_eq_some_iff.1 hv).1] at hj
      cases hj
      exact ⟨{ en with key:=kv key,val:=a.eval z },by rw [Array.getElem?_modify,if_pos rfl,h2];rfl,K.rep _ _ _,hv' _ _ hzv⟩
     ·rw [List.getElem?_set_ne hij] at hj
      obtain ⟨en',g1,g2,g3⟩:=hent j x' hj
      exact ⟨en',by rw [Array.getElem?_modify,if_neg hij];exact g1,hr' _ _ g2,hv' _ _ g3⟩)).1
   refine az (by simp) hrun (.inr ⟨rfl,rfl⟩) ⟨hds,β,?_⟩
   rw [ku]
   exact hsim
theorem F9 {mt kt et:Nat} {x y z:Operand} {ty:TypeId} {ps:String} {af:Array Edge} (p:Name) (clk:Nat) (bs:List Nat) (es:List (D × AV)) (ks:List κ) (key:κ) (v:AV) (hm:(P.ti mt).k=.map kt et) (K:fJ P kt ke kv)
  (hx:ev s x=.ma p) (hy:ev s y=.d (ke key)) (hz:ev s z=v) (hp:s.hp p=some (.mapA clk bs es)) (hks:es.map (·.1)=ks.map ke) (hi:midx ks key=none) :
  QE P cf { dst:=none,op:=.mapUpdate mt x y z,type:=ty,pos:=ps,after:=af,guard:=none } s .un ([p],⟨[(p,some (.mapA (clk+1) (bs++[clk]) (es++[(ke key,v)])))],[]⟩):=by
 intro s' _ hh he' B hB ds β a w hds hs Q'
 have hxv:=hs.ev x
 rw [he' x (by simp [Op.operands]),hx] at hxv
 have hyv:=hs.ev y
 rw [he' y (by simp [Op.operands]),hy] at hyv
 have hyv:=K.val hyv.toD
 have hzv:=hs.ev z
 rw [he' z (by simp [Op.operands]),hz] at hzv
 have hp':=(hh p (by simp)).trans hp
 generalize hval:a.eval x=xv at hxv
 cases hxv with
 | ma _ _ hn h1 h =>
   obtain ⟨k,hk,rfl⟩:=h _ _ _ hp'
   obtain ⟨k',ents,hk',hb,⟨hsz,hbo,hbs⟩,hent⟩:=(hs.objs p _ hp').2
   obtain rfl:=Option.some.inj (hk.symm.trans hk')
   have hkeys:=iz K hks hsz hent
   have hf:=K.find key ents.toList ks w hkeys
   rw [hi] at hf
   have hrun:(execOp a.eval { dst:=none,op:=.mapUpdate mt x y z,type:=ty,pos:=ps,after:=af,guard:=none }).run P w=.ok .skip { w with heap:=w.heap.setIfInBounds k.b (.map (ents.push { key:=kv key,val:=a.eval z,born:=clk }) (clk+1)) }:=by
    simp only [execOp,hval,hyv,Instr.mapUpdate,Sem.run_bind,run_underlying (ez hm),Result.andThen_ok,MapKept.run_getObj_map hb,K.chk,Sem.run_pure]
    rw [hf]
    simp [setObj,Sem.run,hb]
   have hsim:=(hs.modify (p:=p) (ob':=.mapA (clk+1) (bs++[clk]) (es++[(ke key,v)])) hp' trivial (w':={ w with heap:=w.heap.setIfInBounds k.b (.map (ents.push { key:=kv key,val:=a.eval z,born:=clk }) (clk+1)) }) rfl (by simp)
    (fun b' hb'=>by
     have:b'≠k.b:=hb' k hk
     simp [Ne.symm this]) (fun hv' hr'=>by
     refine ⟨k,ents.push { key:=kv key,val:=a.eval z,born:=clk },hk,by simp [aN hb],⟨by simp [hsz],nt hbo _ _,by simp [hbs]⟩,fun j x' hj=>?_⟩
     by_cases hlt:j<es.length
     ·rw [List.getElem?_append_left hlt] at hj
      obtain ⟨en',g1,g2,g3⟩:=hent j x' hj
      exact ⟨en',by rw [Array.getElem?_push,if_neg (by omega)];exact g1,hr' _ _ g2,hv' _ _ g3⟩
     ·have hj2:=(List.getElem?_eq_some_iff.1 hj).1
      rw [List.length_append,List.length_singleton] at hj2
      have:j=es.length:=by omega
      subst this
      rw [List.getElem?_append_right (by omega),Nat.sub_self] at hj
      cases hj
      exact ⟨_,by rw [Array.getElem?_push,if_pos hsz.symm],K.rep _ _ _,hv' _ _ hzv⟩)).1
   refine az (by simp) hrun (.inr ⟨rfl,rfl⟩) ⟨hds,β,?_⟩
   rw [ku]
   exact hsim
end
def AV.oh (p:Name) (t:Nat):AV→AV
 | .ma q=>if q=p then .mp [t] else .ma q
 | x=>x
theorem Sim.Ij {B:Base} {β:Name→Option Blk} {s:St} {tm:Array Value} {w:World} (h:Sim B β s tm w) {t:Nat} (ht:t ∉ s.used) {p:Name} {clk:Nat} {bs:List Nat} {es:List (D × D)} (hp:s.hp p=some (.mapA clk bs (es.map fun x=>(x.1,.d x.2)))) :
  ∃ β',Sim B β' { ((s.set p none).add t (.map es)) with fr:=fun i=>(s.fr i).oh p t } tm w:=by
 obtain ⟨k,ents,a1,a2,⟨a3,a4,a5⟩,a6⟩:=(h.objs p _ hp).2
 have h1:=h.Fi ht hp a1 (.map es) k.o (w':=w) rfl rfl (fun _ _=>rfl) (fun β' hβ hv=>by
  refine ⟨_,ents,clk,hβ,a2,⟨by simpa using a3,a4⟩,fun i x hi=>?_⟩
  obtain ⟨en,b1,b2,b3⟩:=a6 i (x.1,.d x.2) (by rw [List.getElem?_map,hi];rfl)
  exact ⟨en,b1,(hv _ _ (.d _ _ b2)).toD,(hv _ _ b3).toD⟩)
 refine ⟨_,{ tms:=h1.tms,io:=h1.io,size:=h1.size,frame:=h1.frame,slots:=fun i=>?_,objs:=h1.objs,blocks:=h1.blocks,inj:=h1.inj,us:=h1.us,stay:=h1.stay }⟩
 have h2:=h1.slots i
 have h3:=h.slots i
 have e0:((s.set p none).add t (.map es)).fr i=s.fr i:=rfl
 rw [e0] at h2
 show VR _ _ _ _ _ _ ((s.fr i).oh p t)
 generalize tm.getD i undef=v at h2 h3 ⊢
 cases hx:s.fr i with
 | ma q =>
   rw [hx] at h2 h3
   by_cases e:q=p
   ·subst e
    obtain ⟨k',hk',hval⟩:∃ k',β q=some k'∧v=.map (some k'.b):=by
     cases h3 with
     | ma _ _ _ _ hx=>exact hx _ _ _ hp
    rw [a1] at hk'
    cases hk'
    simp only [AV.oh,if_pos]
    rw [hval]
    refine .mp _ _ ⟨t,[],rfl,List.mem_cons_self⟩ rfl fun es' hxs=>?_
    exact ⟨_,by simp [ax],rfl⟩
   ·simp only [AV.oh,if_neg e]
    exact h2
 | _=>rw [hx] at h2;exact h2
theorem rC (p:Name) (n:Nat) (t:Nat):∀ l:List (Nat × AV),(lkA .un l t).oh p n=lkA .un (l.map fun q=>(q.1,q.2.oh p n)) t
 | []=>rfl
 | q::r=>by
   simp only [lkA,List.map_cons]
   split
   ·rfl
   ·exact rC p n t r
theorem EH {P:Program} {cf:Cf} {Q:Exit→St→Prop} {s:St} {k:List It} (E:Eng P cf Q) {d:Option Nat} {op:Op} {ty:TypeId} {ps:String} {af:Array Edge} {X:Type} (S':X→St) (hs:∀ B β tm w,cf.fits B→Sim B β s tm w→∃ x β',Sim B β' (S' x) tm w)
  (h:∀ x,E.stp { dst:=d,op:=op,type:=ty,pos:=ps,after:=af,guard:=none } (S' x) k (opR P.ti cf.n op d (S' x))) :
  E.stp { dst:=d,op:=op,type:=ty,pos:=ps,after:=af,guard:=none } s k .no:=by
 rw [aK]
 intro B hB ds β a w' hds hs0 Q'
 obtain ⟨x,β',hs'⟩:=hs B β _ _ hB hs0
 have h1:=h x
 rw [E.stp_eq] at h1
 exact cg (o:={ dst:=d,op:=op,type:=ty,pos:=ps,after:=af,guard:=none }) rfl h1 B hB ds β' a w' hds hs' Q'
end Go.Ab

namespace Go.Proofs.YthfodompfpdmgaaGreatDoor
open Go.Ab
variable {t:TypeId} {fz:Nat × Nat}
def xG (xs ys:List (Option (List D))):Name→Option (W × List D)
 | [a,i]=>if a=202 then (xs.getD i none).map fun z=>(none,z) else if a=203 then (ys.getD i none).map fun z=>(none,z) else none
 | _=>none
theorem getD_some {xs:List (Option (List D))} {i:Nat} {z:List D} (h:xs.getD i none=some z):xs[i]?=some (some z):=by
 rw [List.getD_eq_getElem?_getD] at h
 cases hx:xs[i]? with
 | none=>rw [hx] at h;cases h
 | some o=>rw [hx] at h;rw [← h];rfl
theorem ze {xs ys:List (Option (List D))} {q:Name} {x:W × List D} (h:xG xs ys q=some x):(q,Ob.arr x.1 x.2)∈om xs ys:=by
 unfold xG at h
 split at h
 ·split at h
  ·rename_i e
   subst e
   obtain ⟨z,hz,rfl⟩:=Option.map_eq_some_iff.1 h
   exact Fb (getD_some hz)
  ·split at h
   ·rename_i e
    subst e
    obtain ⟨z,hz,rfl⟩:=Option.map_eq_some_iff.1 h
    exact EU (getD_some hz)
   ·cases h
 ·cases h
theorem F5 {s:St} {g:Name→Option (W × List D)} {q:Name} {o:Ob} (hg:g q=none) (h:s.hp q=some o):(s.frS g).hp q=some (o.frS g):=by
 show (match g q with | some _=>none | none=>(s.hp q).map (Ob.frS g))=_
 rw [hg,h]
 rfl
end Go.Proofs.YthfodompfpdmgaaGreatDoor

namespace Go.Proofs.YthfodompfpdmgaaGreatDoor
open Go.Ab
variable {t:TypeId} {fz:Nat × Nat}
abbrev FT:=List (List UInt8 × List Int)
def mt (F:List (List UInt8 × List Int)) (vs:List AV):List (D × AV):=(F.map fun q=>D.str q.1).zip vs
theorem l3 {F:List (List UInt8 × List Int)} {vs:List AV} (h:vs.length=F.length):(mt F vs).map (·.1)=(F.map (·.1)).map fun l:List UInt8=>D.str l:=by
 unfold mt
 rw [List.map_fst_zip (by simp [h]),List.map_map]
 rfl
theorem mF (F:List (List UInt8 × List Int)) (vs:List AV) (τ:Name→Name):(mt F vs).map (fun q=>(q.1,q.2.ren τ))=mt F (bM τ vs):=by
 unfold mt
 rw [AO,List.zip_map_right]
 rfl
theorem tx {F:List (List UInt8 × List Int)} {vs:List AV} {m:Nat} {key:List UInt8} {L:List Int} {v:AV} (h1:F[m]?=some (key,L)) (h2:vs[m]?=some v):(mt F vs)[m]?=some (D.str key,v):=by
 unfold mt
 rw [List.getElem?_zip_eq_some]
 exact ⟨by rw [List.getElem?_map,h1];rfl,h2⟩
theorem FK {F:List (List UInt8 × List Int)} {vs:List AV} {m:Nat} {key:List UInt8} {L:List Int} {v:AV} (h1:F[m]?=some (key,L)):(mt F vs).set m (D.str key,v)=mt F (vs.set m v):=by
 unfold mt
 apply List.ext_getElem?
 intro i
 by_cases e:m=i
 ·subst e
  by_cases hl:m<((F.map fun q=>D.str q.1).zip vs).length
  ·rw [List.getElem?_set_self hl]
   symm
   rw [List.getElem?_zip_eq_some]
   have:m<vs.length:=by simp at hl;omega
   exact ⟨by rw [List.getElem?_map,h1];rfl,List.getElem?_set_self this⟩
  ·rw [List.getElem?_eq_none (by simpa using Nat.le_of_not_lt hl),List.getElem?_eq_none (by simpa using Nat.le_of_not_lt hl)]
 ·rw [List.getElem?_set_ne e]
  have:((F.map fun q=>D.str q.1).zip vs)[i]?=((F.map fun q=>D.str q.1).zip (vs.set m v))[i]?:=by
   cases h3:((F.map fun q=>D.str q.1).zip vs)[i]? with
   | none =>
     symm
     rw [List.getElem?_eq_none_iff] at h3 ⊢
     simpa using h3
   | some z =>
     rw [List.getElem?_zip_eq_some] at h3
     symm
     rw [List.getElem?_zip_eq_some]
     exact ⟨h3.1,by rw [List.getElem?_set_ne e];exact h3.2⟩
  exact this
theorem Dc {F:List (List UInt8 × List Int)} {vs:List AV} {m:Nat} {key:List UInt8} {L M:List Int} (h1:F[m]?=some (key,L)):mt (F.set m (key,M)) vs=mt F vs:=by
 unfold mt
 congr 1
 apply List.ext_getElem?
 intro i
 rw [List.getElem?_map,List.getElem?_map]
 by_cases e:m=i
 ·subst e
  rw [List.getElem?_set_self (List.getElem?_eq_some_iff.1 h1).1,h1]
  rfl
 ·rw [List.getElem?_set_ne e]
theorem CN {F:List (List UInt8 × List Int)} {vs:List AV} {key:List UInt8} {M:List Int} {v:AV} (h:vs.length=F.length):mt F vs++[(D.str key,v)]=mt (F++[(key,M)]) (vs++[v]):=by
 unfold mt
 rw [List.map_append,List.zip_append (by simp [h])]
 rfl
theorem mz {F:List (List UInt8 × List Int)} {vs:List AV} {u:List Nat} (h:bZ u vs=true):(mt F vs).all (fun q=>q.2.inU u)=true:=by
 rw [List.all_eq_true]
 intro q hq
 have:=(List.of_mem_zip (a:=q.1) (b:=q.2) hq).2
 have key:∀ (l:List AV),bZ u l=true→∀ x∈l,x.inU u=true:=by
  intro l
  induction l with
  | nil=>intro _ x hx;simp at hx
  | cons y r ih =>
    intro hl x hx
    simp only [bZ,Bool.and_eq_true] at hl
    rcases List.mem_cons.1 hx with rfl | hx
    ·exact hl.1
    ·exact ih hl.2 x hx
 exact key vs h _ this
theorem iE {key:List UInt8}:∀ {ks:List (List UInt8)} {m:Nat},midx ks key=some m→ks[m]?=some key
 | [],m,h=>by simp [midx] at h
 | x::r,m,h=>by
   simp only [midx] at h
   split at h
   ·rename_i e
    cases h
    rw [e];rfl
   ·cases hr:midx r key with
    | none=>rw [hr] at h;cases h
    | some n =>
      rw [hr] at h
      cases h
      have:=iE hr
      simpa using this
theorem l9 {key:List UInt8}:∀ {ks:List (List UInt8)},midx ks key=none→key ∉ ks
 | [],_=>by simp
 | x::r,h=>by
   simp only [midx] at h
   split at h
   ·cases h
   ·rename_i e
    cases hr:midx r key with
    | some n=>rw [hr] at h;cases h
    | none =>
      intro hm
      rcases List.mem_cons.1 hm with rfl | hm
      ·exact e rfl
      ·exact l9 hr hm
def fft (F:FT):List (Option (List D)):=F.map fun q=>some (q.2.map i64)
theorem Cv {F:FT} {m:Nat} {key:List UInt8} {L:List Int} (h:F[m]?=some (key,L)):(fft F)[m]?=some (some (L.map i64)):=by simp [fft,h]
theorem qC {F:FT} {m:Nat} {key:List UInt8} {L:List Int}:fft (F.set m (key,L))=(fft F).set m (some (L.map i64)):=by simp [fft,List.map_set]
theorem zW {F:FT} {m:Nat} {key:List UInt8} {L:List Int}:(fft (F.set m (key,L))).set m none=(fft F).set m none:=by rw [qC,List.set_set]
def jE (F:FT) (k:List UInt8) (v:Int):FT:=match midx (F.map (·.1)) k with
 | some m=>F.set m (k,(F.getD m ([],[])).2++[v])
 | none=>F++[(k,[v])]
def cW (F:FT) (l:List Fld):FT:=l.foldl (fun F q=>jE F q.1 q.2) F
def gy (ns:List TN) (l:List Int):FT:=l.foldl (fun F x=>cW F (nd ns x.toNat).l) []
def DX (F:FT) (n:Nat):Prop:=∀ q∈F,q.2.length≤n
theorem zT {F:FT} {n:Nat} (h:DX F n) (k:List UInt8) (v:Int):DX (jE F k v) (n+1):=by
 unfold jE
 split
 ·rename_i m hm
  intro q hq
  rcases List.mem_or_eq_of_mem_set hq with hq | rfl
  ·exact Nat.le_succ_of_le (h q hq)
  ·simp only [List.length_append,List.length_singleton]
   by_cases hl:m<F.length
   ·rw [List.getD_eq_getElem?_getD,List.getElem?_eq_getElem hl,Option.getD_some]
    exact Nat.succ_le_succ (h _ (List.getElem_mem hl))
   ·rw [List.getD_eq_getElem?_getD,List.getElem?_eq_none (by omega)]
    simp
 ·intro q hq
  rcases List.mem_append.1 hq with hq | hq
  ·exact Nat.le_succ_of_le (h q hq)
  ·rw [List.mem_singleton.1 hq];simp
def edO (ns:List TN) (root:Int) (W:List Clu) (fl:Bool) (F:FT) (clk:Nat) (bs:List Nat) (r:List (Name × Ob)):List (Name × Ob) :=
 ([0],.box [.d (.sl (some 4) (ns.map ah)),.d (i64 root),.mp [1],.vw [2] 0 W.length,.d (.bool fl)])::([1],.map (menc (fun l:List UInt8=>D.str l) (atM 0 W)))::([2],.arr (some 3) (W.map cH))::([201],.mapA clk bs (mt F (vwL 203 0 (fft F))))::r
theorem leF {U:List Nat} {τ:Name→Name} (ρ:Name→Name) {s:St} {fr:List (Nat × AV)} {hp:List (Name × Ob)} {ys:List (Option (List D))} {u:List Nat} (h1:frL τ u s fr∧hpL τ u s hp)
  (h3:∀ i zs,ys[i]?=some (some zs)→s.hp (τ [203,i])=some (.arr none zs)∧ρ (τ [203,i])=[203,i])
  (hu:(u.contains 202 && u.contains 203)=true) (hU:(U.all fun x=>u.contains x)=true) (hU3:U.contains 203=false) (hn:(hp.map (·.1)).Nodup) (hh:(hp.all fun q=>nohd q.1)=true) (hρ:hp.map (fun q=>ρ (τ q.1))=hp.map (·.1)) (hst:gP U τ hp):LeL U τ s fr (hp++eZ 203 ys []) u:=by
 have h:=Du (xs:=[]) ρ h1 (fun i zs h=>by simp at h) h3 hu hn hh hρ
 exact ⟨h.1,h.2.1,h.2.2.1,hU,kp hst (xx hU3 trivial)⟩
structure EdX (ns:List TN) (l:List Int) where
 i:Nat
 F:FT
 clk:Nat
 bs:List Nat
 hi:i≤l.length
 hF:F=gy ns (l.take i)
 hbs:bs.length=F.length
 hl:DX F (i*1000)
structure EdY (F0:FT) (fs:List Fld) (n0:Nat) where
 j:Nat
 F:FT
 clk:Nat
 bs:List Nat
 hj:j≤fs.length
 hF:F=cW F0 (fs.take j)
 hbs:bs.length=F.length
 hl:DX F (n0+j)
theorem tu {F0:FT} {fs:List Fld} {j:Nat} (h:j<fs.length):cW F0 (fs.take (j+1))=jE (cW F0 (fs.take j)) fs[j].1 fs[j].2:=by
 rw [List.take_succ_eq_append_getElem h,cW,List.foldl_append];rfl
theorem wE {ns:List TN} {l:List Int} {i:Nat} (h:i<l.length):gy ns (l.take (i+1))=cW (gy ns (l.take i)) (nd ns l[i].toNat).l:=by
 rw [List.take_succ_eq_append_getElem h,gy,List.foldl_append];rfl
def edF (l:List Int) (p wh:Bool) (i:Nat):List (Nat × AV):=[(0,.bx [0] 0),(1,.d (.bool p)),(2,.d (.sl none (l.map i64))),(3,.d (.bool wh)),(9,.ma [201]),(18,.d (.sl none (l.map i64))),(19,.d (i64 l.length)),(20,.d (i64 i))]
def edG (l:List Int) (p wh:Bool) (i:Nat) (fs:List Fld) (j:Nat):List (Nat × AV):=edF l p wh i++[(32,.d (.sl (some 2) (fs.map aG))),(33,.d (i64 fs.length)),(34,.d (i64 j))]
def edP (ns:List TN) (root:Int) (W:List Clu) (fl:Bool) (F:FT) (clk:Nat) (bs:List Nat) (m:Nat) (q:Fld) (Lx:List Int):List (Name × Ob) :=
 [([0],.box [.d (.sl (some 4) (ns.map ah)),.d (i64 root),.mp [1],.vw [2] 0 W.length,.d (.bool fl)]),([1],.map (menc (fun l:List UInt8=>D.str l) (atM 0 W))),([2],.arr (some 3) (W.map cH)),([201],.mapA clk bs (mt F ((vwL 203 0 ((fft F).set m none)).set m (.vw [99] 0 Lx.length)))),([13],.box [.d (.str q.1),.d (i64 q.2)]),([99],.arr none (Lx.map i64))]
theorem lP {fs:List Fld} {j:Nat} (h:j<fs.length):(fs.map aG).getD j .nilp=.agg [.str fs[j].1,i64 fs[j].2]:=by simp [h,aG]
def dtF (F:FT):List (List UInt8 × D):=F.map fun q=>(q.1,.sl none (q.2.map i64))
theorem pa (F:FT):(mt F (vwL 203 0 (fft F))).map (fun x=>(x.1,x.2.frS (xG [] (fft F))))=(menc (fun l:List UInt8=>D.str l) (dtF F)).map fun x=>(x.1,.d x.2):=by
 apply List.ext_getElem?
 intro i
 have hv:(vwL 203 0 (fft F)).length=F.length:=by rw [cw];simp [fft]
 cases hF:F[i]? with
 | none =>
   have h1:=List.getElem?_eq_none_iff.1 hF
   rw [List.getElem?_eq_none (by simp [mt,hv];exact h1),List.getElem?_eq_none (by simp [menc,dtF];exact h1)]
 | some q =>
   have hg:xG [] (fft F) [203,0+i]=some (none,q.2.map i64):=by
    simp [xG,fft,hF]
   have hvi:(vwL 203 0 (fft F))[i]?=some (.vw [203,0+i] 0 q.2.length):=by
    rw [eQ]
    simp [fft,hF]
   rw [List.getElem?_map,tx (F:=F) (key:=q.1) (L:=q.2) hF hvi]
   rw [Nat.zero_add] at hg
   simp [menc,dtF,hF,AV.frS,hg,List.take_of_length_le]
theorem Cl (fr:List (Nat × AV)) (hp:List (Name × Ob)) (u:List Nat) (p:Name) (n:Nat) (es:List (D × D)):({ (((mk fr hp u).set p none).add n (.map es)) with fr:=fun i=>((mk fr hp u).fr i).oh p n }:St)=((mk (fr.map fun q=>(q.1,q.2.oh p n)) hp u).set p none).add n (.map es):=by
 show (⟨fun i=>(lkA .un fr i).oh p n,_,_⟩:St)=_
 simp only [rC]
 rfl
structure FOk (P:List UInt8→Prop) (R:Int→Prop) (n:Nat) (F:FT):Prop where
 nd:(F.map (·.1)).Nodup
 ky:∀ q∈F,P q.1
 vl:∀ q∈F,∀ x∈q.2,R x
 ln:F.length≤n
theorem FOk.add {P:List UInt8→Prop} {R:Int→Prop} {n:Nat} {F:FT} (h:FOk P R n F) {k:List UInt8} {v:Int} (hk:P k) (hv:R v):FOk P R (n+1) (jE F k v):=by
 unfold jE
 cases hm:midx (F.map (·.1)) k with
 | none =>
   simp only
   refine ⟨?_,fun q hq=>?_,fun q hq=>?_,by simp;exact h.ln⟩
   ·rw [List.map_append,List.nodup_append]
    refine ⟨h.nd,by simp,fun a ha b hb e=>l9 hm ?_⟩
    rw [List.map_singleton,List.mem_singleton] at hb
    have e2:a=k:=e.trans hb
    exact e2 ▸ ha
   ·rcases List.mem_append.1 hq with hq | hq
    ·exact h.ky q hq
    ·rw [List.mem_singleton.1 hq];exact hk
   ·rcases List.mem_append.1 hq with hq | hq
    ·exact h.vl q hq
    ·rw [List.mem_singleton.1 hq]
     intro x hx
     rw [List.mem_singleton.1 hx];exact hv
 | some m =>
   simp only
   have hg:=iE hm
   rw [List.getElem?_map,Option.map_eq_some_iff] at hg
   obtain ⟨⟨q1,q2⟩,h1,h2⟩:=hg
   simp only at h2
   subst h2
   have hml:m<F.length:=(List.getElem?_eq_some_iff.1 h1).1
   have hmem:=List.mem_of_getElem? h1
   rw [List.getD_eq_getElem?_getD,h1,Option.getD_some]
   refine ⟨?_,fun q hq=>?_,fun q hq=>?_,by rw [List.length_set];exact Nat.le_succ_of_le h.ln⟩
   ·have:(F.set m (q1,q2++[v])).map (·.1)=F.map (·.1):=by
     rw [List.map_set]
     apply List.ext_getElem?
     intro j
     by_cases e:m=j
     ·subst e
      rw [List.getElem?_set_self (by simpa using hml),List.getElem?_map,h1];rfl
     ·rw [List.getElem?_set_ne e]
    rw [this];exact h.nd
   ·rcases List.mem_or_eq_of_mem_set hq with hq | rfl
    ·exact h.ky q hq
    ·exact hk
   ·rcases List.mem_or_eq_of_mem_set hq with hq | rfl
    ·exact h.vl q hq
    ·intro x hx
     rcases List.mem_append.1 hx with hx | hx
     ·exact h.vl _ hmem x hx
     ·rw [List.mem_singleton.1 hx];exact hv
theorem FOk.kU {P:List UInt8→Prop} {R:Int→Prop}:∀ {fs:List Fld} {n:Nat} {F:FT},FOk P R n F→(∀ q∈fs,P q.1∧R q.2)→FOk P R (n+fs.length) (cW F fs)
 | [],_,_,h,_=>h
 | q::r,n,F,h,hf=>by
   have h1:=(h.add (hf q List.mem_cons_self).1 (hf q List.mem_cons_self).2).kU (fs:=r) fun x hx=>hf x (List.mem_cons_of_mem _ hx)
   rw [List.length_cons,show n+(r.length+1)=n+1+r.length by omega]
   exact h1
theorem pY {P:List UInt8→Prop} {R:Int→Prop} {ns:List TN} {l:List Int} (h:∀ x∈l,(nd ns x.toNat).l.length≤1000∧∀ q∈(nd ns x.toNat).l,P q.1∧R q.2):FOk P R (l.length*1000) (gy ns l):=by
 have key:∀ (l:List Int) (n:Nat) (F:FT),(∀ x∈l,(nd ns x.toNat).l.length≤1000∧∀ q∈(nd ns x.toNat).l,P q.1∧R q.2)→FOk P R n F→FOk P R (n+l.length*1000) (l.foldl (fun F x=>cW F (nd ns x.toNat).l) F):=by
  intro l
  induction l with
  | nil=>intro n F _ hF;simpa using hF
  | cons x r ih =>
    intro n F hl hF
    have h0:=hl x List.mem_cons_self
    have h1:=ih (n+(nd ns x.toNat).l.length) _ (fun y hy=>hl y (List.mem_cons_of_mem _ hy)) (hF.kU h0.2)
    rw [List.foldl_cons]
    exact ⟨h1.nd,h1.ky,h1.vl,Nat.le_trans h1.ln (by rw [List.length_cons];have:=h0.1;omega)⟩
 have:=key l 0 [] h ⟨by simp,by simp,by simp,Nat.zero_le _⟩
 rw [Nat.zero_add] at this
 exact this
theorem qW (F:FT):(dtF F).map (·.1)=F.map (·.1):=by simp [dtF,Function.comp_def]
def lkF (F:FT) (k:List UInt8):List Int:=match F.find? fun q=>q.1 == k with
 | some q=>q.2
 | none=>[]
theorem q3 (k:List UInt8):∀ (F:FT),k∈F.map (·.1)→mlook (dtF F) k=some (.sl none ((lkF F k).map i64))
 | [],h=>by simp at h
 | q::r,h=>by
   show mlook ((q.1,.sl none (q.2.map i64))::dtF r) k=_
   rw [mlook]
   by_cases e:q.1=k
   ·rw [if_pos e]
    simp [lkF,e]
   ·rw [if_neg e,q3 k r ((List.mem_cons.1 h).resolve_left fun g=>e g.symm)]
    have:(q.1 == k)=false:=by simpa using e
    simp [lkF,this]
theorem iO {F:FT} {k:List UInt8} (h:k∈F.map (·.1)):(k,lkF F k)∈F:=by
 obtain ⟨q,hq,rfl⟩:=List.mem_map.1 h
 cases hf:F.find? fun x=>x.1 == q.1 with
 | none =>
   have:=List.find?_eq_none.1 hf q hq
   simp at this
 | some z =>
   have h1:=List.find?_some hf
   have h2:=List.mem_of_find?_eq_some hf
   have h3:z.1=q.1:=by simpa using h1
   have:lkF F q.1=z.2:=by simp [lkF,hf]
   rw [this,← h3]
   exact h2
noncomputable def mw (ns:List TN) (p wh:Bool) (n:Nat) (F:FT) (s:List Fld × List Clu) (k:List UInt8):List Fld × List Clu :=
 if (!wh || decide ((lkF F k).length=n))=true then (s.1++[(k,((ak s.2 (ofC ns p (lkF F k))).1:Int))],(ak s.2 (ofC ns p (lkF F k))).2) else s
noncomputable def sh (ns:List TN) (p wh:Bool) (n:Nat) (F:FT) (S:List (List UInt8)) (W:List Clu):List Fld × List Clu:=S.foldl (mw ns p wh n F) ([],W)
theorem xY {ns:List TN} {p wh:Bool} {n:Nat} {F:FT} {S:List (List UInt8)} {W:List Clu} {j:Nat} (h:j<S.length):sh ns p wh n F (S.take (j+1)) W=mw ns p wh n F (sh ns p wh n F (S.take j) W) S[j]:=by
 rw [List.take_succ_eq_append_getElem h,sh,List.foldl_append];rfl
theorem zN {ns:List TN} {p wh:Bool} {n:Nat} {F:FT} {s:List Fld × List Clu} {k:List UInt8}:(mw ns p wh n F s k).1.length≤s.1.length+1∧(mw ns p wh n F s k).2.length≤s.2.length+1:=by
 unfold mw
 split
 ·exact ⟨by simp,cx _ _⟩
 ·exact ⟨Nat.le_succ _,Nat.le_succ _⟩
end Go.Proofs.YthfodompfpdmgaaGreatDoor

namespace Go.Proofs.YthfodompfpdmgaaGreatDoor
open Go.Ab
variable {t:TypeId} {fz:Nat × Nat}
theorem kg:gA Tryz.prog 46=some .nils:=by kernel_rfl
noncomputable def fR (ns:List TN) (p wh:Bool) (l:List Int) (W:List Clu):List Fld × List Clu:=sh ns p wh l.length (gy ns l) (jh ((gy ns l).map (·.1))) W
set_option maxHeartbeats 8000000 in
theorem kB (ns:List TN) (root:Int) (W:List Clu) (fl p wh:Bool) (l:List Int) (h:Inn ns) (hfl:∀ n∈ns,n.l.length≤1000) (hl:l.length≤2000) (hk:∀ x∈l,okP ns x) (hco:∀ x∈l,(nd ns x.toNat).l.length≤1000∧∀ q∈(nd ns x.toNat).l,q.1.length≤1000000∧okP ns q.2) (hW:W.length≤10000000) :
  HCall Tryz.prog (GT t fz) 53 [.bx [0] 0,.d (.bool p),.d (aj l),.d (.bool wh)] (bO ns root W fl 2) [0,1,2] (fun r hp'=>r=.vw [7] 0 (fR ns p wh l W).1.length∧hp'=bO ns root (fR ns p wh l W).2 (fl || decide (30<(fR ns p wh l W).1.length)) 6++[([7],.arr (some 2) ((fR ns p wh l W).1.map aG))]):=by
 generalize hR:fR ns p wh l W=R
 unfold fR at hR
 unfold bO aj
 refine aL Tryz.func53 rfl (by decide +kernel) (by simp [Tryz.ntmps53]) (veil fun E=>?_)
 simp only [go_sem]
 refine Bh E _ _ (tD ⟨by simp only [go_sem],by rw [aa];decide⟩) (by rw [aa];simp) ?_
 simp only [go_sem]
 refine au E (X:=EdX ns l) (fun x=>edF l p wh x.i)
  (fun x=>edO ns root W fl x.F x.clk x.bs (eZ 203 (fft x.F) [])) [0,1,2,201,202,203] (fun x=>l.length-x.i) ⟨0,[],0,[],Nat.zero_le _,rfl,rfl,by intro q hq;cases hq⟩ (tau [([201],[17])]) ?_ ?_
 ·show LeL _ _ _ _ [([0],.box [.d (.sl (some 4) (ns.map ah)),.d (i64 root),.mp [1],.vw [2] 0 W.length,.d (.bool fl)]),([1],.map (menc (fun l:List UInt8=>D.str l) (atM 0 W))),([2],.arr (some 3) (W.map cH)),([201],.mapA 0 [] [])] _
  unfold edF
  simp only [go_sem]
 rintro ⟨i,F,clk,bs,hi,hF,hbs,hlF⟩ E0
 refine aR E0 fun Q' hQ E'=>?_
 simp only
 unfold edO edF
 simp only [go_sem]
 refine ai E' (fun h1=>?_) (fun h1=>?_)<;>simp only [go_sem]
 ·have hil:i<l.length:=by omega
  have hx:=hk _ (List.getElem_mem hil)
  have hx1:=hx.1
  have hx2:=hx.2
  have hn:=h.len
  refine ⟨by omega,?_⟩
  rw [aD hil]
  simp only [go_sem]
  refine ⟨by omega,?_⟩
  rw [dO hx]
  simp only [go_sem]
  have hcf:=wE (ns:=ns) hil
  have hfsl:=hfl (nd ns l[i].toNat) (by rw [jc (by omega)];exact List.getElem_mem _)
  rw [← hF] at hcf
  generalize (nd ns l[i].toNat).l=fs at hcf hfsl ⊢
  refine au E' (X:=EdY F fs (i*1000)) (fun x=>edG l p wh i fs x.j)
   (fun x=>edO ns root W fl x.F x.clk x.bs (eZ 203 (fft x.F) [])) [0,1,2,201,202,203] (fun x=>fs.length-x.j) ⟨0,F,clk,bs,Nat.zero_le _,rfl,hbs,by rw [Nat.add_zero];exact hlF⟩ id ?_ ?_
  ·refine leF (hp:=edO ns root W fl F clk bs []) id ⟨?_,?_⟩ (fun n zs h=>?_) rfl rfl rfl ?_ rfl ?_ ?_
   ·unfold edG edF
    simp only [go_sem]
   ·unfold edO
    simp only [go_sem]
    rw [mF,fN id fun _=>rfl]
    exact ⟨rfl,mz (fL rfl _ _)⟩
   ·refine ⟨?_,rfl⟩
    simp only [go_sem]
    exact hI (fr:=[]) (u:=[]) h
   ·unfold edO
    simp only [List.map_cons,List.map_nil]
    decide
   ·unfold edO
    simp
   ·unfold edO
    simp only [go_sem]
  rintro ⟨j,F2,clk2,bs2,hj,hF2,hbs2,hl2⟩ E1
  refine aR E1 fun Q2 hQ2 E2=>?_
  simp only
  unfold edO edG edF
  simp only [go_sem]
  refine ai E2 (fun h2=>?_) (fun h2=>?_)<;>simp only [go_sem]
  ·have hj':j<fs.length:=by omega
   refine ⟨by omega,?_⟩
   rw [lP hj']
   simp only [go_sem]
   have hnx:=tu (F0:=F) hj'
   rw [← hF2] at hnx
   have hlx:=zT hl2 fs[j].1 fs[j].2
   have hvl2:(vwL 203 0 (fft F2)).length=F2.length:=by rw [cw];simp [fft]
   cases hmx:midx (F2.map (·.1)) fs[j].1 with
   | none =>
     rw [jE,hmx] at hnx hlx
     simp only at hnx hlx
     refine ag mixed E2 fun X=>?_
     simp only [go_sem]
     refine zu X _ _ (B1 [201] clk2 bs2 (mt F2 (vwL 203 0 (fft F2))) (F2.map (·.1)) fs[j].1 .nils (by rw [lg]) p8 kg (by simp only [go_sem]) rfl rfl rfl (l3 hvl2) hmx) (by simp [ef0]) ?_
     simp only [go_sem]
     refine zu X _ _ (F9 [201] clk2 bs2 (mt F2 (vwL 203 0 (fft F2))) (F2.map (·.1)) fs[j].1 (.vw [48] 0 1) (by rw [lg]) p8 rfl rfl rfl rfl (l3 hvl2) hmx) (by simp) ?_
     simp only [go_sem]
     refine ⟨by decide +kernel,?_⟩
     rw [hQ2,fV]
     rw [CN (M:=[fs[j].2]) (v:=AV.vw [48] 0 1) hvl2]
     have hff:fft (F2++[(fs[j].1,[fs[j].2])])=fft F2++[some [i64 fs[j].2]]:=by simp [fft]
     have hfl2:(fft F2).length=F2.length:=by simp [fft]
     have hv3:bM (tau [([203,F2.length],[48])]) (vwL 203 0 (fft (F2++[(fs[j].1,[fs[j].2])])))=vwL 203 0 (fft F2)++[.vw [48] 0 1]:=by
      rw [hff,yJ,Ao,lS]
      ·simp [bM,AV.ren,tau,lkA,hfl2]
      ·intro n zs hn
       have:n<F2.length:=by rw [← hfl2];exact (List.getElem?_eq_some_iff.1 hn).1
       have hne:n≠F2.length:=by omega
       simp [tau,lkA,hne]
     refine ⟨⟨j+1,F2++[(fs[j].1,[fs[j].2])],clk2+1,bs2++[clk2],hj',hnx.symm,by simp [hbs2],by rw [← Nat.add_assoc];exact hlx⟩,by show fs.length-(j+1)<fs.length-j;omega,tau [([203,F2.length],[48])],?_⟩
     refine leF (hp:=edO ns root W fl (F2++[(fs[j].1,[fs[j].2])]) (clk2+1) (bs2++[clk2]) []) (tau [([48],[203,F2.length])]) ⟨?_,?_⟩ (fun n zs h=>?_) rfl rfl rfl ?_ rfl ?_ ?_
     ·unfold edG edF
      rw [ab ⟨by omega,by omega⟩]
      simp only [go_sem]
      rfl
     ·unfold edO
      simp only [go_sem]
      rw [mF,hv3]
      exact ⟨rfl,mz (fL rfl _ _)⟩
     ·rw [hff] at h
      by_cases e:n=F2.length
      ·rw [e] at h ⊢
       rw [List.getElem?_append_right (by omega),hfl2] at h
       simp only [Nat.sub_self,List.getElem?_cons_zero,Option.some.injEq] at h
       rw [show tau [([203,F2.length],[48])] [203,F2.length]=[48] from by simp [tau,lkA]]
       refine ⟨?_,by simp [tau,lkA]⟩
       rw [← h]
       simp only [go_sem]
      ·have e1:tau [([203,F2.length],[48])] [203,n]=[203,n]:=by simp [tau,lkA,e]
       rw [e1]
       refine ⟨?_,by simp [tau,lkA]⟩
       have hlt:=(List.getElem?_eq_some_iff.1 h).1
       rw [List.length_append,hfl2,List.length_singleton] at hlt
       rw [List.getElem?_append_left (by omega)] at h
       simp only [go_sem]
       exact hI (fr:=[]) (u:=[]) h
     ·unfold edO
      simp only [List.map_cons,List.map_nil]
      decide
     ·unfold edO
      simp [tau,lkA]
     ·unfold edO
      simp only [go_sem]
   | some m =>
     obtain ⟨Lx,hFm⟩:∃ Lx,F2[m]?=some (fs[j].1,Lx):=by
      have hg:=iE hmx
      rw [List.getElem?_map,Option.map_eq_some_iff] at hg
      obtain ⟨⟨q1,q2⟩,h1,h2⟩:=hg
      exact ⟨q2,by rw [h1];cases h2;rfl⟩
     have hml:m<F2.length:=(List.getElem?_eq_some_iff.1 hFm).1
     rw [jE,hmx] at hnx hlx
     simp only [List.getD_eq_getElem?_getD,hFm,Option.getD_some] at hnx hlx
     have hLx:Lx.length≤3000000:=by
      have:=hl2 _ (List.mem_of_getElem? hFm)
      simp only at this
      omega
     have hfg:=Cv hFm
     have hvs2:((vwL 203 0 ((fft F2).set m none)).set m (.vw [99] 0 Lx.length))[m]?=some (.vw [99] 0 Lx.length):=List.getElem?_set_self (by rw [cw,List.length_set];simpa [fft] using hml)
     have hvl3:((vwL 203 0 ((fft F2).set m none)).set m (AV.vw [99] 0 Lx.length)).length=F2.length:=by rw [List.length_set,cw,List.length_set];simp [fft]
     refine ix E2 (τ:=tau [([99],[203,m])]) (s2:=mk (edG l p wh i fs j++[(13,.bx [13] 0)]) (edP ns root W fl F2 clk2 bs2 m fs[j] Lx++eZ 203 ((fft F2).set m none) []) [0,1,2,13,99,201,202,203]) (LeL.le (leF (tau [([203,m],[99])]) ⟨?_,?_⟩ (fun n zs h=>?_) rfl rfl rfl ?_ rfl ?_ ?_)) ?_
     ·unfold edG edF
      simp only [go_sem]
     ·unfold edP
      simp only [go_sem]
      have ho:=Dp (h:=203) (p:=[99]) (τ:=tau [([99],[203,m])]) hfg (by simp [tau,lkA]) (fun j=>by simp [tau,lkA])
      rw [List.length_map] at ho
      rw [mF,ho]
      exact ⟨⟨rfl,mz (BE (fL rfl _ _) rfl)⟩,hI (fr:=[]) (u:=[]) hfg⟩
     ·obtain ⟨hne,h⟩:=qH h
      have e1:tau [([99],[203,m])] [203,n]=[203,n]:=by simp [tau,lkA]
      rw [e1]
      refine ⟨?_,by simp [tau,lkA,hne]⟩
      simp only [go_sem]
      exact hI (fr:=[]) (u:=[]) h
     ·unfold edP
      simp only [List.map_cons,List.map_nil]
      decide
     ·unfold edP
      simp [tau,lkA]
     ·unfold edP
      simp only [go_sem]
     unfold edG edF edP
     refine ag mixed E2 fun X=>?_
     simp only [go_sem]
     refine zu X _ _ (BV [201] clk2 bs2 (mt F2 ((vwL 203 0 ((fft F2).set m none)).set m (.vw [99] 0 Lx.length))) (F2.map (·.1)) fs[j].1 m .nils (.vw [99] 0 Lx.length) (by rw [lg]) p8 kg (by simp only [go_sem]) rfl rfl rfl (l3 hvl3) hmx (tx hFm hvs2)) (by simp [ef0]) ?_
     simp only [go_sem]
     refine ⟨by omega,?_⟩
     refine zu X _ _ (Gz [201] clk2 bs2 (mt F2 ((vwL 203 0 ((fft F2).set m none)).set m (.vw [99] 0 Lx.length))) (F2.map (·.1)) fs[j].1 m (.vw [99] 0 Lx.length) (.vw [48] 0 (Lx.length+1)) (by rw [lg]) p8 rfl rfl rfl rfl (l3 hvl3) hmx (tx hFm hvs2)) (by simp) ?_
     simp only [go_sem]
     rw [FK hFm,List.set_set]
     refine ⟨by decide +kernel,?_⟩
     rw [hQ2,fV]
     refine ⟨⟨j+1,F2.set m (fs[j].1,Lx++[fs[j].2]),clk2,bs2,hj',hnx.symm,by rw [List.length_set];exact hbs2,by rw [← Nat.add_assoc];exact hlx⟩,by show fs.length-(j+1)<fs.length-j;omega,tau [([203,m],[48])],?_⟩
     have hg3:(fft (F2.set m (fs[j].1,Lx++[fs[j].2])))[m]?=some (some ((Lx++[fs[j].2]).map i64)):=by rw [qC,List.getElem?_set_self (by simpa [fft] using hml)]
     have hp3:=D9 (h:=203) (τ:=tau [([203,m],[48])]) (p:=[48]) hg3 (by simp [tau,lkA]) (fun j hj=>by simp [tau,lkA,hj])
     rw [zW,List.length_map,List.length_append,List.length_singleton] at hp3
     refine leF (hp:=edO ns root W fl (F2.set m (fs[j].1,Lx++[fs[j].2])) clk2 bs2 []) (tau [([48],[203,m])]) ⟨?_,?_⟩ (fun n zs h=>?_) rfl rfl rfl ?_ rfl ?_ ?_
     ·unfold edG edF
      rw [ab ⟨by omega,by omega⟩]
      simp only [go_sem]
      rfl
     ·unfold edO
      simp only [go_sem]
      rw [Dc hFm,mF,hp3]
      exact ⟨rfl,mz (fL rfl _ _)⟩
     ·by_cases e:n=m
      ·rw [e] at h ⊢
       rw [hg3] at h
       cases h
       rw [show tau [([203,m],[48])] [203,m]=[48] from by simp [tau,lkA]]
       refine ⟨?_,by simp [tau,lkA]⟩
       simp only [go_sem]
       simp
      ·have e1:tau [([203,m],[48])] [203,n]=[203,n]:=by simp [tau,lkA,e]
       rw [e1]
       refine ⟨?_,by simp [tau,lkA]⟩
       rw [qC,List.getElem?_set_ne (fun g=>e g.symm)] at h
       simp only [go_sem]
       exact hI (fr:=[]) (u:=[]) (by rw [List.getElem?_set_ne (fun g=>e g.symm)];exact h)
     ·unfold edO
      simp only [List.map_cons,List.map_nil]
      decide
     ·unfold edO
      simp [tau,lkA]
     ·unfold edO
      simp only [go_sem]
  ·have hjl:j=fs.length:=by omega
   subst hjl
   rw [List.take_length] at hF2
   rw [hQ2]
   simp only [go_sem]
   rw [hQ,fV]
   refine ⟨⟨i+1,F2,clk2,bs2,by omega,by rw [hcf];exact hF2,hbs2,fun q hq=>Nat.le_trans (hl2 q hq) (by omega)⟩,by show l.length-(i+1)<l.length-i;omega,id,?_⟩
   refine leF (hp:=edO ns root W fl F2 clk2 bs2 []) id ⟨?_,?_⟩ (fun n zs h=>?_) rfl rfl rfl ?_ rfl ?_ ?_
   ·unfold edF
    rw [ab ⟨by omega,by omega⟩]
    simp only [go_sem]
    rfl
   ·unfold edO
    simp only [go_sem]
    rw [mF,fN id fun _=>rfl]
    exact ⟨rfl,mz (fL rfl _ _)⟩
   ·refine ⟨?_,rfl⟩
    simp only [go_sem]
    exact hI (fr:=[]) (u:=[]) h
   ·unfold edO
    simp only [List.map_cons,List.map_nil]
    decide
   ·unfold edO
    simp
   ·unfold edO
    simp only [go_sem]
 ·have hil:i=l.length:=by omega
  subst hil
  rw [List.take_length] at hF
  rw [hQ]
  simp only [go_sem]
  refine EH E (X:={ x:Nat × List Nat // Stamps x.1 x.2 (menc (fun l:List UInt8=>D.str l) (dtF F)) }) (fun x=>mk [(0,.bx [0] 0),(1,.d (.bool p)),(2,.d (.sl none (l.map i64))),(3,.d (.bool wh)),(9,.d (lI x.1.1 x.1.2 (dtF F))),(14,.d .nils),(51,.d (lI x.1.1 x.1.2 (dtF F)))]
   [([0],.box [.d (.sl (some 4) (ns.map ah)),.d (i64 root),.mp [1],.vw [2] 0 W.length,.d (.bool fl)]),([1],.map (menc (fun l:List UInt8=>D.str l) (atM 0 W))),([2],.arr (some 3) (W.map cH))] [5,0,1,2,201]) (fun B β tm w hB hs=>?_) ?_
  ·have hs1:=hs.frS (xG [] (fft F)) fun q x hg=>by
    have:=Ct (C:=edO ns root W fl F clk bs []) rfl (ze hg)
    exact this
   obtain ⟨β1,hs2,_⟩:=hs1.le (τ:=id) (s2:=mk [(0,.bx [0] 0),(1,.d (.bool p)),(2,.d (.sl none (l.map i64))),(3,.d (.bool wh)),(9,.ma [201]),(14,.d .nils),(51,.ma [201])]
    [([0],.box [.d (.sl (some 4) (ns.map ah)),.d (i64 root),.mp [1],.vw [2] 0 W.length,.d (.bool fl)]),([1],.map (menc (fun l:List UInt8=>D.str l) (atM 0 W))),([2],.arr (some 3) (W.map cH)),([201],.mapA clk bs ((menc (fun l:List UInt8=>D.str l) (dtF F)).map fun x=>(x.1,.d x.2)))] [0,1,2,201]) (by
    rw [hB.2.1]
    refine LeL.le ⟨?_,?_,?_,rfl,?_⟩
    ·exact ⟨⟨rfl,rfl⟩,⟨rfl,rfl⟩,⟨rfl,rfl⟩,⟨rfl,rfl⟩,⟨rfl,rfl⟩,⟨rfl,rfl⟩,⟨rfl,rfl⟩,trivial⟩
    ·refine ⟨⟨rfl,rfl,rfl⟩,⟨rfl,rfl,rfl⟩,⟨rfl,rfl,rfl⟩,⟨?_,?_,rfl⟩,trivial⟩
     ·rw [← pa F]
      refine (F5 (s:=mk _ _ _) rfl rfl).trans ?_
      show _=some (Ob.mapA _ _ (List.map _ _))
      rw [pa]
      simp [AV.ren,Ob.frS,pa]
     ·show List.all _ _=true
      simp [AV.inU]
    ·exact mS (ρ:=id) (by simp only [List.map_cons,List.map_nil];decide) fun _ _=>rfl
    ·exact kl fun q _ _=>rfl)
   obtain ⟨β2,hs3⟩:=hs2.Ij (t:=5) (by rw [aa];decide) (p:=[201]) rfl
   rw [Cl] at hs3
   simp only [go_sem,AV.oh] at hs3
   obtain ⟨clk',bs',hstm,hs4⟩:=hs3.frM (p:=[5]) rfl
   rw [Ac] at hs4
   exact ⟨⟨(clk',bs'),hstm⟩,β2,hs4⟩
  rintro ⟨⟨ck,bk⟩,hstm⟩
  simp only [go_sem]
  have hFo:=pY (P:=fun k=>k.length≤1000000) (R:=fun x=>okP ns x) (ns:=ns) (l:=l) hco
  rw [← hF] at hFo
  have hFl:F.length≤2000000:=by have:=hFo.ln;omega
  refine bn E _ _ _ (Gq (G:=GT t fz) (lI ck bk (dtF F)) rfl) rfl rfl ⟨by simp only [go_sem],by rw [aa];decide⟩ (by simp only [go_sem]) (by simp only [go_sem]) (by simp only [go_sem]) ?_
  rintro _ _ ⟨rfl,rfl⟩
  refine ⟨by simp only [go_sem];try simp,?_⟩
  simp only [go_sem]
  have hes:(dtF F).length≤10000000:=by
   have:(dtF F).length=F.length:=by simp [dtF]
   omega
  have hkb:∀ q∈dtF F,q.1.length≤1000000:=fun q hq=>by
   obtain ⟨y,hy,rfl⟩:=List.mem_map.1 hq
   exact hFo.ky y hy
  have ck2:=EG (G:=GT t fz) ck bk (dtF F) hstm (by rw [qW];exact hFo.nd) hes hkb
  rw [qW] at ck2
  refine aM E (tau [([1],[52,1])]) _ _ _ ck2 rfl rfl ⟨by simp only [go_sem],by rw [aa];decide⟩ rfl (by simp only [go_sem]) (by simp only [go_sem]) ?_
  rintro _ _ ⟨rfl,rfl⟩
  refine ⟨by simp only [go_sem];try simp,?_⟩
  simp only [go_sem]
  obtain ⟨S,hS⟩:∃ S,S=jh (F.map (·.1)):=⟨_,rfl⟩
  have hSm:∀ k∈S,k∈F.map (·.1):=fun k hk=>by rw [hS] at hk;exact List.mem_mergeSort.1 hk
  have hSl:S.length=F.length:=by rw [hS,jh,List.length_mergeSort,List.length_map]
  rw [← hS]
  refine fZ E 14 98 (some 2) rfl (by rw [aa];decide) ?_
  simp only [go_sem]
  refine au E (X:={ x:Nat × (List Fld × List Clu) // x.1≤S.length∧x.2=sh ns p wh l.length F (S.take x.1) W∧x.2.1.length≤x.1∧x.2.2.length≤W.length+x.1 }) (fun x=>[(0,.bx [0] 0),(1,.d (.bool p)),(2,.d (.sl none (l.map i64))),(3,.d (.bool wh)),(9,.d (lI ck bk (dtF F))),(14,.vw [98] 0 x.1.2.1.length),(53,.d (.sl none (S.map .str))),(54,.d (i64 S.length)),(55,.d (i64 x.1.1))])
   (fun x=>[([0],.box [.d (.sl (some 4) (ns.map ah)),.d (i64 root),.mp [1],.vw [97] 0 x.1.2.2.length,.d (.bool fl)]),([1],.map (menc (fun l:List UInt8=>D.str l) (atM 0 x.1.2.2))),([97],.arr (some 3) (x.1.2.2.map cH)),([98],.arr (some 2) (x.1.2.1.map aG))]) [98,97,0,1,2] (fun x=>S.length-x.1.1) ⟨(0,([],W)),Nat.zero_le _,rfl,Nat.le_refl _,Nat.le_refl _⟩ (tau [([97],[2])]) ?_ ?_
  ·simp only [go_sem]
   all_goals first | rfl | ((repeat' apply And.intro)<;>first | rfl | trivial)
  rintro ⟨⟨j,s⟩,hj,hs,hs1,hs2⟩ E0
  refine aR E0 fun Q' hQ E'=>?_
  simp only at hj hs hs1 hs2 ⊢
  simp only [go_sem]
  refine ai E' (fun h1=>?_) (fun h1=>?_)<;>simp only [go_sem]
  ·have hj':j<S.length:=by omega
   have hkm:=hSm _ (List.getElem_mem hj')
   have hnx:=xY (ns:=ns) (p:=p) (wh:=wh) (n:=l.length) (F:=F) (W:=W) hj'
   rw [← hs] at hnx
   have hlk:=q3 _ F hkm
   refine ⟨by omega,?_⟩
   rw [ir hj',List.getD_eq_getElem?_getD,List.getElem?_eq_getElem hj',Option.getD_some]
   simp only [go_sem]
   have hok:∀ x∈lkF F S[j],okP ns x:=hFo.vl _ (iO hkm)
   have hLl:(lkF F S[j]).length≤10000000:=Nat.le_trans (hlF _ (iO hkm)) (by omega)
   have c1:=pP (G:=GT t fz) ns root h p (lkF F S[j]) hLl hok
   have o1:=j3 h (p:=p) hok
   rw [mw] at hnx
   generalize ofC ns p (lkF F S[j])=C at c1 o1 hnx
   have c2:=qq (t:=t) (fz:=fz) ns root s.2 fl C o1 (by omega)
   rw [show cH C=.agg [.bool C.1,.bool C.2.1,.sl none (C.2.2.map i64)] from rfl] at c2
   unfold bO at c2
   have hP:=cx s.2 C
   generalize ak s.2 C=P at c2 hnx hP
   cases wh with
   | false =>
     rw [if_pos (by rfl)] at hnx
     simp only [go_sem]
     refine kL E' ck bk (dtF F) S[j] .nils (by rw [lg]) p8 kg rfl rfl (by simp) ?_
     rw [hlk]
     simp only [go_sem]
     refine bA E' [.U [0] [.sl (some 4) (ns.map ah),i64 root,.unk,.unk,.unk],.B [0] (bD ns root)] [.ptr (bD ns root),.bool p,.sl none ((lkF F S[j]).map i64)] c1 ?_ ?_ rfl ?_ ⟨by simp only [go_sem],by first | (rw [aa];decide) | (simp only [go_sem]<;>(try rw [aa])<;>decide)⟩ ?_
     ·rintro r hp' ⟨rfl,rfl⟩
      exact ⟨rfl,by simp [bT,Ob.flat,bU]⟩
     ·unfold bD
      simp only [go_sem]
      refine ⟨_,rfl,?_⟩
      simp only [go_sem]
      exact .inr trivial
     ·unfold bD
      simp only [go_sem]
     rintro _ _ ⟨rfl,rfl⟩
     simp only [go_sem]
     refine bt E' [78,0] none (C.2.2.map i64) rfl rfl ?_
     simp only [go_sem]
     refine aM E' (tau [([2],[97])]) _ _ _ c2 rfl (by simp only [go_sem]) ⟨by simp only [go_sem],by first | (rw [aa];decide) | (simp only [go_sem]<;>(try rw [aa])<;>decide)⟩ rfl (by simp only [go_sem]) (by simp only [go_sem]) ?_
     rintro _ _ ⟨rfl,rfl⟩
     refine ⟨by simp only [go_sem];try simp,?_⟩
     simp only [go_sem]
     refine ⟨by omega,?_⟩
     rw [hQ]
     refine ⟨⟨(j+1,(s.1++[(S[j],(P.1:Int))],P.2)),hj',hnx.symm,by simp;omega,by show P.2.length≤W.length+(j+1);omega⟩,by show S.length-(j+1)<S.length-j;omega,tau [([98],[82]),([97],[79,6])],?_⟩
     simp only [go_sem]
     rw [ab ⟨by omega,by omega⟩]
     simp only [List.map_append,List.length_append,List.map_cons,List.map_nil,List.length_cons,List.length_nil]
     (repeat' apply And.intro)<;>first | rfl | trivial
   | true =>
     simp only [Bool.not_true,Bool.false_or,decide_eq_true_eq] at hnx
     simp only [Bool.not_true]
     simp only [go_sem]
     refine kL E' ck bk (dtF F) S[j] .nils (by rw [lg]) p8 kg rfl rfl (by simp) ?_
     rw [hlk]
     simp only [go_sem]
     refine ai E' (fun h3=>?_) (fun h3=>?_)<;>simp only [go_sem]
     ·rw [if_pos (by omega)] at hnx
      refine kL E' ck bk (dtF F) S[j] .nils (by rw [lg]) p8 kg rfl rfl (by simp) ?_
      rw [hlk]
      simp only [go_sem]
      refine bA E' [.U [0] [.sl (some 4) (ns.map ah),i64 root,.unk,.unk,.unk],.B [0] (bD ns root)] [.ptr (bD ns root),.bool p,.sl none ((lkF F S[j]).map i64)] c1 ?_ ?_ rfl ?_ ⟨by simp only [go_sem],by first | (rw [aa];decide) | (simp only [go_sem]<;>(try rw [aa])<;>decide)⟩ ?_
      ·rintro r hp' ⟨rfl,rfl⟩
       exact ⟨rfl,by simp [bT,Ob.flat,bU]⟩
      ·unfold bD
       simp only [go_sem]
       refine ⟨_,rfl,?_⟩
       simp only [go_sem]
       exact .inr trivial
      ·unfold bD
       simp only [go_sem]
      rintro _ _ ⟨rfl,rfl⟩
      simp only [go_sem]
      refine bt E' [78,0] none (C.2.2.map i64) rfl rfl ?_
      simp only [go_sem]
      refine aM E' (tau [([2],[97])]) _ _ _ c2 rfl (by simp only [go_sem]) ⟨by simp only [go_sem],by first | (rw [aa];decide) | (simp only [go_sem]<;>(try rw [aa])<;>decide)⟩ rfl (by simp only [go_sem]) (by simp only [go_sem]) ?_
      rintro _ _ ⟨rfl,rfl⟩
      refine ⟨by simp only [go_sem];try simp,?_⟩
      simp only [go_sem]
      refine ⟨by omega,?_⟩
      rw [hQ]
      refine ⟨⟨(j+1,(s.1++[(S[j],(P.1:Int))],P.2)),hj',hnx.symm,by simp;omega,by show P.2.length≤W.length+(j+1);omega⟩,by show S.length-(j+1)<S.length-j;omega,tau [([98],[82]),([97],[79,6])],?_⟩
      simp only [go_sem]
      rw [ab ⟨by omega,by omega⟩]
      simp only [List.map_append,List.length_append,List.map_cons,List.map_nil,List.length_cons,List.length_nil]
      (repeat' apply And.intro)<;>first | rfl | trivial
     ·rw [if_neg (by omega)] at hnx
      rw [hQ]
      refine ⟨⟨(j+1,s),hj',hnx.symm,by show s.1.length≤j+1;omega,by show s.2.length≤W.length+(j+1);omega⟩,by show S.length-(j+1)<S.length-j;omega,id,?_⟩
      simp only [go_sem]
      rw [ab ⟨by omega,by omega⟩]
      (repeat' apply And.intro)<;>first | rfl | trivial
  ·have hje:j=S.length:=by omega
   subst hje
   rw [List.take_length,hS,hF] at hs
   rw [hR] at hs
   subst hs
   rw [hQ]
   simp only [go_sem]
   cases fl with
   | true =>
     simp only [go_sem]
     refine ⟨_,_,[0,1,2,6,7],tau [([6],[97]),([7],[98])],⟨rfl,rfl⟩,?_⟩
     simp only [go_sem]
   | false =>
     simp only [go_sem]
     refine ⟨_,_,[0,1,2,6,7],tau [([6],[97]),([7],[98])],⟨rfl,rfl⟩,?_⟩
     simp only [go_sem]
     rw [decide_eq_decide.2 (show (30:Int)<(s.1.length:Int)↔30<s.1.length by omega)]
end Go.Proofs.YthfodompfpdmgaaGreatDoor

