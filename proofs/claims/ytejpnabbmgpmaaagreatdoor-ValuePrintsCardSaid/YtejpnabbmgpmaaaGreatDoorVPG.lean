/-
  Whether a node may be, but for its children. (with the parts that follow it)
-/
import Derived.Test.YtejpnabbmgpmaaaGreatDoorVPF
import Derived.Test.YtejpnabbmgpmaaaGreatDoorVPD
import Derived.Test.YtejpnabbmgpmaaaGreatDoorVPE
import Derived.Test.YtejpnabbmgpmaaaGreatDoorVPC
set_option linter.all false
namespace Go.Proofs.YtejpnabbmgpmaaaGreatDoor
open Go.Ab
theorem Cv {G} (n:EN):HP Tryz.prog G 105 [enD n] (fun r=>r=.d (.bool (fR n))):=by
 generalize hb:fR n=b
 unfold fR at hb
 have hk:=da n.k
 unfold enD efD
 refine aj Tryz.func105 rfl (by decide +kernel) (by simp [Tryz.ntmps105]) (veil fun E=>?_)
 simp only [go_sem]
 refine al mixed E fun X=>?_
 simp only [go_sem]
 refine aF X (lK n.k) rfl rfl (by simp) ?_
 simp only [go_sem]
 refine ⟨⟨by omega,by omega⟩,by decide +kernel,?_⟩
 rw [show ([i64 n.a,i64 n.b,i64 n.c]:List D)=[n.a,n.b,n.c].map i64 from rfl]
 obtain ⟨k,hke⟩:∃ k,k=aU n.k:=⟨_,rfl⟩
 rw [← hke] at hk hb ⊢
 have hL:([n.a,n.b,n.c].drop k).length=3-k:=by simp
 have hget:∀ i,i<3-k→(List.map i64 [n.a,n.b,n.c]).getD (k+i) .nilp=i64 (([n.a,n.b,n.c].drop k).getD i 0):=fun i hi=>by
  rw [b9 (by simp;omega),List.getD_eq_getElem?_getD,List.getD_eq_getElem?_getD,List.getElem?_drop]
 generalize ([n.a,n.b,n.c]:List Int)=A at hb hL hget ⊢
 generalize A.drop k=L at hb hL hget
 refine eE E (X:={ i:Nat // i≤3-k∧(L.take i).all (fun x=>decide (x=0))=true }) (fun x=>[(16,.vw [11] k (3-k)),(17,.d (i64 (3-k:Nat))),(18,.d (i64 x.1))])
  (fun x=>[([1],.box [.d (i64 n.k),.d (i64 n.a),.d (i64 n.b),.d (i64 n.c),.d (i64 n.n),.d (.str n.name),.d (.str n.s),.d (.sl (some 3) (n.l.map fD)),.d (i64 n.pos)]),([11],.arr none (A.map i64))]) [11,1] (fun x=>3-k-x.1) ⟨0,by simp⟩ ?_ ?_
 ·simp only [go_sem]
  all_goals rfl
 rintro ⟨i,hi,hall⟩ E0
 refine aH E0 fun Q' hQ E'=>?_
 simp only at hi hall ⊢
 simp only [go_sem]
 refine ah E' (fun g1=>?_) (fun g1=>?_)<;>simp only [go_sem]
 ·have hi':i<3-k:=by omega
  have hi2:i<L.length:=by omega
  have hLi:L.getD i 0=L[i]:=by simp [hi2]
  refine ⟨by omega,?_⟩
  rw [hget i hi',hLi]
  simp only [go_sem]
  refine aI E' (fun g2=>?_) (fun g2=>?_)<;>simp only [go_sem]
  ·rw [hQ]
   simp only [go_sem]
   have:L.all (fun x=>decide (x=0))=false:=List.all_eq_false.2 ⟨_,List.getElem_mem hi2,by simpa using g2⟩
   rw [← hb,this]
  ·rw [hQ]
   simp only [go_sem]
   have g3:decide (L[i]=0)=true:=by simpa using g2
   refine ⟨⟨i+1,by omega,by rw [List.take_succ_eq_append_getElem hi2,List.all_append,hall];simpa using g3⟩,by show 3-k-(i+1)<_;omega,?_⟩
   rw [ai ⟨by omega,by omega⟩]
   rfl
 ·rw [hQ]
  have h3:i=L.length:=by omega
  subst h3
  rw [List.take_length] at hall
  simp only [go_sem]
  rw [← hb,hall]
theorem Ez {G} (n:EN) (h:iW BIG n):HP Tryz.prog G 54 [enD n] (fun r=>r=.d (.bool (a8 n))):=by
 generalize hb:a8 n=b
 unfold a8 at hb
 have c1:=Cw (G:=G) n h
 have c2:=CB (G:=G) n
 have c3:=Co (G:=G) n h
 have c4:=Cv (G:=G) n
 generalize fP n=x1 at c1 hb
 generalize cE n=x2 at c2 hb
 generalize cD n=x3 at c3 hb
 generalize fR n=x4 at c4 hb
 unfold enD efD at *
 refine aj Tryz.func54 rfl (by decide +kernel) (by simp [Tryz.ntmps54]) (veil fun E=>?_)
 simp only [go_sem]
 repeat (first
  | (apply dP E;(· simp only [go_sem]);(· intro h;(try simp only [bq] at h);simp only [↓h,go_sem];rfl);simp only [go_sem])
  | (apply bJ E;(· simp only [go_sem]);(· intro h;(try simp only [bq] at h);simp only [↓h,go_sem];rfl);(· intro h;(try simp only [bq] at h);simp only [↓h,go_sem];rfl);simp only [go_sem])
  | (apply bK E;(· simp only [go_sem]);(· rfl);(· intro h h';(try simp only [bq] at h h');simp only [↓h,↓h',go_sem];rfl);simp only [go_sem])
  | (apply bj E;(· simp only [go_sem]);(· rfl);(· intro h h';(try simp only [bq] at h h');simp only [↓h,↓h',go_sem];rfl);(· intro h h';(try simp only [bq] at h h');simp only [↓h,↓h',go_sem];rfl);simp only [go_sem])
  | (apply dv E;(· decide);simp only [go_sem]))
 refine aI E (fun g=>?_) (fun g=>?_)<;>simp only [go_sem]
 ·have g':¬ (1≤n.k∧n.k≤14∧0≤n.pos∧n.pos≤1048576):=by
   simp only [Bool.or_eq_true,decide_eq_true_eq] at g
   omega
  have:(decide (1≤n.k) && decide (n.k≤14) && decide (0≤n.pos) && decide (n.pos≤1048576))=false:=by
   rw [Bool.eq_false_iff]
   intro hc
   simp only [Bool.and_eq_true,decide_eq_true_eq] at hc
   exact g' ⟨hc.1.1.1,hc.1.1.2,hc.1.2,hc.2⟩
  rw [← hb,this,Bool.false_and]
 ·refine ae E (c1) rfl rfl (by simp) ?_
  rintro _ rfl
  simp only [go_sem]
  repeat (first
   | (apply dP E;(· simp only [go_sem]);(· intro h;(try simp only [bq] at h);simp only [↓h,go_sem];rfl);simp only [go_sem])
   | (apply bJ E;(· simp only [go_sem]);(· intro h;(try simp only [bq] at h);simp only [↓h,go_sem];rfl);(· intro h;(try simp only [bq] at h);simp only [↓h,go_sem];rfl);simp only [go_sem])
   | (apply bK E;(· simp only [go_sem]);(· rfl);(· intro h h';(try simp only [bq] at h h');simp only [↓h,↓h',go_sem];rfl);simp only [go_sem])
   | (apply bj E;(· simp only [go_sem]);(· rfl);(· intro h h';(try simp only [bq] at h h');simp only [↓h,↓h',go_sem];rfl);(· intro h h';(try simp only [bq] at h h');simp only [↓h,↓h',go_sem];rfl);simp only [go_sem])
   | (apply dv E;(· decide);simp only [go_sem]))
  (first | (apply lX E;(· simp only [go_sem]);(· intro h hk;(try simp only [bq] at h);refine ae E (c2) rfl (by simp only [↓h,go_sem]<;>rfl) (by simp) ?_;rintro _ rfl;exact hk);simp only [go_sem]) | (apply jY E;(· simp only [go_sem]);(· rfl);(· intro h h' hk;(try simp only [bq] at h h');refine ae E (c2) rfl (by simp only [↓h,↓h',go_sem]<;>rfl) (by simp) ?_;rintro _ rfl;exact hk);simp only [go_sem]))
  repeat (first
   | (apply dP E;(· simp only [go_sem]);(· intro h;(try simp only [bq] at h);simp only [↓h,go_sem];rfl);simp only [go_sem])
   | (apply bJ E;(· simp only [go_sem]);(· intro h;(try simp only [bq] at h);simp only [↓h,go_sem];rfl);(· intro h;(try simp only [bq] at h);simp only [↓h,go_sem];rfl);simp only [go_sem])
   | (apply bK E;(· simp only [go_sem]);(· rfl);(· intro h h';(try simp only [bq] at h h');simp only [↓h,↓h',go_sem];rfl);simp only [go_sem])
   | (apply bj E;(· simp only [go_sem]);(· rfl);(· intro h h';(try simp only [bq] at h h');simp only [↓h,↓h',go_sem];rfl);(· intro h h';(try simp only [bq] at h h');simp only [↓h,↓h',go_sem];rfl);simp only [go_sem])
   | (apply dv E;(· decide);simp only [go_sem]))
  (first | (apply lX E;(· simp only [go_sem]);(· intro h hk;(try simp only [bq] at h);refine ae E (c3) rfl (by simp only [↓h,go_sem]<;>rfl) (by simp) ?_;rintro _ rfl;exact hk);simp only [go_sem]) | (apply jY E;(· simp only [go_sem]);(· rfl);(· intro h h' hk;(try simp only [bq] at h h');refine ae E (c3) rfl (by simp only [↓h,↓h',go_sem]<;>rfl) (by simp) ?_;rintro _ rfl;exact hk);simp only [go_sem]))
  repeat (first
   | (apply dP E;(· simp only [go_sem]);(· intro h;(try simp only [bq] at h);simp only [↓h,go_sem];rfl);simp only [go_sem])
   | (apply bJ E;(· simp only [go_sem]);(· intro h;(try simp only [bq] at h);simp only [↓h,go_sem];rfl);(· intro h;(try simp only [bq] at h);simp only [↓h,go_sem];rfl);simp only [go_sem])
   | (apply bK E;(· simp only [go_sem]);(· rfl);(· intro h h';(try simp only [bq] at h h');simp only [↓h,↓h',go_sem];rfl);simp only [go_sem])
   | (apply bj E;(· simp only [go_sem]);(· rfl);(· intro h h';(try simp only [bq] at h h');simp only [↓h,↓h',go_sem];rfl);(· intro h h';(try simp only [bq] at h h');simp only [↓h,↓h',go_sem];rfl);simp only [go_sem])
   | (apply dv E;(· decide);simp only [go_sem]))
  (first | (apply lX E;(· simp only [go_sem]);(· intro h hk;(try simp only [bq] at h);refine ae E (c4) rfl (by simp only [↓h,go_sem]<;>rfl) (by simp) ?_;rintro _ rfl;exact hk);simp only [go_sem]) | (apply jY E;(· simp only [go_sem]);(· rfl);(· intro h h' hk;(try simp only [bq] at h h');refine ae E (c4) rfl (by simp only [↓h,↓h',go_sem]<;>rfl) (by simp) ?_;rintro _ rfl;exact hk);simp only [go_sem]))
  repeat (first
   | (apply dP E;(· simp only [go_sem]);(· intro h;(try simp only [bq] at h);simp only [↓h,go_sem];rfl);simp only [go_sem])
   | (apply bJ E;(· simp only [go_sem]);(· intro h;(try simp only [bq] at h);simp only [↓h,go_sem];rfl);(· intro h;(try simp only [bq] at h);simp only [↓h,go_sem];rfl);simp only [go_sem])
   | (apply bK E;(· simp only [go_sem]);(· rfl);(· intro h h';(try simp only [bq] at h h');simp only [↓h,↓h',go_sem];rfl);simp only [go_sem])
   | (apply bj E;(· simp only [go_sem]);(· rfl);(· intro h h';(try simp only [bq] at h h');simp only [↓h,↓h',go_sem];rfl);(· intro h h';(try simp only [bq] at h h');simp only [↓h,↓h',go_sem];rfl);simp only [go_sem])
   | (apply dv E;(· decide);simp only [go_sem]))
  have g':¬ (n.k<1∨14<n.k∨n.pos<0∨1048576<n.pos):=by
   simp only [Bool.or_eq_false_iff,decide_eq_false_iff_not] at g
   omega
  rw [← hb,decide_eq_true (show 1≤n.k by omega),decide_eq_true (show n.k≤14 by omega),decide_eq_true (show 0≤n.pos by omega),decide_eq_true (show n.pos≤1048576 by omega)]
  rfl
end Go.Proofs.YtejpnabbmgpmaaaGreatDoor

namespace Go.Proofs.YtejpnabbmgpmaaaGreatDoor
open Go.Ab
def bump (cs:List Int) (k:Int):List Int:=cs.set k.toNat (cs.getD k.toNat 0+1)
def bumps (cs ks:List Int):List Int:=ks.foldl bump cs
theorem rv (cs:List Int) (k:Int):(bump cs k).length=cs.length:=by simp [bump]
theorem e7 (ks:List Int):∀ cs:List Int,(bumps cs ks).length=cs.length:=by
 induction ks with
 | nil=>intro cs;rfl
 | cons k r ih=>intro cs;show (bumps (bump cs k) r).length=_;rw [ih,rv]
theorem sy (cs ks:List Int) (k:Int):bumps cs (ks++[k])=bump (bumps cs ks) k:=by simp [bumps]
def Bd (M:Nat) (cs:List Int):Prop:=∀ c∈cs,0≤c∧c≤(M:Int)
theorem Bd.bump {M:Nat} {cs:List Int} (h:Bd M cs) (k:Int):Bd (M+1) (bump cs k):=by
 intro c hc
 rcases List.mem_or_eq_of_mem_set hc with hc | hc
 ·have:=h c hc;omega
 ·by_cases hk:k.toNat<cs.length
  ·have:=h cs[k.toNat] (List.getElem_mem hk)
   rw [hc,show cs.getD k.toNat 0=cs[k.toNat] by simp [hk]]
   omega
  ·rw [hc,show cs.getD k.toNat 0=0 by simp [hk]]
   omega
theorem Bd.bumps {ks:List Int}:∀ {M:Nat} {cs:List Int},Bd M cs→Bd (M+ks.length) (bumps cs ks):=by
 induction ks with
 | nil=>intro M cs h;exact h
 | cons k r ih =>
   intro M cs h
   have:=ih (h.bump k)
   rw [List.length_cons]
   intro c hc
   have:=this c hc
   omega
theorem Bd.get {M:Nat} {cs:List Int} (h:Bd M cs) (i:Nat):0≤cs.getD i 0∧cs.getD i 0≤(M:Int):=by
 by_cases hi:i<cs.length
 ·rw [show cs.getD i 0=cs[i] by simp [hi]];exact h _ (List.getElem_mem hi)
 ·rw [show cs.getD i 0=0 by simp [hi]];omega
def inB (i:Nat) (k:Int):Bool:=decide (0≤k) && decide (k<(i:Int))
theorem Ff {G} (ns:List EN) (i:Nat) (cs:List Int) (M:Nat) (hi:i<ns.length) (hn:ns.length≤1000000) (hc:cs.length=ns.length) (hl:(ndE ns i).l.length≤1000000) (hM:Bd M cs) (hM2:M≤1000000000000) :
  HCall Tryz.prog G 55 [.d (exD ns),.d (i64 i),.vw [100] 0 ns.length] [([100],.arr none (cs.map i64))] [100]
   (fun r hp'=>∃ cs':List Int,cs'.length=ns.length∧(eX ns i=true→cs'=bumps cs (ar (ndE ns i)))∧r=.d (.bool (eX ns i))∧hp'=[([100],.arr none (cs'.map i64))]):=by
 have hg:=cM hi
 obtain ⟨n,hne⟩:∃ n,n=ndE ns i:=⟨_,rfl⟩
 rw [← hne] at hl hg ⊢
 have hkl:=dU n
 have hwl:cn n≤1000003:=by unfold cn;have:=da n.k;split<;>omega
 obtain ⟨K,hK⟩:∃ K,K=ar n:=⟨_,rfl⟩
 have hlk:eX ns i=(K.all (inB i) && (decide (n.k≠8) || decide ((ndE ns n.a.toNat).k=5))):=by
  unfold eX inB
  rw [← hne,← hK]
 rw [hlk]
 have hkc:=mW (G:=G) n (by omega)
 rw [← hK] at hkc hkl ⊢
 unfold exD
 refine an Tryz.func55 rfl (by decide +kernel) (by simp [Tryz.ntmps55]) (veil fun E=>?_)
 simp only [go_sem]
 refine ⟨by omega,?_⟩
 rw [hg]
 simp only [go_sem]
 refine ab E [.d (enD n)] [] [] hkc rfl rfl ⟨by simp only [go_sem],by rw [aa];decide⟩ rfl (by simp only [go_sem]) (by simp only [go_sem]) ?_
 rintro _ _ ⟨rfl,rfl⟩
 simp only [go_sem]
 refine ky E [14,0] none (K.map i64) rfl ?_
 simp only [go_sem]
 refine eE E (X:={ q:Nat // q≤K.length∧(K.take q).all (inB i)=true }) (fun x=>[(1,.d (i64 i)),(2,.vw [100] 0 ns.length),(3,.bx [3] 0),(6,.d (.bool false)),(14,.d (.sl none (K.map i64))),(15,.d (i64 K.length)),(16,.d (i64 x.1))])
  (fun x=>[([100],.arr none ((bumps cs (K.take x.1)).map i64)),([3],.box [.d (.sl (some 9) (ns.map enD))])]) [3,100] (fun x=>K.length-x.1) ⟨0,by simp⟩ ?_ ?_
 ·simp only [go_sem]
  all_goals rfl
 rintro ⟨q,hq,hall⟩ E0
 refine aH E0 fun Q' hQ E'=>?_
 simp only at hq hall ⊢
 simp only [go_sem]
 refine ah E' (fun g1=>?_) (fun g1=>?_)<;>simp only [go_sem]
 ·have hq':q<K.length:=by omega
  refine ⟨by omega,?_⟩
  rw [b9 hq',show K.getD q 0=K[q] by simp [hq']]
  simp only [go_sem]
  repeat (first
   | (apply dP E';(· simp only [go_sem]);(· intro h;(try simp only [bq] at h);simp only [↓h,go_sem];rfl);simp only [go_sem])
   | (apply bJ E';(· simp only [go_sem]);(· intro h;(try simp only [bq] at h);simp only [↓h,go_sem];rfl);(· intro h;(try simp only [bq] at h);simp only [↓h,go_sem];rfl);simp only [go_sem])
   | (apply bK E';(· simp only [go_sem]);(· rfl);(· intro h h';(try simp only [bq] at h h');simp only [↓h,↓h',go_sem];rfl);simp only [go_sem])
   | (apply bj E';(· simp only [go_sem]);(· rfl);(· intro h h';(try simp only [bq] at h h');simp only [↓h,↓h',go_sem];rfl);(· intro h h';(try simp only [bq] at h h');simp only [↓h,↓h',go_sem];rfl);simp only [go_sem])
   | (apply dv E';(· decide);simp only [go_sem]))
  refine aI E' (fun g2=>?_) (fun g2=>?_)<;>simp only [go_sem]
  ·rw [hQ]
   simp only [go_sem]
   have g3:inB i K[q]=false:=by
    rw [Bool.eq_false_iff]
    intro hc
    simp only [inB,Bool.and_eq_true,decide_eq_true_eq] at hc
    simp only [Bool.or_eq_true,decide_eq_true_eq] at g2
    omega
   have ha:K.all (inB i)=false:=List.all_eq_false.2 ⟨_,List.getElem_mem hq',by rw [g3];decide⟩
   refine ⟨_,_,[100],id,⟨bumps cs (K.take q),by rw [e7,hc],fun h=>by (rw [ha,Bool.false_and] at h;cases h),rfl,rfl⟩,?_⟩
   simp only [go_sem]
   rw [ha]
   rfl
  ·have g3:0≤K[q]∧K[q]<(i:Int):=by
    simp only [Bool.or_eq_false_iff,decide_eq_false_iff_not] at g2
    omega
   have g4:inB i K[q]=true:=by simp only [inB,decide_eq_true g3.1,decide_eq_true g3.2,Bool.and_self]
   have hbl:=e7 (K.take q) cs
   have hbd:=(hM.bumps (ks:=K.take q)).get K[q].toNat
   have htl:(K.take q).length≤1000003:=by rw [List.length_take];omega
   refine ⟨by omega,?_⟩
   rw [b9 (by omega)]
   simp only [go_sem]
   refine ⟨by omega,?_⟩
   rw [ai (n:=(bumps cs (K.take q)).getD K[q].toNat 0+1) ⟨by omega,by omega⟩,ai (n:=(q:Int)+1) ⟨by omega,by omega⟩]
   rw [show (List.map i64 (bumps cs (K.take q))).set K[q].toNat (.int .i64 ((bumps cs (K.take q)).getD K[q].toNat 0+1))=(bumps cs (K.take (q+1))).map i64 by
    rw [List.take_succ_eq_append_getElem hq',sy];unfold bump;rw [List.map_set]]
   rw [hQ]
   simp only [go_sem]
   refine ⟨⟨q+1,by omega,by rw [List.take_succ_eq_append_getElem hq',List.all_append,hall];simpa using g4⟩,by show K.length-(q+1)<_;omega,?_⟩
   first | rfl | exact ⟨rfl,rfl⟩
 ·rw [hQ]
  have h3:q=K.length:=by omega
  subst h3
  rw [List.take_length] at *
  simp only [go_sem]
  refine al mixed E fun X=>?_
  simp only [go_sem]
  refine ⟨by omega,?_⟩
  rw [hg]
  simp only [go_sem]
  refine Ed X (fun g1=>?_) (fun g1=>?_)<;>simp only [go_sem]
  ·refine ⟨by decide +kernel,?_⟩
   refine ⟨_,_,[100],id,⟨bumps cs K,by rw [e7,hc],fun _=>rfl,rfl,rfl⟩,?_⟩
   simp only [go_sem]
   rw [hall,decide_eq_true (show n.k≠8 from g1)]
   rfl
  ·have h8:n.k=8:=by omega
   have hka:K=[n.a,n.b]:=by rw [hK];unfold ar;rw [h8];rfl
   have ha:0≤n.a∧n.a<(i:Int):=by
    rw [hka] at hall
    simp only [List.all_cons,inB,Bool.and_eq_true,decide_eq_true_eq] at hall
    exact hall.1
   rw [jM]
   simp only [go_sem]
   refine ⟨by omega,?_⟩
   rw [hg]
   simp only [go_sem]
   refine ⟨by omega,?_⟩
   rw [cM (show n.a.toNat<ns.length by omega)]
   simp only [go_sem]
   refine ⟨by decide +kernel,?_⟩
   refine ⟨_,_,[100],id,⟨bumps cs K,by rw [e7,hc],fun _=>rfl,rfl,rfl⟩,?_⟩
   simp only [go_sem]
   rw [hall,decide_eq_false g1]
   rfl
end Go.Proofs.YtejpnabbmgpmaaaGreatDoor

namespace Go.Proofs.YtejpnabbmgpmaaaGreatDoor
open Go.Ab
def bG:List (Name × Ob):=[([0],.boxT (some 53) [.d .nilp,.d .nils])]
def cY (l:List UInt8):List (Name × Ob):=[([0],.boxT (some 53) [.bx [0] 0,.vw [2] 0 l.length]),([2],.arrT (some 5) none (l.map byD))]
def au (l:List UInt8):List (Name × Ob):=[([0],.boxT (some 53) [.bx [0] 0,.vw [1] 0 l.length]),([1],.arrT (some 5) none (l.map byD))]
theorem noesc (v:Value) (w:World):(callFunc 154 #[v]).run Tryz.prog w=.ok (.value v) w:=by
 rw [run_callFunc_extern Tryz.func154 (by kernel_rfl) (by kernel_rfl) (by kernel_rfl) (e:=Extern.AbiNoEscape.same) (by kernel_rfl)]
 rw [Lib.run_noEscape]
 rfl
theorem DB:(Tryz.prog.ti 155).k=.oth:=by kernel_rfl
theorem Ca:Tryz.prog.underlying 155=some .unsafePointer:=by kernel_rfl
theorem yR {G}:HCall Tryz.prog G 135 [.bx [0] 0] [([0],.boxT (some 53) [.d .nilp,.vw [1] 0 0]),([1],.arrT (some 5) none [])] [0,1] (fun r hp'=>r=.tup []∧hp'=[([0],.boxT (some 53) [.bx [0] 0,.vw [1] 0 0]),([1],.arrT (some 5) none [])]):=by
 refine an Tryz.func135 rfl (by decide +kernel) (by simp [Tryz.ntmps135]) (veil fun E=>?_)
 simp only [go_sem]
 refine jP E (e:=53) true (by rw [lY]) (by simp only [go_sem]) rfl ?_
 simp only [go_sem]
 refine Dx E (e:=53) [0] 0 53 [.d .nilp,.vw [1] 0 0] (by rw [lY]) Ca (by kernel_rfl) (by simp only [go_sem]) rfl rfl (by decide) ?_
 simp only [go_sem]
 refine tY E 154 (.bx [0] 0) noesc (by simp only [go_sem]) rfl rfl ?_
 simp only [go_sem]
 simp only [DB]
 simp only [go_sem]
 refine DA E (e:=53) [0] 0 53 [.d .nilp,.vw [1] 0 0] (by rw [lY]) Ca (by kernel_rfl) (by simp only [go_sem]) rfl rfl 2 rfl (by kernel_rfl) ?_
 simp only [go_sem]
 refine ⟨_,_,[0,1],id,⟨rfl,rfl⟩,?_⟩
 simp only [go_sem]
theorem qE {G} (l:List UInt8):HCall Tryz.prog G 135 [.bx [0] 0] (au l) [0,1] (fun r hp'=>r=.tup []∧hp'=au l):=by
 unfold au
 refine an Tryz.func135 rfl (by decide +kernel) (by simp [Tryz.ntmps135]) (veil fun E=>?_)
 simp only [go_sem]
 refine jP E (e:=53) false (by rw [lY]) (by simp only [go_sem]) rfl ?_
 simp only [go_sem]
 refine vv E (e:=53) [0] 0 (by rw [lY]) (by kernel_rfl) (by simp only [go_sem]) rfl rfl rfl ?_
 simp only [go_sem]
 refine ⟨_,_,[0,1],id,⟨rfl,rfl⟩,?_⟩
 simp only [go_sem]
theorem mc {G} (c:UInt8):HCall Tryz.prog G 129 [.bx [0] 0,.d (byD c)] bG [0] (fun r hp'=>r=.d .nili∧hp'=cY [c]):=by
 have h0:=yR (G:=G)
 unfold bG cY byD
 refine an Tryz.func129 rfl (by decide +kernel) (by simp [Tryz.ntmps129]) (veil fun E=>?_)
 simp only [go_sem]
 refine BV E [0] 1 1 (some 53) (some 5) none [.d .nilp,.d .nils] rfl rfl (by rw [aa];decide) ?_
 refine ab E [.bx [0] 0] [([0],.boxT (some 53) [.d .nilp,.vw [1] 0 0]),([1],.arrT (some 5) none [])] [0,1] h0 rfl rfl ⟨by simp only [go_sem],by show ¬ _∈[1,0];decide⟩ rfl (by simp only [go_sem]) (by simp only [go_sem]) ?_
 rintro _ _ ⟨rfl,rfl⟩
 simp only [go_sem]
 refine om E (e:=5) (some 5) [1] [13] [] [.int .u8 (c.toNat:Nat)] (by rw [jB]) (by rw [ti5];rfl) (by rw [ti5];rfl) (by rw [ti5];rfl) rfl ⟨by simp only [go_sem],by rw [aa];decide⟩ rfl rfl rfl rfl (by rw [ti5];simp [TI.by1]) ?_
 simp only [go_sem]
 refine ⟨_,_,[0,1,2],tau [([2],[14])],⟨rfl,rfl⟩,?_⟩
 simp only [go_sem]
theorem b7 {G} (l:List UInt8) (c:UInt8) (hl:l.length≤1000000):HCall Tryz.prog G 129 [.bx [0] 0,.d (byD c)] (au l) [0,1] (fun r hp'=>r=.d .nili∧hp'=cY (l++[c])):=by
 have h0:=qE (G:=G) l
 unfold au at *
 unfold cY
 refine an Tryz.func129 rfl (by decide +kernel) (by simp [Tryz.ntmps129]) (veil fun E=>?_)
 simp only [go_sem]
 refine ab E [.bx [0] 0] [([0],.boxT (some 53) [.bx [0] 0,.vw [1] 0 l.length]),([1],.arrT (some 5) none (l.map byD))] [0,1] h0 rfl rfl ⟨by simp only [go_sem],by rw [aa];decide⟩ rfl (by simp only [go_sem]) (by simp only [go_sem]) ?_
 rintro _ _ ⟨rfl,rfl⟩
 simp only [go_sem]
 rw [show byD c=.int .u8 (c.toNat:Nat) from rfl]
 simp only [go_sem]
 refine ⟨Nat.le_refl _,?_⟩
 have hlm:(l.map byD).length=l.length:=by simp
 refine om E (d:=14) (e:=5) (some 5) [1] [13] (l.map byD) [.int .u8 (c.toNat:Nat)] (by rw [jB]) (by rw [ti5];rfl) (by rw [ti5];rfl) (by rw [ti5];rfl) rfl ⟨by simp only [go_sem],by rw [aa];decide⟩ (by rw [hlm];rfl) rfl rfl rfl (by rw [ti5,hlm];simp [TI.by1];omega) ?_
 rw [hlm,show l.map byD++[.int .u8 (c.toNat:Nat)]=(l++[c]).map byD by simp [byD]]
 simp only [go_sem]
 refine ⟨_,_,[0,1,2],tau [([2],[14])],⟨rfl,rfl⟩,?_⟩
 rw [show (l++[c]).length=l.length+1 by simp]
 simp only [go_sem]
theorem yK {G}:HCall Tryz.prog G 169 [.bx [0] 0] bG [0] (fun r hp'=>r=.d (i64 0)∧hp'=bG):=by
 unfold bG
 refine an Tryz.func169 rfl (by decide +kernel) (by simp [Tryz.ntmps169]) (veil fun E=>?_)
 simp only [go_sem]
 refine ⟨_,_,[0],id,⟨rfl,rfl⟩,?_⟩
 simp only [go_sem]
theorem Ao {G} (l:List UInt8):HCall Tryz.prog G 169 [.bx [0] 0] (au l) [0,1] (fun r hp'=>r=.d (i64 l.length)∧hp'=au l):=by
 unfold au
 refine an Tryz.func169 rfl (by decide +kernel) (by simp [Tryz.ntmps169]) (veil fun E=>?_)
 simp only [go_sem]
 refine ⟨_,_,[0,1],id,⟨rfl,rfl⟩,?_⟩
 simp only [go_sem]
theorem BN {G}:HCall Tryz.prog G 29 [.bx [0] 0] bG [0] (fun r hp'=>r=.d (.str [])∧hp'=bG):=by
 unfold bG
 refine an Tryz.func29 rfl (by decide +kernel) (by simp [Tryz.ntmps29]) (veil fun E=>?_)
 simp only [go_sem]
 refine iD 10 mixed E (by simp only [List.take_succ_cons,List.take_zero];exact rfl) (by simp only [List.drop_succ_cons,List.drop_zero];exact rfl) rfl rfl (by decide +kernel) fun X=>?_
 simp only [go_sem]
 refine dD X (d:=4) [0] 0 (some 53) [.d .nilp,.d .nils] (by simp only [go_sem]) rfl rfl ?_
 simp only [go_sem]
 refine DT X (d:=7) (by simp only [go_sem]) rfl ?_
 simp only [go_sem]
 refine dD X (d:=9) [0] 0 (some 53) [.d .nilp,.d .nils] (by simp only [go_sem]) rfl rfl ?_
 simp only [go_sem]
 refine ⟨by decide +kernel,?_⟩
 refine Ch E (by simp only [go_sem]) rfl rfl ?_
 simp only [go_sem]
 refine ⟨_,_,[0],id,⟨rfl,rfl⟩,?_⟩
 simp only [go_sem]
theorem EC:Tryz.prog.cellsOf 5=1:=by kernel_rfl
theorem u91:Tryz.prog.underlying 91=some (.pointer 5):=by kernel_rfl
theorem pJ {G} (l:List UInt8) (h0:l≠[]) (hl:l.length≤1000000000):HCall Tryz.prog G 29 [.bx [0] 0] (au l) [0,1] (fun r hp'=>r=.d (.str l)∧hp'=[]):=by
 unfold au
 refine an Tryz.func29 rfl (by decide +kernel) (by simp [Tryz.ntmps29]) (veil fun E=>?_)
 simp only [go_sem]
 refine iD 10 mixed E (by simp only [List.take_succ_cons,List.take_zero];exact rfl) (by simp only [List.drop_succ_cons,List.drop_zero];exact rfl) rfl rfl (by decide +kernel) fun X=>?_
 simp only [go_sem]
 refine dD X (d:=4) [0] 0 (some 53) [.bx [0] 0,.vw [1] 0 l.length] (by simp only [go_sem]) rfl rfl ?_
 simp only [go_sem]
 refine FA X (d:=7) [1] (some 5) none (l.map byD) l.length (by simp only [go_sem]) rfl rfl (List.length_pos_iff.2 h0) ?_
 simp only [go_sem]
 refine dD X (d:=9) [0] 0 (some 53) [.bx [0] 0,.vw [1] 0 l.length] (by simp only [go_sem]) rfl rfl ?_
 simp only [go_sem]
 refine ⟨by decide +kernel,?_⟩
 refine Fc E (e:=5) [1] l (by simp only [go_sem]) u91 EC h0 (by omega) rfl rfl rfl ?_
 simp only [go_sem]
 refine ⟨_,_,[0,1],id,⟨rfl,rfl⟩,?_⟩
 simp only [go_sem]
end Go.Proofs.YtejpnabbmgpmaaaGreatDoor

namespace Go.Proofs.YtejpnabbmgpmaaaGreatDoor
open Go.Ab
theorem ph (r:List UInt8):(fk r).2≤r.length:=by
 unfold fk
 (repeat' split)<;>simp
theorem tw:∀ (m:Nat) (r:List UInt8) (i:Nat) (acc:List UInt8),(du m r i acc).2.2=0→i+1≤(du m r i acc).2.1∧(du m r i acc).2.1≤i+r.length
 | 0,_,_,_,h=>by simp [du] at h
 | _+1,[],_,_,h=>by simp [du] at h
 | m+1,c::r,i,acc,h=>by
   unfold du at h ⊢
   split at h
   ·rename_i hc
    rw [if_pos hc]
    split at h
    ·simp at h
    ·rename_i h2;rw [if_neg h2];simp only [List.length_cons];omega
   rename_i hc
   rw [if_neg hc]
   split at h
   ·rename_i h1
    rw [if_pos h1]
    split at h
    ·simp at h
    ·rename_i h2
     rw [if_neg h2]
     have ih:=tw m _ _ _ h
     have:=ph r
     rw [List.length_drop] at ih
     simp only [List.length_cons];omega
   rename_i h1
   rw [if_neg h1]
   split at h
   ·rename_i h2
    rw [if_pos h2]
    have ih:=tw m _ _ _ h
    simp only [List.length_cons];omega
   ·simp at h
theorem B7 {s:List UInt8} (h:(cy s).2.2=0):1≤(cy s).2.1∧(cy s).2.1≤s.length:=by
 cases s with
 | nil=>simp [cy] at h
 | cons c r =>
   simp only [cy] at h ⊢
   by_cases hc:c=34
   ·rw [if_pos hc] at h ⊢
    have:=tw _ _ _ _ h
    simp only [List.length_cons];omega
   ·rw [if_neg hc] at h;simp at h
theorem jc (l:List UInt8):bm l≤l.length:=by
 cases l with
 | nil=>simp [bm]
 | cons c r =>
   rw [cj (by simp)]
   have:=uS ((c::r).drop 1)
   split
   ·simp only [List.drop_succ_cons,List.drop_zero] at this;simp;omega
   ·omega
theorem pD:∀ l:List UInt8,jw l≤l.length
 | []=>Nat.le_refl _
 | c::r=>by
   unfold jw
   have:=pD r
   split<;>simp
   omega
theorem fH {s p:List UInt8} (h:aV s p=true):p.length≤s.length:=by
 simp only [aV,Bool.and_eq_true,decide_eq_true_eq] at h
 exact h.1
theorem xP {s:List UInt8} (hs:s≠[]) (h:(bN s).e=0):1≤(bN s).n∧(bN s).n≤s.length:=by
 have h0:=List.length_pos_iff.2 hs
 unfold bN at h ⊢
 split at h
 ·rename_i hw
  rw [if_pos hw]
  unfold nw at h ⊢
  have:=jc s
  split at h
  ·simp [dr] at h
  rename_i h1
  rw [if_neg h1]
  (repeat' split)<;>(simp only;omega)
 rename_i hw
 rw [if_neg hw]
 split at h
 ·rename_i h1
  rw [if_pos h1]
  unfold qY at h ⊢
  split at h
  ·simp [dr] at h
  rename_i h2
  rw [if_neg h2]
  split at h
  ·simp [dr] at h
  rename_i h3
  rw [if_neg h3]
  have:=jc (s.drop 1)
  rw [List.length_drop] at this
  have h4:¬ bm (s.drop 1)=0:=fun e=>h2 (.inl e)
  simp only;omega
 rename_i h1
 rw [if_neg h1]
 split at h
 ·rename_i h2
  rw [if_pos h2]
  unfold Ad
  have:=pD (s.drop 1)
  rw [List.length_drop] at this
  simp only;omega
 rename_i h2
 rw [if_neg h2]
 split at h
 ·rename_i h3
  rw [if_pos h3]
  exact B7 h
 rename_i h3
 rw [if_neg h3]
 unfold lP at h ⊢
 split at h
 ·rename_i h4
  rw [if_pos h4]
  simp only [Bool.or_eq_true] at h4
  rcases h4 with h4 | h4
  ·have:=fH h4;simp at this;simp only;omega
  ·have:=fH h4;simp at this;simp only;omega
 rename_i h4
 rw [if_neg h4]
 split at h
 ·simp [dr] at h
 ·rename_i h5;rw [if_neg h5];simp only;omega
theorem ud:∀ (m:Nat) (s:List UInt8) (at':Nat),∀ q∈de m s at',q.1≤at'+s.length
 | 0,_,_,_,h=>by simp [de] at h
 | m+1,s,at',q,h=>by
   unfold de at h
   split at h
   ·cases h
   rename_i hd
   have h0:=List.length_pos_iff.2 hd
   rw [List.length_drop] at h0
   split at h
   ·rw [List.mem_singleton.1 h];simp only;omega
   rename_i he
   have hn:=xP hd (by simpa using he)
   rw [List.length_drop] at hn
   rcases List.mem_cons.1 h with rfl | h
   ·simp only;omega
   ·have:=ud m _ _ q h
    simp only [List.length_drop] at this
    omega
theorem jC:∀ (m:Nat) (s:List UInt8) (at':Nat),(de m s at').length≤s.length
 | 0,_,_=>by simp [de]
 | m+1,s,at'=>by
   unfold de
   split
   ·simp
   rename_i hd
   have h0:=List.length_pos_iff.2 hd
   rw [List.length_drop] at h0
   split
   ·simp;omega
   rename_i he
   have hn:=xP hd (by simpa using he)
   rw [List.length_drop] at hn
   have:=jC m ((s.drop (aK s)).drop (bN (s.drop (aK s))).n) (at'+aK s+(bN (s.drop (aK s))).n)
   simp only [List.length_drop,List.length_cons] at this ⊢
   omega
theorem rL:∀ {l:List (Nat × Fnd)} {q:Nat × Int},eZ l=some q→∃ x∈l,x.1=q.1
 | [],_,h=>by cases h
 | a::r,q,h=>by
   unfold eZ at h
   split at h
   ·cases h;exact ⟨a,List.mem_cons_self,rfl⟩
   ·obtain ⟨x,hx,e⟩:=rL h
    exact ⟨x,List.mem_cons_of_mem _ hx,e⟩
theorem oT:∀ {l:List (Nat × Fnd)} {q:Nat × Int},eZ l=some q→q.2≠0
 | [],_,h=>by cases h
 | a::r,q,h=>by
   unfold eZ at h
   split at h
   ·rename_i g;cases h;exact g
   ·exact oT h
theorem Fu (s:List UInt8):(cG s).2.1≤s.length∧(∀ t∈(cG s).1,0≤t.pos∧t.pos≤s.length)∧(cG s).1.length≤s.length∧((cG s).2.2=0→(cG s).2.1=s.length):=by
 have hin:=ud s.length.succ s 0
 unfold cG
 split
 ·rename_i i e h
  obtain ⟨x,hx,hxe⟩:=rL h
  have:=hin x hx
  have:=oT h
  refine ⟨by simp only at *;omega,fun _ h=>(by cases h),Nat.zero_le _,fun h=>absurd h this⟩
 ·refine ⟨Nat.le_refl _,fun t ht=>?_,?_,fun _=>rfl⟩
  ·obtain ⟨q,hq,rfl⟩:=List.mem_map.1 ht
   have:=hin q hq
   show 0≤(q.1:Int)∧(q.1:Int)≤_
   omega
  ·rw [List.length_map];exact jC _ _ _
end Go.Proofs.YtejpnabbmgpmaaaGreatDoor

namespace Go.Proofs.YtejpnabbmgpmaaaGreatDoor
open Go.Ab
theorem EJ (l:List UInt8) (c:UInt8) (w:World):(callFunc 167 #[.string ⟨l.toArray⟩,.int .u8 (c.toNat:Nat)]).run Tryz.prog w=.ok (.value (.int .i64 (Lib.indexByte l c))) w:=by
 rw [run_callFunc_extern Tryz.func167 (by kernel_rfl) (by kernel_rfl) (by kernel_rfl) (e:=Extern.BytealgIndexByte.indexByte) (by kernel_rfl)]
 rw [Lib.run_indexByteString]
 simp [Result.andThen]
theorem Bu {G} (l:List UInt8) (c:UInt8):HP Tryz.prog G 155 [.str l,u8 c] (fun r=>r=.d (i64 (Lib.indexByte l c))):=by
 unfold u8
 refine aj Tryz.func155 rfl (by decide +kernel) (by simp [Tryz.ntmps155]) (veil fun E=>?_)
 simp only [go_sem]
 refine F1 E 167 [.str l,.int .u8 (c.toNat:Nat)] [.string ⟨l.toArray⟩,.int .u8 (c.toNat:Nat)] (.int .i64 (Lib.indexByte l c)) (.int .i64 (Lib.indexByte l c)) rfl rfl (EJ l c) (by simp only [go_sem]) rfl rfl ?_
 simp only [go_sem]
theorem jE {G} (l:List UInt8) (c:UInt8):HP Tryz.prog G 136 [.str l,u8 c] (fun r=>r=.d (i64 (Lib.indexByte l c))):=by
 refine aj Tryz.func136 rfl (by decide +kernel) (by simp [Tryz.ntmps136]) (veil fun E=>?_)
 simp only [go_sem]
 refine ae E (Bu l c) rfl rfl (by simp) ?_
 rintro _ rfl
 simp only [go_sem]
theorem vt {G} (s p:List UInt8):HP Tryz.prog G 158 [.str s,.str p] (fun r=>r=.d (.bool (aV s p))):=by
 refine aj Tryz.func158 rfl (by decide +kernel) (by simp [Tryz.ntmps158]) (veil fun E=>?_)
 simp only [go_sem]
 refine ae E (vq s p) rfl rfl (by simp) ?_
 rintro _ rfl
 simp only [go_sem]
theorem o6 {G} (c:UInt8):HP Tryz.prog G 130 [u8 c] (fun r=>r=.d (.bool (eK c))):=by
 unfold u8
 refine aj Tryz.func130 rfl (by decide +kernel) (by simp [Tryz.ntmps130]) (veil fun E=>?_)
 simp only [go_sem]
 repeat (first
  | (apply dP E;(· simp only [go_sem]);(· intro h;(try simp only [bq] at h);simp only [↓h,go_sem];rfl);simp only [go_sem])
  | (apply bJ E;(· simp only [go_sem]);(· intro h;(try simp only [bq] at h);simp only [↓h,go_sem];rfl);(· intro h;(try simp only [bq] at h);simp only [↓h,go_sem];rfl);simp only [go_sem])
  | (apply bK E;(· simp only [go_sem]);(· rfl);(· intro h h';(try simp only [bq] at h h');simp only [↓h,↓h',go_sem];rfl);simp only [go_sem])
  | (apply bj E;(· simp only [go_sem]);(· rfl);(· intro h h';(try simp only [bq] at h h');simp only [↓h,↓h',go_sem];rfl);(· intro h h';(try simp only [bq] at h h');simp only [↓h,↓h',go_sem];rfl);simp only [go_sem])
  | (apply dv E;(· decide);simp only [go_sem]))
 have hp:(((decide (32≤((c.toNat:Nat):Int)) && decide (((c.toNat:Nat):Int)≤126)) && decide (¬ ((c.toNat:Nat):Int)=34)) && decide (¬ ((c.toNat:Nat):Int)=92))=eK c:=by
  unfold eK
  rw [Bool.eq_iff_iff];simp;omega
 rw [hp]
theorem b4 {c:UInt8} (d:UInt8) (h:((c.toNat:Nat):Int)=(d.toNat:Nat)):c=d:=UInt8.toNat_inj.1 (by omega)
theorem aC {c:UInt8} (d:UInt8) (h:¬ ((c.toNat:Nat):Int)=(d.toNat:Nat)):¬ c=d:=fun e=>h (by rw [e])
def Df (c:UInt8) (r:List UInt8):UInt8 × Nat:=if c=110 then (10,1) else if c=116 then (9,1) else if c=120 then (match r with | a::b::_=>if Lib.indexByte iE a<0∨Lib.indexByte iE b<0 then (0,0) else (UInt8.ofNat (16*Lib.indexByte iE a+Lib.indexByte iE b).toNat,3) | _=>(0,0)) else (0,0)
theorem xZ (c:UInt8) (r:List UInt8):fk (c::r)=if c=34∨c=92 then (c,1) else Df c r:=rfl
theorem Bb (c:UInt8) (r:List UInt8) (h:c=34∨c=92):fk (c::r)=(c,1):=by rw [xZ,if_pos h]
theorem BF (c:UInt8) (r:List UInt8) (h:¬ (c=34∨c=92)):fk (c::r)=Df c r:=by rw [xZ,if_neg h]
theorem Dm (c:UInt8):∀ l:List UInt8,Lib.indexByte l c<l.length∨l=[]
 | []=>.inr rfl
 | b::l=>by
   left
   have:=Dm c l
   unfold Lib.indexByte
   split
   ·simp only [List.length_cons];omega
   split
   ·simp only [List.length_cons];omega
   ·rcases this with h | h
    ·simp only [List.length_cons];omega
    ·rename_i h1 h2
     subst h
     exact absurd rfl h2
theorem AB (c:UInt8):Lib.indexByte iE c<16:=by
 rcases Dm c iE with h | h
 ·exact h
 ·cases h
theorem uk {G} (s:List UInt8) (hl:s.length≤1000000):HP Tryz.prog G 170 [.str s] (fun r=>r=.tup [.d (u8 (fk s).1),.d (i64 (fk s).2)]):=by
 unfold u8
 refine aj Tryz.func170 rfl (by decide +kernel) (by simp [Tryz.ntmps170]) (veil fun E=>?_)
 simp only [go_sem]
 refine aI E (fun h=>?_) (fun h=>?_)<;>simp only [go_sem]
 ·have h0:s=[]:=by simpa using h
  subst h0
  rfl
 cases s with
 | nil=>simp at h
 | cons c r =>
 have hc0:(c::r).getD 0 0=c:=rfl
 simp only [List.length_cons] at hl
 refine ⟨by simp,?_⟩
 rw [hc0]
 have key1:c=34∨c=92→fk (c::r)=(c,1):=Bb c r
 have key0:¬ (c=34∨c=92)→fk (c::r)=Df c r:=BF c r
 refine ah E (fun h1=>?_) (fun h1=>?_)<;>simp only [go_sem]
 ·refine ah E (fun _=>?_) (fun h2=>absurd h1 h2)<;>simp only [go_sem]
  refine ⟨by simp,?_⟩
  rw [key1 (.inl (b4 34 h1))]
  rfl
 refine ah E (fun h2=>?_) (fun h2=>?_)<;>simp only [go_sem]
 ·refine ⟨by simp,?_⟩
  rw [key1 (.inr (b4 92 h2))]
  rfl
 have key:=key0 (fun h=>h.elim (aC 34 h1) (aC 92 h2))
 unfold Df at key
 refine ah E (fun h3=>?_) (fun h3=>?_)<;>simp only [go_sem]
 ·rw [key,if_pos (b4 110 h3)];rfl
 rw [if_neg (aC 110 h3)] at key
 refine ah E (fun h4=>?_) (fun h4=>?_)<;>simp only [go_sem]
 ·rw [key,if_pos (b4 116 h4)];rfl
 rw [if_neg (aC 116 h4)] at key
 refine ah E (fun h5=>?_) (fun h5=>?_)<;>simp only [go_sem]
 rotate_left
 ·rw [key,if_neg (aC 120 h5)];rfl
 rw [if_pos (b4 120 h5)] at key
 refine ah E (fun h6=>?_) (fun h6=>?_)<;>simp only [go_sem]
 ·have h7:fk (c::r)=(0,0):=by
   match r,h6,key with
   | [],_,key=>exact key
   | [_],_,key=>exact key
   | _::_::_,h6,_=>simp only [List.length_cons] at h6;omega
  rw [h7];rfl
 obtain ⟨a,b,r',rfl⟩:∃ a b r',r=a::b::r':=by
  match r,h6 with
  | [],h6=>exact absurd (by simp) h6
  | [_],h6=>exact absurd (by simp) h6
  | a::b::r',_=>exact ⟨a,b,r',rfl⟩
 simp only at key
 refine al mixed E fun X=>?_
 simp only [go_sem]
 have ha:=AB a
 have hb:=AB b
 refine ⟨by omega,?_⟩
 rw [show (c::a::b::r').getD 1 0=a from rfl]
 refine aF X (jE iE a) rfl rfl (by simp) ?_
 simp only [go_sem]
 refine ⟨by omega,?_⟩
 rw [show (c::a::b::r').getD 2 0=b from rfl]
 refine aF X (jE iE b) rfl rfl (by simp) ?_
 simp only [go_sem]
 generalize Lib.indexByte iE a=x at ha key
 generalize Lib.indexByte iE b=y at hb key
 refine ⟨by decide +kernel,?_⟩
 repeat (first
  | (apply dP E;(· simp only [go_sem]);(· intro h;(try simp only [bq] at h);simp only [↓h,go_sem];rfl);simp only [go_sem])
  | (apply bJ E;(· simp only [go_sem]);(· intro h;(try simp only [bq] at h);simp only [↓h,go_sem];rfl);(· intro h;(try simp only [bq] at h);simp only [↓h,go_sem];rfl);simp only [go_sem])
  | (apply bK E;(· simp only [go_sem]);(· rfl);(· intro h h';(try simp only [bq] at h h');simp only [↓h,↓h',go_sem];rfl);simp only [go_sem])
  | (apply bj E;(· simp only [go_sem]);(· rfl);(· intro h h';(try simp only [bq] at h h');simp only [↓h,↓h',go_sem];rfl);(· intro h h';(try simp only [bq] at h h');simp only [↓h,↓h',go_sem];rfl);simp only [go_sem])
  | (apply dv E;(· decide);simp only [go_sem]))
 refine aI E (fun h7=>?_) (fun h7=>?_)<;>simp only [go_sem]
 ·rw [key,if_pos (by simpa using h7)];rfl
 ·have h8:0≤x∧0≤y:=by
   have:¬ (x<0∨y<0):=by simpa using h7
   omega
  rw [key,if_neg (by omega),ai (n:=16*x) ⟨by omega,by omega⟩,ai ⟨by omega,by omega⟩]
  obtain ⟨n,hn⟩:∃ n:Nat,16*x+y=n:=⟨(16*x+y).toNat,by omega⟩
  rw [hn,Int.toNat_natCast]
  have h9:n<256:=by omega
  have h10:IntKind.u8.wrap (n:Int)=((UInt8.ofNat n).toNat:Nat):=by
   rw [UInt8.toNat_ofNat']
   simp [IntKind.wrap,IntKind.bits,IntKind.signed]
  rw [h10]
  rfl
end Go.Proofs.YtejpnabbmgpmaaaGreatDoor

namespace Go.Proofs.YtejpnabbmgpmaaaGreatDoor
open Go.Ab
def zr:List UInt8→List (Name × Ob)
 | []=>bG
 | c::r=>au (c::r)
theorem ij (l:List UInt8) (c:UInt8):zr (l++[c])=au (l++[c]):=by cases l<;>rfl
structure TkI (s:List UInt8) (i:Nat) (acc:List UInt8) (m:Nat):Prop where
 h1:1≤i
 hi:i≤s.length
 ha:acc.length≤i
 hm:(s.drop i).length<m
 he:du m (s.drop i) i acc=cy s
theorem TkI.init {c:UInt8} {r:List UInt8} (hc:c=34):TkI (c::r) 1 [] r.length.succ :=
 ⟨Nat.le_refl _,by simp,by simp,by simp,by simp only [List.drop_succ_cons,List.drop_zero,cy,if_pos hc]⟩
theorem TkI.fin {s:List UInt8} {i m:Nat} {acc:List UInt8} (h:TkI s i acc m) (hi:s.length≤i):cy s=([],0,5):=by
 rw [← h.he,List.drop_eq_nil_of_le hi]
 cases m<;>rfl
theorem TkI.cases {s:List UInt8} {i m:Nat} {acc:List UInt8} (h:TkI s i acc m) (hi:i<s.length):∃ m',m=m'+1∧s.drop i=s.getD i 0::s.drop (i+1):=by
 obtain ⟨m',rfl⟩:∃ m',m=m'+1:=⟨m-1,by have:=h.hm;omega⟩
 exact ⟨m',rfl,by rw [List.drop_eq_getElem_cons hi];simp [hi]⟩
theorem TkI.mark {s:List UInt8} {i m:Nat} {acc:List UInt8} (h:TkI s i acc m) (hi:i<s.length) (hc:s.getD i 0=34):cy s=if 200<acc.length then ([],0,7) else (acc,i+1,0):=by
 obtain ⟨m',rfl,hd⟩:=h.cases hi
 rw [← h.he,hd,du,if_pos hc]
theorem TkI.bad {s:List UInt8} {i m:Nat} {acc:List UInt8} (h:TkI s i acc m) (hi:i<s.length) (hc:¬ s.getD i 0=34) (hs:s.getD i 0=92) (he:(fk (s.drop (i+1))).2=0):cy s=([],0,5):=by
 obtain ⟨m',rfl,hd⟩:=h.cases hi
 rw [← h.he,hd,du,if_neg hc,if_pos hs,if_pos he]
theorem TkI.odd {s:List UInt8} {i m:Nat} {acc:List UInt8} (h:TkI s i acc m) (hi:i<s.length) (hc:¬ s.getD i 0=34) (hs:¬ s.getD i 0=92) (hp:eK (s.getD i 0)=false):cy s=([],0,5):=by
 obtain ⟨m',rfl,hd⟩:=h.cases hi
 rw [← h.he,hd,du,if_neg hc,if_neg hs,if_neg (by rw [hp];simp)]
theorem TkI.esc {s:List UInt8} {i m:Nat} {acc:List UInt8} (h:TkI s i acc m) (hi:i<s.length) (hc:¬ s.getD i 0=34) (hs:s.getD i 0=92) (he:¬ (fk (s.drop (i+1))).2=0) :
  TkI s (i+(fk (s.drop (i+1))).2+1) (acc++[(fk (s.drop (i+1))).1]) (m-1):=by
 obtain ⟨m',rfl,hd⟩:=h.cases hi
 have hl:=ph (s.drop (i+1))
 rw [List.length_drop] at hl
 have hm:=h.hm
 have ha:=h.ha
 rw [List.length_drop] at hm
 refine ⟨by omega,by omega,by simp;omega,by rw [List.length_drop];omega,?_⟩
 rw [← h.he,hd,du,if_neg hc,if_pos hs,if_neg he,List.drop_drop,Nat.add_sub_cancel]
 congr 2
 omega
theorem TkI.plain {s:List UInt8} {i m:Nat} {acc:List UInt8} (h:TkI s i acc m) (hi:i<s.length) (hc:¬ s.getD i 0=34) (hs:¬ s.getD i 0=92) (hp:eK (s.getD i 0)=true):TkI s (i+1) (acc++[s.getD i 0]) (m-1):=by
 obtain ⟨m',rfl,hd⟩:=h.cases hi
 have hm:=h.hm
 have ha:=h.ha
 rw [List.length_drop] at hm
 refine ⟨by omega,by omega,by simp;omega,by rw [List.length_drop];omega,?_⟩
 rw [← h.he,hd,du,if_neg hc,if_neg hs,if_pos hp,Nat.add_sub_cancel]
set_option maxHeartbeats 1000000 in
theorem C4 {G} (s:List UInt8) (hl:s.length≤1000000):HP Tryz.prog G 157 [.str s] (fun r=>r=.tup [.d (.str (cy s).1),.d (i64 (cy s).2.1),.d (i64 (cy s).2.2)]):=by
 refine aj Tryz.func157 rfl (by decide +kernel) (by simp [Tryz.ntmps157]) (veil fun E=>?_)
 simp only [go_sem]
 cases s with
 | nil =>
   simp only [go_sem]
   rfl
 | cons c r =>
 refine bl E (fun h=>absurd h (by simp)) (fun h=>?_)<;>simp only [go_sem]
 refine ⟨by simp,?_⟩
 refine ah E (fun h1=>?_) (fun h1=>?_)<;>simp only [go_sem]
 ·have h2:cy (c::r)=([],0,5):=by
   unfold cy
   simp only
   rw [if_neg (aC 34 h1)]
  rw [h2];rfl
 have hc:c=34:=Classical.byContradiction fun h=>h1 (fun e=>h (b4 34 e))
 obtain ⟨s,hs⟩:∃ s,s=c::r:=⟨_,rfl⟩
 have hI0:=TkI.init (r:=r) hc
 rw [← hs] at hl hI0
 simp only [← hs]
 refine aw E (X:={ x:Nat × List UInt8 × Nat // TkI s x.1 x.2.1 x.2.2 }) (fun x=>[(0,.d (.str s)),(5,.bx [0] 0),(6,.d (i64 x.1.1))]) (fun x=>zr x.1.2.1) [0,1] (fun x=>s.length-x.1.1) ⟨(1,[],r.length.succ),hI0⟩ (tau [([0],[5])]) ?_ ?_
 ·unfold zr bG
  simp only [go_sem]
 rintro ⟨⟨i,acc,m⟩,hI⟩ E0
 refine aH E0 fun Q' hQ E'=>?_
 simp only at hI ⊢
 have hi:=hI.hi
 have ha:=hI.ha
 cases acc with
 | nil =>
   simp only [zr]
   unfold bG
   simp only [go_sem]
   refine ah E' (fun h1=>?_) (fun h1=>?_)<;>simp only [go_sem]
   rotate_left
   ·rw [hQ]
    simp only [go_sem]
    rw [← hs,hI.fin (by omega)]
    rfl
   have h1':i<s.length:=by omega
   refine ⟨by omega,?_⟩
   refine ah E' (fun h2=>?_) (fun h2=>?_)<;>simp only [go_sem]
   ·have hmk:=hI.mark h1' (b4 34 h2)
    refine ab E' [.bx [0] 0] bG [0] yK rfl rfl ⟨by simp only [go_sem],by rw [aa];decide⟩ rfl (by unfold bG;simp only [go_sem]) (by unfold bG;simp only [go_sem]) ?_
    rintro _ _ ⟨rfl,rfl⟩
    unfold bG
    simp only [go_sem]
    refine ab E' [.bx [0] 0] bG [0] BN rfl rfl ⟨by simp only [go_sem],by rw [aa];decide⟩ rfl (by unfold bG;simp only [go_sem]) (by unfold bG;simp only [go_sem]) ?_
    rintro _ _ ⟨rfl,rfl⟩
    unfold bG
    simp only [go_sem]
    rw [ai ⟨by omega,by omega⟩,hQ]
    simp only [go_sem]
    rw [← hs,hmk]
    rfl
   refine ah E' (fun h3=>?_) (fun h3=>?_)<;>simp only [go_sem]
   ·have h2n:=aC 34 h2
    have h3y:=b4 92 h3
    rw [ai (n:=(i:Int)+1) ⟨by omega,by omega⟩]
    refine ⟨by omega,?_⟩
    rw [show ((i:Int)+1).toNat=i+1 by omega,List.take_of_length_le (l:=s.drop (i+1)) (by rw [List.length_drop];omega)]
    have hel:=ph (s.drop (i+1))
    have hbad:=hI.bad h1' h2n h3y
    have hesc:=hI.esc h1' h2n h3y
    rw [List.length_drop] at hel
    refine ae E' (uk (s.drop (i+1)) (by rw [List.length_drop];omega)) rfl rfl (by simp) ?_
    rintro _ rfl
    obtain ⟨y,n,hyn⟩:∃ y n,fk (s.drop (i+1))=(y,n):=⟨_,_,rfl⟩
    rw [hyn] at hel hbad hesc ⊢
    simp only at hel hbad hesc
    simp only [go_sem]
    refine ah E' (fun h4=>?_) (fun h4=>?_)<;>simp only [go_sem]
    ·rw [hQ]
     simp only [go_sem]
     rw [← hs,hbad (by omega)]
     rfl
    ·have hI2:=hesc (by omega)
     refine ab E' [.bx [0] 0,.d (byD y)] bG [0] (mc y ) rfl rfl ⟨by simp only [go_sem],by rw [aa];decide⟩ rfl (by (unfold bG);simp only [go_sem]) (by (unfold bG);simp only [go_sem]) ?_
     rintro _ _ ⟨rfl,rfl⟩
     unfold cY
     (unfold bG)
     simp only [go_sem]
     rw [ai (n:=(n:Int)+1) ⟨by omega,by omega⟩,ai ⟨by omega,by omega⟩,hQ]
     simp only [go_sem]
     refine ⟨⟨(i+n+1,[]++[y],m-1),hI2⟩,by show s.length-(i+n+1)<_;omega,tau [([1],[46,2])],?_⟩
     rw [show (⟨(i+n+1,[]++[y],m-1),hI2⟩:{ x:Nat × List UInt8 × Nat // TkI s x.1 x.2.1 x.2.2 }).1.2.1=[]++[y] from rfl,ij]
     unfold au
     simp only [go_sem]
     rw [show ((i+n+1:Nat):Int)=(i:Int)+((n:Int)+1) by omega]
   ·have h2n:=aC 34 h2
    have h3n:=aC 92 h3
    refine ae E' (o6 (s.getD i 0)) rfl rfl (by simp) ?_
    rintro _ rfl
    simp only [go_sem]
    refine aI E' (fun h4=>?_) (fun h4=>?_)<;>simp only [go_sem]
    ·have hI2:=hI.plain h1' h2n h3n h4
     refine ab E' [.bx [0] 0,.d (byD (s.getD i 0))] bG [0] (mc (s.getD i 0) ) rfl rfl ⟨by simp only [go_sem],by rw [aa];decide⟩ rfl (by (unfold bG);simp only [go_sem]) (by (unfold bG);simp only [go_sem]) ?_
     rintro _ _ ⟨rfl,rfl⟩
     unfold cY
     (unfold bG)
     simp only [go_sem]
     rw [ai ⟨by omega,by omega⟩,hQ]
     simp only [go_sem]
     refine ⟨⟨(i+1,[]++[s.getD i 0],m-1),hI2⟩,by show s.length-(i+1)<_;omega,tau [([1],[55,2])],?_⟩
     rw [show (⟨(i+1,[]++[s.getD i 0],m-1),hI2⟩:{ x:Nat × List UInt8 × Nat // TkI s x.1 x.2.1 x.2.2 }).1.2.1=[]++[s.getD i 0] from rfl,ij]
     unfold au
     simp only [go_sem]
     all_goals rfl
    ·rw [hQ]
     simp only [go_sem]
     rw [← hs,hI.odd h1' h2n h3n h4]
     rfl
 | cons a0 acc0 =>
   simp only [zr]
   obtain ⟨acc,hacc⟩:∃ acc,acc=a0::acc0:=⟨_,rfl⟩
   have hne:acc≠[]:=by rw [hacc];simp
   rw [← hacc] at hI ha
   simp only [← hacc]
   unfold au
   simp only [go_sem]
   refine ah E' (fun h1=>?_) (fun h1=>?_)<;>simp only [go_sem]
   rotate_left
   ·rw [hQ]
    simp only [go_sem]
    rw [← hs,hI.fin (by omega)]
    rfl
   have h1':i<s.length:=by omega
   refine ⟨by omega,?_⟩
   refine ah E' (fun h2=>?_) (fun h2=>?_)<;>simp only [go_sem]
   ·have hmk:=hI.mark h1' (b4 34 h2)
    refine ab E' [.bx [0] 0] (au acc) [0,1] (Ao acc) rfl rfl ⟨by simp only [go_sem],by rw [aa];decide⟩ rfl (by unfold au;simp only [go_sem]) (by unfold au;simp only [go_sem]) ?_
    rintro _ _ ⟨rfl,rfl⟩
    unfold au
    simp only [go_sem]
    refine ⟨Nat.le_refl _,?_⟩
    refine ah E' (fun h5=>?_) (fun h5=>?_)<;>simp only [go_sem]
    ·rw [hQ]
     simp only [go_sem]
     rw [← hs,hmk,if_pos (by omega)]
     rfl
    refine ab E' [.bx [0] 0] (au acc) [0,1] (pJ acc hne (by omega)) rfl rfl ⟨by simp only [go_sem],by rw [aa];decide⟩ rfl (by unfold au;simp only [go_sem]) (by unfold au;simp only [go_sem]) ?_
    rintro _ _ ⟨rfl,rfl⟩
    unfold au
    simp only [go_sem]
    rw [ai ⟨by omega,by omega⟩,hQ]
    simp only [go_sem]
    rw [← hs,hmk,if_neg (by omega)]
    rfl
   refine ah E' (fun h3=>?_) (fun h3=>?_)<;>simp only [go_sem]
   ·have h2n:=aC 34 h2
    have h3y:=b4 92 h3
    rw [ai (n:=(i:Int)+1) ⟨by omega,by omega⟩]
    refine ⟨by omega,?_⟩
    rw [show ((i:Int)+1).toNat=i+1 by omega,List.take_of_length_le (l:=s.drop (i+1)) (by rw [List.length_drop];omega)]
    have hel:=ph (s.drop (i+1))
    have hbad:=hI.bad h1' h2n h3y
    have hesc:=hI.esc h1' h2n h3y
    rw [List.length_drop] at hel
    refine ae E' (uk (s.drop (i+1)) (by rw [List.length_drop];omega)) rfl rfl (by simp) ?_
    rintro _ rfl
    obtain ⟨y,n,hyn⟩:∃ y n,fk (s.drop (i+1))=(y,n):=⟨_,_,rfl⟩
    rw [hyn] at hel hbad hesc ⊢
    simp only at hel hbad hesc
    simp only [go_sem]
    refine ah E' (fun h4=>?_) (fun h4=>?_)<;>simp only [go_sem]
    ·rw [hQ]
     simp only [go_sem]
     rw [← hs,hbad (by omega)]
     rfl
    ·have hI2:=hesc (by omega)
     refine ab E' [.bx [0] 0,.d (byD y)] (au acc) [0,1] (b7 acc y (by omega)) rfl rfl ⟨by simp only [go_sem],by rw [aa];decide⟩ rfl (by (unfold au);simp only [go_sem]) (by (unfold au);simp only [go_sem]) ?_
     rintro _ _ ⟨rfl,rfl⟩
     unfold cY
     (unfold au)
     simp only [go_sem]
     rw [ai (n:=(n:Int)+1) ⟨by omega,by omega⟩,ai ⟨by omega,by omega⟩,hQ]
     simp only [go_sem]
     refine ⟨⟨(i+n+1,acc++[y],m-1),hI2⟩,by show s.length-(i+n+1)<_;omega,tau [([1],[46,2])],?_⟩
     rw [show (⟨(i+n+1,acc++[y],m-1),hI2⟩:{ x:Nat × List UInt8 × Nat // TkI s x.1 x.2.1 x.2.2 }).1.2.1=acc++[y] from rfl,ij]
     unfold au
     simp only [go_sem]
     rw [show ((i+n+1:Nat):Int)=(i:Int)+((n:Int)+1) by omega]
   ·have h2n:=aC 34 h2
    have h3n:=aC 92 h3
    refine ae E' (o6 (s.getD i 0)) rfl rfl (by simp) ?_
    rintro _ rfl
    simp only [go_sem]
    refine aI E' (fun h4=>?_) (fun h4=>?_)<;>simp only [go_sem]
    ·have hI2:=hI.plain h1' h2n h3n h4
     refine ab E' [.bx [0] 0,.d (byD (s.getD i 0))] (au acc) [0,1] (b7 acc (s.getD i 0) (by omega)) rfl rfl ⟨by simp only [go_sem],by rw [aa];decide⟩ rfl (by (unfold au);simp only [go_sem]) (by (unfold au);simp only [go_sem]) ?_
     rintro _ _ ⟨rfl,rfl⟩
     unfold cY
     (unfold au)
     simp only [go_sem]
     rw [ai ⟨by omega,by omega⟩,hQ]
     simp only [go_sem]
     refine ⟨⟨(i+1,acc++[s.getD i 0],m-1),hI2⟩,by show s.length-(i+1)<_;omega,tau [([1],[55,2])],?_⟩
     rw [show (⟨(i+1,acc++[s.getD i 0],m-1),hI2⟩:{ x:Nat × List UInt8 × Nat // TkI s x.1 x.2.1 x.2.2 }).1.2.1=acc++[s.getD i 0] from rfl,ij]
     unfold au
     simp only [go_sem]
     all_goals rfl
    ·rw [hQ]
     simp only [go_sem]
     rw [← hs,hI.odd h1' h2n h3n h4]
     rfl
end Go.Proofs.YtejpnabbmgpmaaaGreatDoor

namespace Go.Proofs.YtejpnabbmgpmaaaGreatDoor
open Go.Ab
theorem zK {c:UInt8} {n:Nat} (hn:n<256):((c.toNat:Nat):Int)=(n:Int)↔c=UInt8.ofNat n:=by
 constructor
 ·intro h
  apply UInt8.toNat_inj.1
  rw [UInt8.toNat_ofNat']
  omega
 ·rintro rfl
  rw [UInt8.toNat_ofNat']
  omega
theorem qZ {c:UInt8} (h:((c.toNat:Nat):Int)<48):bf c=false:=by
 unfold bf;rw [decide_eq_false (by omega)];rfl
theorem mN {c:UInt8} (h:57<((c.toNat:Nat):Int)):bf c=false:=by
 unfold bf;rw [decide_eq_false (p:=c.toNat≤57) (by omega),Bool.and_false]
theorem qL {c:UInt8} (h1:¬ ((c.toNat:Nat):Int)<48) (h2:¬ 57<((c.toNat:Nat):Int)):bf c=true:=by
 unfold bf;rw [decide_eq_true (by omega),decide_eq_true (by omega)];rfl
theorem j5 {l:List UInt8} (h:1≤l.length):l.head?=some (l.getD 0 0):=by
 cases l with
 | nil=>simp at h
 | cons c r=>rfl
end Go.Proofs.YtejpnabbmgpmaaaGreatDoor

namespace Go.Proofs.YtejpnabbmgpmaaaGreatDoor
open Go.Ab
theorem xb (s:ByteArray) (pos:Nat) (hb:128≤(s.get! (pos+0)).toNat):58≤(Utf8.decode s pos).1:=by
 unfold Utf8.decode
 simp only [Utf8.runeError]
 repeat' split
 all_goals (try simp only [Bool.and_eq_true,decide_eq_true_eq] at *)
 all_goals omega
theorem nC {l:List UInt8} {pos:Nat} (h:pos<l.length):(Utf8.decode ⟨l.toArray⟩ pos=(l[pos].toNat,1))∨(58≤(Utf8.decode ⟨l.toArray⟩ pos).1∧bf l[pos]=false):=by
 have hs:pos<(⟨l.toArray⟩:ByteArray).size:=by simpa [ByteArray.size] using h
 have e:(⟨l.toArray⟩:ByteArray)[pos]'hs=l[pos]:=by rfl
 have e2:(⟨l.toArray⟩:ByteArray).get! (pos+0)=l[pos]:=by
  show (⟨l.toArray⟩:ByteArray).get! pos=_
  simp [ByteArray.get!,getElem!_pos,h]
 by_cases ha:l[pos].toNat<128
 ·have:=decode_ascii ⟨l.toArray⟩ pos hs (by rw [e];exact ha)
  rw [e] at this
  exact .inl this
 ·refine .inr ⟨xb _ _ (by rw [e2];omega),mN (by omega)⟩
def sC (l:List UInt8):AV:=.tup [.d (i64 (if bT l then -(bx l:Int) else 0)),.d (i64 (if bT l then 0 else 5))]
theorem dM {l:List UInt8} (h:bT l=false):sC l=.tup [.d (i64 0),.d (i64 5)]:=by simp [sC,h]
theorem Dk {c:UInt8} (h:bf c=true):w64 (IntKind.i32.wrap (((c.toNat:Nat):Int)-48))=((c.toNat-48:Nat):Int):=by
 simp only [bf,Bool.and_eq_true,decide_eq_true_eq] at h
 have e:IntKind.i32.wrap (((c.toNat:Nat):Int)-48)=((c.toNat-48:Nat):Int):=by
  simp only [IntKind.wrap,IntKind.bits,IntKind.signed]
  simp
  split<;>omega
 rw [e,ai ⟨by omega,by omega⟩]
theorem AZ {d:Nat} (h:d≤9):w64 ((w64 (-9223372036854775808+((d:Nat):Int))).tdiv 10) = -(((9223372036854775808-d) / 10:Nat):Int):=by
 have h1:w64 (-9223372036854775808+((d:Nat):Int)) = -9223372036854775808+((d:Nat):Int):=ai ⟨by omega,by omega⟩
 rw [h1]
 have h2:=zg (-9223372036854775808+((d:Nat):Int))
 rw [if_pos (by omega)] at h2
 rw [h2,ai ⟨by omega,by omega⟩]
 omega
theorem uy {G} (l:List UInt8):HP Tryz.prog G 168 [.str l] (fun r=>r=sC l):=by
 refine aj Tryz.func168 rfl (by decide +kernel) (by simp [Tryz.ntmps168]) (veil fun E=>?_)
 simp only [go_sem]
 refine bl E (fun h0=>?_) (fun h0=>?_)<;>simp only [go_sem]
 ·have:l=[]:=by simpa using h0
  subst this;rfl
 have h0:1≤l.length:=by
  cases l with
  | nil=>simp at h0
  | cons c r=>simp
 refine ao E (fun h1=>?_) (fun h1=>?_)<;>simp only [go_sem]
 ·refine ⟨by omega,?_⟩
  refine ah E (fun h4=>?_) (fun h4=>?_)<;>simp only [go_sem]
  ·have:bT l=false:=sG (by omega) (by rw [j5 (by omega)];congr 1;exact (zK (n:=48) (by omega)).1 h4)
   rw [dM this]
  ·refine r8 E l (by rw [ti9]) rfl (by simp) (by simp [aa]) ?_
   simp only [go_sem]
   refine eE E (X:={ i:Nat // i≤l.length∧(l.take i).all bf=true∧bx (l.take i)≤9223372036854775808 }) (fun x=>[(0,.d (.str l)),(4,.d (i64 (-(bx (l.take x.1):Nat)))),(21,.it [21])]) (fun x=>[([21],.siter l x.1)]) [21] (fun x=>l.length-x.1) ⟨0,by simp,by simp,by simp [bx]⟩ ?_ ?_
   ·simp only [go_sem]
    simp [bx]
   rintro ⟨i,hi,hall,hvi⟩ E0
   refine aH E0 fun Q' hQ E'=>?_
   simp only at hi hall hvi ⊢
   simp only [go_sem]
   refine vn E' [21] l i rfl rfl (by simp) (fun hi'=>?_) (fun hi'=>?_)<;>simp only [go_sem]
   ·rcases nC hi' with e | ⟨e1,e2⟩
    ·rw [e]
     refine ao E' (fun h7=>?_) (fun h7=>?_)<;>simp only [go_sem]
     ·rw [hQ]
      simp only [go_sem]
      rw [dM (eV hi' (qZ h7))]
     refine ah E' (fun h8=>?_) (fun h8=>?_)<;>simp only [go_sem]
     ·rw [hQ]
      simp only [go_sem]
      rw [dM (eV hi' (mN h8))]
     have hd:=qL h7 h8
     have hdv:l[i].toNat-48≤9:=by
      simp only [bf,Bool.and_eq_true,decide_eq_true_eq] at hd
      omega
     rw [Dk hd,AZ hdv]
     refine ah E' (fun h9=>?_) (fun h9=>?_)<;>simp only [go_sem]
     ·rw [hQ]
      simp only [go_sem]
      rw [dM (oG (i:=i+1) (by rw [cT hi'];omega))]
     ·rw [hQ]
      simp only [go_sem]
      have hle:10*bx (l.take i)+(l[i].toNat-48)≤9223372036854775808:=by omega
      refine ⟨⟨i+1,by omega,qz hi' hall hd,by rw [cT hi'];exact hle⟩,by show l.length-(i+1)<_;omega,?_,rfl⟩
      show AV.d (D.int IntKind.i64 _)=AV.d (i64 (-((bx (l.take (i+1)):Nat):Int)))
      rw [cT hi']
      congr 2
      simp only [ly]
      repeat' split
      all_goals omega
    ·refine ao E' (fun h7=>?_) (fun h7=>?_)<;>simp only [go_sem]
     ·omega
     refine ah E' (fun h8=>?_) (fun h8=>?_)<;>simp only [go_sem]
     ·rw [hQ]
      simp only [go_sem]
      rw [dM (eV hi' e2)]
     ·omega
   ·rw [hQ]
    simp only [go_sem]
    have hil:i=l.length:=by omega
    subst hil
    rw [List.take_length] at hall hvi ⊢
    have hlead:¬ (1<l.length∧l.head?=some 48):=by
     rintro ⟨g1,g2⟩
     first
      | exact h4 ((zK (n:=48) (by omega)).2 (by rw [j5 (by omega)] at g2;exact Option.some.inj g2))
      | omega
    have hok:=kc h0 hlead hall hvi
    simp [sC,hok]
 ·refine r8 E l (by rw [ti9]) rfl (by simp) (by simp [aa]) ?_
  simp only [go_sem]
  refine eE E (X:={ i:Nat // i≤l.length∧(l.take i).all bf=true∧bx (l.take i)≤9223372036854775808 }) (fun x=>[(0,.d (.str l)),(4,.d (i64 (-(bx (l.take x.1):Nat)))),(21,.it [21])]) (fun x=>[([21],.siter l x.1)]) [21] (fun x=>l.length-x.1) ⟨0,by simp,by simp,by simp [bx]⟩ ?_ ?_
  ·simp only [go_sem]
   simp [bx]
  rintro ⟨i,hi,hall,hvi⟩ E0
  refine aH E0 fun Q' hQ E'=>?_
  simp only at hi hall hvi ⊢
  simp only [go_sem]
  refine vn E' [21] l i rfl rfl (by simp) (fun hi'=>?_) (fun hi'=>?_)<;>simp only [go_sem]
  ·rcases nC hi' with e | ⟨e1,e2⟩
   ·rw [e]
    refine ao E' (fun h7=>?_) (fun h7=>?_)<;>simp only [go_sem]
    ·rw [hQ]
     simp only [go_sem]
     rw [dM (eV hi' (qZ h7))]
    refine ah E' (fun h8=>?_) (fun h8=>?_)<;>simp only [go_sem]
    ·rw [hQ]
     simp only [go_sem]
     rw [dM (eV hi' (mN h8))]
    have hd:=qL h7 h8
    have hdv:l[i].toNat-48≤9:=by
     simp only [bf,Bool.and_eq_true,decide_eq_true_eq] at hd
     omega
    rw [Dk hd,AZ hdv]
    refine ah E' (fun h9=>?_) (fun h9=>?_)<;>simp only [go_sem]
    ·rw [hQ]
     simp only [go_sem]
     rw [dM (oG (i:=i+1) (by rw [cT hi'];omega))]
    ·rw [hQ]
     simp only [go_sem]
     have hle:10*bx (l.take i)+(l[i].toNat-48)≤9223372036854775808:=by omega
     refine ⟨⟨i+1,by omega,qz hi' hall hd,by rw [cT hi'];exact hle⟩,by show l.length-(i+1)<_;omega,?_,rfl⟩
     show AV.d (D.int IntKind.i64 _)=AV.d (i64 (-((bx (l.take (i+1)):Nat):Int)))
     rw [cT hi']
     congr 2
     simp only [ly]
     repeat' split
     all_goals omega
   ·refine ao E' (fun h7=>?_) (fun h7=>?_)<;>simp only [go_sem]
    ·omega
    refine ah E' (fun h8=>?_) (fun h8=>?_)<;>simp only [go_sem]
    ·rw [hQ]
     simp only [go_sem]
     rw [dM (eV hi' e2)]
    ·omega
  ·rw [hQ]
   simp only [go_sem]
   have hil:i=l.length:=by omega
   subst hil
   rw [List.take_length] at hall hvi ⊢
   have hlead:¬ (1<l.length∧l.head?=some 48):=by
    rintro ⟨g1,g2⟩
    first
     | exact h4 ((zK (n:=48) (by omega)).2 (by rw [j5 (by omega)] at g2;exact Option.some.inj g2))
     | omega
   have hok:=kc h0 hlead hall hvi
   simp [sC,hok]
end Go.Proofs.YtejpnabbmgpmaaaGreatDoor

namespace Go.Proofs.YtejpnabbmgpmaaaGreatDoor
open Go.Ab
theorem qQ {l:List UInt8} (h:bT l=true):bx l≤9223372036854775808:=by
 simp only [bT,Bool.and_eq_true,decide_eq_true_eq] at h
 exact h.2
theorem neg_zero {l:List UInt8} (h:bx l=0):ch true l=.tup [.d (i64 0),.d (i64 5)]:=fM (by simp [bL,h])
theorem zN {l:List UInt8} (hd:bT l=true) (h:bx l≠0):ch true l=.tup [.d (i64 (-(bx l:Int))),.d (i64 0)]:=by
 have:bL true l=true:=by simp [bL,hd,h]
 simp [ch,this]
theorem EH {G} (s:List UInt8) (hp:aV s [126]=true):HP Tryz.prog G 156 [.str s] (fun r=>r=ch true (s.drop 1)):=by
 refine aj Tryz.func156 rfl (by decide +kernel) (by simp [Tryz.ntmps156]) (veil fun E=>?_)
 simp only [go_sem]
 refine ae E (oN s [126]) rfl rfl (by simp) ?_
 rintro _ rfl
 simp only [hp,List.length_cons,List.length_nil]
 simp only [go_sem]
 refine ae E (uy (s.drop 1)) rfl rfl (by simp) ?_
 rintro _ rfl
 simp only [sC]
 by_cases hd:bT (s.drop 1)=true
 ·have hle:=qQ hd
  simp only [hd,if_true]
  simp only [go_sem]
  refine ao E (fun h1=>?_) (fun h1=>?_)<;>simp only [go_sem]
  ·rw [neg_zero (by omega)]
  ·rw [zN hd (by omega)]
 ·simp only [hd,if_false]
  simp only [go_sem]
  rw [fM (mS (by simpa using hd))]
theorem EW {G} (s:List UInt8) (hp:aV s [126]=false):HP Tryz.prog G 156 [.str s] (fun r=>r=ch false s):=by
 refine aj Tryz.func156 rfl (by decide +kernel) (by simp [Tryz.ntmps156]) (veil fun E=>?_)
 simp only [go_sem]
 refine ae E (oN s [126]) rfl rfl (by simp) ?_
 rintro _ rfl
 simp only [hp,List.length_cons,List.length_nil]
 simp only [go_sem]
 refine ae E (uy s) rfl rfl (by simp) ?_
 rintro _ rfl
 simp only [sC]
 by_cases hd:bT s=true
 ·have hle:=qQ hd
  simp only [hd,if_true]
  simp only [go_sem]
  refine ah E (fun h1=>?_) (fun h1=>?_)<;>simp only [go_sem]
  ·have:bL false s=false:=by simp [bL];intro _;omega
   rw [fM this]
  ·have:bL false s=true:=by simp [bL,hd];omega
   simp [ch,this]
   rw [ai ⟨by omega,by omega⟩]
 ·simp only [hd,if_false]
  simp only [go_sem]
  rw [fM (mS (by simpa using hd))]
theorem tO {G} (s:List UInt8):HP Tryz.prog G 156 [.str s] (fun r=>r=oU s):=by
 unfold oU
 cases hp:aV s [126] with
 | true=>exact EH s hp
 | false=>exact EW s hp
theorem zz (u:Nat) (h:¬ u<10):Lib.decDigits u=Lib.decDigits (u / 10)++[UInt8.ofNat (48+u % 10)]:=by
 rw [Lib.decDigits,dif_neg h]
theorem uM (u:Nat) (h:u<10):Lib.decDigits u=[UInt8.ofNat (48+u)]:=by
 rw [Lib.decDigits,dif_pos h]
theorem zF {d:Nat} (h:d<10):bf (UInt8.ofNat (48+d))=true∧(UInt8.ofNat (48+d)).toNat=48+d:=by
 have e:(UInt8.ofNat (48+d)).toNat=48+d:=by rw [UInt8.toNat_ofNat'];omega
 refine ⟨?_,e⟩
 unfold bf
 rw [e,decide_eq_true (by omega),decide_eq_true (by omega)];rfl
theorem CK (u:Nat):bx (Lib.decDigits u)=u∧(Lib.decDigits u).all bf=true∧(u≠0→¬ (Lib.decDigits u).head?=some 48):=by
 induction u using Nat.strongRecOn with
 | ind u ih =>
   by_cases h:u<10
   ·rw [uM u h]
    obtain ⟨h1,h2⟩:=zF h
    generalize UInt8.ofNat (48+u)=c at *
    refine ⟨by simp [bx,h2],by simp [h1],fun h0 e=>?_⟩
    simp only [List.head?_cons,Option.some.injEq] at e
    rw [e] at h2
    have:(48:UInt8).toNat=48:=rfl
    omega
   ·rw [zz u h]
    obtain ⟨h1,h2⟩:=zF (d:=u % 10) (by omega)
    generalize UInt8.ofNat (48+u % 10)=c at *
    obtain ⟨g1,g2,g3⟩:=ih (u / 10) (by omega)
    refine ⟨by rw [ko,g1,h2];omega,by simp [g2,h1],fun h0=>?_⟩
    obtain ⟨c,r,hc,_⟩:=nt (u / 10)
    have:=g3 (by omega)
    rw [hc] at this ⊢
    simpa using this
theorem xM (u:Nat) (h:u≤9223372036854775808):bT (Lib.decDigits u)=true:=by
 obtain ⟨g1,g2,g3⟩:=CK u
 obtain ⟨c,r,hc,_⟩:=nt u
 refine kc (by rw [hc];simp) ?_ g2 (by rw [g1];exact h)
 rintro ⟨h1,h2⟩
 by_cases h0:u=0
 ·subst h0;rw [uM 0 (by omega)] at h1;simp at h1
 ·exact g3 h0 h2
end Go.Proofs.YtejpnabbmgpmaaaGreatDoor

namespace Go.Proofs.YtejpnabbmgpmaaaGreatDoor
open Go.Ab
theorem ye {c:UInt8} (h1:65≤((c.toNat:Nat):Int)) (h2:((c.toNat:Nat):Int)≤90):gr c=true:=by
 show (decide (65≤((c.toNat:Nat):Int)) && decide (((c.toNat:Nat):Int)≤90))=true
 simp [h1,h2]
theorem yV {c:UInt8} (h1:¬ 65≤((c.toNat:Nat):Int)):¬ gr c=true:=by
 show ¬ (decide (65≤((c.toNat:Nat):Int)) && decide (((c.toNat:Nat):Int)≤90))=true
 simp [h1]
theorem zw {c:UInt8} (h2:¬ ((c.toNat:Nat):Int)≤90):¬ gr c=true:=by
 show ¬ (decide (65≤((c.toNat:Nat):Int)) && decide (((c.toNat:Nat):Int)≤90))=true
 simp [h2]
theorem CH {G} (s:List UInt8) (n:Nat) (_hl:s.length≤1000000) (h1:1≤n) (hn:n≤s.length):HP Tryz.prog G 137 [.str s,i64 n] (fun r=>r=.d (pT (nw s n))):=by
 refine aj Tryz.func137 rfl (by decide +kernel) (by simp [Tryz.ntmps137]) (veil fun E=>?_)
 simp only [go_sem]
 refine ⟨by omega,?_⟩
 rw [Nat.sub_zero]
 have hw:(s.take n).length=n:=by rw [List.length_take];omega
 obtain ⟨w,hwd⟩:∃ w,w=s.take n:=⟨_,rfl⟩
 rw [← hwd] at hw
 have hdef:nw s n=if 20<n then dr 7 else if yD w then ⟨⟨1,w,0,0⟩,n,0⟩ else if gr (w.getD 0 0) then ⟨⟨3,w,0,0⟩,n,0⟩ else ⟨⟨2,w,0,0⟩,n,0⟩:=by rw [hwd];rfl
 rw [← hwd]
 refine ah E (fun h2=>?_) (fun h2=>?_)<;>simp only [go_sem]
 ·rw [hdef,if_pos (by omega)];rfl
 rw [if_neg (by omega)] at hdef
 refine ae E (xT w) rfl rfl (by simp) ?_
 rintro _ rfl
 simp only [go_sem]
 refine aI E (fun h3=>?_) (fun h3=>?_)<;>simp only [go_sem]
 ·rw [hdef,if_pos h3];rfl
 rw [if_neg (by rw [h3];simp)] at hdef
 refine ⟨by omega,?_⟩
 refine ao E (fun h4=>?_) (fun h4=>?_)<;>simp only [go_sem]
 ·refine ⟨by omega,?_⟩
  refine ah E (fun h5=>?_) (fun h5=>?_)<;>simp only [go_sem]
  ·rw [hdef,if_pos (ye h4 h5)];rfl
  ·rw [hdef,if_neg (zw h5)];rfl
 ·rw [hdef,if_neg (yV h4)];rfl
theorem u3 {G} (c:UInt8):HP Tryz.prog G 139 [u8 c] (fun r=>r=.d (.bool (bf c))):=by
 unfold u8
 refine aj Tryz.func139 rfl (by decide +kernel) (by simp [Tryz.ntmps139]) (veil fun E=>?_)
 simp only [go_sem]
 repeat (first
  | (apply dP E;(· simp only [go_sem]);(· intro h;(try simp only [bq] at h);simp only [↓h,go_sem];rfl);simp only [go_sem])
  | (apply bJ E;(· simp only [go_sem]);(· intro h;(try simp only [bq] at h);simp only [↓h,go_sem];rfl);(· intro h;(try simp only [bq] at h);simp only [↓h,go_sem];rfl);simp only [go_sem])
  | (apply bK E;(· simp only [go_sem]);(· rfl);(· intro h h';(try simp only [bq] at h h');simp only [↓h,↓h',go_sem];rfl);simp only [go_sem])
  | (apply bj E;(· simp only [go_sem]);(· rfl);(· intro h h';(try simp only [bq] at h h');simp only [↓h,↓h',go_sem];rfl);(· intro h h';(try simp only [bq] at h h');simp only [↓h,↓h',go_sem];rfl);simp only [go_sem])
  | (apply dv E;(· decide);simp only [go_sem]))
 have hp:(decide (48≤((c.toNat:Nat):Int)) && decide (((c.toNat:Nat):Int)≤57))=bf c:=by
  unfold bf
  rw [Bool.eq_iff_iff];simp;omega
 rw [hp]
theorem CC {G} (s:List UInt8) (hl:s.length≤1000000):HP Tryz.prog G 141 [.str s] (fun r=>r=.d (pT (sv s))):=by
 refine aj Tryz.func141 rfl (by decide +kernel) (by simp [Tryz.ntmps141]) (veil fun E=>?_)
 simp only [go_sem]
 refine ae E (C4 s hl) rfl rfl (by simp) ?_
 rintro _ rfl
 simp only [go_sem]
 rfl
theorem uI (s:List UInt8):oU s=.tup [.d (i64 (xX s).1),.d (i64 (xX s).2)]:=by
 unfold oU xX
 have key:∀ (b:Bool) (l:List UInt8),ch b l=.tup [.d (i64 (rF b l).1),.d (i64 (rF b l).2)]:=fun b l=>by
  unfold ch rF
  cases bL b l<;>rfl
 split<;>exact key _ _
theorem wK {s:List UInt8} {n:Nat} (h:n<s.length):jw (s.drop n)=if bf (s.getD n 0) then jw (s.drop (n+1))+1 else 0:=by
 rw [List.drop_eq_getElem_cons h,jw]
 simp [h]
theorem Bc {G} (s:List UInt8) (hl:s.length≤1000000) (h0:1≤s.length):HP Tryz.prog G 140 [.str s] (fun r=>r=.d (pT (Ad s))):=by
 refine aj Tryz.func140 rfl (by decide +kernel) (by simp [Tryz.ntmps140]) (veil fun E=>?_)
 simp only [go_sem]
 have hle:=pD (s.drop 1)
 rw [List.length_drop] at hle
 refine aw E (X:={ n:Nat // 1≤n∧n≤s.length∧n+jw (s.drop n)=jw (s.drop 1)+1 }) (fun x=>[(0,.d (.str s)),(2,.bx [2] 0),(3,.d (i64 x.1))]) (fun x=>[([2],.box [.d (i64 0),.d (.str []),.d (i64 0),.d (i64 0),.d (i64 0),.d (i64 0)])]) [2] (fun x=>s.length-x.1) ⟨1,by omega,by omega,by omega⟩ id ?_ ?_
 ·simp only [go_sem]
  all_goals rfl
 rintro ⟨n,hn1,hn2,hn3⟩ E0
 refine aH E0 fun Q' hQ E'=>?_
 simp only at hn1 hn2 hn3 ⊢
 simp only [go_sem]
 refine ao E' (fun h1=>?_) (fun h1=>?_)<;>simp only [go_sem]
 ·have h1':n<s.length:=by omega
  refine ⟨by omega,?_⟩
  refine ae E' (u3 (s.getD n 0)) rfl rfl (by simp) ?_
  rintro _ rfl
  simp only [go_sem]
  have hd:=wK h1'
  refine aI E' (fun h2=>?_) (fun h2=>?_)<;>simp only [go_sem]
  ·rw [ai ⟨by omega,by omega⟩,hQ]
   simp only [go_sem]
   rw [h2,if_pos rfl] at hd
   refine ⟨⟨n+1,by omega,by omega,by omega⟩,by show s.length-(n+1)<_;omega,id,?_⟩
   simp only [go_sem]
   rfl
  ·rw [h2] at hd
   have hn4:n=jw (s.drop 1)+1:=by simp at hd;omega
   rw [hQ]
   simp only [go_sem]
   refine ⟨by omega,?_⟩
   rw [Nat.sub_zero]
   refine ae E (tO (s.take n)) rfl rfl (by simp) ?_
   rintro _ rfl
   rw [uI]
   simp only [go_sem]
   rw [hn4]
   rfl
 ·have hn4:n=jw (s.drop 1)+1:=by
   have:n=s.length:=by omega
   rw [this,List.drop_length] at hn3
   simp [jw] at hn3
   omega
  rw [hQ]
  simp only [go_sem]
  refine ⟨by omega,?_⟩
  rw [Nat.sub_zero]
  refine ae E (tO (s.take n)) rfl rfl (by simp) ?_
  rintro _ rfl
  rw [uI]
  simp only [go_sem]
  rw [hn4]
  rfl
theorem BU {G} (s:List UInt8) (hl:s.length≤1000000) (h0:1≤s.length):HP Tryz.prog G 138 [.str s] (fun r=>r=.d (pT (qY s))):=by
 have hwl:=jc (s.drop 1)
 rw [List.length_drop] at hwl
 refine aj Tryz.func138 rfl (by decide +kernel) (by simp [Tryz.ntmps138]) (veil fun E=>?_)
 simp only [go_sem]
 refine ⟨by omega,?_⟩
 rw [List.take_of_length_le (l:=s.drop 1) (by rw [List.length_drop];omega)]
 refine ae E (p4 (s.drop 1) (by rw [List.length_drop];omega)) rfl rfl (by simp) ?_
 rintro _ rfl
 simp only [go_sem]
 have hdef:qY s=if bm (s.drop 1)=0∨gr (s.getD 1 0) then dr 5 else if 20<bm (s.drop 1) then dr 7 else ⟨⟨6,(s.drop 1).take (bm (s.drop 1)),0,0⟩,bm (s.drop 1)+1,0⟩:=rfl
 generalize bm (s.drop 1)=n at hdef hwl
 refine ao E (fun h1=>?_) (fun h1=>?_)<;>simp only [go_sem]
 ·rw [hdef,if_pos (.inl (by omega))];rfl
 refine ⟨by omega,?_⟩
 have more:∀ h:¬ gr (s.getD 1 0)=true,qY s=if 20<n then dr 7 else ⟨⟨6,(s.drop 1).take n,0,0⟩,n+1,0⟩:=fun h=>by rw [hdef,if_neg (fun e=>e.elim (by omega) h)]
 refine ao E (fun h2=>?_) (fun h2=>?_)<;>simp only [go_sem]
 ·refine ⟨by omega,?_⟩
  refine ah E (fun h3=>?_) (fun h3=>?_)<;>simp only [go_sem]
  ·rw [hdef,if_pos (.inr (ye h2 h3))];rfl
  have hm:=more (zw h3)
  refine ah E (fun h4=>?_) (fun h4=>?_)<;>simp only [go_sem]
  ·rw [hm,if_pos (by omega)];rfl
  rw [ai ⟨by omega,by omega⟩]
  refine ⟨by omega,?_⟩
  rw [hm,if_neg (by omega),show ((n:Int)+1).toNat-1=n by omega]
  rfl
 ·have hm:=more (yV h2)
  refine ah E (fun h4=>?_) (fun h4=>?_)<;>simp only [go_sem]
  ·rw [hm,if_pos (by omega)];rfl
  rw [ai ⟨by omega,by omega⟩]
  refine ⟨by omega,?_⟩
  rw [hm,if_neg (by omega),show ((n:Int)+1).toNat-1=n by omega]
  rfl
theorem CN {G} (s:List UInt8) (hl:s.length≤1000000) (h0:1≤s.length):HP Tryz.prog G 142 [.str s] (fun r=>r=.d (pT (lP s))):=by
 refine aj Tryz.func142 rfl (by decide +kernel) (by simp [Tryz.ntmps142]) (veil fun E=>?_)
 simp only [go_sem]
 refine ae E (vt s [45,62]) rfl rfl (by simp) ?_
 rintro _ rfl
 simp only [go_sem]
 have hdef:lP s=if aV s [45,62] || aV s [61,61] then ⟨⟨7,s.take 2,0,0⟩,2,0⟩ else if Lib.indexByte Ac (s.getD 0 0)<0 then dr 5 else ⟨⟨7,s.take 1,0,0⟩,1,0⟩:=rfl
 refine bl E (fun h1=>?_) (fun h1=>?_)<;>simp only [go_sem]
 ·have:=fH h1
  simp only [List.length_cons,List.length_nil] at this
  refine ⟨by omega,?_⟩
  rw [hdef,h1];rfl
 refine ae E (vt s [61,61]) rfl rfl (by simp) ?_
 rintro _ rfl
 simp only [go_sem]
 refine aI E (fun h2=>?_) (fun h2=>?_)<;>simp only [go_sem]
 ·have:=fH h2
  simp only [List.length_cons,List.length_nil] at this
  refine ⟨by omega,?_⟩
  rw [hdef,h2,Bool.or_true];rfl
 rw [h1,h2,Bool.or_false,if_neg (by simp)] at hdef
 refine ⟨by omega,?_⟩
 refine ae E (jE Ac (s.getD 0 0)) rfl rfl (by simp) ?_
 rintro _ rfl
 simp only [go_sem]
 refine ah E (fun h3=>?_) (fun h3=>?_)<;>simp only [go_sem]
 ·rw [hdef,if_pos h3];rfl
 refine ⟨by omega,?_⟩
 rw [hdef,if_neg h3];rfl
end Go.Proofs.YtejpnabbmgpmaaaGreatDoor

namespace Go.Proofs.YtejpnabbmgpmaaaGreatDoor
open Go.Ab
theorem gI (f:Fnd):pT f=.agg [i64 f.t.k,.str f.t.s,i64 f.t.n,i64 f.t.pos,i64 f.n,i64 f.e]:=rfl
theorem BD {G} (s:List UInt8) (hl:s.length≤1000000) (h0:1≤s.length):HP Tryz.prog G 112 [.str s] (fun r=>r=.d (pT (bN s))):=by
 have hwl:=jc s
 refine aj Tryz.func112 rfl (by decide +kernel) (by simp [Tryz.ntmps112]) (veil fun E=>?_)
 simp only [go_sem]
 refine ae E (p4 s (by omega)) rfl rfl (by simp) ?_
 rintro _ rfl
 simp only [go_sem]
 have hdef:bN s=if 0<bm s then nw s (bm s) else if s.getD 0 0=39 then qY s else if bf (s.getD 0 0) || decide (s.getD 0 0=126) then Ad s else if s.getD 0 0=34 then sv s else lP s:=rfl
 generalize bm s=n at hdef hwl
 generalize hc:s.getD 0 0=c at hdef
 refine ah E (fun h1=>?_) (fun h1=>?_)<;>simp only [go_sem]
 ·refine ae E (CH s n hl (by omega) hwl) rfl rfl (by simp) ?_
  rintro _ rfl
  rw [gI (nw s n)]
  simp only [go_sem]
  rw [hdef,if_pos (by omega)];rfl
 rw [if_neg (by omega)] at hdef
 refine ⟨by omega,?_⟩
 rw [hc]
 refine ah E (fun h2=>?_) (fun h2=>?_)<;>simp only [go_sem]
 ·refine ae E (BU s hl h0) rfl rfl (by simp) ?_
  rintro _ rfl
  rw [gI (qY s)]
  simp only [go_sem]
  rw [hdef,if_pos (b4 39 h2)];rfl
 rw [if_neg (aC 39 h2)] at hdef
 refine ae E (u3 c) rfl rfl (by simp) ?_
 rintro _ rfl
 simp only [go_sem]
 repeat (first
  | (apply dP E;(· simp only [go_sem]);(· intro h;(try simp only [bq] at h);simp only [↓h,go_sem];rfl);simp only [go_sem])
  | (apply bJ E;(· simp only [go_sem]);(· intro h;(try simp only [bq] at h);simp only [↓h,go_sem];rfl);(· intro h;(try simp only [bq] at h);simp only [↓h,go_sem];rfl);simp only [go_sem])
  | (apply bK E;(· simp only [go_sem]);(· rfl);(· intro h h';(try simp only [bq] at h h');simp only [↓h,↓h',go_sem];rfl);simp only [go_sem])
  | (apply bj E;(· simp only [go_sem]);(· rfl);(· intro h h';(try simp only [bq] at h h');simp only [↓h,↓h',go_sem];rfl);(· intro h h';(try simp only [bq] at h h');simp only [↓h,↓h',go_sem];rfl);simp only [go_sem])
  | (apply dv E;(· decide);simp only [go_sem]))
 refine aI E (fun h3=>?_) (fun h3=>?_)<;>simp only [go_sem]
 ·refine ae E (Bc s hl h0) rfl rfl (by simp) ?_
  rintro _ rfl
  rw [gI (Ad s)]
  simp only [go_sem]
  have h4:(bf c || decide (c=126))=true:=by
   simp only [Bool.or_eq_true,decide_eq_true_eq] at h3 ⊢
   rcases h3 with h3 | h3
   ·exact .inl h3
   ·exact .inr (b4 126 h3)
  rw [hdef,if_pos h4];rfl
 have h4:¬ (bf c || decide (c=126))=true:=by
  simp only [Bool.or_eq_false_iff,decide_eq_false_iff_not] at h3
  simp only [Bool.or_eq_true,decide_eq_true_eq,not_or]
  exact ⟨by rw [h3.1];simp,aC 126 h3.2⟩
 rw [if_neg h4] at hdef
 refine ah E (fun h5=>?_) (fun h5=>?_)<;>simp only [go_sem]
 ·refine ae E (CC s hl) rfl rfl (by simp) ?_
  rintro _ rfl
  rw [gI (sv s)]
  simp only [go_sem]
  rw [hdef,if_pos (b4 34 h5)];rfl
 rw [if_neg (aC 34 h5)] at hdef
 refine ae E (CN s hl h0) rfl rfl (by simp) ?_
 rintro _ rfl
 rw [gI (lP s)]
 simp only [go_sem]
 rw [hdef];rfl
theorem uA:∀ l:List UInt8,Lib.indexByte l 10=match cF l with
  | none=>-1
  | some k=>(k:Int)
 | []=>rfl
 | c::r=>by
   unfold Lib.indexByte cF
   by_cases h:c=10
   ·simp [h]
   ·rw [if_neg (by simpa using h),if_neg h,uA r]
    cases cF r with
    | none=>rfl
    | some k =>
      simp only [Option.map_some]
      rw [if_neg (by simp)]
      show (k:Int)+1=((k+1:Nat):Int)
      omega
theorem qi:∀ {l:List UInt8} {k:Nat},cF l=some k→k<l.length
 | [],_,h=>by cases h
 | c::r,k,h=>by
   unfold cF at h
   split at h
   ·cases h;simp
   ·obtain ⟨j,hj,rfl⟩:=Option.map_eq_some_iff.1 h
    have:=qi hj
    simp only [List.length_cons];omega
theorem nA {c:UInt8} {r:List UInt8} {k:Nat} (hc:¬ c=10) (h:cF (c::r)=some k):1≤k:=by
 unfold cF at h
 rw [if_neg hc] at h
 obtain ⟨j,_,rfl⟩:=Option.map_eq_some_iff.1 h
 omega
theorem qI (c:UInt8):0≤Lib.indexByte s9 c↔c=32∨c=9∨c=10:=by
 unfold s9
 by_cases h1:c=32
 ·subst h1;decide
 by_cases h2:c=9
 ·subst h2;decide
 by_cases h3:c=10
 ·subst h3;decide
 simp [Lib.indexByte,Ne.symm h1,Ne.symm h2,Ne.symm h3,h1,h2,h3]
structure PaI (s:List UInt8) (n m:Nat):Prop where
 hn:n≤s.length
 hm:(s.drop n).length<m
 he:n+dn m (s.drop n)=aK s
theorem PaI.init (s:List UInt8):PaI s 0 s.length.succ:=⟨Nat.zero_le _,by simp,by simp [aK]⟩
theorem PaI.fin {s:List UInt8} {n m:Nat} (h:PaI s n m) (hn:s.length≤n):aK s=n:=by
 rw [← h.he,List.drop_eq_nil_of_le hn]
 cases m<;>rfl
theorem PaI.cases {s:List UInt8} {n m:Nat} (h:PaI s n m) (hi:n<s.length):∃ m',m=m'+1∧s.drop n=s.getD n 0::s.drop (n+1):=by
 obtain ⟨m',rfl⟩:∃ m',m=m'+1:=⟨m-1,by have:=h.hm;omega⟩
 exact ⟨m',rfl,by rw [List.drop_eq_getElem_cons hi];simp [hi]⟩
theorem PaI.blank {s:List UInt8} {n m:Nat} (h:PaI s n m) (hi:n<s.length) (hb:s.getD n 0=32∨s.getD n 0=9∨s.getD n 0=10):PaI s (n+1) (m-1):=by
 obtain ⟨m',rfl,hd⟩:=h.cases hi
 have hm:=h.hm
 rw [List.length_drop] at hm
 refine ⟨by omega,by rw [List.length_drop];omega,?_⟩
 rw [← h.he,hd,dn,if_pos hb,Nat.add_sub_cancel]
 omega
theorem PaI.stop {s:List UInt8} {n m:Nat} (h:PaI s n m) (hi:n<s.length) (hb:¬ (s.getD n 0=32∨s.getD n 0=9∨s.getD n 0=10)) (hr:¬ s.getD n 0=35):aK s=n:=by
 obtain ⟨m',rfl,hd⟩:=h.cases hi
 rw [← h.he,hd,dn,if_neg hb,if_neg hr]
 omega
theorem PaI.none {s:List UInt8} {n m:Nat} (h:PaI s n m) (hi:n<s.length) (hb:¬ (s.getD n 0=32∨s.getD n 0=9∨s.getD n 0=10)) (hr:s.getD n 0=35) (hf:cF (s.drop n)=none):aK s=s.length:=by
 obtain ⟨m',rfl,hd⟩:=h.cases hi
 rw [hd] at hf
 rw [← h.he,hd,dn,if_neg hb,if_pos hr,hf,← hd]
 simp only [List.length_drop]
 omega
theorem PaI.some {s:List UInt8} {n m k:Nat} (h:PaI s n m) (hi:n<s.length) (hb:¬ (s.getD n 0=32∨s.getD n 0=9∨s.getD n 0=10)) (hr:s.getD n 0=35) (hf:cF (s.drop n)=some k):PaI s (n+k) (m-1)∧1≤k:=by
 obtain ⟨m',rfl,hd⟩:=h.cases hi
 have hk:=qi hf
 have h1:1≤k:=by
  rw [hd] at hf
  exact nA (by rw [hr];decide) hf
 have hm:=h.hm
 rw [List.length_drop] at hm hk
 refine ⟨⟨by omega,by rw [List.length_drop];omega,?_⟩,h1⟩
 rw [hd] at hf
 rw [← h.he,hd,dn,if_neg hb,if_pos hr,hf,← hd]
 simp only [List.drop_drop,Nat.add_sub_cancel]
 omega
theorem u9 {G} (s:List UInt8) (hl:s.length≤1000000):HP Tryz.prog G 111 [.str s] (fun r=>r=.d (i64 (aK s))):=by
 refine aj Tryz.func111 rfl (by decide +kernel) (by simp [Tryz.ntmps111]) (veil fun E=>?_)
 simp only [go_sem]
 refine aw E (X:={ x:Nat × Nat // PaI s x.1 x.2 }) (fun x=>[(0,.d (.str s)),(3,.d (i64 x.1.1))]) (fun _=>[]) [] (fun x=>s.length-x.1.1) ⟨(0,_),PaI.init s⟩ id ?_ ?_
 ·simp only [go_sem]
  all_goals rfl
 rintro ⟨⟨n,m⟩,hI⟩ E0
 refine aH E0 fun Q' hQ E'=>?_
 simp only at hI ⊢
 have hn:=hI.hn
 simp only [go_sem]
 refine ah E' (fun h1=>?_) (fun h1=>?_)<;>simp only [go_sem]
 rotate_left
 ·rw [hQ]
  simp only [go_sem]
  rw [hI.fin (by omega)]
 have h1':n<s.length:=by omega
 refine ⟨by omega,?_⟩
 refine ae E' (jE s9 (s.getD n 0)) rfl rfl (by simp) ?_
 rintro _ rfl
 simp only [go_sem]
 refine ah E' (fun h2=>?_) (fun h2=>?_)<;>simp only [go_sem]
 ·have hI2:=hI.blank h1' ((qI _).1 h2)
  rw [ai ⟨by omega,by omega⟩,hQ]
  simp only [go_sem]
  refine ⟨⟨(n+1,m-1),hI2⟩,by show s.length-(n+1)<_;omega,id,?_⟩
  simp only [go_sem]
  rfl
 have h2n:¬ (s.getD n 0=32∨s.getD n 0=9∨s.getD n 0=10):=fun h=>h2 ((qI _).2 h)
 refine ⟨by omega,?_⟩
 refine ah E' (fun h3=>?_) (fun h3=>?_)<;>simp only [go_sem]
 rotate_left
 ·rw [hQ]
  simp only [go_sem]
  rw [hI.stop h1' h2n (aC 35 h3)]
 have h3y:=b4 35 h3
 refine ⟨by omega,?_⟩
 rw [List.take_of_length_le (l:=s.drop n) (by rw [List.length_drop];omega)]
 refine ae E' (jE (s.drop n) 10) rfl rfl (by simp) ?_
 rintro _ rfl
 rw [uA]
 cases hf:cF (s.drop n) with
 | none =>
   simp only [go_sem]
   rw [hQ]
   simp only [go_sem]
   rw [hI.none h1' h2n h3y hf]
 | some k =>
   have ⟨hI2,hk⟩:=hI.some h1' h2n h3y hf
   have hn2:=hI2.hn
   simp only [go_sem]
   refine ah E' (fun h4=>?_) (fun h4=>?_)<;>simp only [go_sem]
   ·omega
   rw [ai ⟨by omega,by omega⟩,hQ]
   simp only [go_sem]
   refine ⟨⟨(n+k,m-1),hI2⟩,by show s.length-(n+k)<_;omega,id,?_⟩
   simp only [go_sem]
   rfl
end Go.Proofs.YtejpnabbmgpmaaaGreatDoor

namespace Go.Proofs.YtejpnabbmgpmaaaGreatDoor
open Go.Ab
theorem zB {G} (s:List UInt8):HP Tryz.prog G 68 [.str s] (fun r=>r=.d (.clo 110 [.ptr (.str s)])):=by
 have h:HCall Tryz.prog G 68 [.d (.str s)] [] [] (fun r hp'=>r=.clo 110 [.bx [1] 0]∧hp'=[([1],.box [.d (.str s)])]):=by
  refine an Tryz.func68 rfl (by decide +kernel) (by simp [Tryz.ntmps68]) (veil fun E=>?_)
  simp only [go_sem]
  refine ⟨_,_,[1],id,⟨rfl,rfl⟩,?_⟩
  simp only [go_sem]
 have h2:=HCall.fB (Q':=fun r hp'=>r=.d (.clo 110 [.ptr (.str s)])∧hp'=[]) h [1] (.str s) (by
  rintro r hp' ⟨rfl,rfl⟩
  refine ⟨rfl,rfl,?_,?_⟩
  ·simp only [go_sem]
  ·simp only [go_sem])
 exact h2.mono fun r hp' ⟨h1,h3⟩=>⟨h1,by rw [h1];rfl,h3⟩
theorem mu:∀ (m:Nat) (s:List UInt8),dn m s≤s.length
 | 0,_=>Nat.zero_le _
 | _+1,[]=>Nat.le_refl _
 | m+1,c::r=>by
   unfold dn
   split
   ·have:=mu m r
    simp only [List.length_cons];omega
   split
   ·split
    ·exact Nat.le_refl _
    ·rename_i k hk
     have:=qi hk
     have h2:=mu m ((c::r).drop k)
     rw [List.length_drop] at h2
     omega
   ·exact Nat.zero_le _
theorem ue (s:List UInt8):aK s≤s.length:=mu _ _
structure TI (s:List UInt8) (j p:Nat):Prop where
 hj:j≤(aA s).length
 hp:p≤s.length
 he:∃ m q,q≤s.length∧(s.drop q).length<m∧p=q+aK (s.drop q)∧(aA s).drop j=de m (s.drop q) q
theorem TI.init (s:List UInt8):TI s 0 (aK s):=⟨Nat.zero_le _,ue s,s.length.succ,0,Nat.zero_le _,by simp,by simp,by simp [aA]⟩
theorem TI.next {s:List UInt8} {j p:Nat} (h:TI s j p):(s.length≤p∧(aA s).drop j=[]) ∨
  (p<s.length∧(aA s)[j]?=some (p,bN (s.drop p))∧(((bN (s.drop p)).e≠0∧(aA s).length=j+1) ∨
   ((bN (s.drop p)).e=0∧p+(bN (s.drop p)).n≤s.length∧1≤(bN (s.drop p)).n∧TI s (j+1) (p+(bN (s.drop p)).n+aK (s.drop (p+(bN (s.drop p)).n)))))):=by
 obtain ⟨m,q,hq,hm,rfl,he⟩:=h.he
 have hpl:=h.hp
 cases m with
 | zero=>omega
 | succ m =>
   have hdd:(s.drop q).drop (aK (s.drop q))=s.drop (q+aK (s.drop q)):=by rw [List.drop_drop]
   unfold de at he
   rw [hdd] at he
   obtain ⟨p,hp⟩:∃ p,p=q+aK (s.drop q):=⟨_,rfl⟩
   rw [← hp] at he hpl ⊢
   by_cases h0:s.drop p=[]
   ·rw [if_pos h0] at he
    refine .inl ⟨?_,he⟩
    exact List.drop_eq_nil_iff.1 h0
   rw [if_neg h0] at he
   have hlt:p<s.length:=by
    rcases Nat.lt_or_ge p s.length with h1 | h1
    ·exact h1
    ·exact absurd (List.drop_eq_nil_of_le h1) h0
   refine .inr ⟨hlt,?_⟩
   have hget:∀ x r,(aA s).drop j=x::r→(aA s)[j]?=some x:=fun x r h=>by
    have:((aA s).drop j)[0]?=some x:=by rw [h];rfl
    simpa using this
   by_cases h1:(bN (s.drop p)).e=0
   ·rw [if_neg (by simpa using h1)] at he
    have hn:=xP h0 h1
    rw [List.length_drop] at hn hm
    refine ⟨hget _ _ he,.inr ⟨h1,by omega,hn.1,?_⟩⟩
    have hpq:=ue (s.drop (p+(bN (s.drop p)).n))
    rw [List.length_drop] at hpq
    have hj1:=(List.getElem?_eq_some_iff.1 (hget _ _ he)).1
    refine ⟨by omega,by omega,m,p+(bN (s.drop p)).n,by omega,by rw [List.length_drop];omega,rfl,?_⟩
    have h2:(aA s).drop (j+1)=((aA s).drop j).drop 1:=by rw [List.drop_drop]
    rw [h2,he,List.drop_succ_cons,List.drop_zero,List.drop_drop]
   ·rw [if_pos h1] at he
    refine ⟨hget _ _ he,.inl ⟨h1,?_⟩⟩
    have h2:=congrArg List.length he
    rw [List.length_drop] at h2
    simp at h2
    omega
def xU (s:List UInt8) (n:Nat):List D:=[i64 ((aA s).getD n (0,dr 0)).1,pT ((aA s).getD n (0,dr 0)).2]
set_option maxHeartbeats 1000000 in
theorem uf {G} (s:List UInt8) (hl:s.length≤1000000):ItC Tryz.prog G 110 [.ptr (.str s)] (aA s).length (xU s):=by
 refine BR Tryz.func110 rfl (by decide +kernel) (by simp [Tryz.ntmps110]) rfl fun z hz=>?_
 refine bH (aJ fun E=>?_)
 simp only [go_sem]
 refine ae E (u9 s hl) rfl rfl (by simp) ?_
 rintro _ rfl
 simp only [go_sem]
 refine lA (DN (X:={ x:Nat × Nat // TI s x.1 x.2 }) (fun x=>mk [(0,.d (.yl z.l)),(1,.d (.ptr (.str s))),(3,.d (i64 x.1.2))] [] []) (fun x=>II z x.1.1) (fun x=>s.length-x.1.2) ⟨(0,aK s),.init s⟩ ⟨id,LeL.le ?_⟩ (fun _ _ h=>h) ?_)
 ·simp only [go_sem]
  all_goals rfl
 rintro ⟨⟨j,p⟩,hT⟩
 have hpl:=hT.hp
 simp only at hT hpl ⊢
 generalize hΦ:lpY _ _ _ _ _ _ _ _=Φ'
 refine bH (aJ fun E=>?_)
 simp only [go_sem]
 refine ah E (fun h1=>?_) (fun h1=>?_)<;>simp only [go_sem]
 ·obtain ⟨hlt,hget,hcase⟩:=hT.next.resolve_left (fun h=>by omega)
  have hj:j<(aA s).length:=(List.getElem?_eq_some_iff.1 hget).1
  have hgd:(aA s).getD j (0,dr 0)=(p,bN (s.drop p)):=by rw [List.getD_eq_getElem?_getD,hget];rfl
  generalize hF:bN (s.drop p)=F at hget hcase hgd
  refine bH (lA (bH (aJ fun E=>?_)))
  simp only [go_sem]
  refine ⟨by omega,?_⟩
  rw [List.take_of_length_le (l:=s.drop p) (by rw [List.length_drop];omega)]
  refine ae E (BD (s.drop p) (by rw [List.length_drop];omega) (by rw [List.length_drop];omega)) rfl rfl (by simp) ?_
  rintro _ rfl
  rw [hF,gI F]
  simp only [go_sem]
  refine bH (bH (rh (Bh rfl ?_)))
  simp only [go_sem]
  refine Bh rfl ?_
  simp only [go_sem]
  refine Bh rfl ?_
  simp only [go_sem]
  refine CQ hz hj (by simp) rfl (by simp only [go_sem];rw [show xU s j=[i64 p,pT F] by unfold xU;rw [hgd]];rfl) ?_ ?_
  ·refine yO fun E=>?_
   simp only [go_sem]
   refine aJ fun E=>?_
   simp only [go_sem]
   refine ah E (fun h2=>?_) (fun h2=>?_)<;>simp only [go_sem]
   ·rcases hcase with ⟨_,h3⟩ | ⟨h3,_⟩
    ·rw [← h3]
     subst hΦ
     exact lN (yG hz (.inr rfl))
    ·exact absurd h3 h2
   ·rcases hcase with ⟨h3,_⟩ | ⟨h3,h4,h5,h6⟩
    ·exact absurd h3 h2
    refine aJ fun E=>?_
    simp only [go_sem]
    rw [ai ⟨by omega,by omega⟩]
    refine Dr (aJ fun E=>?_)
    simp only [go_sem]
    have hpo:=h6.hp
    refine ⟨by omega,?_⟩
    rw [show ((p:Int)+(F.n:Nat)).toNat=p+F.n by omega,List.take_of_length_le (l:=s.drop (p+F.n)) (by rw [List.length_drop];omega)]
    refine ae E (u9 (s.drop (p+F.n)) (by rw [List.length_drop];omega)) rfl rfl (by simp) ?_
    rintro _ rfl
    simp only [go_sem]
    rw [ai ⟨by omega,by omega⟩]
    subst hΦ
    refine qK (show { x:Nat × Nat // TI s x.1 x.2 } from ⟨(j+1,p+F.n+aK (s.drop (p+F.n))),h6⟩) ?_ id (LeL.le ?_) (fun _ _ h=>h)
    ·show s.length-(p+F.n+aK (s.drop (p+F.n)))<s.length-p
     omega
    ·simp only [go_sem]
     rfl
  ·refine yO fun E=>?_
   simp only [go_sem]
   refine aJ fun E=>?_
   simp only [go_sem]
   subst hΦ
   exact lN (Fa hz (.inr rfl))
 ·subst hΦ
  refine qS ?_
  simp only [go_sem]
  refine GA ?_
  have hj:=hT.hj
  rcases hT.next with ⟨_,h2⟩ | ⟨h2,_⟩
  ·have h3:=List.drop_eq_nil_iff.1 h2
   have:j=(aA s).length:=by omega
   subst this
   exact yG hz (.inl rfl)
  ·omega
end Go.Proofs.YtejpnabbmgpmaaaGreatDoor

namespace Go.Proofs.YtejpnabbmgpmaaaGreatDoor
open Go.Ab
theorem oV:∀ (m:Nat) (s:List UInt8) (at' i:Nat),i+1<(de m s at').length→((de m s at').getD i (0,dr 0)).2.e=0
 | 0,_,_,_,h=>by simp [de] at h
 | m+1,s,at',i,h=>by
   unfold de at h ⊢
   split at h
   ·simp at h
   rename_i h0
   rw [if_neg h0]
   split at h
   ·simp at h
   rename_i h1
   rw [if_neg h1]
   cases i with
   | zero=>simpa using h1
   | succ i =>
     simp only [List.length_cons] at h
     rw [List.getD_cons_succ]
     exact oV m _ _ i (by omega)
theorem ov:∀ {l:List (Nat × Fnd)},eZ l=none→∀ q∈l,q.2.e=0
 | [],_,q,h=>by cases h
 | a::r,hb,q,h=>by
   unfold eZ at hb
   split at hb
   ·cases hb
   rename_i h1
   rcases List.mem_cons.1 h with rfl | h
   ·simpa using h1
   ·exact ov hb q h
theorem oB:∀ {l:List (Nat × Fnd)} {i:Nat} {e:Int},(∀ k,k+1<l.length→(l.getD k (0,dr 0)).2.e=0)→eZ l=some (i,e)→0<l.length∧(l.getD (l.length-1) (0,dr 0)).1=i∧(l.getD (l.length-1) (0,dr 0)).2.e=e∧e≠0
 | [],_,_,_,h=>by cases h
 | [a],i,e,_,h=>by
   unfold eZ at h
   split at h
   ·rename_i h1;cases h;exact ⟨by simp,rfl,rfl,h1⟩
   ·cases h
 | a::b::r,i,e,hk,h=>by
   have ha:a.2.e=0:=hk 0 (by simp)
   unfold eZ at h
   rw [if_neg (by simpa using ha)] at h
   obtain ⟨_,h2,h3,h4⟩:=oB (l:=b::r) (fun k hk'=>by
    have:=hk (k+1) (by simp only [List.length_cons] at hk' ⊢;omega)
    simpa using this) h
   refine ⟨by simp,?_,?_,h4⟩
   ·simpa using h2
   ·simpa using h3
def Gg:St:=mk [] [([0],.map [])] []
theorem Bx {P:Program} {cf:Cf} {Φ:Exit→Act→World→Prop} {I:Base→List Deferred→Prop} {k:List It}:ARY P cf Φ I k Gg:=by
 intro B hB ds β a w hds hI hs
 obtain ⟨⟨_,_,_,h⟩,_⟩:=hs.objs [0] _ rfl
 cases h
def rT (s:List UInt8) (n:Nat):St:=mk [(0,.d (.str s)),(2,.bx [2] 0),(3,.bx [3] 0),(4,.bx [4] 0),(5,.bx [5] 0)] [([2],.box [.d .nils]),([3],.box [.d (i64 0)]),([4],.box [.d (i64 0)]),([5],.box [.vw [99] 0 n]),([99],.arr (some 4) (((aA s).take n).map fun q=>fT (mF q)))] [2,3,4,5,99]
theorem sf (s:List UInt8) {n:Nat} (hn:n<(aA s).length) {q:Nat × Fnd} (hq:q=(aA s).getD n (0,dr 0)) :
  List.take n (List.map (fun q=>fT (mF q)) (List.take n (aA s)))++[.agg [i64 q.2.t.k,.str q.2.t.s,i64 q.2.t.n,.int .i64 (q.1:Nat)]]=List.map (fun q=>fT (mF q)) (List.take (n+1) (aA s)):=by
 have hq2:q=(aA s)[n]:=by rw [hq];simp [hn]
 rw [List.take_of_length_le (by simp;omega),List.take_succ_eq_append_getElem hn,List.map_append,← hq2]
 rfl
set_option maxHeartbeats 1000000 in
theorem EG {G} (s:List UInt8) (hl:s.length≤1000000) (hb:eZ (aA s)=none):HP Tryz.prog G 32 [.str s] (fun r=>r=.tup [.d (.sl (some 4) ((cG s).1.map fT)),.d (i64 (cG s).2.1),.d (i64 (cG s).2.2)]):=by
 have hok:=ov hb
 have hfew:(aA s).length≤s.length:=jC s.length.succ s 0
 have hlex:cG s=((aA s).map mF,s.length,0):=by unfold cG;rw [hb]
 refine tW Tryz.func32 rfl (by decide +kernel) (by simp [Tryz.ntmps32]) fun B0 hB0=>?_
 refine bH (aJ fun E=>?_)
 simp only [go_sem]
 refine bH (aJ fun E=>?_)
 simp only [go_sem]
 refine bH (bH (aJ fun E=>?_))
 simp only [go_sem]
 refine ae E (zB s) rfl rfl (by simp) ?_
 rintro _ rfl
 simp only [go_sem]
 refine vr [5] 0 99 (some 4) [.d .nils] rfl rfl (by rw [aa];decide) ?_
 simp only [go_sem]
 refine lA (vy rfl (uf s hl) rfl (X:=Unit) (fun n _=>rT s n) (by simp) (fun n hn=>rfl) ⟨(),id,LeL.le ?_⟩ ?_ ?_)
 ·simp only [go_sem]
  all_goals rfl
 ·rintro n ⟨⟩ hn lb
  unfold rT xU
  obtain ⟨q,hq⟩:∃ q,q=(aA s).getD n (0,dr 0):=⟨_,rfl⟩
  have hqm:q∈aA s:=by rw [hq];simp [hn]
  have hqe:=hok q hqm
  rw [← hq,gI]
  refine veil fun E=>?_
  simp only [go_sem]
  refine Gp fun E=>?_
  simp only [go_sem]
  refine ah E (fun h1=>absurd hqe h1) (fun h1=>?_)<;>simp only [go_sem]
  rw [sf s hn hq]
  refine ⟨by omega,?_⟩
  refine Dz ?_ () (tau [([99],[25])]) rfl ?_
  ·simp only [go_sem]
  ·simp only [go_sem]
 ·rintro ⟨⟩
  refine Dr ?_
  unfold rT
  rw [List.take_length]
  refine aJ fun E=>?_
  simp only [go_sem]
  refine z8 (.inl rfl) hB0 ?_
  simp only [go_sem]
  refine ⟨[([99],some 4,(aA s).map fun q=>fT (mF q))],?_⟩
  simp only [go_sem]
  rw [hlex,List.map_map]
  rfl
set_option maxHeartbeats 1000000 in
theorem BQ {G} (s:List UInt8) (hl:s.length≤1000000) {i:Nat} {e:Int} (hb:eZ (aA s)=some (i,e)):HP Tryz.prog G 32 [.str s] (fun r=>r=.tup [.d .nils,.d (i64 i),.d (i64 e)]):=by
 obtain ⟨h0,hi,he,hne⟩:=oB (oV _ _ _) hb
 have hok:∀ n,n+1<(aA s).length→((aA s).getD n (0,dr 0)).2.e=0:=oV _ _ _
 have hfew:(aA s).length≤s.length:=jC s.length.succ s 0
 change 0<(aA s).length at h0
 change ((aA s).getD ((aA s).length-1) (0,dr 0)).1=i at hi
 change ((aA s).getD ((aA s).length-1) (0,dr 0)).2.e=e at he
 refine tW Tryz.func32 rfl (by decide +kernel) (by simp [Tryz.ntmps32]) fun B0 hB0=>?_
 refine bH (aJ fun E=>?_)
 simp only [go_sem]
 refine bH (aJ fun E=>?_)
 simp only [go_sem]
 refine bH (bH (aJ fun E=>?_))
 simp only [go_sem]
 refine ae E (zB s) rfl rfl (by simp) ?_
 rintro _ rfl
 simp only [go_sem]
 refine vr [5] 0 99 (some 4) [.d .nils] rfl rfl (by rw [aa];decide) ?_
 simp only [go_sem]
 refine lA (vy rfl (uf s hl) rfl (X:=Unit) (fun n _=>if n<(aA s).length then rT s n else Gg) (by simp) (fun n hn=>rfl) ⟨(),id,?_⟩ ?_ ?_)
 ·rw [if_pos h0]
  refine LeL.le ?_
  simp only [go_sem]
  all_goals rfl
 ·rintro n ⟨⟩ hn lb
  simp only [if_pos hn]
  have hlast:n+1<(aA s).length∨n=(aA s).length-1:=by omega
  obtain ⟨q,hq⟩:∃ q,q=(aA s).getD n (0,dr 0):=⟨_,rfl⟩
  have hcase:(q.2.e=0∧n+1<(aA s).length)∨(q.1=i∧q.2.e=e):=by
   rcases hlast with h | h
   ·exact .inl ⟨by rw [hq];exact hok n h,h⟩
   ·refine .inr ⟨?_,?_⟩
    ·rw [hq,h];exact hi
    ·rw [hq,h];exact he
  unfold xU
  rw [← hq,gI]
  unfold rT
  refine veil fun E=>?_
  simp only [go_sem]
  refine Gp fun E=>?_
  simp only [go_sem]
  refine ah E (fun h1=>?_) (fun h1=>?_)<;>simp only [go_sem]
  ·obtain ⟨hq1,hq2⟩:=hcase.resolve_left (fun h=>h1 h.1)
   refine al mixed E fun X=>?_
   simp only [go_sem]
   refine ⟨by decide +kernel,?_⟩
   refine Ee ?_ (z8 (.inl rfl) hB0 ?_)
   ·simp only [go_sem]
    exact Nat.le_refl _
   ·simp only [go_sem]
    refine ⟨[],?_⟩
    simp only [go_sem]
    rw [hq1,hq2]
  ·rcases hcase with ⟨_,h2⟩ | ⟨_,h2⟩
   ·rw [sf s hn hq]
    refine ⟨by omega,?_⟩
    simp only [if_pos h2]
    refine Dz ?_ () (tau [([99],[25])]) rfl ?_
    ·simp only [go_sem]
    ·simp only [go_sem]
   ·exact absurd h2 (fun h=>by omega)
 ·rintro ⟨⟩
  rw [if_neg (Nat.lt_irrefl _)]
  exact Bx
end Go.Proofs.YtejpnabbmgpmaaaGreatDoor

namespace Go.Proofs.YtejpnabbmgpmaaaGreatDoor
open Go.Ab
theorem SS.parted (s:PS) (t:Tok) (l:List EF) (h:∀ N,PSo N s→0≤t.pos∧t.pos≤N):SS s (s.parted t l):=by
 unfold PS.parted
 split
 ·exact SS.refl s
 split
 ·exact SS.fail s _ _ h
 split
 ·exact SS.fail s _ _ h
 ·exact SS.refl s
theorem SS.withp {s r:PS} (h:SS s r) (e p:Int) (hp:∀ N,PSo N s→0≤p∧p≤N):SS s (r.fail e p):=by
 unfold PS.fail
 split
 ·exact ⟨h.suf,h.fin,h.nest,hp⟩
 ·exact h
theorem SS.partp {s r:PS} (h:SS s r) (t:Tok) (l:List EF) (hp:∀ N,PSo N s→0≤t.pos∧t.pos≤N):SS s (r.parted t l):=by
 unfold PS.parted
 split
 ·exact h
 split
 ·exact SS.withp h _ _ hp
 split
 ·exact SS.withp h _ _ hp
 ·exact h
theorem SS.field (s:PS) (l:List EF):SS s (fV s l).2 :=
 (SS.partp (SS.of s 2) s.peek l fun _ h=>jn h).trans (SS.must _ _ _)
theorem SS.branch (s:PS) (l:List EF):SS s (dN s l).2 :=
 ((SS.partp (SS.of s 3) s.peek l fun _ h=>jn h).trans (SS.of _ _)).trans (SS.must _ _ _)
structure PGood (s:PS) (l:List EF) (ks:List (List EN)) (R:List EF × List (List EN) × PS):Prop where
 ss:SS s R.2.2
 eq:R.1.length=R.2.1.length
 tr:∀ k∈R.2.1,Tr k
 sz:bg R.2.1+4*R.2.2.l.length+3*R.1.length≤bg ks+4*s.l.length+3*l.length+4
 ln:R.1.length+R.2.2.l.length≤l.length+s.l.length+1
 wd:∀ b,(∀ k∈ks,eW b k)→s.l.length+1≤b+R.2.2.l.length→∀ k∈R.2.1,eW b k
theorem oc (ks:List (List EN)) (k:List EN):bg (ks++[k])=bg ks+k.length:=by simp [bg]
theorem oL (ex:PS→PR) (b:List UInt8) (part:PS→List EF→EF × PS):∀ (m:Nat) (s:PS) (l:List EF) (ks:List (List EN)),1≤(bn ex b part (m+1) s l ks).1.length
 | 0,s,l,ks=>by
   unfold bn;simp only
   split
   ·simp [bn]
   ·simp
 | m+1,s,l,ks=>by
   unfold bn;simp only
   split
   ·exact oL ex b part m _ _ _
   ·simp
section
variable {ex:PS→PR} (hex:∀ s,GP 1 s (ex s))
include hex
theorem eg (between:List UInt8) (part:PS→List EF→EF × PS) (hp:∀ s l,SS s (part s l).2):∀ (m:Nat) (s:PS) (l:List EF) (ks:List (List EN)),l.length=ks.length→(∀ k∈ks,Tr k) →
  PGood s l ks (bn ex between part m s l ks)
 | 0,s,l,ks,hl,ht=>⟨SS.refl s,hl,ht,by show bg ks+4*s.l.length+3*l.length≤_;omega,by show l.length+s.l.length≤_;omega,fun b h _=>h⟩
 | m+1,s,l,ks,hl,ht=>by
   have hf:=hp s l
   have he:=hex (part s l).2
   have h1:=he.sz
   have h2:=hf.len
   have h3:=he.ss.len
   have hks:∀ k∈ks++[(ex (part s l).2).1],Tr k:=fun k hk=>by
    rcases List.mem_append.1 hk with hk | hk
    ·exact ht k hk
    ·rw [List.mem_singleton.1 hk];exact he.tr
   unfold bn
   simp only
   split
   ·rename_i hs
    have h4:=aR hs
    have ih:=eg between part hp m (ex (part s l).2).2.next (l++[(part s l).1]) (ks++[(ex (part s l).2).1]) (by simp [hl]) hks
    have h5:=ih.ss.len
    have h6:=ih.sz
    have h7:=ih.ln
    rw [oc] at h6
    simp only [List.length_append,List.length_singleton] at h6 h7
    refine ⟨((hf.trans he.ss).trans (SS.next _)).trans ih.ss,ih.eq,ih.tr,by omega,by omega,fun b hb hle=>ih.wd b (fun k hk=>?_) (by omega)⟩
    rcases List.mem_append.1 hk with hk | hk
    ·exact hb k hk
    ·rw [List.mem_singleton.1 hk];exact he.wd.mono (by omega)
   ·refine ⟨hf.trans he.ss,by simp [hl],hks,?_,?_,fun b hb hle k hk=>?_⟩
    ·rw [oc];simp only [List.length_append,List.length_singleton];omega
    ·simp only [List.length_append,List.length_singleton];omega
    ·simp only at hle
     rcases List.mem_append.1 hk with hk | hk
     ·exact hb k hk
     ·rw [List.mem_singleton.1 hk];exact he.wd.mono (by omega)
theorem kH (s:PS) (pos:Int):GP 2 s (dO ex s pos):=by
 unfold dO
 split
 ·exact GP.leaf rfl rfl (SS.next s) (by rename_i h;have:=aR h;omega)
 ·have h:=eg hex [44] fV SS.field s.l.length.succ s [] [] rfl (fun _ h=>by cases h)
  generalize bn ex [44] fV s.l.length.succ s [] []=R at h
  have h1:=h.sz
  have h2:=h.ln
  have h3:=h.ss.len
  have h4:=(SS.must R.2.2 7 [125]).len
  simp only [bg,List.map_nil,List.sum_nil,List.length_nil] at h1 h2
  refine ⟨h.ss.trans (SS.must _ _ _),.join _ _ (by show 0+R.1.length=_;rw [h.eq];omega) h.tr,?_,ct (by show R.1.length≤_;simp only;omega) (h.wd _ (fun _ h=>by cases h) (by simp only;omega))⟩
  rw [cz]
  simp only [bg]
  have h5:R.1=[]∨1≤R.1.length:=by cases R.1<;>simp
  rcases h5 with h5 | h5
  ·have:R.2.1=[]:=List.length_eq_zero_iff.1 (by rw [← h.eq,h5];rfl)
   rw [this];simp only [List.map_nil,List.sum_nil];omega
  ·omega
theorem nz (s:PS) (pos:Int):GP 3 s (fY ex s pos):=by
 unfold fY
 have he:=hex s
 have hm:=SS.must (ex s).2 1 bOf
 simp only
 generalize (ex s).2.must 1 bOf=s1 at hm
 have h:=eg hex [124] dN SS.branch s1.l.length.succ s1 [] [] rfl (fun _ h=>by cases h)
 generalize hR:bn ex [124] dN s1.l.length.succ s1 [] []=R at h
 have h1:=h.sz
 have h2:=h.ln
 have h3:=h.ss.len
 have h4:=(SS.must R.2.2 1 x5).len
 have h5:=he.sz
 have h6:=he.ss.len
 have h7:=hm.len
 have h8:1≤R.1.length:=by
  rw [← hR]
  exact oL _ _ _ _ _ _ _
 simp only [bg,List.map_nil,List.sum_nil,List.length_nil] at h1 h2
 refine ⟨((he.ss.trans hm).trans h.ss).trans (SS.must _ _ _),.join _ _ (by show 1+R.1.length=_;rw [h.eq,List.length_cons];omega) (fun l hl=>?_),?_,ct (by show R.1.length≤_;simp only;omega) fun l hl=>?_⟩
 ·rcases List.mem_cons.1 hl with rfl | hl
  ·exact he.tr
  ·exact h.tr l hl
 ·rw [cz]
  simp only [bg,List.map_cons,List.sum_cons]
  omega
 ·rcases List.mem_cons.1 hl with rfl | hl
  ·exact he.wd.mono (by simp only;omega)
  ·exact h.wd _ (fun _ h=>by cases h) (by simp only;omega) l hl
def GQ (s:PS) (r:PR):Prop:=GP 1 s r∧(r.2.l.length<s.l.length→r.1.length+4*r.2.l.length+1≤4*s.l.length)
theorem jR (s:PS):GQ s (cS ex s):=by
 have lf:∀ n:EN,cn n=0→n.l=[]→s.next.l.length+1=s.l.length→GQ s (bP n,s.next):=fun n h1 h2 h3 =>
  ⟨GP.leaf h1 h2 (SS.next s) (by omega),fun _=>by show (aE n []).length+_+1≤_;rw [cz];simp only [bg,List.map_nil,List.sum_nil];omega⟩
 have no:GQ s (noE,s.wrong):=⟨GP.leaf rfl rfl (SS.wrong s) (by have:=(SS.wrong s).len;omega),fun h=>absurd h (by show ¬ s.wrong.l.length<_;unfold PS.wrong PS.fail;split<;>simp)⟩
 unfold cS
 simp only
 split
 ·exact no
 split
 ·rename_i h;exact lf _ rfl rfl (fg h (by decide))
 split
 ·rename_i h;exact lf _ rfl rfl (fg h (by decide))
 split
 ·rename_i h;exact lf _ rfl rfl (fg h (by decide))
 split
 ·rename_i h;exact lf _ rfl rfl (aR h)
 split
 ·rename_i h;exact lf _ rfl rfl (aR h)
 split
 ·rename_i h
  have h1:=aR h
  have he:=hex s.next
  have h2:=he.sz
  have h3:=(SS.must (ex s.next).2 7 [41]).len
  exact ⟨(GP.pre (e:=1) (r:=((ex s.next).1,(ex s.next).2)) he (SS.next s) (by omega)).post (SS.must _ _ _),fun _=>by simp only;omega⟩
 split
 ·rename_i h
  have h1:=aR h
  have he:=kH hex s.next s.peek.pos
  have h2:=he.sz
  exact ⟨he.pre (SS.next s) (by omega),fun _=>by omega⟩
 split
 ·rename_i h
  have h1:=aR h
  have he:=nz hex s.next s.peek.pos
  have h2:=he.sz
  exact ⟨he.pre (SS.next s) (by omega),fun _=>by omega⟩
 ·exact no
omit hex in
theorem ki (s0:PS):∀ (m:Nat) (a:List EN) (s:PS),GQ s0 (a,s)→GQ s0 (eL m a s)
 | 0,_,_,h=>h
 | m+1,a,s,h=>by
   unfold eL
   split
   ·rename_i hs
    refine ki s0 m _ _ ?_
    have h1:=aR hs
    have h2:=(SS.of s.next 2).len
    have h3:=h.1.sz
    have h4:=h.1.ss.len
    simp only at h3 h4
    have hj:(aE { nd0 12 s.peek.pos with name:=(s.next.of 2).1 } [a]).length=a.length+1:=by rw [cz];simp [bg]
    refine ⟨⟨(h.1.ss.trans (SS.next s)).trans (SS.of _ _),.join _ _ rfl (fun l hl=>by rw [List.mem_singleton.1 hl];exact h.1.tr),by rw [hj];simp only;omega,ct (Nat.zero_le _) fun l hl=>by rw [List.mem_singleton.1 hl];exact h.1.wd.mono (by simp only;omega)⟩,fun _=>by rw [hj];simp only;omega⟩
   ·exact h
theorem dV (s:PS):GQ s (cR ex s):=ki s _ _ _ (jR hex s)
omit hex in
theorem rb:∀ (m:Nat) (a:List EN) (s:PS),(eL m a s).2.l.length≤s.l.length
 | 0,_,_=>Nat.le_refl _
 | m+1,a,s=>by
   unfold eL
   split
   ·have:=rb m (aE { nd0 12 s.peek.pos with name:=(s.next.of 2).1 } [a]) (s.next.of 2).2
    have:=(SS.of s.next 2).len
    have:=(SS.next s).len
    omega
   ·exact Nat.le_refl _
theorem jW {s:PS} (he:s.err=0) (hb:s.begins=true):(cR ex s).2.l.length<s.l.length:=by
 have h1:=rb (cS ex s).2.l.length.succ (cS ex s).1 (cS ex s).2
 have key:(cS ex s).2.l.length<s.l.length:=by
  unfold PS.begins at hb
  simp only [Bool.or_eq_true,Bool.and_eq_true,decide_eq_true_eq] at hb
  unfold cS
  simp only [he,ne_eq,not_true_eq_false,if_false]
  have hk:∀ k:Int,s.peek.k=k→k≠0→s.next.l.length<s.l.length:=fun k h h0=>by have:=fg h h0;omega
  have hne:∀ k:Int,s.peek.k=k→k≠0→s.l.isEmpty=false:=fun k h h0=>by
   have:=fg h h0
   cases hl:s.l with
   | nil=>rw [hl] at this;simp at this
   | cons _ _=>rfl
  split
  ·rename_i h;exact hk 4 h (by decide)
  split
  ·rename_i h;exact hk 5 h (by decide)
  split
  ·rename_i h;exact hk 2 h (by decide)
  rename_i g4 g5 g2
  split
  ·rename_i h;have:=aR h;simp only;omega
  rename_i g1
  split
  ·rename_i h;have:=aR h;simp only;omega
  rename_i g3
  split
  ·rename_i h
   have:=aR h
   have:=(hex s.next).ss.len
   have:=(SS.must (ex s.next).2 7 [41]).len
   simp only;omega
  rename_i g6
  split
  ·rename_i h
   have:=aR h
   have:=(kH hex s.next s.peek.pos).ss.len
   omega
  rename_i g7
  split
  ·rename_i h
   have:=aR h
   have:=(nz hex s.next s.peek.pos).ss.len
   omega
  rename_i g8
  exfalso
  have see:∀ k t,k≠0→s.peek.k=k→s.peek.s=t→s.sees k t=true:=fun k t h0 h h'=>by
   simp [PS.sees,PS.is,he,h,h',hne k h h0]
  rcases hb with (((h | h) | h) | ⟨h,h'⟩) | ⟨h,h'⟩
  ·exact g4 h
  ·exact g5 h
  ·exact g2 h
  ·rcases h' with (h' | h') | h'
   ·exact g1 (see 1 _ (by decide) h h')
   ·exact g3 (see 1 _ (by decide) h h')
   ·exact g8 (see 1 _ (by decide) h h')
  ·rcases h' with h' | h'
   ·exact g6 (see 7 _ (by decide) h h')
   ·exact g7 (see 7 _ (by decide) h h')
 exact Nat.lt_of_le_of_lt h1 key
theorem gZ (s0:PS):∀ (m:Nat) (a:List EN) (s:PS),GP 1 s0 (a,s)→GP 1 s0 (gm ex m a s)
 | 0,_,_,h=>h
 | m+1,a,s,h=>by
   unfold gm
   split
   ·rename_i hs
    simp only [Bool.and_eq_true,decide_eq_true_eq] at hs
    have hp:=dV hex s
    have hl:=jW hex hs.1 hs.2
    have h2:=hp.2 hl
    have h3:=h.sz
    have h4:=h.ss.len
    simp only at h3 h4
    refine gZ s0 m _ _ ⟨h.ss.trans hp.1.ss,.join _ _ rfl (fun l hl=>?_),?_,ct (Nat.zero_le _) fun l hl=>?_⟩
    ·rcases List.mem_cons.1 hl with rfl | hl
     ·exact h.tr
     ·rw [List.mem_singleton.1 hl];exact hp.1.tr
    ·rw [cz]
     simp only [bg,List.map_cons,List.map_nil,List.sum_cons,List.sum_nil]
     omega
    ·rcases List.mem_cons.1 hl with rfl | hl
     ·exact h.wd.mono (by simp only;omega)
     ·rw [List.mem_singleton.1 hl];exact hp.1.wd.mono (by simp only;omega)
   ·exact h
theorem gM (s:PS):GP 1 s (kj ex s):=by
 unfold kj
 simp only
 split
 ·rename_i h
  have h1:=Cr h (by decide)
  exact GP.Dt (dV hex s.next).1 (SS.next s) rfl rfl (by omega)
 ·exact gZ hex s _ _ _ (dV hex s).1
omit hex in
theorem fy {s:PS}:∀ {ops:List (List UInt8 × Int)} {n:Int},opS s ops=some n→s.next.l.length+1=s.l.length
 | [],_,h=>by cases h
 | q::r,n,h=>by
   unfold opS at h
   split at h
   ·rename_i hs;exact aR hs
   ·exact fy h
omit hex in
theorem mC (ops:List (List UInt8 × Int)) (sub:PS→PR) (hsub:∀ s,GP 1 s (sub s)) (s0:PS):∀ (m:Nat) (a:List EN) (s:PS),GP 1 s0 (a,s)→GP 1 s0 (iP ops sub m a s)
 | 0,_,_,h=>h
 | m+1,a,s,h=>by
   unfold iP
   split
   ·rename_i n ho
    have h1:=fy ho
    exact mC ops sub hsub s0 m _ _ (GP.qF (s1:=s0) (a:=(a,s)) h (hsub s.next) (SS.refl s0) (SS.next s) rfl rfl (by simp only;omega))
   ·exact h
theorem eQ (s:PS):GP 1 s (iB ex s):=mC _ _ (gM hex) s _ _ _ (gM hex s)
theorem gP (s:PS):GP 1 s (rZ ex s):=mC _ _ (eQ hex) s _ _ _ (eQ hex s)
theorem q9 (s:PS):GP 1 s (qk ex s):=by
 unfold qk
 simp only
 split
 ·rename_i n ho
  have h1:=fy ho
  exact GP.qF (gP hex s) (gP hex _) (SS.refl s) (SS.next _) rfl rfl (by omega)
 ·exact gP hex s
omit hex in
theorem mU (s:PS) (e p:Int):(s.fail e p).l=s.l:=by unfold PS.fail;split<;>rfl
theorem rQ (s:PS) (pos:Int):GP 3 s (p7 ex s pos):=by
 unfold p7
 simp only
 obtain ⟨k,hk⟩:∃ k:Int,k=if s.sees 1 iJ=true then 8 else 7:=⟨_,rfl⟩
 rw [← hk]
 have h0:=(SS.may s 1 iJ).trans ((SS.of (s.may 1 iJ) 2).trans (SS.must ((s.may 1 iJ).of 2).2 7 [61]))
 generalize (((s.may 1 iJ).of 2).2.must 7 [61])=s2 at h0
 have ha:=hex s2
 obtain ⟨s3,hq⟩:∃ s3,s3=if k=8∧(gk (ex s2).1).k≠5 then (ex s2).2.fail 5 s2.peek.pos else (ex s2).2:=⟨_,rfl⟩
 rw [← hq]
 have hb:=hex (s3.must 1 bIn)
 have hss:SS s2 s3:=by
  by_cases c:k=8∧(gk (ex s2).1).k≠5
  ·rw [if_pos c] at hq;rw [hq];exact SS.withp ha.ss _ _ fun _ h=>jn h
  ·rw [if_neg c] at hq;rw [hq];exact ha.ss
 have hl:s3.l=(ex s2).2.l:=by
  by_cases c:k=8∧(gk (ex s2).1).k≠5
  ·rw [if_pos c] at hq;rw [hq];exact mU _ _ _
  ·rw [if_neg c] at hq;rw [hq]
 have ha':GP 1 s2 ((ex s2).1,s3):=⟨hss,ha.tr,by simp only [hl];exact ha.sz,by simp only [hl];exact ha.wd⟩
 have h3:=(SS.must s3 1 bIn).len
 have h4:=h0.len
 refine GP.qF (a:=((ex s2).1,s3)) ha' hb h0 (SS.must _ _ _) ?_ rfl (by simp only;omega)
 rw [hk]
 split<;>rfl
theorem vh (s:PS) (pos:Int):GP 4 s (ifS ex s pos):=by
 unfold ifS
 simp only
 exact GP.Gn (hex s) (hex _) (hex _) (SS.refl s) (SS.must _ _ _) (SS.must _ _ _) rfl rfl (by omega)
theorem vA (s:PS):GP 1 s (lU ex s):=by
 unfold lU
 simp only
 split
 ·rename_i h
  have h1:=aR h
  have h2:=(SS.of s.next 2).len
  have h3:=(SS.must (s.next.of 2).2 7 bTo).len
  exact GP.Dt (hex _) ((SS.next s).trans ((SS.of _ _).trans (SS.must _ _ _))) rfl rfl (by omega)
 split
 ·rename_i h
  have h1:=aR h
  exact (rQ hex s.next _).pre (SS.next s) (by omega)
 split
 ·rename_i h
  have h1:=aR h
  exact (vh hex s.next _).pre (SS.next s) (by omega)
 ·exact q9 hex s
end
theorem gX:∀ (m:Nat) (s:PS),GP 1 s (gh m s)
 | 0,s=>GP.leaf rfl rfl (SS.failp s 6) (by have:=(SS.failp s 6).len;omega)
 | m+1,s=>by
   unfold gh
   split
   ·exact GP.leaf rfl rfl (SS.refl s) (by omega)
   ·have h:=vA (gX m) { s with nest:=s.nest+1 }
    refine ⟨⟨h.ss.suf,h.ss.fin,rfl,fun N hN=>h.ss.pos N hN⟩,h.tr,h.sz,h.wd⟩
end Go.Proofs.YtejpnabbmgpmaaaGreatDoor

namespace Go.Proofs.YtejpnabbmgpmaaaGreatDoor
open Go.Ab
def ag (l:List Tok):D:=.sl (some 4) (l.map fT)
def TO (l:List Tok) (fin:Int):List (Name × Ob):=[([101],.box [.d (ag l),.d (i64 fin)])]
def bF (l:List Tok) (fin:Int):Tok:=match l with
 | []=>⟨0,[],0,fin⟩
 | t::_=>t
theorem tl {G} (l:List Tok) (fin:Int):HCall Tryz.prog G 35 [.bx [101] 0] (TO l fin) [101] (fun r hp'=>r=.d (.bool l.isEmpty)∧hp'=TO l fin):=by
 unfold TO ag
 refine an Tryz.func35 rfl (by decide +kernel) (by simp [Tryz.ntmps35]) (veil fun E=>?_)
 simp only [go_sem]
 refine jP E (e:=99) false (by rw [EU]) (by simp only [go_sem]) rfl ?_
 simp only [go_sem]
 refine ⟨_,_,[101],id,⟨rfl,rfl⟩,?_⟩
 simp only [go_sem]
 cases l with
 | nil=>rfl
 | cons t r=>simp only [List.length_cons,List.length_map,List.isEmpty_cons,decide_eq_false (show ¬ ((r.length+1:Nat):Int)=0 by omega),and_self]
theorem cV {G} (l:List Tok) (fin:Int) (hl:l.length≤1000000):HCall Tryz.prog G 69 [.bx [101] 0] (TO l fin) [101] (fun r hp'=>r=.d (.agg [i64 (bF l fin).k,.str (bF l fin).s,i64 (bF l fin).n,i64 (bF l fin).pos])∧hp'=TO l fin):=by
 unfold TO ag
 refine an Tryz.func69 rfl (by decide +kernel) (by simp [Tryz.ntmps69]) (veil fun E=>?_)
 simp only [go_sem]
 refine jP E (e:=99) false (by rw [EU]) (by simp only [go_sem]) rfl ?_
 simp only [go_sem]
 refine ah E (fun h=>?_) (fun h=>?_)<;>simp only [go_sem]
 ·cases l with
  | nil =>
    refine ⟨_,_,[101],id,⟨rfl,rfl⟩,?_⟩
    simp only [go_sem]
    rfl
  | cons t r=>simp at h;omega
 ·cases l with
  | nil=>exact absurd (by simp) h
  | cons t r =>
    refine ⟨by simp,?_⟩
    rw [show (List.map fT (t::r)).getD 0 .nilp=.agg [i64 t.k,.str t.s,i64 t.n,i64 t.pos] from rfl]
    simp only [go_sem]
    refine ⟨_,_,[101],id,⟨rfl,rfl⟩,?_⟩
    simp only [go_sem]
    rfl
theorem gY {G} (l:List Tok) (fin:Int) (hl:l.length≤1000000):HCall Tryz.prog G 114 [.bx [101] 0] (TO l fin) [101] (fun r hp'=>r=.d (.agg [i64 (bF l fin).k,.str (bF l fin).s,i64 (bF l fin).n,i64 (bF l fin).pos])∧hp'=TO l.tail fin):=by
 unfold TO ag
 refine an Tryz.func114 rfl (by decide +kernel) (by simp [Tryz.ntmps114]) (veil fun E=>?_)
 simp only [go_sem]
 refine ab E [.bx [101] 0] (TO l fin) [101] (cV l fin hl) rfl rfl ⟨by simp only [go_sem],by rw [aa];decide⟩ rfl (by unfold TO ag;simp only [go_sem]) (by unfold TO;simp only [go_sem]) ?_
 rintro _ _ ⟨rfl,rfl⟩
 unfold TO ag
 simp only [go_sem]
 refine ab E [.bx [101] 0] (TO l fin) [101] (tl l fin) rfl rfl ⟨by simp only [go_sem],by rw [aa];decide⟩ rfl (by unfold TO ag;simp only [go_sem]) (by unfold TO;simp only [go_sem]) ?_
 rintro _ _ ⟨rfl,rfl⟩
 unfold TO ag
 simp only [go_sem]
 refine aI E (fun h=>?_) (fun h=>?_)<;>simp only [go_sem]
 ·cases l with
  | nil=>exact absurd h (by simp)
  | cons t r =>
    refine ⟨by simp only [List.length_cons];omega,_,_,[101],id,⟨rfl,rfl⟩,?_⟩
    simp only [go_sem]
    rfl
 ·cases l with
  | nil =>
    refine ⟨_,_,[101],id,⟨rfl,rfl⟩,?_⟩
    simp only [go_sem]
    rfl
  | cons t r=>exact absurd h (by simp)
def isT (l:List Tok) (fin k:Int) (t:List UInt8):Bool:=!l.isEmpty && decide ((bF l fin).k=k) && decide ((bF l fin).s=t)
theorem CM {G} (l:List Tok) (fin k:Int) (t:List UInt8) (hl:l.length≤1000000) (hk:k≠0∧k≠4):HCall Tryz.prog G 159 [.bx [101] 0,.d (i64 k),.d (.str t)] (TO l fin) [101] (fun r hp'=>r=.d (.bool (isT l fin k t))∧hp'=TO l fin):=by
 unfold isT
 unfold TO ag
 refine an Tryz.func159 rfl (by decide +kernel) (by simp [Tryz.ntmps159]) (veil fun E=>?_)
 simp only [go_sem]
 refine ab E [.bx [101] 0] (TO l fin) [101] (cV l fin hl) rfl rfl ⟨by simp only [go_sem],by rw [aa];decide⟩ rfl (by unfold TO ag;simp only [go_sem]) (by unfold TO;simp only [go_sem]) ?_
 rintro _ _ ⟨rfl,rfl⟩
 unfold TO ag
 simp only [go_sem]
 refine ab E [.bx [101] 0] (TO l fin) [101] (tl l fin) rfl rfl ⟨by simp only [go_sem],by rw [aa];decide⟩ rfl (by unfold TO ag;simp only [go_sem]) (by unfold TO;simp only [go_sem]) ?_
 rintro _ _ ⟨rfl,rfl⟩
 unfold TO ag
 simp only [go_sem]
 refine bl E (fun h1=>?_) (fun h1=>?_)<;>simp only [go_sem]
 ·refine ao E (fun h2=>?_) (fun h2=>?_)<;>simp only [go_sem]
  ·refine ao E (fun h3=>?_) (fun h3=>absurd hk.1 h3)
   simp only [go_sem]
   refine bl E (fun h4=>?_) (fun h4=>?_)<;>simp only [go_sem]
   ·refine ⟨_,_,[101],id,⟨rfl,rfl⟩,?_⟩
    simp only [go_sem]
    rw [h1,decide_eq_true h2,decide_eq_true (show (bF l fin).s=t by simpa using h4)]
    rfl
   ·refine ⟨_,_,[101],id,⟨rfl,rfl⟩,?_⟩
    simp only [go_sem]
    rw [h1,decide_eq_true h2,decide_eq_false (show ¬ (bF l fin).s=t by simpa using h4),decide_eq_false hk.2]
    rfl
  ·refine ⟨_,_,[101],id,⟨rfl,rfl⟩,?_⟩
   simp only [go_sem]
   rw [decide_eq_false h2,Bool.and_false,Bool.false_and]
 ·refine ⟨_,_,[101],id,⟨rfl,rfl⟩,?_⟩
  simp only [go_sem]
  rw [h1,Bool.false_and,Bool.false_and]
theorem Dh {G} (l:List Tok) (fin k:Int) (t:List UInt8) (hl:l.length≤1000000) (hk:k≠0∧k≠4):HCall Tryz.prog G 143 [.bx [101] 0,.d (i64 k),.d (.str t)] (TO l fin) [101] (fun r hp'=>r=.d (.bool (isT l fin k t))∧hp'=TO (if isT l fin k t then l.tail else l) fin):=by
 obtain ⟨b,hb⟩:∃ b,b=isT l fin k t:=⟨_,rfl⟩
 have h0:=CM (G:=G) l fin k t hl hk
 have h1:=gY (G:=G) l fin hl
 rw [← hb] at h0 ⊢
 generalize hX:(if b then l.tail else l)=X
 unfold TO ag at *
 refine an Tryz.func143 rfl (by decide +kernel) (by simp [Tryz.ntmps143]) (veil fun E=>?_)
 simp only [go_sem]
 refine ab E [.bx [101] 0,.d (i64 k),.d (.str t)] (TO l fin) [101] (h0) rfl rfl ⟨by simp only [go_sem],by rw [aa];decide⟩ rfl (by unfold TO ag;simp only [go_sem]) (by unfold TO;simp only [go_sem]) ?_
 rintro _ _ ⟨rfl,rfl⟩
 unfold TO ag
 simp only [go_sem]
 refine aI E (fun h=>?_) (fun h=>?_)<;>simp only [go_sem]
 ·refine ab E [.bx [101] 0] (TO l fin) [101] (h1) rfl rfl ⟨by simp only [go_sem],by rw [aa];decide⟩ rfl (by unfold TO ag;simp only [go_sem]) (by unfold TO;simp only [go_sem]) ?_
  rintro _ _ ⟨rfl,rfl⟩
  unfold TO ag
  simp only [go_sem]
  refine ⟨_,_,[101],id,⟨rfl,rfl⟩,?_⟩
  simp only [go_sem]
  rw [← hX,h]
  rfl
 ·refine ⟨_,_,[101],id,⟨rfl,rfl⟩,?_⟩
  simp only [go_sem]
  rw [← hX,h]
  rfl
def RO (s:PS):List (Name × Ob):=([100],.box [.bx [101] 0,.d (i64 s.err),.d (i64 s.pos),.d (i64 s.nest)])::TO s.l s.fin
theorem ef {G} (s:PS):HCall Tryz.prog G 71 [.bx [100] 0] (RO s) [100,101] (fun r hp'=>r=.d (.bool (decide (s.err=0)))∧hp'=RO s):=by
 unfold RO TO ag
 refine an Tryz.func71 rfl (by decide +kernel) (by simp [Tryz.ntmps71]) (veil fun E=>?_)
 simp only [go_sem]
 refine ⟨_,_,[100,101],id,⟨rfl,rfl⟩,?_⟩
 simp only [go_sem]
theorem lS {G} (s:PS) (e p:Int):HCall Tryz.prog G 70 [.bx [100] 0,.d (i64 e),.d (i64 p)] (RO s) [100,101] (fun r hp'=>r=.tup []∧hp'=RO (s.fail e p)):=by
 generalize hX:s.fail e p=X
 unfold PS.fail at hX
 unfold RO TO ag
 refine an Tryz.func70 rfl (by decide +kernel) (by simp [Tryz.ntmps70]) (veil fun E=>?_)
 simp only [go_sem]
 refine ab E [.bx [100] 0] (RO s) [100,101] (ef s) rfl rfl ⟨by simp only [go_sem],by rw [aa];decide⟩ rfl (by unfold RO TO ag;simp only [go_sem]) (by unfold RO TO;simp only [go_sem]) ?_
 rintro _ _ ⟨rfl,rfl⟩
 unfold RO TO ag
 simp only [go_sem]
 refine ah E (fun h=>?_) (fun h=>?_)<;>simp only [go_sem]
 ·refine ⟨_,_,[100,101],id,⟨rfl,rfl⟩,?_⟩
  rw [← hX,if_pos h]
  simp only [go_sem]
 ·refine ⟨_,_,[100,101],id,⟨rfl,rfl⟩,?_⟩
  rw [← hX,if_neg h]
  simp only [go_sem]
theorem ig (s:PS):s.peek=bF s.l s.fin:=rfl
theorem mZ {G} (s:PS) (hl:s.l.length≤1000000):HCall Tryz.prog G 36 [.bx [100] 0] (RO s) [100,101] (fun r hp'=>r=.tup []∧hp'=RO s.wrong):=by
 generalize hX:s.wrong=X
 unfold PS.wrong at hX
 rw [ig] at hX
 unfold RO TO ag
 refine an Tryz.func36 rfl (by decide +kernel) (by simp [Tryz.ntmps36]) (veil fun E=>?_)
 simp only [go_sem]
 refine ab E [.bx [101] 0] (TO s.l s.fin) [101] (cV s.l s.fin hl) rfl rfl ⟨by simp only [go_sem],by rw [aa];decide⟩ rfl (by unfold TO ag;simp only [go_sem]) (by unfold TO;simp only [go_sem]) ?_
 rintro _ _ ⟨rfl,rfl⟩
 unfold TO ag
 simp only [go_sem]
 refine ab E [.bx [100] 0,.d (i64 5),.d (i64 (bF s.l s.fin).pos)] (RO s) [100,101] (lS s 5 (bF s.l s.fin).pos) rfl rfl ⟨by simp only [go_sem],by rw [aa];decide⟩ rfl (by unfold RO TO ag;simp only [go_sem]) (by unfold RO TO;simp only [go_sem]) ?_
 rintro _ _ ⟨rfl,rfl⟩
 unfold RO TO ag
 simp only [go_sem]
 refine ⟨_,_,[100,101],id,⟨rfl,rfl⟩,?_⟩
 rw [← hX]
 simp only [go_sem]
end Go.Proofs.YtejpnabbmgpmaaaGreatDoor

namespace Go.Proofs.YtejpnabbmgpmaaaGreatDoor
open Go.Ab
theorem pU {G} (s:PS) (k:Int) (t:List UInt8) (hl:s.l.length≤1000000) (hk:k≠0∧k≠4):HCall Tryz.prog G 113 [.bx [100] 0,.d (i64 k),.d (.str t)] (RO s) [100,101] (fun r hp'=>r=.d (.bool (s.sees k t))∧hp'=RO (s.may k t)):=by
 have h0:=Dh (G:=G) s.l s.fin k t hl hk
 generalize hb:isT s.l s.fin k t=b at h0
 obtain ⟨c,hc⟩:∃ c,c=s.sees k t:=⟨_,rfl⟩
 generalize hX:s.may k t=X
 rw [← hc]
 have hc':c=(decide (s.err=0) && b):=by rw [hc,← hb];rfl
 have hX':X=if c then s.next else s:=by rw [hc,← hX];rfl
 unfold PS.next at hX'
 generalize hY:(if b then s.l.tail else s.l)=Y at h0
 unfold RO TO ag
 refine an Tryz.func113 rfl (by decide +kernel) (by simp [Tryz.ntmps113]) (veil fun E=>?_)
 simp only [go_sem]
 refine ab E [.bx [100] 0] (RO s) [100,101] (ef s) rfl rfl ⟨by simp only [go_sem],by first | (rw [aa];decide) | (simp only [go_sem]<;>(try rw [aa])<;>decide)⟩ rfl (by unfold RO TO ag;simp only [go_sem]) (by unfold RO TO;simp only [go_sem]) ?_
 rintro _ _ ⟨rfl,rfl⟩
 unfold RO TO ag
 simp only [go_sem]
 refine ao E (fun h=>?_) (fun h=>?_)<;>simp only [go_sem]
 ·refine ab E [.bx [101] 0,.d (i64 k),.d (.str t)] (TO s.l s.fin) [101] (h0) rfl rfl ⟨by simp only [go_sem],by first | (rw [aa];decide) | (simp only [go_sem]<;>(try rw [aa])<;>decide)⟩ rfl (by unfold TO ag;simp only [go_sem]) (by unfold TO;simp only [go_sem]) ?_
  rintro _ _ ⟨rfl,rfl⟩
  unfold TO ag
  simp only [go_sem]
  refine ⟨_,_,[100,101],id,⟨rfl,rfl⟩,?_⟩
  simp only [go_sem]
  rw [decide_eq_true h,Bool.true_and] at hc'
  rw [hc'] at hX'
  rw [hc']
  subst hX' hY
  cases b<;>exact ⟨rfl,rfl,rfl⟩
 ·refine ⟨_,_,[100,101],id,⟨rfl,rfl⟩,?_⟩
  simp only [go_sem]
  rw [decide_eq_false h,Bool.false_and] at hc'
  rw [hc'] at hX'
  subst hX'
  rw [hc']
  exact ⟨rfl,rfl,rfl⟩
theorem iO {G} (s:PS) (t:List UInt8) (hl:s.l.length≤1000000):HCall Tryz.prog G 74 [.bx [100] 0,.d (.str t)] (RO s) [100,101] (fun r hp'=>r=.d (.bool (s.sees 1 t))∧hp'=RO (s.may 1 t)):=by
 have h0:=pU (G:=G) s 1 t hl (by decide)
 generalize s.sees 1 t=c at h0 ⊢
 generalize s.may 1 t=X at h0 ⊢
 unfold RO TO ag
 refine an Tryz.func74 rfl (by decide +kernel) (by simp [Tryz.ntmps74]) (veil fun E=>?_)
 simp only [go_sem]
 refine ab E [.bx [100] 0,.d (i64 1),.d (.str t)] (RO s) [100,101] (h0) rfl rfl ⟨by simp only [go_sem],by first | (rw [aa];decide) | (simp only [go_sem]<;>(try rw [aa])<;>decide)⟩ rfl (by unfold RO TO ag;simp only [go_sem]) (by unfold RO TO;simp only [go_sem]) ?_
 rintro _ _ ⟨rfl,rfl⟩
 unfold RO TO ag
 simp only [go_sem]
 refine ⟨_,_,[100,101],id,⟨rfl,rfl⟩,?_⟩
 simp only [go_sem]
theorem gW {G} (s:PS) (t:List UInt8) (hl:s.l.length≤1000000):HCall Tryz.prog G 146 [.bx [100] 0,.d (.str t)] (RO s) [100,101] (fun r hp'=>r=.d (.bool (s.sees 7 t))∧hp'=RO (s.may 7 t)):=by
 have h0:=pU (G:=G) s 7 t hl (by decide)
 generalize s.sees 7 t=c at h0 ⊢
 generalize s.may 7 t=X at h0 ⊢
 unfold RO TO ag
 refine an Tryz.func146 rfl (by decide +kernel) (by simp [Tryz.ntmps146]) (veil fun E=>?_)
 simp only [go_sem]
 refine ab E [.bx [100] 0,.d (i64 7),.d (.str t)] (RO s) [100,101] (h0) rfl rfl ⟨by simp only [go_sem],by first | (rw [aa];decide) | (simp only [go_sem]<;>(try rw [aa])<;>decide)⟩ rfl (by unfold RO TO ag;simp only [go_sem]) (by unfold RO TO;simp only [go_sem]) ?_
 rintro _ _ ⟨rfl,rfl⟩
 unfold RO TO ag
 simp only [go_sem]
 refine ⟨_,_,[100,101],id,⟨rfl,rfl⟩,?_⟩
 simp only [go_sem]
theorem ec {G} (s:PS) (k:Int) (t:List UInt8) (hl:s.l.length≤1000000) (hk:k≠0∧k≠4):HCall Tryz.prog G 76 [.bx [100] 0,.d (i64 k),.d (.str t)] (RO s) [100,101] (fun r hp'=>r=.tup []∧hp'=RO (s.must k t)):=by
 have h0:=pU (G:=G) s k t hl hk
 have h1:=mZ (G:=G) s hl
 generalize hX:s.must k t=X
 generalize hY:s.may k t=Y at h0
 generalize hZ:s.wrong=Z at h1
 generalize hb:s.sees k t=b at h0
 have hX':X=if b then Y else Z:=by rw [← hX,← hY,← hZ,← hb];unfold PS.must PS.may;cases s.sees k t<;>rfl
 have hYs:b=false→Y=s:=by rw [← hY,← hb];unfold PS.may;intro h;rw [h];rfl
 unfold RO TO ag
 refine an Tryz.func76 rfl (by decide +kernel) (by simp [Tryz.ntmps76]) (veil fun E=>?_)
 simp only [go_sem]
 refine ab E [.bx [100] 0,.d (i64 k),.d (.str t)] (RO s) [100,101] (h0) rfl rfl ⟨by simp only [go_sem],by first | (rw [aa];decide) | (simp only [go_sem]<;>(try rw [aa])<;>decide)⟩ rfl (by unfold RO TO ag;simp only [go_sem]) (by unfold RO TO;simp only [go_sem]) ?_
 rintro _ _ ⟨rfl,rfl⟩
 unfold RO TO ag
 simp only [go_sem]
 refine aI E (fun h=>?_) (fun h=>?_)<;>simp only [go_sem]
 ·have h':b=false:=by simpa using h
  rw [hYs h']
  refine ab E [.bx [100] 0] (RO s) [100,101] (h1) rfl rfl ⟨by simp only [go_sem],by first | (rw [aa];decide) | (simp only [go_sem]<;>(try rw [aa])<;>decide)⟩ rfl (by unfold RO TO ag;simp only [go_sem]) (by unfold RO TO;simp only [go_sem]) ?_
  rintro _ _ ⟨rfl,rfl⟩
  unfold RO TO ag
  simp only [go_sem]
  refine ⟨_,_,[100,101],id,⟨rfl,rfl⟩,?_⟩
  simp only [go_sem]
  rw [hX',h']
  exact ⟨rfl,rfl⟩
 ·have h':b=true:=by simpa using h
  refine ⟨_,_,[100,101],id,⟨rfl,rfl⟩,?_⟩
  simp only [go_sem]
  rw [hX',h']
  exact ⟨rfl,rfl⟩
theorem kq {G} (s:PS) (k:Int) (hl:s.l.length≤1000000):HCall Tryz.prog G 75 [.bx [100] 0,.d (i64 k)] (RO s) [100,101] (fun r hp'=>r=.d (.str (s.of k).1)∧hp'=RO (s.of k).2):=by
 have h0:=mZ (G:=G) s hl
 have h1:=gY (G:=G) s.l s.fin hl
 generalize hX:s.of k=X
 unfold PS.of PS.has at hX
 rw [ig] at hX
 unfold RO TO ag
 refine an Tryz.func75 rfl (by decide +kernel) (by simp [Tryz.ntmps75]) (veil fun E=>?_)
 simp only [go_sem]
 refine ab E [.bx [100] 0] (RO s) [100,101] (ef s) rfl rfl ⟨by simp only [go_sem],by first | (rw [aa];decide) | (simp only [go_sem]<;>(try rw [aa])<;>decide)⟩ rfl (by unfold RO TO ag;simp only [go_sem]) (by unfold RO TO;simp only [go_sem]) ?_
 rintro _ _ ⟨rfl,rfl⟩
 unfold RO TO ag
 simp only [go_sem]
 refine bl E (fun h=>?_) (fun h=>?_)<;>simp only [go_sem]
 ·have h':¬ s.err=0:=by simpa using h
  refine ab E [.bx [100] 0] (RO s) [100,101] (h0) rfl rfl ⟨by simp only [go_sem],by first | (rw [aa];decide) | (simp only [go_sem]<;>(try rw [aa])<;>decide)⟩ rfl (by unfold RO TO ag;simp only [go_sem]) (by unfold RO TO;simp only [go_sem]) ?_
  rintro _ _ ⟨rfl,rfl⟩
  unfold RO TO ag
  simp only [go_sem]
  refine ⟨_,_,[100,101],id,⟨rfl,rfl⟩,?_⟩
  simp only [go_sem]
  rw [← hX,decide_eq_false h']
  exact ⟨rfl,rfl,rfl⟩
 ·have h':s.err=0:=by simpa using h
  refine ab E [.bx [101] 0] (TO s.l s.fin) [101] (cV s.l s.fin hl) rfl rfl ⟨by simp only [go_sem],by first | (rw [aa];decide) | (simp only [go_sem]<;>(try rw [aa])<;>decide)⟩ rfl (by unfold TO ag;simp only [go_sem]) (by unfold TO;simp only [go_sem]) ?_
  rintro _ _ ⟨rfl,rfl⟩
  unfold TO ag
  simp only [go_sem]
  refine ah E (fun h2=>?_) (fun h2=>?_)<;>simp only [go_sem]
  ·refine ab E [.bx [100] 0] (RO s) [100,101] (h0) rfl rfl ⟨by simp only [go_sem],by first | (rw [aa];decide) | (simp only [go_sem]<;>(try rw [aa])<;>decide)⟩ rfl (by unfold RO TO ag;simp only [go_sem]) (by unfold RO TO;simp only [go_sem]) ?_
   rintro _ _ ⟨rfl,rfl⟩
   unfold RO TO ag
   simp only [go_sem]
   refine ⟨_,_,[100,101],id,⟨rfl,rfl⟩,?_⟩
   simp only [go_sem]
   rw [← hX,decide_eq_true h',decide_eq_false h2]
   exact ⟨rfl,rfl,rfl⟩
  ·have h2':(bF s.l s.fin).k=k:=by simpa using h2
   refine ab E [.bx [101] 0] (TO s.l s.fin) [101] (h1) rfl rfl ⟨by simp only [go_sem],by first | (rw [aa];decide) | (simp only [go_sem]<;>(try rw [aa])<;>decide)⟩ rfl (by unfold TO ag;simp only [go_sem]) (by unfold TO;simp only [go_sem]) ?_
   rintro _ _ ⟨rfl,rfl⟩
   unfold TO ag
   simp only [go_sem]
   refine ⟨_,_,[100,101],id,⟨rfl,rfl⟩,?_⟩
   simp only [go_sem]
   rw [← hX,decide_eq_true h',decide_eq_true h2']
   exact ⟨rfl,rfl,rfl⟩
inductive DLe:D→D→Prop
 | refl (x):DLe x x
 | nil (w):DLe .nils (.sl w [])
 | agg (cs ds:List D) (hl:cs.length=ds.length) (hc:∀ d∈ds,d.scal=true) (h:∀ (i:Nat) x y,cs[i]?=some x→ds[i]?=some y→x=y∨∃ w,x=.nils∧y=.sl w []):DLe (.agg cs) (.agg ds)
theorem DLe.rep {x y:D} (h:DLe x y) {H own v} (hr:Rep H own v x):Rep H own v y:=by
 cases h with
 | refl=>exact hr
 | nil w=>cases hr;exact .sl0 _ _ _
 | agg cs ds hl hc h =>
   cases hr with
   | agg vs _ hs _ h' =>
     refine .agg vs ds (hs.trans hl) hc fun i d hd=>?_
     have hlt:=(List.getElem?_eq_some_iff.1 hd).1
     have hx:cs[i]?=some (cs[i]'(by omega)):=List.getElem?_eq_getElem _
     have hr:=h' i _ hx
     rcases h i _ _ hx hd with e | ⟨w,e1,e2⟩
     ·rw [← e];exact hr
     ·rw [e1] at hr
      rw [e2]
      generalize vs.getD i undef=v at hr ⊢
      cases hr
      exact .sl0 _ _ _
theorem HP.le {P:Program} {G:List (Nat × Obj)} {f:FuncId} {args args':List D} {Q:AV→Prop} (hl:args.length=args'.length)
  (hr:∀ (i:Nat) x y,args[i]?=some x→args'[i]?=some y→DLe x y) (h:HP P G f args' Q):HP P G f args Q:=by
 refine ⟨h.1,fun B β vs w h1 h2 h3 h4 h5=>h.2 B β vs w (h1.trans (by simpa using hl)) h2 h3 h4 { tms:=h5.tms,io:=h5.io,size:=h5.size,frame:=h5.frame,slots:=fun t=>?_,objs:=h5.objs,blocks:=h5.blocks,inj:=h5.inj,us:=h5.us,stay:=h5.stay }⟩
 have hv:=h5.slots t
 rw [dH,aS,if_pos (Nat.zero_le _),Nat.sub_zero] at hv ⊢
 show VR w.heap ((mk (az 0 (args.map .d)) [] []).own B.A β) [] _ β _ _
 rw [List.getElem?_map] at hv ⊢
 cases hx:args[t]? with
 | none => 
   rw [List.getElem?_eq_none (by rw [← hl];exact List.getElem?_eq_none_iff.1 hx)]
   exact .un _
 | some x =>
   have hlt:=(List.getElem?_eq_some_iff.1 hx).1
   have hy:args'[t]?=some args'[t]:=List.getElem?_eq_getElem (by omega)
   rw [hx] at hv
   rw [hy]
   simp only [Option.map_some] at hv ⊢
   generalize vs.getD t undef=v at hv ⊢
   cases hv with
   | d _ _ hv=>exact .d _ _ ((hr t _ _ hx hy).rep hv)
def ndN (n:EN):D:=.agg [i64 n.k,i64 n.a,i64 n.b,i64 n.c,i64 n.n,.str n.name,.str n.s,.nils,i64 n.pos]
theorem zX {n:EN} (h:n.l=[]):DLe (ndN n) (enD n):=by
 unfold ndN enD efD
 rw [h]
 refine .agg _ _ rfl (by simp [D.scal]) fun i x y hx hy=>?_
 by_cases hi:i=7
 ·subst hi
  cases hx;cases hy
  exact .inr ⟨_,rfl,rfl⟩
 ·left
  have:i<9:=by have:=(List.getElem?_eq_some_iff.1 hx).1;simpa using this
  rcases i with _ | _ | _ | _ | _ | _ | _ | _ | _ | i<;>first | omega | (cases hx;cases hy;rfl)
theorem iy {G} (n:EN) (ls:List (List EN)) (hn:n.l=[]) (hL:ls.length≤1000000) (hS:bg ls≤1000000) (hk:∀ l∈ls,∀ m∈l,fU l.length m) (hw:∀ l∈ls,eW 900000 l) :
  HP Tryz.prog G 77 [ndN n,.sl (some 1) (ls.map exD)] (fun r=>r=.d (exD (aE n ls))) :=
 HP.le (args':=[enD n,.sl (some 1) (ls.map exD)]) rfl (h:=qe n ls (by rw [hn];exact Nat.zero_le _) hL hS hk hw) fun i x y hx hy=>by
  rcases i with _ | _ | i
  ·cases hx;cases hy;exact zX hn
  ·cases hx;cases hy;exact .refl _
  ·cases hx
theorem FF {G} (n:EN) (hn:n.l=[]):HP Tryz.prog G 77 [ndN n,.nils] (fun r=>r=.d (exD (bP n))) :=
 HP.le (args':=[enD n,.sl (some 1) ([].map exD)]) rfl (h:=qe n [] (by rw [hn];exact Nat.zero_le _) (Nat.zero_le _) (Nat.zero_le _) (fun l h=>by cases h) (fun l h=>by cases h)) fun i x y hx hy=>by
  rcases i with _ | _ | i
  ·cases hx;cases hy;exact zX hn
  ·cases hx;cases hy;exact .nil _
  ·cases hx
theorem eJ {G} (n:EN) (hn:n.l=[]):HP Tryz.prog G 72 [ndN n] (fun r=>r=.d (exD (bP n))):=by
 have h0:=FF (G:=G) n hn
 generalize bP n=X at h0 ⊢
 unfold ndN at *
 refine bz Tryz.func72 rfl (by decide +kernel) (by simp [Tryz.ntmps72]) (veil fun E=>?_)
 simp only [go_sem]
 refine ae E h0 rfl rfl (by simp) ?_
 rintro _ rfl
 unfold exD
 simp only [go_sem]
 refine ⟨[],?_⟩
 simp only [go_sem]
 rfl
end Go.Proofs.YtejpnabbmgpmaaaGreatDoor

