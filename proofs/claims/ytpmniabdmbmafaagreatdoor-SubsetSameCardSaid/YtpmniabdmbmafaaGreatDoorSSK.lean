/-
  Texts joined: a builder that grows, strings.Join; a cluster's key. (with the parts that follow it)
-/
import Derived.Test.YtpmniabdmbmafaaGreatDoorSSJ
import Derived.Test.YtpmniabdmbmafaaGreatDoorSSI
import Derived.Test.YtpmniabdmbmafaaGreatDoorSSE
import Derived.Shelf.SlIter.Nil
import Derived.Shelf.SlIter.Sorted
import Derived.Shelf.SortM.Plain
import Derived.Shelf.SortM.SortNone
import Derived.Ground.GgzProg
import Derived.Ground.SlgmProg
import Derived.Sort.KeysCollected
set_option linter.all false
set_option maxHeartbeats 16000000
namespace Go.Proofs.YtpmniabdmbmafaaGreatDoor
open Go.Ab Tryz
def kJ:List UInt8:=[32]
def D8(sep:List UInt8):List (List UInt8)->List UInt8
 |[]=>[]
 |a::r=>a++r.flatMap (sep++·)
def Bg:List (Name×Ob):=[([0],.bz (some 167) [.bx [0] 0,.d .ai])]
def Bh(n:Nat):List (Name×Ob):=[([0],.bz (some 167) [.bx [0] 0,.vw [2] 0 0]),([2],.bu (some 5) none (List.replicate n .unk))]
def s6(n:Nat):List (Name×Ob):=[([0],.bz (some 167) [.bx [0] 0,.vw [1] 0 0]),([1],.bu (some 5) none (List.replicate n .unk))]
theorem acT{G}:bA prog G 145 [.bx [0] 0] qz [0] (fun r ae=>r=.aA []∧ae=Bg):=by
 unfold qz Bg;refine eV func145 rfl (by decide +kernel) (by simp[ntmps145]) (aT fun E=>?_);simp only[go_sem];refine DC E (e:=167) true (by rw[qk]) (by simp only[go_sem]) rfl ?_;simp only[go_sem];refine Oe E (e:=167) [0] 0 167 [.d .aY,.d .ai] (by rw[qk]) D4 (by kernel_rfl) (by simp only[go_sem]) rfl rfl (by decide) ?_;simp only[go_sem];refine Oh E 168 (.bx [0] 0) Pr (by simp only[go_sem]) rfl rfl ?_;simp only[go_sem];simp only[Ps];simp only[go_sem];refine Og E (e:=167) [0] 0 167 [.d .aY,.d .ai] (by rw[qk]) D4 (by kernel_rfl) (by simp only[go_sem]) rfl rfl 2 rfl (by kernel_rfl) ?_;simp only[go_sem];refine⟨_,_,[0],id,⟨rfl,rfl⟩,?_⟩;simp only[go_sem]
theorem acU{G}(n:Nat):bA prog G 145 [.bx [0] 0] (s6 n) [0,1] (fun r ae=>r=.aA []∧ae=s6 n):=by
 unfold s6;generalize List.replicate n D.unk=xs;refine eV func145 rfl (by decide +kernel) (by simp[ntmps145]) (aT fun E=>?_);simp only[go_sem];refine DC E (e:=167) false (by rw[qk]) (by simp only[go_sem]) rfl ?_;simp only[go_sem];refine Oc E (e:=167) [0] 0 (by rw[qk]) (by kernel_rfl) (by simp only[go_sem]) rfl rfl rfl ?_;simp only[go_sem];refine⟨_,_,[0,1],id,⟨rfl,rfl⟩,?_⟩;simp only[go_sem]
theorem acV{G}(n:Nat)(s:List UInt8)(hl:s.length<=100000000):bA prog G 103 [.bx [0] 0,.d (.str s)] (s6 n) [0,1] (fun r ae=>r=.aA [.d (i64 (s.length:Nat)),.d .lK]∧ae=wL s):=by
 have h0:=acU (G:=G) n;unfold s6 at *
 unfold wL;generalize List.replicate n D.unk=xs at *
 refine eV func103 rfl (by decide +kernel) (by simp[ntmps103]) (aT fun E=>?_);simp only[go_sem];refine je E [.bx [0] 0] [([0],.bz (some 167) [.bx [0] 0,.vw [1] 0 0]),([1],.bu (some 5) none xs)] [0,1] h0 rfl rfl ⟨by simp only[go_sem],by rw[ay];decide⟩ rfl (by simp only[go_sem]) (by simp only[go_sem]) ?_;rintro _ _ ⟨rfl,rfl⟩;simp only[go_sem];refine⟨ain _,?_⟩;refine acn E (d:=14) (e:=5) (some 5) [1] xs 0 s (by rw[vY]) (by rw[CX]) (by rw[qj];rfl) (by rw[qj];rfl) (by rw[qj];rfl) rfl ⟨by simp only[go_sem],by rw[ay];decide⟩ rfl rfl rfl (by rw[qj];simp[TI.lN];omega) ?_;rw[List.take_zero,List.nil_append,aiD];simp only[go_sem];refine⟨_,_,[0,1,2],ar [([2],[14])],⟨rfl,rfl⟩,?_⟩;simp only[go_sem]
theorem acW(n:Nat)(hn:n<=281474976710656)(w:World):∃cs:Array Value,(callFunc 169 #[.int .i64 n]).run prog w=.ok (.value (.slice (some ⟨w.heap.size,0,none⟩) n cs.size)) (w.drew.drew.alloc (.cells cs 5))∧n<=cs.size∧∀v∈cs,v.oneCell'=true:=by
 obtain⟨cs,h1,h2,h3⟩:=aci (P:=prog) w #[3] 165 5 (by kernel_rfl) n hn;refine⟨cs,?_,h2,h3⟩;rw[run_callFunc_extern func169 (by kernel_rfl) (by kernel_rfl) (by kernel_rfl) (e:=Extern.BytealgMakeNoZero.makeNoZero #[3] #[165]) (by kernel_rfl),h1];rfl
theorem acX{G}(n:Nat)(hn:n<=200000000):bA prog G 146 [.bx [0] 0,.d (i64 (n:Int))] Bg [0] (fun r ae=>r=.aA []∧ae=Bh n):=by
 unfold Bg Bh;refine eV func146 rfl (by decide +kernel) (by simp[ntmps146]) (aT fun E=>?_);simp only[go_sem];refine bF mixed E fun X=>?_;simp only[go_sem];refine eg X (d:=6) [0] 0 (some 167) [.bx [0] 0,.d .ai] (by simp only[go_sem]) rfl rfl ?_;simp only[go_sem];refine Pm X (d:=9) (t:=165) (e:=5) (by rw[vY]) (by simp only[go_sem]) rfl ?_;simp only[go_sem];have hw:lY (lY (2*0)+(n:Int))=(n:Int):=by rw[show lY (2*0)=0 by decide +kernel,Int.zero_add,aD ⟨by omega,by omega⟩]
 refine acj X (d:=13) (e:=5) (n:=n) 169 (acW n (by omega)) ⟨by simp only[go_sem],by rw[ay];decide⟩ rfl (by simp only[go_sem];rw[hw]) ?_;simp only[go_sem];refine eg X (d:=15) [0] 0 (some 167) [.bx [0] 0,.d .ai] (by simp only[go_sem]) rfl rfl ?_;simp only[go_sem];refine ack X (d:=19) (t:=165) (e:=5) (b:=0) [13] (some 5) none (List.replicate n .unk) (by rw[vY]) (by rw[qj];rfl) (by simp only[go_sem]) rfl rfl rfl (aie _) ?_;simp only[go_sem];(try refine⟨by decide +kernel,?_⟩);refine acm E (d:=25) (e0:=5) (by simp only[go_sem]) (by rw[vY]) (by rw[qj];rfl) rfl rfl rfl ?_;simp only[go_sem];refine⟨_,_,[0,2],ar [([2],[13])],⟨rfl,rfl⟩,?_⟩;simp only[go_sem]
theorem acY{G}(n:Nat)(h0:0<n)(hn:n<=200000000):bA prog G 102 [.bx [0] 0,.d (i64 (n:Int))] qz [0] (fun r ae=>r=.aA []∧ae=Bh n):=by
 have hc:=acT (G:=G);have hg:=acX (G:=G) n hn;unfold Bh qz Bg at *
 generalize List.replicate n D.unk=xs at *
 refine eV func102 rfl (by decide +kernel) (by simp[ntmps102]) (aT fun E=>?_);simp only[go_sem];refine je E [.bx [0] 0] [([0],.bz (some 167) [.d .aY,.d .ai])] [0] hc rfl rfl ⟨by simp only[go_sem],by rw[ay];decide⟩ rfl (by simp only[go_sem]) (by simp only[go_sem]) ?_;rintro _ _ ⟨rfl,rfl⟩;simp only[go_sem];refine aH E ?_ ?_<;>intro h1<;>simp only[go_sem]
 .omega
 refine bF mixed E fun X=>?_;simp only[go_sem];refine eg X (d:=10) [0] 0 (some 167) [.bx [0] 0,.d .ai] (by simp only[go_sem]) rfl rfl ?_;simp only[go_sem];refine Pm X (d:=13) (t:=165) (e:=5) (by rw[vY]) (by simp only[go_sem]) rfl ?_;simp only[go_sem];refine eg X (d:=15) [0] 0 (some 167) [.bx [0] 0,.d .ai] (by simp only[go_sem]) rfl rfl ?_;simp only[go_sem];(try refine⟨by decide +kernel,?_⟩);refine aH E ?_ ?_<;>intro h2<;>simp only[go_sem]
 .refine je E [.bx [0] 0,.d (i64 (n:Int))] [([0],.bz (some 167) [.bx [0] 0,.d .ai])] [0] hg rfl rfl ⟨by simp only[go_sem],by rw[ay];decide⟩ rfl (by simp only[go_sem]) (by simp only[go_sem]) ?_;rintro _ _ ⟨rfl,rfl⟩;simp only[go_sem];refine⟨_,_,[0,2],ar [([2],[24,2])],⟨rfl,rfl⟩,?_⟩;simp only[go_sem]
 .rw[show lY 0=0 by decide +kernel]at h2;omega
theorem acZ(k:Nat)(h1:1<=k)(h2:k<=10000):2<(9223372036854775807:Int).tdiv (k:Int):=by
 rw[akG (by decide)];have:(3:Int)<=9223372036854775807 / (k:Int):=(Int.le_ediv_iff_mul_le (by omega)).2 (by omega);omega
def gY(l:List (List UInt8)):Nat:=(l.map List.length).sum
theorem Px{l:List (List UInt8)}{i:Nat}(h:i<l.length):gY (l.take (i+1))=gY (l.take i)+(l.getD i []).length:=by
 unfold gY;rw[ah5 h,ail,akV,ahX,aib h];simp
theorem IU(l:List (List UInt8))(i:Nat):gY (l.take i)<=gY l:=by
 have h:gY l=gY (l.take i)+gY (l.drop i):=by
  unfold gY;rw[<-akV,<-ail,ajJ]
 omega
theorem ac0(r:List (List UInt8)):(r.flatMap (kJ++·)).length=gY r+r.length:=by
 induction r with
 |nil=>rfl
 |cons a r ih =>
   rw[ajS,ah7,ah7,ih];unfold gY;rw[aid,List.sum_cons,List.length_cons,show kJ.length=1 from rfl];omega
theorem ac1{G}(l:List (List UInt8))(hn:l.length<=10000)(hs:gY l<=90000000):HP prog G 59 [strs l,.str [32]] (fun r=>r=.d (.str (D8 kJ l))):=by
 unfold strs;have mW:(l.map D.str).length=l.length:=aik ..;have eS:=fun i (h:i<l.length)=>AJ (l:=l) h;have hle:=IU l;have ac2:=fun i (h:i<l.length)=>Px (l:=l) h;refine cJ func59 rfl (by decide +kernel) (by simp[ntmps59]) (aT fun E=>?_);simp only[go_sem];refine aH E ?_ ?_<;>intro h0<;>simp only[go_sem]
 .have:l=[]:=ajk.1 (by omega);rw[this];rfl
 refine aH E ?_ ?_<;>intro h1<;>simp only[go_sem]
 .obtain⟨a,rfl⟩:=akX.1 (show l.length=1 by omega);refine⟨by simp,?_⟩;simp only[aid,aiO,akd];simp only[go_sem];simp[D8]
 have hk:=acZ (l.length-1) (by omega) (by omega);have ew:lY ((l.length:Int)-1)=((l.length-1:Nat):Int):=by rw[aD ⟨by omega,by omega⟩];omega
 have gp:(9223372036854775807:Int).tdiv ((l.length-1:Nat):Int)<=9223372036854775807:=by
  rw[akG (by decide)];exact Int.ediv_le_self _ (by decide)
 refine⟨by rw[ew];omega,?_⟩;refine aH E ?_ ?_<;>intro h2<;>simp only[go_sem]
 .exfalso;rw[ew,aD ⟨by omega,by omega⟩]at h2;omega
 have e5:lY (0+lY (1*lY ((l.length:Int)-1)))=((1*(l.length-1):Nat):Int):=by
  rw[ew,aD (n:=1*((l.length-1:Nat):Int)) ⟨by omega,by omega⟩,Int.zero_add,aD ⟨by omega,by omega⟩];omega
 have hall:=IU l
 refine bK E (X:={ i:Nat // i<=l.length }) (fun x=>[(0,.d (.sl none (l.map .str))),(1,.d (.str [32])),(5,.d (i64 ((1*(l.length-1)+gY (l.take x.1):Nat):Int))),(39,.d (.sl none (l.map .str))),(40,.d (i64 (l.length:Nat))),(41,.d (i64 x.1))])
  (fun _=>[]) [] (fun x=>l.length-x.1) ⟨0,aie _⟩ id ?_ ?_
 .simp only[go_sem];rw[e5]
  all_goals (and_intros<;>first|rfl|trivial)
 rintro⟨i,hi⟩ E0;refine bW E0 fun Q' hQ E'=>?_;simp only at hi ⊢;simp only[go_sem];refine aH E' ?_ ?_<;>intro g<;>simp only[go_sem]
 .have ao:i<l.length:=by omega
  have h3:=ac2 i ao;have h4:=hle (i+1);refine⟨by omega,?_⟩;rw[eS i ao];simp only[go_sem];generalize l.getD i []=s at h3 ⊢;refine aH E' ?_ ?_<;>intro g2<;>simp only[go_sem]
  .exfalso;rw[aD ⟨by omega,by omega⟩]at g2;omega
  rw[hQ];simp only[go_sem];rw[aD (n:=((1*(l.length-1)+gY (l.take i):Nat):Int)+(s.length:Int)) ⟨by omega,by omega⟩,aD (n:=(i:Int)+1) ⟨by omega,by omega⟩];refine⟨⟨i+1,by omega⟩,by show l.length-(i+1)<l.length-i;omega,id,?_⟩;simp only[go_sem];rw[show((1*(l.length-1)+gY (l.take (i+1)):Nat):Int)=((1*(l.length-1)+gY (l.take i):Nat):Int)+(s.length:Int) by omega]
  all_goals (and_intros<;>first|rfl|trivial)
 have ao:i=l.length:=by omega
 subst ao;rw[aij]at *
 rw[hQ];simp only[go_sem]
 obtain⟨a,r,hl⟩:∃a r,l=a::r:=by
  cases l with
  |nil=>simp at h0
  |cons a r=>exact⟨a,r,rfl⟩
 subst hl;rw[List.length_cons]at *
 have Py:gY (a::r)=a.length+gY r:=by unfold gY;rw[aid,List.sum_cons]
 have cT:=fun i=>ac0 (r.take i);have rL:=IU r
 have IA:∀i,((r.take i).flatMap (kJ++·)).length<=90000000+20000:=fun i=>by
  have h1:=cT i;have h2:=rL i;rw[air]at h1;omega
 have ac3:∀i,i<r.length->(r.take (i+1)).flatMap (kJ++·)=(r.take i).flatMap (kJ++·)++[32]++r.getD i []:=fun i hi=>by
  rw[ah5 hi,akz,ahX,aib hi];simp[kJ]
 have cX:=fun i (h:i<r.length)=>AJ (l:=r) h
 have Ml:∀i,(r.getD i []).length<=90000000:=fun i=>by
  by_cases hi:i<r.length
  .have h1:=Px hi;have h2:=rL (i+1);omega
  .rw[ahX,aiE (by omega)];exact aie _
 refine jh E (ar [([0],[8])]) [.bx [0] 0,.d (i64 ((1*(r.length+1-1)+gY (a::r):Nat):Int))] qz [0] (acY (1*(r.length+1-1)+gY (a::r)) (by omega) (by omega)) rfl rfl ⟨by simp only[go_sem],by rw[ay];decide⟩ rfl (by unfold qz;simp only[go_sem]) (by unfold qz;simp only[go_sem]) ?_;rintro _ _ ⟨rfl,rfl⟩;unfold Bh qz;simp only[go_sem];refine⟨by omega,?_⟩;refine jh E (ar [([0],[8]),([1],[57,2])]) [.bx [0] 0,.d (.str a)] (s6 (1*r.length+gY (a::r))) [0,1] (acV _ a (by omega)) rfl rfl ⟨by simp only[go_sem],by rw[ay];decide⟩ rfl (by unfold s6;simp only[go_sem]) (by unfold s6;simp only[go_sem]) ?_;rintro _ _ ⟨rfl,rfl⟩;unfold wL s6;simp only[go_sem];refine⟨by omega,?_⟩
 refine bK E (X:={ i:Nat // i<=r.length }) (fun x=>[(1,.d (.str [32])),(8,.bx [0] 0),(63,.d (.sl none (r.map .str))),(64,.d (i64 (r.length:Nat))),(65,.d (i64 x.1))])
  (fun x=>ji (a++(r.take x.1).flatMap (kJ++·))) [0,1] (fun x=>r.length-x.1) ⟨0,aie _⟩ (ar [([0],[8]),([1],[61,2])]) ?_ ?_
 .unfold ji;simp only[go_sem];rw[aiR]
  all_goals (and_intros<;>first|rfl|trivial)
 rintro⟨i,hi⟩ E0;refine bW E0 fun Q' hQ E'=>?_;simp only at hi ⊢;have hb0:=IA i;have l8:=ac3 i;generalize Bi:a++(r.take i).flatMap (kJ++·)=acc;have pw:acc.length<=190000000:=by rw[<-Bi,ah7];omega
 unfold ji;simp only[go_sem];refine aH E' ?_ ?_<;>intro g<;>simp only[go_sem]
 .have ao:i<r.length:=by omega
  refine⟨by omega,?_⟩;rw[cX i ao];simp only[go_sem];have nT:=l8 ao;have hls:=Ml i;generalize r.getD i []=s at nT hls ⊢;have bU:a++(r.take (i+1)).flatMap (kJ++·)=acc++[32]++s:=by rw[nT,<-Bi];simp only[aiS]
  refine je E' [.bx [0] 0,.d (.str [32])] (ji acc) [0,1] (Pt acc [32] (by simp only[List.length_cons,List.length_nil];omega)) rfl rfl ⟨by simp only[go_sem],by rw[ay];decide⟩ rfl (by unfold ji;simp only[go_sem]) (by unfold ji;simp only[go_sem]) ?_;rintro _ _ ⟨rfl,rfl⟩;unfold wL ji;simp only[go_sem];refine jh E' (ar [([1],[70,2])]) [.bx [0] 0,.d (.str s)] (ji (acc++[32])) [0,1] (Pt (acc++[32]) s (by simp only[ah7,List.length_cons,List.length_nil];omega)) rfl rfl ⟨by simp only[go_sem],by rw[ay];decide⟩ rfl (by unfold ji;simp only[go_sem]) (by unfold ji;simp only[go_sem]) ?_;rintro _ _ ⟨rfl,rfl⟩;unfold wL ji;simp only[go_sem];rw[aD ⟨by omega,by omega⟩,hQ];simp only[go_sem];refine⟨⟨i+1,by omega⟩,by show r.length-(i+1)<r.length-i;omega,ar [([1],[72,2])],?_⟩;simp only[bU];unfold ji;simp only[go_sem]
  all_goals (and_intros<;>first|rfl|trivial)
 .have ao:i=r.length:=by omega
  subst ao;have lS:=cT r.length;rw[aij]at Bi lS
  have aJ:acc≠[]:=fun e=>by
   have:=congrArg List.length Bi;rw[e,ah7]at this;simp only[List.length_nil]at this;omega
  rw[hQ];simp only[go_sem];refine je E [.bx [0] 0] (ji acc) [0,1] (acv acc aJ (by omega)) rfl rfl ⟨by simp only[go_sem],by rw[ay];decide⟩ rfl (by unfold ji;simp only[go_sem]) (by unfold ji;simp only[go_sem]) ?_;rintro _ _ ⟨rfl,rfl⟩;simp only[go_sem];rw[<-Bi];rfl
def qD(b:Bool):List UInt8:=if b then[116,114,117,101]else[102,97,108,115,101]
theorem ac4{G}(b:Bool):HP prog G 100 [.bool b] (fun r=>r=.d (.str (qD b))):=by
 refine cJ func100 rfl (by decide +kernel) (by simp[ntmps100]) (aT fun E=>?_);simp only[go_sem];refine cK E ?_ ?_<;>intro h<;>simp only[go_sem]
 .rw[show b=true by simpa using h];rfl
 .rw[show b=false by simpa using h];rfl
theorem Pz{G}(b:Bool):HP prog G 57 [.bool b] (fun r=>r=.d (.str (qD b))):=by
 refine cJ func57 rfl (by decide +kernel) (by simp[ntmps57]) (aT fun E=>?_);simp only[go_sem];refine bj E (ac4 b) rfl rfl (by simp) ?_;rintro _ rfl;simp only[go_sem]
def jO(c:aB):List UInt8:=if c.2.1 then qD c.1++[32,97,108,108]else D8 kJ (qD c.1::c.2.2.map Lib.itoa)
end Go.Proofs.YtpmniabdmbmafaaGreatDoor

namespace Go.Proofs.YtpmniabdmbmafaaGreatDoor
open Go.Ab Tryz
variable {t:TypeId}{fz:Nat×Nat}
structure IV(c:aB):Prop where
 len:c.2.2.length<=2000
 mem:∀x∈c.2.2,0<=x∧x<2000
theorem ac5{l:List Int}(h:∀x∈l,0<=x∧x<2000):gY (l.map Lib.itoa)<=30*l.length:=by
 induction l with
 |nil=>exact ain _
 |cons a r ih =>
   have h1:=h a ah0;have h2:=ih fun x hx=>h x (ah8 _ hx);have h3:=Lib.itoa_length_le a (by omega) (by omega);unfold gY at h2 ⊢;simp only[aid,List.sum_cons,List.length_cons];omega
theorem ac6(b:Bool):(qD b).length<=5:=by cases b<;>decide
theorem ac7(c:aB)(hc:IV c):HP prog (GT t fz) 33 [fY c] (fun r=>r=.d (.str (jO c))):=by
 have hl:=hc.len;have hb:=ac6 c.1;refine uN ?_;unfold fY;refine gy func33 rfl (by decide +kernel) (by simp[ntmps33]) (aT fun E=>?_);simp only[go_sem];refine cK E ?_ ?_<;>intro h1<;>simp only[go_sem]
 .refine bj E (Pz c.1) rfl rfl (by simp) ?_;rintro _ rfl;simp only[go_sem];refine⟨by omega,[],?_⟩;simp only[go_sem];refine⟨_,rfl,?_⟩;rw[jO,if_pos (by simpa using h1)];exact .refl _
 refine bj E (Pz c.1) rfl rfl (by simp) ?_;rintro _ rfl;simp only[go_sem]
 refine bK E (X:={ i:Nat // i<=c.2.2.length }) (fun x=>[(3,.vw [98] 0 (x.1+1)),(17,.d (.sl none (c.2.2.map i64))),(18,.d (i64 c.2.2.length)),(19,.d (i64 x.1))])
  (fun x=>[([98],.arr none ((qD c.1::(c.2.2.take x.1).map Lib.itoa).map .str))]) [98] (fun x=>c.2.2.length-x.1) ⟨0,aie _⟩ (ar [([98],[15])]) ?_ ?_
 .simp only[go_sem]
  all_goals first|rfl|(and_intros<;>first|rfl|trivial)
 rintro⟨i,hi⟩ E0;refine bW E0 fun Q' hQ E'=>?_;simp only at hi ⊢;simp only[go_sem];refine aH E' ?_ ?_<;>intro h2<;>simp only[go_sem]
 .have ao:i<c.2.2.length:=by omega
  have hx:=hc.mem _ (ah2 ao);refine⟨by omega,?_⟩;rw[dF ao];simp only[go_sem];refine bj E' (acx _ ⟨by omega,by omega⟩) rfl rfl (by simp) ?_;rintro _ rfl;simp only[go_sem];refine⟨by omega,?_⟩;rw[hQ];refine⟨⟨i+1,ao⟩,by show c.2.2.length-(i+1)<c.2.2.length-i;omega,ar [([98],[27])],?_⟩;simp only[go_sem];rw[aD ⟨by omega,by omega⟩,aic (by simp;omega),ah5 ao,ail,ail]
  and_intros<;>first|rfl|trivial
 .have bJ:i=c.2.2.length:=by omega
  subst bJ;rw[hQ,aij];simp only[go_sem]
  have hj:=ac1 (G:=GT t fz) (qD c.1::c.2.2.map Lib.itoa) (by simp;omega) (by
   have:=ac5 hc.mem;unfold gY at this ⊢;simp only[aid,List.sum_cons]
   omega)
  unfold strs at hj;refine jg E [98] none (.str (qD c.1)::(c.2.2.map Lib.itoa).map .str) rfl rfl ?_;simp only[go_sem];refine bj E hj rfl (by simp only[go_sem];rw[aic (by rw[aik,aik];exact ain _)]) (by simp) ?_;rintro _ rfl;simp only[go_sem];refine⟨[],?_⟩;simp only[go_sem];refine⟨_,rfl,?_⟩;rw[jO,if_neg (by simpa using h1)];exact .refl _
end Go.Proofs.YtpmniabdmbmafaaGreatDoor

namespace Go.Proofs.YtpmniabdmbmafaaGreatDoor
open Go.Ab
end Go.Proofs.YtpmniabdmbmafaaGreatDoor

namespace Go.Proofs.YtpmniabdmbmafaaGreatDoor
open Go.Ab
end Go.Proofs.YtpmniabdmbmafaaGreatDoor

namespace Go.Proofs.YtpmniabdmbmafaaGreatDoor
open Go.Ab
theorem yH{α β:Type}[DecidableEq α]{z:β}{i:α}:∀{l:List (α×β)},i∉l.map (·.1)->aE z l i=z
 |[],_=>rfl
 |q::r,h=>by
   rw[lP,if_neg (fun e=>h (by simp[e])),yH (fun g=>h (by simp only[aid,ah6];exact .inr g))]
theorem PA{i:Name}{z:Option Ob}:∀{l:List (Name×Ob)},i∈l.map (·.1)->aE z (l.map fun x=>(x.1,(none:Option Ob))) i=none
 |[],h=>by simp at h
 |q::r,h=>by
   rw[aid,lP];by_cases e:i=q.1
   .rw[if_pos e]
   .rw[if_neg e];refine PA ?_;rw[aid]at h;exact(ah6.1 h).resolve_left e
theorem Bj(l:List (Name×Ob)):(l.map fun x=>(x.1,some x.2)).map (·.1)=l.map (·.1):=by simp[Function.comp_def]
theorem PB{σ:Name->Name}{u:List Nat}{s:St}:∀{l:List (Name×Ob)},nV σ u s l->lU σ u s l
 |[],_=>trivial
 |_::_,h=>⟨h.1,PB h.2⟩
theorem PD{chp:List (Name×Ob)}:∀{l:List (Name×Ob)},(∀q∈l,∀o,aE none (chp.map fun x=>(x.1,some x.2)) q.1=some o->o.like q.2)->nX chp l
 |[],_=>trivial
 |q::r,h=>by
   refine⟨?_,PD fun x hx=>h x (ah8 _ hx)⟩;have:=h q ah0;split
   .rename_i o ho;exact this o ho
   .trivial
section
variable {h:Nat}{τ:Name->Name}
theorem D9:∀(xs:List (Option (List D))) (i:Nat),(∀j ys,xs[j]?=some (some ys)->τ [h,i+j]=[h,i+j])->bZ τ (b9 h i xs)=b9 h i xs
 |[],_,_=>rfl
 |none::r,i,hτ=>by
   rw[b9,bZ,D9 r (i+1) fun j ys hj=>by rw[show i+1+j=i+(j+1) by omega];exact hτ (j+1) ys (by simpa using hj)];rfl
 |some zs::r,i,hτ=>by
   rw[b9,bZ,D9 r (i+1) fun j ys hj=>by rw[show i+1+j=i+(j+1) by omega];exact hτ (j+1) ys (by simpa using hj)];have:=hτ 0 zs rfl;rw[Nat.add_zero]at this;simp only[AV.ren,this]
theorem s7{u:List Nat}(hu:u.contains h=true):∀(xs:List (Option (List D))) (i:Nat),dU u (b9 h i xs)=true
 |[],_=>rfl
 |none::r,i=>by rw[b9,dU,s7 hu r];rfl
 |some _::r,i=>by
   rw[b9,dU,s7 hu r];simp[AV.bn,bX,-List.contains_eq_mem,hu]
theorem PE{u:List Nat}{l:List AV}{m:Nat}{x:AV}(hl:dU u l=true)(hx:x.bn u=true):dU u (l.set m x)=true:=by
 induction l generalizing m with
 |nil=>rfl
 |cons y r ih =>
   simp only[dU,aia]at hl
   cases m with
   |zero=>simp[dU,hx,hl.2]
   |succ m=>simp[dU,hl.1,ih hl.2]
theorem ac8(l:List AV)(m:Nat)(x:AV):bZ τ (l.set m x)=(bZ τ l).set m (x.ren τ):=by
 induction l generalizing m with
 |nil=>rfl
 |cons y r ih =>
   cases m with
   |zero=>rfl
   |succ m=>simp only[List.set_cons_succ,bZ,ih]
theorem ac9(a b:List AV):bZ τ (a++b)=bZ τ a++bZ τ b:=by
 induction a with
 |nil=>rfl
 |cons x r ih=>simp[bZ,ih]
theorem ada(xs:List (Option (List D)))(i:Nat)(o:Option (List D)):b9 h i (xs++[o])=b9 h i xs++(match o with|some ys=>[.vw [h,i+xs.length] 0 ys.length]|none=>[.un]):=by
 induction xs generalizing i with
 |nil=>cases o<;>simp[b9]
 |cons x r ih =>
   cases x<;>(simp only[List.cons_append,b9,ih,List.length_cons];rw[show i+1+r.length=i+(r.length+1) by omega])
theorem adb{xs:List (Option (List D))}{m:Nat}{ys:List D}{p:Name}(hm:xs[m]?=some (some ys))(h1:τ [h,m]=p)(h2:∀j,j≠m->τ [h,j]=[h,j]) :
  bZ τ (b9 h 0 xs)=(b9 h 0 (xs.set m none)).set m (.vw p 0 ys.length):=by
 apply aiY;intro i;rw[mZ,rC,aiD];have hlt:m<xs.length:=(ah3.1 hm).1;by_cases e:i=m
 .subst e;rw[aiC (by rw[qw,ai1];exact hlt),hm];simp[AV.ren,h1]
 .rw[aiy (fun g=>e g.symm),rC,aiy (fun g=>e g.symm),aiD]
  cases xs[i]? with
  |none=>rfl
  |some o=>cases o<;>simp[AV.ren,h2 i e]
theorem PF{xs:List (Option (List D))}{m:Nat}{ys:List D}{p:Name}(hm:xs[m]?=some (some ys))(h1:τ p=[h,m])(h2:∀j,τ [h,j]=[h,j]) :
  bZ τ ((b9 h 0 (xs.set m none)).set m (.vw p 0 ys.length))=b9 h 0 xs:=by
 rw[ac8,D9 _ _ fun j _ _=>by rw[aiD];exact h2 j];apply aiY;intro i;have hlt:m<xs.length:=(ah3.1 hm).1;by_cases e:i=m
 .subst e;rw[aiC (by rw[qw,ai1];exact hlt),rC,hm,aiD];simp[AV.ren,h1]
 .rw[aiy (fun g=>e g.symm),rC,rC,aiy (fun g=>e g.symm)]
theorem PG{xs:List (Option (List D))}{m i:Nat}{ys:List D}(h:(xs.set m none)[i]?=some (some ys)):i≠m∧xs[i]?=some (some ys):=by
 by_cases e:m=i
 .subst e;by_cases hl:m<xs.length
  .rw[aiC hl]at h;cases h
  .rw[aiE (by simpa using aju hl)]at h;cases h
 .rw[aiy e]at h;exact⟨fun g=>e g.symm,h⟩
end
theorem s8{τ ρ:Name->Name}:∀{l:List (Name×Ob)},(l.map (·.1)).Nodup->(∀q∈l,ρ (τ q.1)=q.1)->nW τ l
 |[],_,_=>trivial
 |q::r,hn,hr=>by
   rw[aid,ai3]at hn;refine⟨fun x hx e=>hn.1 ?_,s8 hn.2 fun x hx=>hr x (ah8 _ hx)⟩;have h1:=hr q ah0;have h2:=hr x (ah8 _ hx);rw[e,h2]at h1;exact ah9.2 ⟨x,hx,h1⟩
theorem Ea(h:Nat)(xs:List (Option (List D))):∀i,((fX h i xs).map (·.1)).Nodup∧∀p∈(fX h i xs).map (·.1),∃j,i<=j∧p=[h,j]:=by
 induction xs with
 |nil=>intro i;exact⟨by simp[fX],by simp[fX]⟩
 |cons x r ih =>
   intro i;obtain⟨h1,h2⟩:=ih (i+1)
   cases x with
   |none=>exact⟨h1,fun p hp=>by obtain⟨j,hj,e⟩:=h2 p hp;exact⟨j,by omega,e⟩⟩
   |some ys =>
     refine⟨?_,fun p hp=>?_⟩
     .rw[fX,aid,ai3];refine⟨fun hm=>?_,h1⟩;obtain⟨j,hj,e⟩:=h2 _ hm;simp at e;omega
     .rw[fX,aid]at hp;rcases ah6.1 hp with rfl|hp
      .exact⟨i,ain _,rfl⟩
      .obtain⟨j,hj,e⟩:=h2 p hp;exact⟨j,by omega,e⟩
def s9(p:Name):Bool:=match p with
 |a::_=>a != 202&&a != 203
 |[]=>true
theorem ade{hp:List (Name×Ob)}{xs ys:List (Option (List D))}(hn:(hp.map (·.1)).Nodup)(hh:(hp.all fun q=>s9 q.1)=true):((hp++fD 202 xs (fD 203 ys [])).map (·.1)).Nodup:=by
 have hh':∀q∈hp,s9 q.1=true:=aio.1 hh;obtain⟨a1,a2⟩:=Ea 202 xs 0;obtain⟨b1,b2⟩:=Ea 203 ys 0;unfold fD;rw[aiR,ail,ail,aiZ,aiZ];refine⟨hn,⟨a1,b1,fun p hp q hq e=>?_⟩,fun p hpm q hq e=>?_⟩
 .obtain⟨j,_,rfl⟩:=a2 p hp;obtain⟨k,_,rfl⟩:=b2 q hq;simp at e
 .subst e;obtain⟨x,hx,rfl⟩:=ah9.1 hpm;have:=hh' x hx;rcases ah1.1 hq with hq|hq
  .obtain⟨j,_,e⟩:=a2 _ hq;rw[e]at this
   revert this;simp[s9]
  .obtain⟨j,_,e⟩:=b2 _ hq;rw[e]at this
   revert this;simp[s9]
theorem adf{τ:Name->Name}(ρ:Name->Name){s:St}{fr:List (Nat×AV)}{hp:List (Name×Ob)}{xs ys:List (Option (List D))}{u:List Nat}(h1:my τ u s fr∧nV τ u s hp)
  (h2:∀i zs,xs[i]?=some (some zs)->s.hp (τ [202,i])=some (.arr none zs)∧ρ (τ [202,i])=[202,i]) (h3:∀i zs,ys[i]?=some (some zs)->s.hp (τ [203,i])=some (.arr none zs)∧ρ (τ [203,i])=[203,i])
  (hu:(u.contains 202&&u.contains 203)=true) (hn:(hp.map (·.1)).Nodup) (hh:(hp.all fun q=>s9 q.1)=true) (hρ:hp.map (fun q=>ρ (τ q.1))=hp.map (·.1)):cF [] τ s fr (hp++fD 202 xs (fD 203 ys [])) u:=by
 rw[aia]at hu;refine⟨h1.1,Ig h1.2 (Ow hu.1 (fun i zs h=>(h2 i zs h).1) (Ow hu.2 (fun i zs h=>(h3 i zs h).1) trivial)),s8 (ρ:=ρ) (ade hn hh) fun q hq=>?_,rfl,sQ fun q _ hq=>?_⟩
 .rcases ah1.1 hq with hq|hq
  .obtain⟨n,lf,e⟩:=aiB hq;have:=congrArg (fun l:List Name=>l[n]?) hρ;simp only[aii,aib lf,e,Option.map_some,aiv]at this;exact this
  .rcases ah1.1 hq with hq|hq
   .obtain⟨j,zs,hj,rfl⟩:=(qu 202 xs 0 q).1 hq;rw[aiD];exact(h2 j zs hj).2
   .rcases ah1.1 hq with hq|hq
    .obtain⟨j,zs,hj,rfl⟩:=(qu 203 ys 0 q).1 hq;rw[aiD];exact(h3 j zs hj).2
    .cases hq
 .cases q with
  |mk p o=>cases p<;>simp[bX]at hq
def rM(xs ys:List (Option (List D))):List (Name×Ob):=fD 202 xs (fD 203 ys [])
section
variable {xs ys:List (Option (List D))}
theorem PH{q:Name×Ob}(h:q∈rM xs ys):(∃j zs,xs[j]?=some (some zs)∧q=([202,j],.arr none zs))∨∃j zs,ys[j]?=some (some zs)∧q=([203,j],.arr none zs):=by
 rcases ah1.1 h with h|h
 .obtain⟨j,zs,h1,h2⟩:=(qu 202 xs 0 q).1 h;exact .inl ⟨j,zs,h1,by rw[h2,aiD]⟩
 .rcases ah1.1 h with h|h
  .obtain⟨j,zs,h1,h2⟩:=(qu 203 ys 0 q).1 h;exact .inr ⟨j,zs,h1,by rw[h2,aiD]⟩
  .cases h
theorem adg{j:Nat}{zs:List D}(h:xs[j]?=some (some zs)):([202,j],Ob.arr none zs)∈rM xs ys:=aif _ ((qu 202 xs 0 _).2 ⟨j,zs,h,by rw[aiD]⟩)
theorem adh{j:Nat}{zs:List D}(h:ys[j]?=some (some zs)):([203,j],Ob.arr none zs)∈rM xs ys:=ajd _ (aif _ ((qu 203 ys 0 _).2 ⟨j,zs,h,by rw[aiD]⟩))
theorem adi{q:Name×Ob}(h:q∈rM xs ys):s9 q.1=false:=by
 rcases PH h with⟨j,zs,_,rfl⟩|⟨j,zs,_,rfl⟩<;>rfl
theorem adj{q:Name×Ob}(h:q∈rM xs ys):aE none ((rM xs ys).map fun x=>(x.1,some x.2)) q.1=some q.2:=by
 rcases PH h with⟨j,zs,h1,rfl⟩|⟨j,zs,h1,rfl⟩
 .exact l9 (fr:=[]) (u:=[]) h1
 .exact abA (fr:=[]) (u:=[]) (by decide) h1
theorem adk{C:List (Name×Ob)}(hh:(C.all fun q=>s9 q.1)=true){q:Name×Ob}(h:q∈rM xs ys):q.1∉C.map (·.1):=by
 intro g;obtain⟨x,hx,e⟩:=ah9.1 g;have:=aio.1 hh x hx;rw[e,adi h]at this;cases this
theorem adl{C:List (Name×Ob)}(hh:(C.all fun q=>s9 q.1)=true){q:Name×Ob}(h:q∈rM xs ys):aE none ((C++rM xs ys).map fun x=>(x.1,some x.2)) q.1=some q.2:=by
 rw[ail,H3,yH (l:=C.map _) (by rw[Bj];exact adk hh h)];exact adj h
end
section
variable {P:Program}{cf:Cf}{Q:Exit->St->Prop}{s:St}{k:List It}
theorem tc(E:bB P cf Q){o:Oper}{τ:Name->Name}{s2:St}(hle:Le cf.U τ s s2)(h:E.aX o s2 k .no):E.aX o s k .no:=by
 rw[gx]at h ⊢;exact h.le hle
end
theorem adn(τ:Name->Name)(l:List AV):bZ τ l=l.map (AV.ren τ):=by
 induction l with
 |nil=>rfl
 |cons x r ih=>simp[bZ,ih]
end Go.Proofs.YtpmniabdmbmafaaGreatDoor

namespace Go.Proofs.YtpmniabdmbmafaaGreatDoor
open Go.Ab
end Go.Proofs.YtpmniabdmbmafaaGreatDoor

namespace Go.Proofs.YtpmniabdmbmafaaGreatDoor
open Go.Ab Tryz
variable {t:TypeId}{fz:Nat×Nat}
theorem tq:j3 prog 9 (fun l:List UInt8=>D.str l) (fun l=>.string ⟨l.toArray⟩):=Wy (by rw[CX])
def stC(s:EA):List AV:=[.d (.bool s.plus),.d (.bool s.al),.d (.bool s.int),.d (.bool s.bool),.d (.bool s.str),.d (.bool s.arr),.d (.bool s.rc),.d (.bool s.tg),.d (.sl none (s.vars.map i64)),.d (i64 s.dp),.d (i64 s.dq),.d (.sl (some 2) (s.fl.map bf)),.d (.sl (some 2) (s.tl.map bf))]
def jI(s:EA)(atm:List (List UInt8×D)):List (Name×Ob):=[([204],.map (bT (fun n:List UInt8=>D.str n) atm)),([6],.box (stC s))]
end Go.Proofs.YtpmniabdmbmafaaGreatDoor

namespace Go.Proofs.YtpmniabdmbmafaaGreatDoor
open Go.Ab Tryz
variable {t:TypeId}{fz:Nat×Nat}
def jP:Nat->List aB->List (List UInt8×D)
 |_,[]=>[]
 |n,c::r=>(jO c,i64 n)::jP (n+1) r
def qE(k:List UInt8):Nat->List aB->Option Nat
 |_,[]=>none
 |n,c::r=>if jO c=k then some n else qE k (n+1) r
theorem PJ(k:List UInt8):∀(n:Nat) (W:List aB),fP (jP n W) k=(qE k n W).map fun i=>i64 (i:Nat)
 |_,[]=>rfl
 |n,c::r=>by
   rw[jP,qE,fP];by_cases h:jO c=k
   .simp[h]
   .simp[h,PJ k (n+1) r]
theorem PL(c:aB):∀(n:Nat) (W:List aB),qE (jO c) n W=none->gA (jP n W) (jO c) (i64 ((n+W.length:Nat):Int))=jP n (W++[c])
 |n,[],_=>rfl
 |n,d::r,h=>by
   rw[qE]at h;by_cases e:jO d=jO c
   .rw[if_pos e]at h;cases h
   .rw[if_neg e]at h;rw[jP,gA,if_neg e,List.cons_append,jP,<-PL c (n+1) r h,List.length_cons];rw[show n+(r.length+1)=n+1+r.length by omega]
def bV(W:List aB)(c:aB):Nat×List aB:=match qE (jO c) 0 W with
 |some i=>(i,W)
 |none=>(W.length,W++[c])
def bO(ns:List TN)(root:Int)(W:List aB)(fl:Bool)(a:Nat):List (Name×Ob):=[([0],.box [.d (.sl (some 4) (ns.map aw)),.d (i64 root),.mp [1],.vw [a] 0 W.length,.d (.bool fl)]),([1],.map (bT (fun l:List UInt8=>D.str l) (jP 0 W))),([a],.arr (some 3) (W.map fY))]
theorem Eb(ns:List TN)(root:Int)(W:List aB)(fl:Bool)(c:aB)(hc:IV c)(hW:W.length<=100000000) :
  bA prog (GT t fz) 17 [.bx [0] 0,.d (fY c)] (bO ns root W fl 2) [0,1,2] (fun r ae=>r=.d (i64 ((bV W c).1:Nat))∧ae=bO ns root (bV W c).2 fl 6):=by
 have ck:=ac7 (t:=t) (fz:=fz) c hc;generalize hR:bV W c=R;unfold bV at hR;unfold bO;have rk:fY c=.agg [.bool c.1,.bool c.2.1,.sl none (c.2.2.map i64)]:=rfl;rw[rk]at ck ⊢;refine eV func17 rfl (by decide +kernel) (by simp[ntmps17]) (aT fun E=>?_);simp only[go_sem];refine bj E ck rfl rfl (by simp) ?_;rintro _ rfl;simp only[go_sem];refine GY E [1] (jP 0 W) (jO c) (i64 0) (by rw[G4]) tq acy rfl rfl rfl (by simp) ?_;rw[PJ]
 cases hp:qE (jO c) 0 W with
 |some i =>
   rw[hp]at hR;subst hR;simp only[go_sem];refine⟨_,_,[0,1,2,6],ar [([6],[2])],⟨rfl,rfl⟩,?_⟩;simp only[go_sem]
 |none =>
   rw[hp]at hR;have DU:=PL c 0 W hp;rw[aiD]at DU;simp only[go_sem];refine bF mixed E fun X=>?_;simp only[go_sem];refine eg X [0] 0 none [.d (.sl (some 4) (ns.map aw)),.d (i64 root),.mp [1],.vw [2] 0 W.length,.d (.bool fl)] (by simp only[go_sem]) rfl rfl ?_;simp only[go_sem];refine eg X [0] 0 none [.d (.sl (some 4) (ns.map aw)),.d (i64 root),.mp [1],.vw [2] 0 W.length,.d (.bool fl)] (by simp only[go_sem]) rfl rfl ?_;simp only[go_sem];refine acJ X [1] (jP 0 W) (jO c) (i64 (W.length:Nat)) (by rw[G4]) tq rfl rfl rfl rfl ?_;rw[DU];simp only[go_sem];(try refine⟨by decide +kernel,?_⟩);refine bF mixed E fun X=>?_;simp only[go_sem];refine eg X [0] 0 none [.d (.sl (some 4) (ns.map aw)),.d (i64 root),.mp [1],.vw [2] 0 W.length,.d (.bool fl)] (by simp only[go_sem]) rfl rfl ?_;simp only[go_sem];refine⟨by omega,?_⟩;refine eg X [0] 0 none [.d (.sl (some 4) (ns.map aw)),.d (i64 root),.mp [1],.vw [2] 0 W.length,.d (.bool fl)] (by simp only[go_sem]) rfl rfl ?_;simp only[go_sem];(try refine⟨by decide +kernel,?_⟩);subst hR;rw[aD ⟨by omega,by omega⟩,show(((W.length+1:Nat):Int)-1)=(W.length:Nat) by omega];refine⟨_,_,[0,1,2,6],ar [([6],[38])],⟨rfl,rfl⟩,?_⟩;simp only[go_sem];simp[rk]
end Go.Proofs.YtpmniabdmbmafaaGreatDoor

namespace Go.Proofs.YtpmniabdmbmafaaGreatDoor
open Go.Ab Tryz
variable {t:TypeId}{fz:Nat×Nat}
theorem Ec{G}(ns:List TN)(root:Int)(h:dO ns)(p:Bool)(l:List Int)(hl:l.length<=10000000)(hk:∀x∈l,aC ns x) :
  bA prog G 18 [.d (.ptr (bD ns root)),.d (.bool p),.d (aL l)] [] [] (fun r ae=>r=.agg [.d (.bool (a8 ns p l).1),.d (.bool (a8 ns p l).2.1),.vw [0] 0 (a8 ns p l).2.2.length]∧ae=[([0],.arr none ((a8 ns p l).2.2.map i64))]):=by
 refine bA.acL (acS ns root h p l hl hk) 0 none (by simp) ?_;rintro r ae (⟨e,rfl,rfl⟩|⟨L,e,rfl,rfl⟩)
 .rw[e];exact .inr ⟨[.bool p,.bool true],[],rfl,rfl,rfl,rfl⟩
 .rw[e];exact .inl ⟨rfl,rfl⟩
theorem oE(ns:List TN)(p:Bool)(l:List Int):(a8 ns p l).1=p:=by unfold a8;split<;>rfl
theorem Ed{ns:List TN}(h:dO ns){p:Bool}{l:List Int}(hk:∀x∈l,aC ns x):IV (a8 ns p l):=by
 have h1:=IP h hk;have h2:=D5 h hk;have hn:=h.len;unfold a8;split
 .exact⟨aie _,by simp⟩
 .refine⟨aix (aiF _ _) h1,fun x hx=>?_⟩;obtain⟨h3,h4⟩:=h2 x (ait.1 hx).1;omega
theorem yI(W:List aB)(c:aB):(bV W c).2.length<=W.length+1:=by
 unfold bV;split
 .exact Nat.le_succ _
 .simp
noncomputable def j9(ns:List TN)(p:Bool)(l:List Int)(W:List aB):(Nat×Nat)×List aB :=
 (((bV W (a8 ns (!p) (l.map fun x=>(nd ns x.toNat).a))).1,(bV (bV W (a8 ns (!p) (l.map fun x=>(nd ns x.toNat).a))).2 (a8 ns p (l.map fun x=>(nd ns x.toNat).b))).1),
   (bV (bV W (a8 ns (!p) (l.map fun x=>(nd ns x.toNat).a))).2 (a8 ns p (l.map fun x=>(nd ns x.toNat).b))).2)
theorem ado(ns:List TN)(root:Int)(W:List aB)(fl p:Bool)(l:List Int)(h:dO ns)(hl:l.length<=2000)(hk:∀x∈l,aC ns x)(rp:∀x∈l,aC ns (nd ns x.toNat).a)(qy:∀x∈l,aC ns (nd ns x.toNat).b)(hW:W.length<=900000) :
  bA prog (GT t fz) 37 [.bx [0] 0,.d (.bool p),.d (aL l)] (bO ns root W fl 2) [0,1,2] (fun r ae=>r=.aA [.d (i64 ((j9 ns p l W).1.1:Nat)),.d (i64 ((j9 ns p l W).1.2:Nat))]∧ae=bO ns root (j9 ns p l W).2 fl 6):=by
 generalize hR:j9 ns p l W=R;unfold j9 at hR;unfold bO aL;refine eV func37 rfl (by decide +kernel) (by simp[ntmps37]) (aT fun E=>?_);simp only[go_sem];refine wi E 8 98 none rfl (by rw[ay];decide) ?_;refine wi E 9 97 none rfl (by show¬_∈[98,0,1,2];decide) ?_;simp only[go_sem]
 refine bK E (X:={ i:Nat // i<=l.length }) (fun x=>[(0,.bx [0] 0),(1,.d (.bool p)),(8,.vw [98] 0 x.1),(9,.vw [97] 0 x.1),(13,.d (.sl none (l.map i64))),(14,.d (i64 l.length)),(15,.d (i64 x.1))])
  (fun x=>[([0],.box [.d (.sl (some 4) (ns.map aw)),.d (i64 root),.mp [1],.vw [2] 0 W.length,.d (.bool fl)]),([1],.map (bT (fun l:List UInt8=>D.str l) (jP 0 W))),([2],.arr (some 3) (W.map fY)),
   ([98],.arr none (((l.take x.1).map fun x=>(nd ns x.toNat).a).map i64)),([97],.arr none (((l.take x.1).map fun x=>(nd ns x.toNat).b).map i64))]) [97,98,0,1,2] (fun x=>l.length-x.1) ⟨0,aie _⟩ id ?_ ?_
 .simp only[go_sem]
  all_goals first|rfl|(and_intros<;>first|rfl|trivial)
 rintro⟨i,hi⟩ E0;refine bW E0 fun Q' hQ E'=>?_;simp only at hi ⊢;simp only[go_sem];refine aH E' ?_ ?_<;>intro h1<;>simp only[go_sem]
 .have ao:i<l.length:=by omega
  have hx:=hk _ (ah2 ao);have gB:=hx.1;have iO:=hx.2;have hn:=h.len;refine⟨by omega,?_⟩;rw[dF ao];simp only[go_sem];refine bF mixed E' fun X=>?_;simp only[go_sem];refine eg X [0] 0 none [.d (.sl (some 4) (ns.map aw)),.d (i64 root),.mp [1],.vw [2] 0 W.length,.d (.bool fl)] (by simp only[go_sem]) rfl rfl ?_;simp only[go_sem];refine⟨by omega,?_⟩;rw[fZ hx];simp only[go_sem];refine⟨by omega,?_⟩;refine eg X [0] 0 none [.d (.sl (some 4) (ns.map aw)),.d (i64 root),.mp [1],.vw [2] 0 W.length,.d (.bool fl)] (by simp only[go_sem]) rfl rfl ?_;simp only[go_sem];refine⟨by omega,?_⟩;rw[fZ hx];simp only[go_sem];refine⟨by omega,?_⟩;(try refine⟨by decide +kernel,?_⟩);rw[hQ];refine⟨⟨i+1,ao⟩,by show l.length-(i+1)<l.length-i;omega,ar [([98],[30]),([97],[42])],?_⟩;simp only[go_sem];rw[aD ⟨by omega,by omega⟩,aic (show(((l.take i).map fun x=>(nd ns x.toNat).a).map i64).length<=i by simp;omega),aic (show(((l.take i).map fun x=>(nd ns x.toNat).b).map i64).length<=i by simp;omega),ah5 ao,ail,ail,ail,ail]
  and_intros<;>first|rfl|trivial
 .have bJ:i=l.length:=by omega
  subst bJ;rw[hQ,aij];simp only[go_sem];obtain⟨l1,oc⟩:∃l1,l1=l.map fun x=>(nd ns x.toNat).a:=⟨_,rfl⟩
  obtain⟨l2,oD⟩:∃l2,l2=l.map fun x=>(nd ns x.toNat).b:=⟨_,rfl⟩
  have e1:l.length=l1.length:=by rw[oc,aik]
  have e2:l.length=l2.length:=by rw[oD,aik]
  have k1:∀x∈l1,aC ns x:=fun x hx=>by
   rw[oc]at hx;obtain⟨y,hy,rfl⟩:=ah9.1 hx;exact rp y hy
  have k2:∀x∈l2,aC ns x:=fun x hx=>by
   rw[oD]at hx;obtain⟨y,hy,rfl⟩:=ah9.1 hx;exact qy y hy
  have o1:=Ed h (p:=!p) k1;have o2:=Ed h (p:=p) k2;have c1:=Ec (G:=GT t fz) ns root h (!p) l1 (by omega) k1;have c2:=Ec (G:=GT t fz) ns root h p l2 (by omega) k2;rw[<-oc,<-oD]at hR;rw[<-oc,<-oD];generalize a8 ns (!p) l1=C1 at c1 o1 hR;generalize a8 ns p l2=C2 at c2 o2 hR;have c3:=Eb (t:=t) (fz:=fz) ns root W fl C1 o1 (by omega);have w1:=yI W C1;generalize bV W C1=P1 at c3 w1 hR;have c4:=Eb (t:=t) (fz:=fz) ns root P1.2 fl C2 o2 (by omega);generalize bV P1.2 C2=P2 at c4 hR;rw[show fY C1=.agg [.bool C1.1,.bool C1.2.1,.sl none (C1.2.2.map i64)]from rfl]at c3;rw[show fY C2=.agg [.bool C2.1,.bool C2.2.1,.sl none (C2.2.2.map i64)]from rfl]at c4;unfold bO at c3 c4;refine eM E [.A [98] none (l1.map i64),.U [0] [.sl (some 4) (ns.map aw),i64 root,.unk,.unk,.unk],.B [0] (bD ns root)] [.ptr (bD ns root),.bool (!p),.sl none (l1.map i64)] c1 ?_ ?_ rfl ?_ ⟨by simp only[go_sem],by rw[ay];decide⟩ ?_
  .rintro r ae ⟨rfl,rfl⟩;exact⟨rfl,by simp[gX,Ob.flat,rD]⟩
  .unfold bD;simp only[go_sem];refine⟨_,rfl,?_⟩;simp only[go_sem];exact .inr trivial
  .unfold bD;simp only[go_sem];rw[aic (by simp;omega)]
  rintro _ _ ⟨rfl,rfl⟩;simp only[go_sem];refine jg E [49,0] none (C1.2.2.map i64) rfl rfl ?_;simp only[go_sem];refine je E _ _ _ c3 rfl (by simp only[go_sem]) ⟨by simp only[go_sem],by first|(rw[ay];decide)|(simp only[go_sem]<;>(try rw[ay])<;>decide)⟩ (by simp only[go_sem]) (by simp only[go_sem]) (by simp only[go_sem]) ?_;rintro _ _ ⟨rfl,rfl⟩;refine⟨by simp only[go_sem];try simp,?_⟩;simp only[go_sem];refine eM E [.A [97] none (l2.map i64),.U [0] [.sl (some 4) (ns.map aw),i64 root,.unk,.unk,.unk],.B [0] (bD ns root)] [.ptr (bD ns root),.bool p,.sl none (l2.map i64)] c2 ?_ ?_ rfl ?_ ⟨by simp only[go_sem],by rw[ay];decide⟩ ?_
  .rintro r ae ⟨rfl,rfl⟩;exact⟨rfl,by simp[gX,Ob.flat,rD]⟩
  .unfold bD;simp only[go_sem];refine⟨_,rfl,?_⟩;simp only[go_sem];exact .inr trivial
  .unfold bD;simp only[go_sem];rw[aic (by simp;omega)]
  rintro _ _ ⟨rfl,rfl⟩;simp only[go_sem];refine jg E [56,0] none (C2.2.2.map i64) rfl rfl ?_;simp only[go_sem];refine jh E (ar [([2],[50,6])]) _ _ _ c4 rfl (by simp only[go_sem]) ⟨by simp only[go_sem],by first|(rw[ay];decide)|(simp only[go_sem]<;>(try rw[ay])<;>decide)⟩ rfl (by simp only[go_sem]) (by simp only[go_sem]) ?_;rintro _ _ ⟨rfl,rfl⟩;refine⟨by simp only[go_sem];try simp,?_⟩;simp only[go_sem];subst hR;refine⟨_,_,[0,1,2,6],ar [([6],[57,6])],⟨rfl,rfl⟩,?_⟩;simp only[go_sem]
end Go.Proofs.YtpmniabdmbmafaaGreatDoor

namespace Go.Proofs
open Go.Shelf
def Tryz.PN:Go.Shelf.Ren:=⟨fun|10=>108|n=>n,fun|33=>174|23=>126|0=>0|4=>4|26=>9|3=>48|n=>n,fun|n=>n⟩
theorem Tryz.adp:Go.Proofs.SlLaysZ.n10 Tryz.prog Tryz.PN:={
 mixed:=by kernel_rfl
 f10:=⟨Tryz.f108.name,by decide,Tryz.func108.trans (congrArg some (by kernel_rfl))⟩
 t0:=Tryz.underlying0
 a0:=Tryz.isAgg0
 z0:=Tryz.sizeOf0
 v0:=Tryz.zeroValue0
 t4:=Tryz.underlying4
 a4:=Tryz.isAgg4
 z4:=Tryz.sizeOf4
 v4:=Tryz.zeroValue4
 t23:=Tryz.underlying126
 a23:=Tryz.isAgg126
 z23:=Tryz.sizeOf126
 v23:=Tryz.zeroValue126
 t26:=Tryz.underlying9
 a26:=Tryz.isAgg9
 z26:=Tryz.sizeOf9
 v26:=Tryz.zeroValue9
 t33:=Tryz.underlying174
 a33:=Tryz.isAgg174
 z33:=Tryz.sizeOf174
 v33:=Tryz.zeroValue174 }
def Tryz.Ee:Go.Shelf.Ren:=⟨fun|6=>64|8=>106|9=>107|11=>147|13=>78|12=>148|23=>120|24=>121|14=>170|15=>171|16=>172|17=>173|18=>174|19=>175|20=>176|21=>177|22=>178|25=>199|26=>154|27=>155|28=>200|29=>201|30=>202|31=>210|n=>n,fun|26=>9|28=>129|24=>120|0=>0|3=>3|37=>137|48=>184|50=>186|4=>4|40=>177|39=>176|45=>86|5=>5|9=>9|51=>208|55=>212|57=>234|58=>88|33=>174|n=>n,fun|n=>n⟩
theorem Tryz.adq:Go.Proofs.SlLaysZ.n6 Tryz.prog Tryz.Ee:={
 mixed:=by kernel_rfl
 f6:=⟨Tryz.f64.name,by decide,Tryz.func64.trans (congrArg some (by kernel_rfl))⟩
 f8:=⟨Tryz.f106.name,by decide,Tryz.func106.trans (congrArg some (by kernel_rfl))⟩
 f11:=⟨Tryz.f147.name,by decide,Tryz.func147.trans (congrArg some (by kernel_rfl))⟩
 t0:=Tryz.underlying0
 a0:=Tryz.isAgg0
 z0:=Tryz.sizeOf0
 v0:=Tryz.zeroValue0
 t24:=Tryz.underlying120
 a24:=Tryz.isAgg120
 z24:=Tryz.sizeOf120
 v24:=Tryz.zeroValue120
 t26:=Tryz.underlying9
 a26:=Tryz.isAgg9
 z26:=Tryz.sizeOf9
 v26:=Tryz.zeroValue9
 t28:=Tryz.underlying129
 a28:=Tryz.isAgg129
 z28:=Tryz.sizeOf129
 v28:=Tryz.zeroValue129
 i26:=by kernel_rfl }
def Tryz.adr:Go.Shelf.Ren:=⟨fun|6=>107|8=>78|9=>148|19=>120|20=>121|21=>170|22=>171|23=>172|24=>173|25=>174|26=>175|27=>176|28=>177|29=>178|36=>199|31=>154|32=>155|37=>200|38=>201|39=>202|41=>210|n=>n,fun|27=>120|29=>9|3=>3|32=>137|26=>120|0=>0|44=>184|46=>186|4=>4|36=>177|35=>176|41=>86|5=>5|9=>9|53=>208|57=>212|63=>234|64=>88|n=>n,fun|n=>n⟩
theorem Tryz.PO:Go.Proofs.SlLaysM.n6 Tryz.prog Tryz.adr:={
 mixed:=by kernel_rfl
 f6:=⟨Tryz.f107.name,by decide,Tryz.func107.trans (congrArg some (by kernel_rfl))⟩
 f8:=Tryz.func78.trans (congrArg some (by kernel_rfl))
 f9:=⟨Tryz.f148.name,by decide,Tryz.func148.trans (congrArg some (by kernel_rfl))⟩
 f19:=Tryz.func120.trans (congrArg some (by kernel_rfl))
 f20:=Tryz.func121.trans (congrArg some (by kernel_rfl))
 f21:=⟨Tryz.f170.name,by decide,Tryz.func170.trans (congrArg some (by kernel_rfl))⟩
 f22:=⟨Tryz.f171.name,by decide,Tryz.func171.trans (congrArg some (by kernel_rfl))⟩
 f23:=⟨Tryz.f172.name,by decide,Tryz.func172.trans (congrArg some (by kernel_rfl))⟩
 f24:=⟨Tryz.f173.name,by decide,Tryz.func173.trans (congrArg some (by kernel_rfl))⟩
 f25:=⟨Tryz.f174.name,by decide,Tryz.func174.trans (congrArg some (by kernel_rfl))⟩
 f26:=⟨Tryz.f175.name,by decide,Tryz.func175.trans (congrArg some (by kernel_rfl))⟩
 f27:=⟨Tryz.f176.name,by decide,Tryz.func176.trans (congrArg some (by kernel_rfl))⟩
 f28:=⟨Tryz.f177.name,by decide,Tryz.func177.trans (congrArg some (by kernel_rfl))⟩
 f29:=⟨Tryz.f178.name,by decide,Tryz.func178.trans (congrArg some (by kernel_rfl))⟩
 f31:=Tryz.func154.trans (congrArg some (by kernel_rfl))
 f32:=Tryz.func155.trans (congrArg some (by kernel_rfl))
 f36:=⟨Tryz.f199.name,by decide,Tryz.func199.trans (congrArg some (by kernel_rfl))⟩
 f37:=⟨Tryz.f200.name,by decide,Tryz.func200.trans (congrArg some (by kernel_rfl))⟩
 f38:=⟨Tryz.f201.name,by decide,Tryz.func201.trans (congrArg some (by kernel_rfl))⟩
 f39:=⟨Tryz.f202.name,by decide,Tryz.func202.trans (congrArg some (by kernel_rfl))⟩
 f41:=⟨Tryz.f210.name,by decide,Tryz.func210.trans (congrArg some (by kernel_rfl))⟩
 t0:=Tryz.underlying0
 a0:=Tryz.isAgg0
 z0:=Tryz.sizeOf0
 v0:=Tryz.zeroValue0
 t3:=Tryz.underlying3
 a3:=Tryz.isAgg3
 z3:=Tryz.sizeOf3
 v3:=Tryz.zeroValue3
 t4:=Tryz.underlying4
 a4:=Tryz.isAgg4
 z4:=Tryz.sizeOf4
 v4:=Tryz.zeroValue4
 t5:=Tryz.underlying5
 a5:=Tryz.isAgg5
 z5:=Tryz.sizeOf5
 v5:=Tryz.zeroValue5
 t9:=Tryz.underlying9
 a9:=Tryz.isAgg9
 z9:=Tryz.sizeOf9
 v9:=Tryz.zeroValue9
 t26:=Tryz.underlying120
 a26:=Tryz.isAgg120
 z26:=Tryz.sizeOf120
 v26:=Tryz.zeroValue120
 t27:=Tryz.underlying120
 a27:=Tryz.isAgg120
 z27:=Tryz.sizeOf120
 v27:=Tryz.zeroValue120
 t29:=Tryz.underlying9
 a29:=Tryz.isAgg9
 z29:=Tryz.sizeOf9
 v29:=Tryz.zeroValue9
 t32:=Tryz.underlying137
 a32:=Tryz.isAgg137
 z32:=Tryz.sizeOf137
 v32:=Tryz.zeroValue137
 t35:=Tryz.underlying176
 a35:=Tryz.isAgg176
 z35:=Tryz.sizeOf176
 v35:=Tryz.zeroValue176
 t36:=Tryz.underlying177
 a36:=Tryz.isAgg177
 z36:=Tryz.sizeOf177
 v36:=Tryz.zeroValue177
 t41:=Tryz.underlying86
 a41:=Tryz.isAgg86
 z41:=Tryz.sizeOf86
 v41:=Tryz.zeroValue86
 t44:=Tryz.underlying184
 a44:=Tryz.isAgg184
 z44:=Tryz.sizeOf184
 v44:=Tryz.zeroValue184
 t46:=Tryz.underlying186
 a46:=Tryz.isAgg186
 z46:=Tryz.sizeOf186
 v46:=Tryz.zeroValue186
 t53:=Tryz.underlying208
 a53:=Tryz.isAgg208
 z53:=Tryz.sizeOf208
 v53:=Tryz.zeroValue208
 t57:=Tryz.underlying212
 a57:=Tryz.isAgg212
 z57:=Tryz.sizeOf212
 v57:=Tryz.zeroValue212
 t63:=Tryz.underlying234
 a63:=Tryz.isAgg234
 z63:=Tryz.sizeOf234
 v63:=Tryz.zeroValue234
 t64:=Tryz.underlying88
 a64:=Tryz.isAgg88
 z64:=Tryz.sizeOf88
 v64:=Tryz.zeroValue88 }
end Go.Proofs

namespace Go.Proofs.YtpmniabdmbmafaaGreatDoor
open Go.Ab Go.Lib Go.Shelf Go.RowKit Go.Proofs
theorem ads{G}(m:D)(hm:m.ct=true):bA Tryz.prog G 65 [.d m] [] [] (fun r ae=>r=.aW 108 [.bx [1] 0]∧ae=[([1],.box [.d m])]):=by
 cases m<;>first|(simp[D.ct]at hm;done)|(
  refine eV Tryz.func65 rfl (by decide +kernel) (by simp[Tryz.ntmps65]) (aT fun E=>?_);simp only[go_sem];refine⟨_,_,[1],id,⟨rfl,rfl⟩,?_⟩
  simp only[go_sem])
def mI(l:List (List UInt8)):List (List UInt8):=l.mergeSort fun x y=>decide (x<=y)
def py(aZ:Nat)(bs:List Nat)(es:List (List UInt8×D)):D:=wj aZ bs (bT (fun l:List UInt8=>D.str l) es)
theorem adt{own:Nat->Prop}{w:World}{v:Value}{aZ:Nat}{bs:List Nat}{es:List (List UInt8×D)}(h:au w.heap own v (py aZ bs es))(ah:AX aZ bs (bT (fun l:List UInt8=>D.str l) es))(hnd:(es.map (·.1)).Nodup)(hl:es.length<=10000000)(hb:∀q∈es,q.1.length<=1000000) :
  ∃b D0,v=.map (some b)∧w.ownsMap (H:=Unit) Tryz.prog 9 (fun _=>some (.nil,[])) b es.length D0∧Maps.size D0=es.length∧(es.map (·.1)).Perm (strKeys D0):=by
 unfold py wj at h
 cases h with
 |nM b _ aS _ _ _ wR hn hs kT hk hv =>
 have bh:aS.size=es.length:=by simpa[bT]using hs.1
 have hu9:Tryz.prog.underlying 9=some .string:=by kernel_rfl
 have jN:∀i (hi:i<es.length),∃x,aS[i]?=some x∧x.key=.string ⟨es[i].1.toArray⟩:=fun i hi=>by
  have h1:=hk i (.str es[i].1) (by simp[bT,hi]);have bJ:i<aS.size:=by omega
  refine⟨aS[i],by simp[bJ],?_⟩;rw[ahY,aiH bJ,Option.getD_some]at h1;generalize aS[i].key=kk at h1;cases h1;rfl
 have jd:aS.toList.map (·.key)=(es.map (·.1)).map fun l:List UInt8=>Value.string ⟨l.toArray⟩:=by
  apply ai0 (by simp[bh]);intro i h1 h2;have hi:i<es.length:=by simpa using h2
  obtain⟨x,hx,IW⟩:=jN i hi;have bJ:i<aS.size:=by omega
  rw[aiH bJ,aiv]at hx;simp[hx,IW]
 have uR:∀i (hi:i<es.length) (bJ:i<aS.size),WideElems.rd (H:=Unit) Tryz.prog 9 (fun _=>some (.nil,[])) aS[i]=some (.string es[i].1,.nil):=fun i hi bJ=>by
  obtain⟨x,hx,IW⟩:=jN i hi;rw[aiH bJ,aiv]at hx
  have h2:keyOf Tryz.prog 9 aS[i].key=some (.string es[i].1):=by
   have:=hb _ (ah2 hi);rw[hx,IW];simp[keyOf,hu9,mapKey,maxLen,ByteArray.size];omega
  rw[WideElems.rd,h2];rfl
 have PQ:aS.toList.map (WideElems.rg (H:=Unit) Tryz.prog 9 (fun _=>some (.nil,[])))=es.map fun q=>(Lit.string q.1,DataW.nil):=by
  apply ai0 (by simp[bh]);intro i h1 h2;have hi:i<es.length:=by simpa using h2
  have bJ:i<aS.size:=by omega
  rw[ajB,ajB,Array.getElem_toList,WideElems.rg_of (uR i hi bJ)]
 refine⟨b,.map ((aS.toList.map (WideElems.rg (H:=Unit) Tryz.prog 9 (fun _=>some (.nil,[])))).foldr DataW.insert []),rfl,⟨aS,aZ,wR,⟨by rw[bh];unfold maxLen;omega,⟨fun x hx=>?_,by rw[kT];exact ah.2.1,?_⟩,fun x hx=>?_⟩,Nat.le_of_eq bh,rfl⟩,?_,?_⟩
 .exact ah.2.2 _ (by rw[<-kT];exact ah9.2 ⟨x,hx,rfl⟩)
 .rw[jd,List.Nodup,akm];refine hnd.imp fun eL e=>eL ?_;simpa using e
 .obtain⟨i,hi,rfl⟩:=aiB hx;have bJ:i<aS.size:=by simpa using hi
  exact⟨_,by rw[Array.getElem_toList];exact uR i (by omega) bJ⟩
 .rw[PQ,Maps.size_eq,length_sorted,aik]
 .rw[PQ];refine List.Perm.symm ?_;show(List.map (fun p:Lit×DataW Unit=>strOf p.1) _).Perm _;refine((WideShapes.sorted_perm _).map _).trans ?_;rw[aiV];exact .refl _
theorem adu:∀vs w,(callFunc 64 vs).run Tryz.prog w=.ok (.enter 64 vs) w:=fun vs w=>ra Tryz.func64 rfl (by decide +kernel) vs w
theorem adv{G}(adw:AnyZ.SortsIn Tryz.prog Tryz.Ee Fence.wide 3)(aZ:Nat)(bs:List Nat)(es:List (List UInt8×D))(ah:AX aZ bs (bT (fun l:List UInt8=>D.str l) es))(hnd:(es.map (·.1)).Nodup)(hl:es.length<=10000000)(hb:∀q∈es,q.1.length<=1000000) :
  bA Tryz.prog G 64 [.aW 108 [.bx [1] 0]] [([1],.box [.d (py aZ bs es)])] [1] (fun r ae=>r=.d (.sl none ((mI (es.map (·.1))).map .str))∧ae=[([1],.box [.d (py aZ bs es)])]):=by
 refine⟨adu,fun B β vs w h1 h2 h3 h4 hs=>?_⟩;have bh:vs.size=1:=by rw[hs.bE,h1];rfl
 obtain⟨v0,rfl⟩:∃v0,vs=#[v0]:=by
  rcases vs with⟨_|⟨x,_|⟨y,r⟩⟩⟩<;>simp at bh;exact⟨x,rfl⟩
 have l8:VR w.heap _ _ _ β v0 (.aW 108 [.bx [1] 0]):=hs.slots 0;have dz:(mk (dM 0 [.aW 108 [.bx [1] 0]]) [([1],.box [.d (py aZ bs es)])] [1]).hp [1]=some (.box [.d (py aZ bs es)]):=by simp[mk,aE]
 cases l8 with
 |aW _ Gl _ hcs jV =>
 obtain⟨p,rfl⟩:∃p,Gl=#[p]:=by
  rcases Gl with⟨_|⟨x,_|⟨y,r⟩⟩⟩<;>simp at hcs;exact⟨x,rfl⟩
 have jW:VR w.heap _ _ _ β p (.bx [1] 0):=jV 0 _ rfl
 cases jW with
 |bx _ _ _ _ _ Bk =>
 obtain⟨k,hk,nP,rfl⟩:=Bk _ _ dz;obtain⟨k',c,e,az,_,hc,CP,ju,Pl,ni⟩:=(hs.aO [1] _ dz).2;obtain rfl:=ais (hk.symm.trans az);have hm0:=(ni 0 _ rfl).cU;obtain⟨b,D0,hv,dS,PR,adx⟩:=adt hm0 ah hnd hl hb
 have hcell:w.cell? ⟨k.b,0,none⟩=some (.map (some b)):=by
  have hlt:0<c.size:=by rw[ju];exact Nat.zero_lt_one
  rw[ahY,aiH hlt,Option.getD_some]at hv;simp[World.cell?,hc,hlt,hv]
 have ady:=AnyZ.keys_gives (ρ:=Tryz.PN) Tryz.adp Fence.wide (4-1-1-1) trivial rfl (by omega) k.b b es.length D0 w (dK hc) hcell dS
 have aK:=AnyZ.sorted_in (ρ:=Tryz.Ee) Tryz.adq Fence.wide 4 trivial trivial trivial trivial rfl (by omega) adw (fun vs w=>ra Tryz.func107 rfl (by decide +kernel) vs w) 108 #[.pointer (some ⟨k.b,0,none⟩)] trivial (fun vs w=>ra Tryz.func108 rfl (by decide +kernel) vs w)
  _ _ (by rw[PR];unfold maxLen;omega) (by rw[PR];omega) w ady
 have adz:=(callsIn_wide (n:=0)).2 ((callsIn_wide (n:=4)).1 aK);refine adz.mono ?_;rintro _ w' ⟨v,ss,rfl,hS,hrow,ahJ,yJ⟩;have cX:=hs.grown yJ.size yJ.block (by unfold dy;rw[yJ.os,yJ.output]);have PS:(ss.mergeSort fun x y=>decide (x<=y))=mI (es.map (·.1)):=mergeSort_of_perm (hS.trans adx.symm);rw[PS]at hrow;have hlen:(mI (es.map (·.1))).length=ss.length:=by rw[<-PS,ajR]
 generalize mI (es.map (·.1))=L at hrow hlen ⊢;refine⟨v,.d (.sl none (L.map .str)),_,[1],β,rfl,⟨rfl,rfl⟩,?_⟩;refine { bE:=rfl,io:=cX.io,size:=cX.size,frame:=cX.frame,slots:=fun t=>?_,aO:=cX.aO,blocks:=cX.blocks,inj:=cX.inj,us:=cX.us,stay:=cX.stay };rw[kV,lP,xE];by_cases ht:t=0
 .subst ht;rw[if_pos rfl];refine .d _ _ ?_;show au _ _ v _;obtain⟨rfl,hz⟩|⟨g,cap,cur,rfl,ahK,adA,fL,_,adB,sS⟩:=hrow.2
  .have:L=[]:=ajk.1 (by omega);subst this;exact .lL _ _ _
  .have hLm:(L.map D.str).length=ss.length:=by rw[aik,hlen]
   rw[<-hLm];refine .sl g 0 cap cur _ _ none _ adA ?_ (by omega) (by simp[wd];omega) (fun x hx=>?_) fun i x j d hi hj=>?_
   .rintro(hA|⟨q,kq,hq,IY,yz⟩)
    .have:=B.hA g hA;rw[h2]at this;omega
    .have:=(hs.blocks q kq hq IY).1;omega
   .obtain⟨y,_,rfl⟩:=ah9.1 hx;rfl
   .rw[aii,ah4]at hi;obtain⟨y,hy,rfl⟩:=hi
    have l0:j=0:=by
     have:=(ah3.1 hj).1;simpa[D.cells]using this
    subst l0;obtain rfl:=ais hj;have bR:=(ah3.1 hy).1;have h3:=congrArg (fun l:List Value=>l[i]?) sS;have PT:i<cur.size:=by rw[adB];omega
    have IZ:i<ss.length*1:=by omega
    simp only[ai4,if_pos IZ,aiI,aiH PT,aii,hy,Option.map_some,aiv]at h3
    have h4:cur.getD (0+i*wd none+0) undef=encStr y:=by
     rw[show 0+i*wd none+0=i by simp[wd],ahY,aiH PT,Option.getD_some,h3]
    rw[h4];exact .str y
 .rw[if_neg ht];exact .un _
theorem adC:AnyZ.SortsIn Tryz.prog Tryz.Ee Fence.wide 3 :=
 ⟨fun ff off cap ss W hH hblk bh=>callsIn_wide.2 (AnyM.slices_Sort_string Tryz.PO ff off cap ss W hH hblk bh),fun p cap W=>callsIn_wide.2 (AnyM.slices_Sort_string_none Tryz.PO p cap W)⟩
theorem adD{G}(aZ:Nat)(bs:List Nat)(es:List (List UInt8×D))(ah:AX aZ bs (bT (fun l:List UInt8=>D.str l) es))(hnd:(es.map (·.1)).Nodup)(hl:es.length<=10000000)(hb:∀q∈es,q.1.length<=1000000) :
 bA Tryz.prog G 64 [.aW 108 [.bx [1] 0]] [([1],.box [.d (py aZ bs es)])] [1] (fun r ae=>r=.d (.sl none ((mI (es.map (·.1))).map .str))∧ae=[([1],.box [.d (py aZ bs es)])]):=adv adC aZ bs es ah hnd hl hb
end Go.Proofs.YtpmniabdmbmafaaGreatDoor

namespace Go.Ab
section
variable {P:Program}{cf:Cf}{s:St}{κ:Type}[DecidableEq κ]{ke:κ->D}{kv:κ->Value}
theorem adE{mt kt et:Nat}{x y:Operand}{d:Nat}{ty:TypeId}{ps:String}{af:Array Edge}(p:Name)(aZ:Nat)(bs:List Nat)(es:List (D×AV))(ks:List κ)(key:κ)(i:Nat)(z:D)(v:AV)(hm:(P.ti mt).k=.map kt et)(K:j3 P kt ke kv)(hz:qf P et=some z)(hd:d<cf.n)
  (hx:ev s x=.ma p) (hy:ev s y=.d (ke key)) (hp:s.hp p=some (.mapA aZ bs es)) (gS:es.map (·.1)=ks.map ke) (hi:eU ks key=some i) (hv:es[i]?=some (ke key,v)) :
  QE P cf { dst:=some d,op:=.lookup mt x y false,type:=ty,pos:=ps,after:=af,guard:=none } s v ([p],cm):=by
 refine DG (by simp) (fun t' ht=>by cases ht;exact hd) fun B s' β a w hh he hs=>?_;have jX:=hs.ev x;rw[he x (by simp[Op.operands]),hx]at jX;have iN:=hs.ev y;rw[he y (by simp[Op.operands]),hy]at iN;have iN:=K.val iN.cU;have ae:=(hh p (by simp)).trans hp;generalize hval:a.eval x=xv at jX
 cases jX with
 |ma _ _ hn h1 h =>
   obtain⟨k,hk,rfl⟩:=h _ _ _ ae;obtain⟨k',aS,az,hb,⟨bh,sH,kT⟩,gR⟩:=(hs.aO p _ ae).2;obtain rfl:=ais (hk.symm.trans az);have oF:=DL K gS bh gR;have hf:=K.find key aS.toList ks w oF;rw[hi]at hf;obtain⟨en,h2,h3,h4⟩:=gR i _ hv;obtain⟨zv,yd,_⟩:=CT hz;refine⟨en.val,?_,h4⟩;simp only[execOp,hval,iN,Instr.lookup,Sem.run_bind,run_underlying (p6 hm),Result.andThen_ok,MapKept.run_getObj_map hb,K.fk,Sem.run_pure];rw[hf];simp[h2]
theorem adF{mt kt et:Nat}{x y:Operand}{d:Nat}{ty:TypeId}{ps:String}{af:Array Edge}(p:Name)(aZ:Nat)(bs:List Nat)(es:List (D×AV))(ks:List κ)(key:κ)(z:D)(hm:(P.ti mt).k=.map kt et)(K:j3 P kt ke kv)(hz:qf P et=some z)(hd:d<cf.n)
  (hx:ev s x=.ma p) (hy:ev s y=.d (ke key)) (hp:s.hp p=some (.mapA aZ bs es)) (gS:es.map (·.1)=ks.map ke) (hi:eU ks key=none) :
  QE P cf { dst:=some d,op:=.lookup mt x y false,type:=ty,pos:=ps,after:=af,guard:=none } s (.d z) ([p],cm):=by
 refine DG (by simp) (fun t' ht=>by cases ht;exact hd) fun B s' β a w hh he hs=>?_;have jX:=hs.ev x;rw[he x (by simp[Op.operands]),hx]at jX;have iN:=hs.ev y;rw[he y (by simp[Op.operands]),hy]at iN;have iN:=K.val iN.cU;have ae:=(hh p (by simp)).trans hp;generalize hval:a.eval x=xv at jX
 cases jX with
 |ma _ _ hn h1 h =>
   obtain⟨k,hk,rfl⟩:=h _ _ _ ae;obtain⟨k',aS,az,hb,⟨bh,sH,kT⟩,gR⟩:=(hs.aO p _ ae).2;obtain rfl:=ais (hk.symm.trans az);have oF:=DL K gS bh gR;have hf:=K.find key aS.toList ks w oF;rw[hi]at hf;obtain⟨zv,yd,qg⟩:=CT hz;refine⟨zv,?_,.d _ _ (qg _ _)⟩;simp only[execOp,hval,iN,Instr.lookup,Sem.run_bind,run_underlying (p6 hm),Result.andThen_ok,MapKept.run_getObj_map hb,K.fk,Sem.run_pure];rw[hf];simp[yd]
theorem adG{mt kt et:Nat}{x y z:Operand}{ty:TypeId}{ps:String}{af:Array Edge}(p:Name)(aZ:Nat)(bs:List Nat)(es:List (D×AV))(ks:List κ)(key:κ)(i:Nat)(v0 v:AV)(hm:(P.ti mt).k=.map kt et)(K:j3 P kt ke kv)
  (hx:ev s x=.ma p) (hy:ev s y=.d (ke key)) (hz:ev s z=v) (hp:s.hp p=some (.mapA aZ bs es)) (gS:es.map (·.1)=ks.map ke) (hi:eU ks key=some i) (hv:es[i]?=some (ke key,v0)) :
  QE P cf { dst:=none,op:=.mapUpdate mt x y z,type:=ty,pos:=ps,after:=af,guard:=none } s .un ([p],⟨[(p,some (.mapA aZ bs (es.set i (ke key,v))))],[]⟩):=by
 intro s' _ hh iK B hB ds β a w ak hs Q';have jX:=hs.ev x;rw[iK x (by simp[Op.operands]),hx]at jX;have iN:=hs.ev y;rw[iK y (by simp[Op.operands]),hy]at iN;have iN:=K.val iN.cU;have qh:=hs.ev z;rw[iK z (by simp[Op.operands]),hz]at qh;have ae:=(hh p (by simp)).trans hp;generalize hval:a.eval x=xv at jX
 cases jX with
 |ma _ _ hn h1 h =>
   obtain⟨k,hk,rfl⟩:=h _ _ _ ae;obtain⟨k',aS,az,hb,⟨bh,sH,kT⟩,gR⟩:=(hs.aO p _ ae).2;obtain rfl:=ais (hk.symm.trans az);have oF:=DL K gS bh gR;have hf:=K.find key aS.toList ks w oF;rw[hi]at hf;obtain⟨en,h2,h3,h4⟩:=gR i _ hv;have mB:=K.val h3;have sJ:aS.toList[i]?=some en:=by simpa using h2
   have aK:(execOp a.eval { dst:=none,op:=.mapUpdate mt x y z,type:=ty,pos:=ps,after:=af,guard:=none }).run P w=.ok .skip { w with heap:=w.heap.setIfInBounds k.b (.map (aS.modify i fun e=>{ e with key:=kv key,val:=a.eval z }) aZ) }:=by
    simp only[execOp,hval,iN,Instr.mapUpdate,Sem.run_bind,run_underlying (p6 hm),Result.andThen_ok,MapKept.run_getObj_map hb,K.fk,Sem.run_pure];rw[hf];simp[setObj,Sem.run,Instr.keyThatStays,h2,mB,K.same,hb]
   have bm:=(hs.modify (p:=p) (ob':=.mapA aZ bs (es.set i (ke key,v))) ae trivial (w':={ w with heap:=w.heap.setIfInBounds k.b (.map (aS.modify i fun e=>{ e with key:=kv key,val:=a.eval z }) aZ) }) rfl (by simp)
    (fun b' fg=>by
     have:b'≠k.b:=fg k hk
     simp[Ne.symm this]) (fun q8 sC=>by
     refine⟨k,aS.modify i fun e=>{ e with key:=kv key,val:=a.eval z },hk,by simp[dK hb],⟨by simpa using bh,Mg sH _ _ fun _=>rfl,(abu i (fun e=>{ e with key:=kv key,val:=a.eval z }) fun _=>rfl).trans kT⟩,fun j x' hj=>?_⟩;by_cases dW:i=j
     .subst dW;rw[aiC (ah3.1 hv).1]at hj;cases hj;exact⟨{ en with key:=kv key,val:=a.eval z },by rw[ajg,if_pos rfl,h2];rfl,K.rep _ _ _,q8 _ _ qh⟩
     .rw[aiy dW]at hj;obtain⟨Ao,g1,g2,g3⟩:=gR j x' hj
      exact⟨Ao,by rw[ajg,if_neg dW];exact g1,sC _ _ g2,q8 _ _ g3⟩)).1
   refine iZ (by simp) aK (.inr ⟨rfl,rfl⟩) ⟨ak,β,?_⟩;rw[DH];exact bm
theorem adH{mt kt et:Nat}{x y z:Operand}{ty:TypeId}{ps:String}{af:Array Edge}(p:Name)(aZ:Nat)(bs:List Nat)(es:List (D×AV))(ks:List κ)(key:κ)(v:AV)(hm:(P.ti mt).k=.map kt et)(K:j3 P kt ke kv)
  (hx:ev s x=.ma p) (hy:ev s y=.d (ke key)) (hz:ev s z=v) (hp:s.hp p=some (.mapA aZ bs es)) (gS:es.map (·.1)=ks.map ke) (hi:eU ks key=none) :
  QE P cf { dst:=none,op:=.mapUpdate mt x y z,type:=ty,pos:=ps,after:=af,guard:=none } s .un ([p],⟨[(p,some (.mapA (aZ+1) (bs++[aZ]) (es++[(ke key,v)])))],[]⟩):=by
 intro s' _ hh iK B hB ds β a w ak hs Q';have jX:=hs.ev x;rw[iK x (by simp[Op.operands]),hx]at jX;have iN:=hs.ev y;rw[iK y (by simp[Op.operands]),hy]at iN;have iN:=K.val iN.cU;have qh:=hs.ev z;rw[iK z (by simp[Op.operands]),hz]at qh;have ae:=(hh p (by simp)).trans hp;generalize hval:a.eval x=xv at jX
 cases jX with
 |ma _ _ hn h1 h =>
   obtain⟨k,hk,rfl⟩:=h _ _ _ ae;obtain⟨k',aS,az,hb,⟨bh,sH,kT⟩,gR⟩:=(hs.aO p _ ae).2;obtain rfl:=ais (hk.symm.trans az);have oF:=DL K gS bh gR;have hf:=K.find key aS.toList ks w oF;rw[hi]at hf
   have aK:(execOp a.eval { dst:=none,op:=.mapUpdate mt x y z,type:=ty,pos:=ps,after:=af,guard:=none }).run P w=.ok .skip { w with heap:=w.heap.setIfInBounds k.b (.map (aS.push { key:=kv key,val:=a.eval z,born:=aZ }) (aZ+1)) }:=by
    simp only[execOp,hval,iN,Instr.mapUpdate,Sem.run_bind,run_underlying (p6 hm),Result.andThen_ok,MapKept.run_getObj_map hb,K.fk,Sem.run_pure];rw[hf];simp[setObj,Sem.run,hb]
   have bm:=(hs.modify (p:=p) (ob':=.mapA (aZ+1) (bs++[aZ]) (es++[(ke key,v)])) ae trivial (w':={ w with heap:=w.heap.setIfInBounds k.b (.map (aS.push { key:=kv key,val:=a.eval z,born:=aZ }) (aZ+1)) }) rfl (by simp)
    (fun b' fg=>by
     have:b'≠k.b:=fg k hk
     simp[Ne.symm this]) (fun q8 sC=>by
     refine⟨k,aS.push { key:=kv key,val:=a.eval z,born:=aZ },hk,by simp[dK hb],⟨by simp[bh],Mf sH _ _,by simp[kT]⟩,fun j x' hj=>?_⟩;by_cases hlt:j<es.length
     .rw[aih hlt]at hj;obtain⟨Ao,g1,g2,g3⟩:=gR j x' hj;exact⟨Ao,by rw[akc,if_neg (by omega)];exact g1,sC _ _ g2,q8 _ _ g3⟩
     .have oh:=(ah3.1 hj).1;rw[ah7,List.length_singleton]at oh;have:j=es.length:=by omega
      subst this;rw[aim (by omega),aku]at hj;cases hj
      exact⟨_,by rw[akc,if_pos bh.symm],K.rep _ _ _,q8 _ _ qh⟩)).1
   refine iZ (by simp) aK (.inr ⟨rfl,rfl⟩) ⟨ak,β,?_⟩;rw[DH];exact bm
end
def AV.rN(p:Name)(t:Nat):AV->AV
 |.ma q=>if q=p then .mp [t]else .ma q
 |x=>x
theorem aj.adI{B:Base}{β:Name->Option aU}{s:St}{tm:Array Value}{w:World}(h:aj B β s tm w){t:Nat}(ht:t∉s.used){p:Name}{aZ:Nat}{bs:List Nat}{es:List (D×D)}(hp:s.hp p=some (.mapA aZ bs (es.map fun x=>(x.1,.d x.2)))) :
  ∃β',aj B β' { ((s.set p none).add t (.map es))with fr:=fun i=>(s.fr i).rN p t } tm w:=by
 obtain⟨k,aS,a1,a2,⟨a3,a4,a5⟩,a6⟩:=(h.aO p _ hp).2
 have h1:=h.Oq ht hp a1 (.map es) k.o (w':=w) rfl rfl (fun _ _=>rfl) (fun β' hβ hv=>by
  refine⟨_,aS,aZ,hβ,a2,⟨by simpa using a3,a4⟩,fun i x hi=>?_⟩;obtain⟨en,b1,b2,b3⟩:=a6 i (x.1,.d x.2) (by rw[aii,hi];rfl)
  exact⟨en,b1,(hv _ _ (.d _ _ b2)).cU,(hv _ _ b3).cU⟩)
 refine⟨_,{ bE:=h1.bE,io:=h1.io,size:=h1.size,frame:=h1.frame,slots:=fun i=>?_,aO:=h1.aO,blocks:=h1.blocks,inj:=h1.inj,us:=h1.us,stay:=h1.stay }⟩;have h2:=h1.slots i;have h3:=h.slots i;have e0:((s.set p none).add t (.map es)).fr i=s.fr i:=rfl;rw[e0]at h2;show VR _ _ _ _ _ _ ((s.fr i).rN p t);generalize tm.getD i undef=v at h2 h3 ⊢
 cases hx:s.fr i with
 |ma q =>
   rw[hx]at h2 h3;by_cases e:q=p
   .subst e
    obtain⟨k',az,hval⟩:∃k',β q=some k'∧v=.map (some k'.b):=by
     cases h3 with
     |ma _ _ _ _ hx=>exact hx _ _ _ hp
    rw[a1]at az;cases az;simp only[AV.rN,if_pos];rw[hval];refine .mp _ _ ⟨t,[],rfl,ah0⟩ rfl fun es' qi=>?_;exact⟨_,by simp[aP],rfl⟩
   .simp only[AV.rN,if_neg e];exact h2
 |_=>rw[hx]at h2;exact h2
theorem PU(p:Name)(n:Nat)(t:Nat):∀l:List (Nat×AV),(aE .un l t).rN p n=aE .un (l.map fun q=>(q.1,q.2.rN p n)) t
 |[]=>rfl
 |q::r=>by
   simp only[aE,aid];split
   .rfl
   .exact PU p n t r
theorem adJ{P:Program}{cf:Cf}{Q:Exit->St->Prop}{s:St}{k:List It}(E:bB P cf Q){d:Option Nat}{op:Op}{ty:TypeId}{ps:String}{af:Array Edge}{X:Type}(S':X->St)(hs:∀B β tm w,cf.fits B->aj B β s tm w->∃x β',aj B β' (S' x) tm w)
  (h:∀x,E.aX { dst:=d,op:=op,type:=ty,pos:=ps,after:=af,guard:=none } (S' x) k (cR P.ti cf.n op d (S' x))) :
  E.aX { dst:=d,op:=op,type:=ty,pos:=ps,after:=af,guard:=none } s k .no:=by
 rw[gx];intro B hB ds β a w' ak l8 Q';obtain⟨x,β',bc⟩:=hs B β _ _ hB l8;have h1:=h x;rw[E.eE]at h1;exact sG (o:={ dst:=d,op:=op,type:=ty,pos:=ps,after:=af,guard:=none }) rfl h1 B hB ds β' a w' ak bc Q'
end Go.Ab

namespace Go.Proofs.YtpmniabdmbmafaaGreatDoor
open Go.Ab
variable {t:TypeId}{fz:Nat×Nat}
def yK(xs ys:List (Option (List D))):Name->Option (W×List D)
 |[a,i]=>if a=202 then(xs.getD i none).map fun z=>(none,z)else if a=203 then(ys.getD i none).map fun z=>(none,z)else none
 |_=>none
theorem getD_some{xs:List (Option (List D))}{i:Nat}{z:List D}(h:xs.getD i none=some z):xs[i]?=some (some z):=by
 rw[ahX]at h
 cases hx:xs[i]? with
 |none=>rw[hx]at h;cases h
 |some o=>rw[hx]at h;rw[<-h];rfl
theorem adK{xs ys:List (Option (List D))}{q:Name}{x:W×List D}(h:yK xs ys q=some x):(q,Ob.arr x.1 x.2)∈rM xs ys:=by
 unfold yK at h;split at h
 .split at h
  .rename_i e;subst e;obtain⟨z,hz,rfl⟩:=ah4.1 h;exact adg (getD_some hz)
  .split at h
   .rename_i e;subst e;obtain⟨z,hz,rfl⟩:=ah4.1 h;exact adh (getD_some hz)
   .cases h
 .cases h
theorem adL{s:St}{g:Name->Option (W×List D)}{q:Name}{o:Ob}(hg:g q=none)(h:s.hp q=some o):(s.e8 g).hp q=some (o.e8 g):=by
 show(match g q with|some _=>none|none=>(s.hp q).map (Ob.e8 g))=_;rw[hg,h];rfl
end Go.Proofs.YtpmniabdmbmafaaGreatDoor

namespace Go.Proofs.YtpmniabdmbmafaaGreatDoor
open Go.Ab
variable {t:TypeId}{fz:Nat×Nat}
abbrev FT:=List (List UInt8×List Int)
def mt(F:List (List UInt8×List Int))(vs:List AV):List (D×AV):=(F.map fun q=>D.str q.1).zip vs
theorem Eg{F:List (List UInt8×List Int)}{vs:List AV}(h:vs.length=F.length):(mt F vs).map (·.1)=(F.map (·.1)).map fun l:List UInt8=>D.str l:=by
 unfold mt;rw[List.map_fst_zip (by simp[h]),aiV];rfl
theorem Bm(F:List (List UInt8×List Int))(vs:List AV)(τ:Name->Name):(mt F vs).map (fun q=>(q.1,q.2.ren τ))=mt F (bZ τ vs):=by
 unfold mt;rw[adn,List.zip_map_right];rfl
theorem I0{F:List (List UInt8×List Int)}{vs:List AV}{m:Nat}{key:List UInt8}{L:List Int}{v:AV}(h1:F[m]?=some (key,L))(h2:vs[m]?=some v):(mt F vs)[m]?=some (D.str key,v):=by
 unfold mt;rw[ajU];exact⟨by rw[aii,h1];rfl,h2⟩
theorem adM{F:List (List UInt8×List Int)}{vs:List AV}{m:Nat}{key:List UInt8}{L:List Int}{v:AV}(h1:F[m]?=some (key,L)):(mt F vs).set m (D.str key,v)=mt F (vs.set m v):=by
 unfold mt;apply aiY;intro i;by_cases e:m=i
 .subst e;by_cases hl:m<((F.map fun q=>D.str q.1).zip vs).length
  .rw[aiC hl];symm;rw[ajU];have:m<vs.length:=by simp at hl;omega
   exact⟨by rw[aii,h1];rfl,aiC this⟩
  .rw[aiE (by simpa using aju hl),aiE (by simpa using aju hl)]
 .rw[aiy e]
  have:((F.map fun q=>D.str q.1).zip vs)[i]?=((F.map fun q=>D.str q.1).zip (vs.set m v))[i]?:=by
   cases h3:((F.map fun q=>D.str q.1).zip vs)[i]? with
   |none =>
     symm;rw[akL]at h3 ⊢;simpa using h3
   |some z =>
     rw[ajU]at h3;symm;rw[ajU];exact⟨h3.1,by rw[aiy e];exact h3.2⟩
  exact this
theorem adN{F:List (List UInt8×List Int)}{vs:List AV}{m:Nat}{key:List UInt8}{L M:List Int}(h1:F[m]?=some (key,L)):mt (F.set m (key,M)) vs=mt F vs:=by
 unfold mt;congr 1;apply aiY;intro i;rw[aii,aii];by_cases e:m=i
 .subst e;rw[aiC (ah3.1 h1).1,h1];rfl
 .rw[aiy e]
theorem adO{F:List (List UInt8×List Int)}{vs:List AV}{key:List UInt8}{M:List Int}{v:AV}(h:vs.length=F.length):mt F vs++[(D.str key,v)]=mt (F++[(key,M)]) (vs++[v]):=by
 unfold mt;rw[ail,List.zip_append (by simp[h])];rfl
theorem Bn{F:List (List UInt8×List Int)}{vs:List AV}{u:List Nat}(h:dU u vs=true):(mt F vs).all (fun q=>q.2.bn u)=true:=by
 rw[aio];intro q hq;have:=(List.of_mem_zip (a:=q.1) (b:=q.2) hq).2
 have key:∀(l:List AV),dU u l=true->∀x∈l,x.bn u=true:=by
  intro l
  induction l with
  |nil=>intro _ x hx;simp at hx
  |cons y r ih =>
    intro hl x hx;simp only[dU,aia]at hl;rcases ah6.1 hx with rfl|hx
    .exact hl.1
    .exact ih hl.2 x hx
 exact key vs h _ this
theorem Eh{key:List UInt8}:∀{ks:List (List UInt8)} {m:Nat},eU ks key=some m->ks[m]?=some key
 |[],m,h=>by simp[eU]at h
 |x::r,m,h=>by
   simp only[eU]at h;split at h
   .rename_i e;cases h;rw[e];rfl
   .cases hr:eU r key with
    |none=>rw[hr]at h;cases h
    |some n =>
      rw[hr]at h;cases h;have:=Eh hr;simpa using this
theorem I1{key:List UInt8}:∀{ks:List (List UInt8)},eU ks key=none->key∉ks
 |[],_=>by simp
 |x::r,h=>by
   simp only[eU]at h;split at h
   .cases h
   .rename_i e
    cases hr:eU r key with
    |some n=>rw[hr]at h;cases h
    |none =>
      intro hm;rcases ah6.1 hm with rfl|hm
      .exact e rfl
      .exact I1 hr hm
def dI(F:FT):List (Option (List D)):=F.map fun q=>some (q.2.map i64)
theorem adP{F:FT}{m:Nat}{key:List UInt8}{L:List Int}(h:F[m]?=some (key,L)):(dI F)[m]?=some (some (L.map i64)):=by simp[dI,h]
theorem I2{F:FT}{m:Nat}{key:List UInt8}{L:List Int}:dI (F.set m (key,L))=(dI F).set m (some (L.map i64)):=by simp[dI,ajv]
theorem adQ{F:FT}{m:Nat}{key:List UInt8}{L:List Int}:(dI (F.set m (key,L))).set m none=(dI F).set m none:=by rw[I2,akP]
def nB(F:FT)(k:List UInt8)(v:Int):FT:=match eU (F.map (·.1)) k with
 |some m=>F.set m (k,(F.getD m ([],[])).2++[v])
 |none=>F++[(k,[v])]
def kK(F:FT)(l:List cn):FT:=l.foldl (fun F q=>nB F q.1 q.2) F
def kL(ns:List TN)(l:List Int):FT:=l.foldl (fun F x=>kK F (nd ns x.toNat).l) []
def Ei(F:FT)(n:Nat):Prop:=∀q∈F,q.2.length<=n
theorem adR{F:FT}{n:Nat}(h:Ei F n)(k:List UInt8)(v:Int):Ei (nB F k v) (n+1):=by
 unfold nB;split
 .rename_i m hm;intro q hq;rcases ajy hq with hq|rfl
  .exact ajh (h q hq)
  .simp only[ah7,List.length_singleton];by_cases hl:m<F.length
   .rw[ahX,aib hl,Option.getD_some];exact Nat.succ_le_succ (h _ (ah2 hl))
   .rw[ahX,aiE (by omega)];simp
 .intro q hq;rcases ah1.1 hq with hq|hq
  .exact ajh (h q hq)
  .rw[ahZ.1 hq];simp
def gZ(ns:List TN)(root:Int)(W:List aB)(fl:Bool)(F:FT)(aZ:Nat)(bs:List Nat)(r:List (Name×Ob)):List (Name×Ob) :=
 ([0],.box [.d (.sl (some 4) (ns.map aw)),.d (i64 root),.mp [1],.vw [2] 0 W.length,.d (.bool fl)])::([1],.map (bT (fun l:List UInt8=>D.str l) (jP 0 W)))::([2],.arr (some 3) (W.map fY))::([201],.mapA aZ bs (mt F (b9 203 0 (dI F))))::r
theorem Bo{U:List Nat}{τ:Name->Name}(ρ:Name->Name){s:St}{fr:List (Nat×AV)}{hp:List (Name×Ob)}{ys:List (Option (List D))}{u:List Nat}(h1:my τ u s fr∧nV τ u s hp)
  (h3:∀i zs,ys[i]?=some (some zs)->s.hp (τ [203,i])=some (.arr none zs)∧ρ (τ [203,i])=[203,i])
  (hu:(u.contains 202&&u.contains 203)=true) (hU:(U.all fun x=>u.contains x)=true) (hU3:U.contains 203=false) (hn:(hp.map (·.1)).Nodup) (hh:(hp.all fun q=>s9 q.1)=true) (hρ:hp.map (fun q=>ρ (τ q.1))=hp.map (·.1)) (ah:qb U τ hp):cF U τ s fr (hp++fD 203 ys []) u:=by
 have h:=adf (xs:=[]) ρ h1 (fun i zs h=>by simp at h) h3 hu hn hh hρ;exact⟨h.1,h.2.1,h.2.2.1,hU,Ih ah (abz hU3 trivial)⟩
structure EdX(ns:List TN)(l:List Int) where
 i:Nat
 F:FT
 aZ:Nat
 bs:List Nat
 hi:i<=l.length
 hF:F=kL ns (l.take i)
 kT:bs.length=F.length
 hl:Ei F (i*1000)
structure EdY(F0:FT)(fs:List cn)(n0:Nat) where
 j:Nat
 F:FT
 aZ:Nat
 bs:List Nat
 hj:j<=fs.length
 hF:F=kK F0 (fs.take j)
 kT:bs.length=F.length
 hl:Ei F (n0+j)
theorem adS{F0:FT}{fs:List cn}{j:Nat}(h:j<fs.length):kK F0 (fs.take (j+1))=nB (kK F0 (fs.take j)) fs[j].1 fs[j].2:=by
 rw[ah5 h,kK,ajL];rfl
theorem adT{ns:List TN}{l:List Int}{i:Nat}(h:i<l.length):kL ns (l.take (i+1))=kK (kL ns (l.take i)) (nd ns l[i].toNat).l:=by
 rw[ah5 h,kL,ajL];rfl
def qF(l:List Int)(p wh:Bool)(i:Nat):List (Nat×AV):=[(0,.bx [0] 0),(1,.d (.bool p)),(2,.d (.sl none (l.map i64))),(3,.d (.bool wh)),(9,.ma [201]),(18,.d (.sl none (l.map i64))),(19,.d (i64 l.length)),(20,.d (i64 i))]
def vd(l:List Int)(p wh:Bool)(i:Nat)(fs:List cn)(j:Nat):List (Nat×AV):=qF l p wh i++[(32,.d (.sl (some 2) (fs.map bf))),(33,.d (i64 fs.length)),(34,.d (i64 j))]
def yL(ns:List TN)(root:Int)(W:List aB)(fl:Bool)(F:FT)(aZ:Nat)(bs:List Nat)(m:Nat)(q:cn)(Lx:List Int):List (Name×Ob) :=
 [([0],.box [.d (.sl (some 4) (ns.map aw)),.d (i64 root),.mp [1],.vw [2] 0 W.length,.d (.bool fl)]),([1],.map (bT (fun l:List UInt8=>D.str l) (jP 0 W))),([2],.arr (some 3) (W.map fY)),([201],.mapA aZ bs (mt F ((b9 203 0 ((dI F).set m none)).set m (.vw [99] 0 Lx.length)))),([13],.box [.d (.str q.1),.d (i64 q.2)]),([99],.arr none (Lx.map i64))]
theorem adU{fs:List cn}{j:Nat}(h:j<fs.length):(fs.map bf).getD j .aY=.agg [.str fs[j].1,i64 fs[j].2]:=by simp[h,bf]
def jz(F:FT):List (List UInt8×D):=F.map fun q=>(q.1,.sl none (q.2.map i64))
theorem I3(F:FT):(mt F (b9 203 0 (dI F))).map (fun x=>(x.1,x.2.e8 (yK [] (dI F))))=(bT (fun l:List UInt8=>D.str l) (jz F)).map fun x=>(x.1,.d x.2):=by
 apply aiY;intro i;have hv:(b9 203 0 (dI F)).length=F.length:=by rw[qw];simp[dI]
 cases hF:F[i]? with
 |none =>
   have h1:=akL.1 hF;rw[aiE (by simp[mt,hv];exact h1),aiE (by simp[bT,jz];exact h1)]
 |some q =>
   have hg:yK [] (dI F) [203,0+i]=some (none,q.2.map i64):=by
    simp[yK,dI,hF]
   have hvi:(b9 203 0 (dI F))[i]?=some (.vw [203,0+i] 0 q.2.length):=by
    rw[rC];simp[dI,hF]
   rw[aii,I0 (F:=F) (key:=q.1) (L:=q.2) hF hvi];rw[aiD]at hg;simp[bT,jz,hF,AV.e8,hg,aic]
theorem adV(fr:List (Nat×AV))(hp:List (Name×Ob))(u:List Nat)(p:Name)(n:Nat)(es:List (D×D)):({ (((mk fr hp u).set p none).add n (.map es))with fr:=fun i=>((mk fr hp u).fr i).rN p n }:St)=((mk (fr.map fun q=>(q.1,q.2.rN p n)) hp u).set p none).add n (.map es):=by
 show(⟨fun i=>(aE .un fr i).rN p n,_,_⟩:St)=_;simp only[PU];rfl
structure tu(P:List UInt8->Prop)(R:Int->Prop)(n:Nat)(F:FT):Prop where
 nd:(F.map (·.1)).Nodup
 ky:∀q∈F,P q.1
 vl:∀q∈F,∀x∈q.2,R x
 ln:F.length<=n
theorem tu.add{P:List UInt8->Prop}{R:Int->Prop}{n:Nat}{F:FT}(h:tu P R n F){k:List UInt8}{v:Int}(hk:P k)(hv:R v):tu P R (n+1) (nB F k v):=by
 unfold nB
 cases hm:eU (F.map (·.1)) k with
 |none =>
   simp only;refine⟨?_,fun q hq=>?_,fun q hq=>?_,by simp;exact h.ln⟩
   .rw[ail,aiZ];refine⟨h.nd,by simp,fun a ha b hb e=>I1 hm ?_⟩;rw[List.map_singleton,ahZ]at hb;have e2:a=k:=e.trans hb;exact e2▸ha
   .rcases ah1.1 hq with hq|hq
    .exact h.ky q hq
    .rw[ahZ.1 hq];exact hk
   .rcases ah1.1 hq with hq|hq
    .exact h.vl q hq
    .rw[ahZ.1 hq];intro x hx;rw[ahZ.1 hx];exact hv
 |some m =>
   simp only;have hg:=Eh hm;rw[aii,ah4]at hg;obtain⟨⟨q1,q2⟩,h1,h2⟩:=hg;simp only at h2;subst h2;have mW:m<F.length:=(ah3.1 h1).1;have sq:=aiz h1;rw[ahX,h1,Option.getD_some];refine⟨?_,fun q hq=>?_,fun q hq=>?_,by rw[ai1];exact ajh h.ln⟩
   .have:(F.set m (q1,q2++[v])).map (·.1)=F.map (·.1):=by
     rw[ajv];apply aiY;intro j;by_cases e:m=j
     .subst e;rw[aiC (by simpa using mW),aii,h1];rfl
     .rw[aiy e]
    rw[this];exact h.nd
   .rcases ajy hq with hq|rfl
    .exact h.ky q hq
    .exact hk
   .rcases ajy hq with hq|rfl
    .exact h.vl q hq
    .intro x hx;rcases ah1.1 hx with hx|hx
     .exact h.vl _ sq x hx
     .rw[ahZ.1 hx];exact hv
theorem tu.DY{P:List UInt8->Prop}{R:Int->Prop}:∀{fs:List cn} {n:Nat} {F:FT},tu P R n F->(∀q∈fs,P q.1∧R q.2)->tu P R (n+fs.length) (kK F fs)
 |[],_,_,h,_=>h
 |q::r,n,F,h,hf=>by
   have h1:=(h.add (hf q ah0).1 (hf q ah0).2).DY (fs:=r) fun x hx=>hf x (ah8 _ hx);rw[List.length_cons,show n+(r.length+1)=n+1+r.length by omega];exact h1
theorem I4{P:List UInt8->Prop}{R:Int->Prop}{ns:List TN}{l:List Int}(h:∀x∈l,(nd ns x.toNat).l.length<=1000∧∀q∈(nd ns x.toNat).l,P q.1∧R q.2):tu P R (l.length*1000) (kL ns l):=by
 have key:∀(l:List Int) (n:Nat) (F:FT),(∀x∈l,(nd ns x.toNat).l.length<=1000∧∀q∈(nd ns x.toNat).l,P q.1∧R q.2)->tu P R n F->tu P R (n+l.length*1000) (l.foldl (fun F x=>kK F (nd ns x.toNat).l) F):=by
  intro l
  induction l with
  |nil=>intro n F _ hF;simpa using hF
  |cons x r ih =>
    intro n F hl hF;have h0:=hl x ah0;have h1:=ih (n+(nd ns x.toNat).l.length) _ (fun y hy=>hl y (ah8 _ hy)) (hF.DY h0.2);rw[List.foldl_cons];exact⟨h1.nd,h1.ky,h1.vl,aix h1.ln (by rw[List.length_cons];have:=h0.1;omega)⟩
 have:=key l 0 [] h ⟨by simp,by simp,by simp,aie _⟩;rw[aiD]at this;exact this
theorem PV(F:FT):(jz F).map (·.1)=F.map (·.1):=by simp[jz,Function.comp_def]
def eX(F:FT)(k:List UInt8):List Int:=match F.find? fun q=>q.1 == k with
 |some q=>q.2
 |none=>[]
theorem PW(k:List UInt8):∀(F:FT),k∈F.map (·.1)->fP (jz F) k=some (.sl none ((eX F k).map i64))
 |[],h=>by simp at h
 |q::r,h=>by
   show fP ((q.1,.sl none (q.2.map i64))::jz r) k=_;rw[fP];by_cases e:q.1=k
   .rw[if_pos e];simp[eX,e]
   .rw[if_neg e,PW k r ((ah6.1 h).resolve_left fun g=>e g.symm)];have:(q.1 == k)=false:=by simpa using e
    simp[eX,this]
theorem yM{F:FT}{k:List UInt8}(h:k∈F.map (·.1)):(k,eX F k)∈F:=by
 obtain⟨q,hq,rfl⟩:=ah9.1 h
 cases hf:F.find? fun x=>x.1 == q.1 with
 |none =>
   have:=aj2.1 hf q hq;simp at this
 |some z =>
   have h1:=akx hf;have h2:=ajV hf;have h3:z.1=q.1:=by simpa using h1
   have:eX F q.1=z.2:=by simp[eX,hf]
   rw[this,<-h3];exact h2
noncomputable def qG(ns:List TN)(p wh:Bool)(n:Nat)(F:FT)(s:List cn×List aB)(k:List UInt8):List cn×List aB :=
 if(!wh||decide ((eX F k).length=n))=true then(s.1++[(k,((bV s.2 (a8 ns p (eX F k))).1:Int))],(bV s.2 (a8 ns p (eX F k))).2)else s
noncomputable def ve(ns:List TN)(p wh:Bool)(n:Nat)(F:FT)(S:List (List UInt8))(W:List aB):List cn×List aB:=S.foldl (qG ns p wh n F) ([],W)
theorem adW{ns:List TN}{p wh:Bool}{n:Nat}{F:FT}{S:List (List UInt8)}{W:List aB}{j:Nat}(h:j<S.length):ve ns p wh n F (S.take (j+1)) W=qG ns p wh n F (ve ns p wh n F (S.take j) W) S[j]:=by
 rw[ah5 h,ve,ajL];rfl
theorem adX{ns:List TN}{p wh:Bool}{n:Nat}{F:FT}{s:List cn×List aB}{k:List UInt8}:(qG ns p wh n F s k).1.length<=s.1.length+1∧(qG ns p wh n F s k).2.length<=s.2.length+1:=by
 unfold qG;split
 .exact⟨by simp,yI _ _⟩
 .exact⟨Nat.le_succ _,Nat.le_succ _⟩
end Go.Proofs.YtpmniabdmbmafaaGreatDoor

