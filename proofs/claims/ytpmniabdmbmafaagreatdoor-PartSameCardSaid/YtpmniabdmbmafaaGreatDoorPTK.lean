/-
  slices.DeleteFunc and slices.Compact at numbers: the walks. (with the parts that follow it)
-/
import Derived.Test.YtpmniabdmbmafaaGreatDoorPTG
import Derived.Test.YtpmniabdmbmafaaGreatDoorPTJ
import Derived.Test.YtpmniabdmbmafaaGreatDoorPTH
import Derived.Test.YtpmniabdmbmafaaGreatDoorPTE
set_option linter.all false
set_option maxHeartbeats 16000000
namespace Go.Proofs.YtpmniabdmbmafaaGreatDoor
open Go.Ab Tryz
theorem afr:(prog.ti 3).z=some [i64 0]:=by rw[p3]
theorem afs{l:List Int}{p:Int->Bool}{i:Nat}(h:(l.take i).any p=false):∀x∈l.take i,p x=false:=fun x hx=>by simpa using ama.1 h x hx
theorem afu{l:List D}{i:Nat}{n:Int}(h:eK l=true):eK (l.set i (i64 n))=true:=by
 induction l generalizing i with
 |nil=>rfl
 |cons x r ih =>
   simp only[eK,ak7]at h
   cases i with
   |zero=>simp[eK,D.flat,i64,h.2]
   |succ i=>simp[eK,h.1,ih h.2]
theorem KK(l:List Int):eK (l.map i64)=true:=by
 induction l with
 |nil=>rfl
 |cons x r ih=>simp[eK,D.flat,i64,ih]
theorem RZ{a b:List D}(ha:eK a=true)(hb:eK b=true):eK (a++b)=true:=by
 induction a with
 |nil=>exact hb
 |cons x r ih =>
   simp only[eK,ak7]at ha;simp[eK,ha.1,ih ha.2]
theorem afv{l:List D}(h:eK l=true)(n:Nat):eK (l.take n)=true:=by
 induction l generalizing n with
 |nil=>simp[eK]
 |cons x r ih =>
   simp only[eK,ak7]at h
   cases n with
   |zero=>rfl
   |succ n=>simp[eK,h.1,ih h.2]
theorem afw{l:List D}(h:eK l=true)(n:Nat):eK (l.drop n)=true:=by
 induction l generalizing n with
 |nil=>simp[eK]
 |cons x r ih =>
   cases n with
   |zero=>exact h
   |succ n =>
     simp only[eK,ak7]at h;simpa using ih h.2 n
theorem afx(n:Nat)(z:Int):eK (List.replicate n (i64 z))=true:=by
 induction n with
 |zero=>rfl
 |succ n ih=>simp[List.replicate_succ,eK,D.flat,i64,ih]
theorem afy{l:List D}(h:eK l=true)(o n:Nat)(z:Int):eK (mQ l o n (i64 z))=true:=RZ (afv h _) (RZ (afx _ _) (afw h _))
theorem afz{zs:List D}{o n:Nat}{z:D}(h:o<=zs.length):(mQ zs o n z).take o=zs.take o:=by
 unfold mQ;rw[anL (by rw[alq];omega),List.take_take,Nat.min_self]
def fg:List Int->List Int
 |[]=>[]
 |[x]=>[x]
 |x::y::r=>if x=y then fg (y::r)else x::fg (y::r)
theorem R0:∀(a:List Int) (x y:Int),fg (a++[x,y])=if x=y then fg (a++[x])else fg (a++[x])++[y]
 |[],x,y=>by
   simp only[List.nil_append,fg];split
   .rename_i e;rw[e]
   .rfl
 |[z],x,y=>by
   simp only[List.cons_append,List.nil_append,fg];by_cases e1:z=x<;>by_cases e2:x=y<;>simp[e1,e2]
 |z::w::a,x,y=>by
   have ih:=R0 (w::a) x y;simp only[List.cons_append]at ih ⊢;rw[fg,ih,fg];by_cases e:z=w
   .rw[if_pos e,if_pos e]
   .rw[if_neg e,if_neg e];split<;>rfl
theorem KL{l:List Int}{m:Nat}(hm:m<l.length)(h0:0<m):fg (l.take (m+1))=if l[m]=l[m-1]then fg (l.take m)else fg (l.take m)++[l[m]]:=by
 obtain⟨k,rfl⟩:∃k,m=k+1:=⟨m-1,by omega⟩
 have e1:l.take (k+1+1)=l.take k++[l[k],l[k+1]]:=by
  rw[ak9 hm,ak9 (show k<l.length by omega),alK];rfl
 have e2:l.take (k+1)=l.take k++[l[k]]:=ak9 (by omega);rw[e1,e2,R0];show(if l[k]=l[k+1]then _ else _)=if l[k+1]=l[k]then _ else _
 by_cases e:l[k]=l[k+1]
 .rw[if_pos e,if_pos e.symm]
 .rw[if_neg e,if_neg fun h=>e h.symm]
theorem F8:∀{l:List Int},(∀m,∀h:m+1<l.length,l[m+1]≠l[m])->fg l=l
 |[],_=>rfl
 |[_],_=>rfl
 |x::y::r,h=>by
   rw[fg,if_neg (fun e=>h 0 (by simp) e.symm),F8 (l:=y::r) fun m hm=>h (m+1) (by simpa using hm)]
structure rb(l:List Int)(i m:Nat)(zs:List D):Prop where
 le:m<=l.length
 m0:0<m
 im:i<m
 len:zs.length=l.length
 i':(fg (l.take m)).length=i
 tk:zs.take i=(fg (l.take m)).map i64
 dr:zs.drop (m-1)=(l.drop (m-1)).map i64
theorem rb.get{l:List Int}{i m:Nat}{zs:List D}(h:rb l i m zs){j:Nat}(hj:j<l.length)(hm:m-1<=j):zs.getD j .aY=i64 l[j]:=by
 have:=congrArg (fun L:List D=>L.getD (j-(m-1)) .aY) h.dr;simp only[akX,alY,ala,show m-1+(j-(m-1))=j by omega,ak0 hj]at this ⊢;exact this
theorem rb.R1{l:List Int}{i m:Nat}{zs:List D}(h:rb l i m zs):zs.drop m=(l.drop m).map i64:=by
 have:=congrArg (List.drop 1) h.dr;have h0:=h.m0;rw[anf,<-amT,anf,show m-1+1=m by omega]at this;exact this
theorem rb.skip{l:List Int}{i m:Nat}{zs:List D}(h:rb l i m zs)(hm:m<l.length)(he:l[m]=l[m-1]):rb l i (m+1) zs:=by
 have e:fg (l.take (m+1))=fg (l.take m):=by rw[KL hm h.m0,if_pos he]
 exact⟨hm,by omega,by have:=h.im;omega,h.len,by rw[e];exact h.i',by rw[e];exact h.tk,h.R1⟩
theorem rb.keep{l:List Int}{i m:Nat}{zs:List D}(h:rb l i m zs)(hm:m<l.length)(he:¬l[m]=l[m-1]):rb l (i+1) (m+1) (zs.set i (i64 l[m])):=by
 have e:fg (l.take (m+1))=fg (l.take m)++[l[m]]:=by rw[KL hm h.m0,if_neg he]
 have him:=h.im;have hlen:=h.len;refine⟨hm,by omega,by omega,by simpa using h.len,by rw[e];simp[h.i'],?_,?_⟩
 .rw[e,alh,<-h.tk];apply amg;intro n;by_cases c:n<i
  .rw[amR (by omega),alu (by omega),alj (by rw[alq];omega),amR c]
  .by_cases c2:n=i
   .subst c2;rw[amR (by omega),alA (by omega),aln (by rw[alq];omega),alq,amZ (by omega)];simp
   .rw[alN (by rw[alq];omega),alN (by simp;omega)]
 .rw[show m+1-1=m by omega,List.drop_set_of_lt (by omega)];exact h.R1
theorem afA{l:List Int}{i:Nat}(hi:i<l.length)(h0:0<i)(hn:∀m,∀h:m+1<i,l[m+1]≠l[m])(he:l[i]=l[i-1]):rb l i (i+1) (l.map i64):=by
 have e1:fg (l.take i)=l.take i:=F8 fun m hm=>by
  rw[alq]at hm;rw[am3,am3];exact hn m (by omega)
 have e:fg (l.take (i+1))=l.take i:=by rw[KL hi h0,if_pos he,e1]
 exact⟨hi,by omega,by omega,by simp,by rw[e];simp;omega,by rw[e,am0],by rw[amT]⟩
theorem afB{G}(l:List Int)(hl:l.length<=1000000) :
  bZ prog G 45 [.vw [0] 0 l.length] [([0],.arr none (l.map i64))] [0] (fun r ae=>∃zs,r=.vw [0] 0 (fg l).length∧ae=[([0],.arr none zs)]∧zs.take (fg l).length=(fg l).map i64∧eK zs=true∧zs.length=l.length):=by
 have hg:∀{j:Nat} (h:j<l.length),(l.map i64).getD j .aY=i64 l[j]:=fun h=>fe h;refine jc func45 rfl (by decide +kernel) (by simp[ntmps45]) (aS fun E=>?_);simp only[go_sem];refine aI E ?_ ?_<;>intro h2<;>simp only[go_sem]
 .have hf:fg l=l:=F8 fun m hm=>by omega
  refine⟨.vw [0] 0 l.length,[([0],.arr none (l.map i64))],[0],id,⟨l.map i64,by rw[hf],rfl,by rw[hf,ak5 (by simp)],KK l,by simp⟩,?_⟩;simp only[go_sem]
 refine bC E (X:={ i:Nat // 1<=i∧i<=l.length∧∀m,∀h:m+1<l.length,m+1<i->l[m+1]≠l[m] }) (fun x=>[(0,.vw [0] 0 l.length),(3,.d (i64 x.1))])
  (fun x=>[([0],.arr none (l.map i64))]) [0] (fun x=>l.length-x.1) ⟨1,ali _,by omega,fun m _ h=>by omega⟩ id ?_ ?_
 .simp only[go_sem]
  all_goals first|rfl|(and_intros<;>first|rfl|trivial)
 rintro⟨i,zW,hi,bY⟩ E0;refine bK E0 fun Q' hQ E'=>?_;simp only at zW hi bY ⊢;simp only[go_sem];refine aI E' ?_ ?_<;>intro h1<;>simp only[go_sem]
 .have bF:i<l.length:=by omega
  refine bz mixed E' fun X=>?_;simp only[go_sem];refine⟨by omega,?_⟩;rw[hg bF];simp only[go_sem];rw[aD ⟨by omega,by omega⟩];refine⟨by omega,?_⟩;rw[show((i:Int)-1).toNat=i-1 by omega,hg (show i-1<l.length by omega)];simp only[go_sem];(try refine⟨by decide +kernel,?_⟩);refine aI E' ?_ ?_<;>intro h3<;>simp only[go_sem]
  .refine⟨by omega,?_⟩
   refine bC E' (X:={ x:(Nat×Nat)×List D // rb l x.1.1 x.1.2 x.2∧eK x.2=true∧i<x.1.2 }) (fun x=>[(0,.vw [0] 0 l.length),(3,.d (i64 x.1.1.1)),(4,.vw [0] i (l.length-i)),(5,.d (i64 (x.1.1.2-i:Nat)))])
    (fun x=>[([0],.arr none x.1.2)]) [0] (fun x=>l.length-x.1.1.2) ⟨((i,i+1),l.map i64),afA bF zW (fun m hm=>bY m (Nat.lt_trans hm bF) hm) h3,KK l,anD i⟩ id ?_ ?_
   .simp only[go_sem];rw[show i+1-i=1 by omega];rfl
   rintro⟨⟨⟨q,m⟩,zs⟩,hd,fW,lW⟩ E1;refine bK E1 fun Q1 KM E2=>?_;simp only at hd fW lW ⊢;have him:=hd.im;have hle:=hd.le;have uu:=hd.len;simp only[go_sem];refine aI E2 ?_ ?_<;>intro h4<;>simp only[go_sem]
   .have nC:m<l.length:=by omega
    refine bz mixed E2 fun X=>?_;simp only[go_sem];refine⟨by omega,?_⟩;rw[show i+(m-i)=m by omega,hd.get nC (by omega)];simp only[go_sem];rw[show((m-i:Nat):Int)-1=((m-1-i:Nat):Int) by omega,aD ⟨by omega,by omega⟩];refine⟨by omega,?_⟩;rw[Int.toNat_natCast,show i+(m-1-i)=m-1 by omega,hd.get (show m-1<l.length by omega) (by omega)];simp only[go_sem];(try refine⟨by decide +kernel,?_⟩);refine aI E2 ?_ ?_<;>intro h5<;>simp only[go_sem]
    .refine⟨by omega,?_⟩;rw[show i+(m-i)=m by omega,hd.get nC (by omega)];simp only[go_sem];refine⟨by omega,?_⟩;rw[KM];simp only[go_sem];refine⟨⟨((q+1,m+1),zs.set q (i64 l[m])),hd.keep nC h5,afu fW,Nat.lt_succ_of_lt lW⟩,by show l.length-(m+1)<l.length-m;omega,id,?_⟩;simp only[go_sem];rw[aD ⟨by omega,by omega⟩,aD ⟨by omega,by omega⟩,show((m-i:Nat):Int)+1=((m+1-i:Nat):Int) by omega]
     and_intros<;>first|rfl|trivial
    .rw[KM];simp only[go_sem];refine⟨⟨((q,m+1),zs),hd.skip nC (by simpa using h5),fW,Nat.lt_succ_of_lt lW⟩,by show l.length-(m+1)<l.length-m;omega,id,?_⟩;simp only[go_sem];rw[aD ⟨by omega,by omega⟩,show((m-i:Nat):Int)+1=((m+1-i:Nat):Int) by omega]
   .have Di:m=l.length:=by omega
    subst Di;have hq:=hd.i';have o6:=hd.tk;rw[alk]at hq o6;rw[KM];simp only[go_sem];refine⟨by omega,?_⟩;refine afi E' (i64 0) (by rw[fM]) afr rfl rfl ?_;simp only[go_sem];refine⟨by omega,?_⟩;rw[hQ];simp only[go_sem];refine⟨.vw [0] 0 q,[([0],.arr none (mQ zs q (l.length-q) (i64 0)))],[0],id,⟨mQ zs q (l.length-q) (i64 0),by rw[hq],rfl,by rw[hq,afz (by omega),o6],afy fW _ _ _,by rw[KJ (by omega)];exact uu⟩,?_⟩;simp only[go_sem];rfl
  .rw[hQ];simp only[go_sem];refine⟨⟨i+1,by omega,by omega,fun m hm F9=>?_⟩,by show l.length-(i+1)<l.length-i;omega,id,?_⟩
   .by_cases e:m+1=i
    .subst e;intro e2;exact h3 e2
    .exact bY m hm (by omega)
   .simp only[go_sem];rw[aD ⟨by omega,by omega⟩]
    and_intros<;>first|rfl|trivial
 .have KN:i=l.length:=by omega
  subst KN;rw[hQ];simp only[go_sem];have hf:fg l=l:=F8 fun m hm=>bY m hm hm;refine⟨.vw [0] 0 l.length,[([0],.arr none (l.map i64))],[0],id,⟨l.map i64,by rw[hf],rfl,by rw[hf,ak5 (by simp)],KK l,by simp⟩,?_⟩;simp only[go_sem]
end Go.Proofs.YtpmniabdmbmafaaGreatDoor

namespace Go.Proofs.YtpmniabdmbmafaaGreatDoor
open Go.Ab Tryz
def cO(ns:List TN)(root:Int)(C:List Int):List (Name×Ob):=[([3],.box [.vw [9] 0 ns.length]),([9],.arr none (C.map i64)),([4],.box [.aH 73 [.d (.ptr (.agg [.sl (some 4) (ns.map aK),i64 root])),.bx [3] 0,.bx [4] 0]])]
theorem R2{C:List Int}{i:Nat}(h:i<C.length):(C.map i64).getD i .aY=i64 (C.getD i 0):=by simp[h]
def Ga(ns:List TN):Prop:=∀i,i<ns.length->fT (nd ns i).k=true->(0<=(nd ns i).a∧(nd ns i).a<ns.length)∧(0<=(nd ns i).b∧(nd ns i).b<ns.length)
theorem R3{k:Int}(h:fT k=true):p8 k=true:=by
 simp only[fT,alF]at h;rcases h with h|h<;>simp[p8,h]
theorem afC{G}(ns:List TN)(root:Int)(_hN:ns.length<=2000)(fW:∀n∈ns,n.l.length<=1000000)(hk:Ga ns):∀(m:Nat) (C:List Int) (i:Nat),lT C<m->uM ns C->i<ns.length->(∀j,C.getD j 0=1->qh ns j i) ->
  bZ prog G 73 [.d (i64 i),.d (.ptr (.agg [.sl (some 4) (ns.map aK),i64 root])),.bx [3] 0,.bx [4] 0] (cO ns root C) [3,9,4] (fun r ae=>∃b C',r=.d (.bool b)∧ae=cO ns root C'∧ae0 ns C i b C'):=by
 intro m
 induction m with
 |zero=>intro C i hw;omega
 |succ m ih =>
 intro C i hw hC hi hg;refine jc func73 rfl (by decide +kernel) (by simp[ntmps73]) (aS fun E=>?_);unfold cO;simp only[go_sem];refine⟨by omega,?_⟩;rw[C9 hi];simp only[go_sem];refine bd E (acA (nd ns i).k) rfl rfl (by simp) ?_;rintro _ rfl;simp only[go_sem]
 repeat (first
  |(apply fm E;(· simp only[go_sem]);(· intro h;(try simp only[bq]at h);simp only[↓h,go_sem];rfl);simp only[go_sem]))
 have zY:i<C.length:=by rw[hC.len];exact hi
 apply fm E
 .simp only[go_sem]
 .intro h
  (try simp only[bq]at h)
  simp only[↓h,go_sem];exact⟨⟨by omega,by omega⟩,rfl⟩
 simp only[go_sem];apply fm E
 .simp only[go_sem]
 .intro h
  (try simp only[bq]at h)
  simp only[↓h,go_sem];rw[R2 zY];simp only[↓h,go_sem];rfl
 simp only[go_sem]
 repeat (first
  |(apply fm E;(· simp only[go_sem]);(· intro h;(try simp only[bq]at h);simp only[↓h,go_sem];rfl);simp only[go_sem])
  |(apply gm E;(· decide);simp only[go_sem]))
 refine ck E ?_ ?_<;>intro h1<;>simp only[go_sem]
 .refine⟨_,cO ns root C,[3,9,4],id,⟨true,C,rfl,rfl,hC.len,fun _=>⟨hC,?_,fun _=>Iff.rfl,ali _⟩,fun h=>by cases h⟩,?_⟩
  .cases hL:fT (nd ns i).k with
   |false=>exact .flat hL
   |true =>
     rw[hL]at h1;exact hC.black i (by simpa using h1)
  .unfold cO;simp only[go_sem]
 simp only[al0,amD,decide_eq_false_iff_not]at h1;obtain⟨hL,h2⟩:=h1;refine⟨by omega,?_⟩;rw[R2 zY];simp only[go_sem];refine aI E ?_ ?_<;>intro h3<;>simp only[go_sem]
 .refine⟨_,cO ns root C,[3,9,4],id,⟨false,C,rfl,rfl,hC.len,fun h=>(by cases h),fun _=>⟨i,hg i h3,hi⟩⟩,?_⟩;unfold cO;simp only[go_sem]
 have h0:C.getD i 0=0:=by
  rcases hC.val i with h|h|h
  .exact h
  .exact absurd h h3
  .exact absurd h h2
 have jn:lT (C.set i 1)<lT C:=aeZ (by decide) C i (by simpa[akX,zY]using h0);have Dj:uM ns (C.set i 1):=hC.set zY (.inl rfl);refine⟨⟨by omega,by omega⟩,⟨by omega,by omega⟩,?_⟩;rw[C9 hi];simp only[go_sem];have aU:nd ns i∈ns:=by rw[x9 hi];exact ak2 hi
 refine bd E (JT (nd ns i) (fW _ aU)) rfl rfl (by simp) ?_;rintro _ rfl;simp only[go_sem];obtain⟨K,hK⟩:∃K,K=fU (nd ns i):=⟨_,rfl⟩
 have Dk:K=[(nd ns i).a,(nd ns i).b]:=by rw[hK,fU,R3 hL,if_pos rfl]
 obtain⟨zT,Dl⟩:=hk i hi hL
 have hKr:∀x∈K,(0<=x∧x<ns.length)∧Da ns i x.toNat:=by
  intro x hx;rw[Dk]at hx;rcases alc.1 hx with rfl|hx
  .exact⟨zT,hL,.inl rfl⟩
  .rw[ak3.1 hx];exact⟨Dl,hL,.inr rfl⟩
 have hKe:(∀x∈K,Ends ns x.toNat)->Ends ns i:=fun h=>.both (h _ (by rw[Dk];simp)) (h _ (by rw[Dk];simp));have hKl:K.length<=2:=by rw[Dk];simp
 rw[<-hK];clear hK Dk;have yb:(C.map i64).set i (D.int IntKind.i64 1)=(C.set i 1).map i64:=by rw[amr]
 rw[yb];unfold aL;simp only[go_sem]
 refine BP E (X:={ x:Nat×List Int // x.1<=K.length∧uM ns x.2∧(∀j,x.2.getD j 0=1↔(C.set i 1).getD j 0=1)∧lT x.2<=lT (C.set i 1)∧∀k∈K.take x.1,Ends ns k.toNat })
  (fun x=>[(0,.d (i64 i)),(1,.d (.ptr (.agg [.sl (some 4) (ns.map aK),i64 root]))),(2,.bx [3] 0),(3,.bx [4] 0),(36,.d (.sl none (K.map i64))),(37,.d (i64 K.length)),(38,.d (i64 x.1.1))]) (fun x=>cO ns root x.1.2) [3,9,4] (fun x=>K.length-x.1.1) ⟨(0,C.set i 1),ale _,Dj,fun _=>Iff.rfl,ali _,by simp⟩ ?_ ?_
 .unfold cO;simp only[go_sem]
  all_goals rfl
 rintro⟨⟨q,C'⟩,hq,wv,o7,rQ,df⟩ E';simp only at hq wv o7 rQ df ⊢;unfold cO;simp only[go_sem];refine aI E' ?_ ?_<;>intro h4<;>simp only[go_sem]
 .have jw:q<K.length:=by omega
  refine⟨by omega,?_⟩;rw[fe jw];simp only[go_sem];obtain⟨⟨N1,ki⟩,Bt⟩:=hKr K[q] (ak2 jw);obtain⟨y,hy⟩:∃y:Nat,y=K[q].toNat:=⟨_,rfl⟩
  have qe:K[q]=(y:Int):=by omega
  rw[<-hy]at Bt;rw[qe];have Gb:∀j,(C.set i 1).getD j 0=if j=i then 1 else C.getD j 0:=fun j=>Db zY
  have se:∀j,C'.getD j 0=1->qh ns j y:=by
   intro j hj;have:=(o7 j).1 hj;rw[Gb]at this;split at this
   .rename_i e;subst e;exact .one Bt
   .exact(hg j this).snoc Bt
  refine iJ E' [.d (i64 y),.d (.ptr (.agg [.sl (some 4) (ns.map aK),i64 root])),.bx [3] 0,.bx [4] 0] (cO ns root C') [3,9,4] (ih C' y (by omega) wv (by omega) se) rfl rfl ⟨by simp only[go_sem],by rw[aT];decide⟩ rfl (by unfold cO;simp only[go_sem]) (by unfold cO;simp only[go_sem]) ?_;rintro _ _ ⟨b,C2,rfl,rfl,sZ,CX,KO⟩;unfold cO;simp only[go_sem];refine⟨by simp[sZ,wv.len],?_⟩;refine ck E' ?_ ?_<;>intro h5<;>simp only[go_sem]
  .have hb:b=false:=by simpa using h5
   obtain⟨j,je,kJ⟩:=KO hb;refine⟨_,cO ns root C2,[3,9,4],id,⟨false,C2,rfl,rfl,sZ,fun h=>(by cases h),fun _=>⟨j,je,kJ⟩⟩,?_⟩;unfold cO;simp only[go_sem]
  .have hb:b=true:=by simpa using h5
   obtain⟨g1,g2,g3,g4⟩:=CX hb;refine⟨⟨(q+1,C2),by show q+1<=_;omega,g1,fun j=>(g3 j).trans (o7 j),alU g4 rQ,?_⟩,by show K.length-(q+1)<_;omega,?_⟩
   .intro k hk;simp only at hk;rw[ak9 jw,ak1,ak3]at hk;obtain hk|rfl:=hk
    .exact df k hk
    .rw[<-hy];exact g2
   .unfold cO;simp only[go_sem];rw[aD ⟨by omega,by omega⟩];rfl
 .have bX:q=K.length:=by omega
  subst bX;rw[alk]at df;have R4:=hKe df;have KP:i<C'.length:=by rw[wv.len];exact hi
  have Gb:∀j,(C.set i 1).getD j 0=if j=i then 1 else C.getD j 0:=fun j=>Db zY
  have hCi:C'.getD i 0=1:=(o7 i).2 (by rw[Gb,if_pos rfl])
  have hw3:lT (C'.set i 2)<=lT C':=RF _ _ (by simp) (fun j hj=>by
   simp only[akX,am1]at hj ⊢;split at hj
   .rename_i e;subst e;simp[KP]at hj
   .exact hj)
  refine⟨⟨by omega,by omega⟩,_,cO ns root (C'.set i 2),[3,9,4],id,⟨true,C'.set i 2,rfl,rfl,by simp[wv.len],fun _=>⟨wv.set KP (.inr ⟨rfl,R4⟩),R4,fun j=>?_,by omega⟩,fun h=>by cases h⟩,?_⟩
  .rw[Db KP];split
   .rename_i e;subst e;exact⟨fun h=>(by cases h),fun h=>absurd h h3⟩
   .rename_i e;rw[o7 j,Gb,if_neg e]
  .unfold cO;simp only[go_sem];rw[amr]
end Go.Proofs.YtpmniabdmbmafaaGreatDoor

namespace Go.Proofs.YtpmniabdmbmafaaGreatDoor
open Go.Ab Tryz
noncomputable def wK(ns:List TN):Bool:=@decide (∀i,i<ns.length->Ends ns i) (Classical.propDecidable _)
theorem afD{ns:List TN}(h:∀i,i<ns.length->Ends ns i):wK ns=true:=by unfold wK;simpa using h
theorem afE{ns:List TN}(h:¬∀i,i<ns.length->Ends ns i):wK ns=false:=by unfold wK;simpa using h
theorem afF(C:List Int):lT C<=C.length:=an7
theorem afG(ns:List TN):uM ns (List.replicate ns.length 0):=by
 have h:∀j,(List.replicate ns.length (0:Int)).getD j 0=0:=fun j=>by
  simp only[akX,amv];split<;>rfl
 exact⟨by simp,fun j=>.inl (h j),fun j hj=>by rw[h j]at hj;cases hj⟩
theorem afH{G}(ns:List TN)(root:Int)(hN:ns.length<=2000)(fW:∀n∈ns,n.l.length<=1000000)(hk:Ga ns):HP prog G 42 [bU ns root] (fun r=>r=.d (.bool (wK ns))):=by
 unfold bU;refine cj func42 rfl (by decide +kernel) (by simp[ntmps42]) (aS fun E=>?_);simp only[go_sem];refine⟨⟨by omega,by omega,by omega,by omega⟩,?_⟩;refine eU E [1] (.agg [.sl (some 4) (ns.map aK),i64 root]) rfl rfl ?_;simp only[go_sem];have cd:List.replicate ns.length (D.int IntKind.i64 0)=(List.replicate ns.length 0).map i64:=by rw[List.map_replicate]
 rw[cd]
 refine BP E (X:={ x:Nat×List Int // x.1<=ns.length∧uM ns x.2∧(∀j,x.2.getD j 0≠1)∧∀k,k<x.1->Ends ns k })
  (fun x=>[(4,.bx [4] 0),(13,.d (i64 ns.length)),(14,.d (i64 x.1.1))]) (fun x=>cO ns root x.1.2) [3,9,4] (fun x=>ns.length-x.1.1) ⟨(0,List.replicate ns.length 0),ale _,afG ns,fun j=>?_,fun k hk=>by omega⟩ ?_ ?_
 .simp only[akX,amv];split<;>decide
 .unfold cO;simp only[go_sem]
  all_goals rfl
 rintro⟨⟨q,C⟩,hq,hC,hg,he⟩ E';simp only at hq hC hg he ⊢;unfold cO;simp only[go_sem];refine aI E' ?_ ?_<;>intro h4<;>simp only[go_sem]
 .have jw:q<ns.length:=by omega
  refine iJ E' [.d (i64 q),.d (.ptr (.agg [.sl (some 4) (ns.map aK),i64 root])),.bx [3] 0,.bx [4] 0] (cO ns root C) [3,9,4] (afC ns root hN fW hk (ns.length+1) C q (by have:=afF C;rw[hC.len]at this;omega) hC jw (fun j hj=>absurd hj (hg j))) rfl rfl ⟨by simp only[go_sem],by rw[aT];decide⟩ rfl (by unfold cO;simp only[go_sem]) (by unfold cO;simp only[go_sem]) ?_;rintro _ _ ⟨b,C2,rfl,rfl,sZ,CX,KO⟩;unfold cO;simp only[go_sem];refine⟨by simp[sZ,hC.len],?_⟩;refine ck E' ?_ ?_<;>intro h5<;>simp only[go_sem]
  .have hb:b=false:=by simpa using h5
   obtain⟨j,je,kJ⟩:=KO hb;rw[afE fun h=>(h j kJ).no je]
  .have hb:b=true:=by simpa using h5
   obtain⟨g1,g2,g3,g4⟩:=CX hb;refine⟨⟨(q+1,C2),by show q+1<=_;omega,g1,fun j hj=>hg j ((g3 j).1 hj),fun k hk=>?_⟩,by show ns.length-(q+1)<_;omega,?_⟩
   .simp only at hk;by_cases e:k=q
    .rw[e];exact g2
    .exact he k (by omega)
   .unfold cO;simp only[go_sem];rw[aD ⟨by omega,by omega⟩];rfl
 .rw[afD fun k hk=>he k (by omega)]
end Go.Proofs.YtpmniabdmbmafaaGreatDoor

namespace Go.Proofs.YtpmniabdmbmafaaGreatDoor
open Go.Ab Tryz
def Gc(ns:List TN):Prop:=ns.length<=1000000∧∀n∈ns,n.l.length<=1000000∧∀f∈n.l,f.1.length<=9223372036854775807
def tH(ns:List TN):Bool:=!ns.any fun n=>!kK n ns.length
theorem zZ{ns:List TN}(h:tH ns=true){i:Nat}(hi:i<ns.length):kK (nd ns i) ns.length=true:=by
 rw[x9 hi];have h:(ns.any fun n=>!kK n ns.length)=false:=by simpa[tH]using h
 have:=ama.1 h ns[i] (ak2 hi);simpa using this
theorem Gd{n:TN}{all:Int}(h:kK n all=true):∀x∈fU n,0<=x∧x<all:=by
 intro x hx
 have h:(fU n).any (Cr all)=false:=by
  simp only[kK,ak7,alH]at h;exact h.2
 have:=ama.1 h x hx;simp only[Cr,alF,decide_eq_true_eq,not_or]at this;omega
theorem R5{ns:List TN}(h:tH ns=true):Ga ns:=by
 intro i hi hL;have h2:=Gd (zZ h hi);rw[fU,R3 hL,if_pos rfl]at h2;exact⟨h2 _ (by simp),h2 _ (by simp)⟩
noncomputable def o8(ns:List TN)(root:Int):Int :=
 if(decide ((ns.length:Int)=0)||decide (2000<(ns.length:Int)))=true then 8
 else if(decide (root<0)||decide ((ns.length:Int)<=root))=true then 4
 else if(!tH ns||!wK ns)=true then 4 else 0
theorem afI{G}(n:TN)(ns:List TN)(root:Int)(hl:n.l.length<=1000000)(hs:∀f∈n.l,f.1.length<=9223372036854775807):HP prog G 40 [aK n,.ptr (bU ns root)] (fun r=>r=.d (.bool (!kK n ns.length))):=by
 unfold bU;refine cj func40 rfl (by decide +kernel) (by simp[ntmps40]) (aS fun E=>?_);unfold aK eo;simp only[go_sem];refine bd E (acG n ns.length hl hs) rfl rfl (by simp) ?_;rintro _ rfl;simp only[go_sem]
theorem R6{G}(ns:List TN)(root:Int)(hs:Gc ns):HP prog G 20 [bU ns root] (fun r=>r=.d (i64 (o8 ns root))):=by
 unfold bU;refine cj func20 rfl (by decide +kernel) (by simp[ntmps20]) (aS fun E=>?_);obtain⟨mr,br⟩:=hs;simp only[go_sem]
 repeat (first
  |(apply fm E;(· simp only[go_sem]);(· intro h;(try simp only[bq]at h);simp only[↓h,go_sem];rfl);simp only[go_sem])
  |(apply gm E;(· decide);simp only[go_sem]))
 refine ck E ?_ ?_<;>intro h1<;>simp only[go_sem]
 .rw[o8,if_pos h1]
 repeat (first
  |(apply fm E;(· simp only[go_sem]);(· intro h;(try simp only[bq]at h);simp only[↓h,go_sem];rfl);simp only[go_sem])
  |(apply gm E;(· decide);simp only[go_sem]))
 refine ck E ?_ ?_<;>intro h2<;>simp only[go_sem]
 .rw[o8,if_neg (by rw[h1];decide),if_pos h2]
 refine JG E [1] (.agg [.sl (some 4) (ns.map aK),i64 root]) rfl rfl ?_;simp only[go_sem];refine bd E (acE ns (fun n=>!kK n ns.length) 40 [.ptr (bU ns root)] mr (fun x hx=>afI x ns root (br x hx).1 (br x hx).2)) rfl rfl (by simp) ?_;rintro _ rfl;simp only[go_sem]
 have hN:ns.length<=2000:=by
  simp only[al0,decide_eq_false_iff_not]at h1;omega
 repeat (first
  |(apply fm E;(· simp only[go_sem]);(· intro h;(try simp only[bq]at h);simp only[↓h,go_sem];rfl);simp only[go_sem]))
 apply oO E
 .simp only[go_sem]
 .intro h hk;have hrt:tH ns=true:=by rw[tH,h];rfl
  refine bd E (afH ns root hN (fun n hn=>(br n hn).1) (R5 hrt)) rfl (by simp only[↓h,go_sem]<;>rfl) (by simp) ?_;rintro _ rfl;exact hk
 simp only[go_sem]
 repeat (first
  |(apply fm E;(· simp only[go_sem]);(· intro h;(try simp only[bq]at h);simp only[↓h,go_sem];rfl);simp only[go_sem])
  |(apply gm E;(· decide);simp only[go_sem]))
 have hr:(ns.any fun n=>!kK n ns.length)=!tH ns:=by rw[tH,Bool.not_not]
 rw[hr];refine ck E ?_ ?_<;>intro h3<;>simp only[go_sem]
 .rw[o8,if_neg (by rw[h1];decide),if_neg (by rw[h2];decide),if_pos h3]
 .rw[o8,if_neg (by rw[h1];decide),if_neg (by rw[h2];decide),if_neg (by rw[h3];decide)]
end Go.Proofs.YtpmniabdmbmafaaGreatDoor

namespace Go.Proofs.YtpmniabdmbmafaaGreatDoor
open Go.Ab
def cf(e:List Bool):Nat:=e.countP (! ·)
end Go.Proofs.YtpmniabdmbmafaaGreatDoor

namespace Go.Proofs.YtpmniabdmbmafaaGreatDoor
open Go.Ab
abbrev gJ(l:List Int):Prop:=l.Pairwise (· < ·)
theorem R7:∀{a b:List Int},gJ a->gJ b->(∀x,x∈a↔x∈b)->a=b
 |[],[],_,_,_=>rfl
 |[],y::r,_,_,h=>absurd ((h y).2 alb) (by simp)
 |x::r,[],_,_,h=>absurd ((h x).1 alb) (by simp)
 |x::a,y::b,ha,hb,h=>by
   have ha':=amX.1 ha;have eI:=amX.1 hb
   have e:x=y:=by
    rcases alc.1 ((h x).1 alb)with e|hx
    .exact e
    .rcases alc.1 ((h y).2 alb)with e|hy
     .exact e.symm
     .have:=eI.1 x hx;have:=ha'.1 y hy;omega
   subst e;rw[R7 ha'.2 eI.2 fun z=>?_];constructor
   .intro hz;rcases alc.1 ((h z).1 (ald _ hz))with e|lI
    .have:=ha'.1 z hz;omega
    .exact lI
   .intro hz;rcases alc.1 ((h z).2 (ald _ hz))with e|lI
    .have:=eI.1 z hz;omega
    .exact lI
def wL(l:List Int):List Int:=l.mergeSort fun x y=>decide (x<=y)
theorem R8(l:List Int):(wL l).Pairwise (·<=·):=by
 have:=List.pairwise_mergeSort (le:=fun x y:Int=>decide (x<=y)) (fun a b c h1 h2=>by simp at *;omega) (fun a b=>by simp;omega) l;exact this.imp fun h=>by simpa using h
theorem afJ(l:List Int)(x:Int):x∈wL l↔x∈l:=List.mem_mergeSort
theorem Ge(l:List Int):(wL l).length=l.length:=an8 _
theorem KQ:∀{l:List Int},l.Pairwise (·<=·)->gJ (fg l)∧∀x,x∈fg l↔x∈l
 |[],_=>⟨.nil,fun _=>Iff.rfl⟩
 |[x],_=>⟨am8 _ _,fun _=>Iff.rfl⟩
 |x::y::r,h=>by
   have h':=amX.1 h;obtain⟨i1,i2⟩:=KQ h'.2;rw[fg];by_cases e:x=y
   .rw[if_pos e];refine⟨i1,fun z=>?_⟩;rw[i2,e];simp
   .rw[if_neg e];refine⟨amX.2 ⟨fun z hz=>?_,i1⟩,fun z=>?_⟩
    .rw[i2]at hz;have zm:=h'.1 y alb;rcases alc.1 hz with rfl|hz
     .omega
     .have:=h'.1 z (ald _ hz);have hy:=(amX.1 h'.2).1 z hz;omega
    .rw[alc,i2,alc (a:=z) (b:=x)]
def bL(l:List Int):List Int:=fg (wL l)
theorem Gf(l:List Int):gJ (bL l):=(KQ (R8 l)).1
theorem Dm(l:List Int)(x:Int):x∈bL l↔x∈l:=by rw[bL,(KQ (R8 l)).2,afJ]
theorem R9:∀l:List Int,(fg l).length<=l.length
 |[]=>ali _
 |[_]=>ali _
 |x::y::r=>by
   have:=R9 (y::r);rw[fg];split
   .exact amz this
   .simp only[List.length_cons]at this ⊢;omega
theorem afK(l:List Int):(bL l).length<=l.length:=by
 have:=R9 (wL l);rw[Ge]at this;exact this
theorem Gg{l s:List Int}(h:gJ s)(hm:∀x,x∈s↔x∈l):bL l=s:=R7 (Gf l) h fun x=>by rw[Dm,hm]
section
variable (ns:List TN)
def aZ(i:Int):Bool:=fT (nd ns i.toNat).k
inductive fI:Int->Int->Prop
 |flat {i:Int} (h:aZ ns i=false):fI i i
 |left {i x:Int} (h:aZ ns i=true) (t:fI (nd ns i.toNat).a x):fI i x
 |right {i x:Int} (h:aZ ns i=true) (t:fI (nd ns i.toNat).b x):fI i x
end
variable {ns:List TN}
theorem fI.wM{i x:Int}(h:fI ns i x):aZ ns x=false:=by
 induction h with
 |flat h=>exact h
 |left _ _ ih=>exact ih
 |right _ _ ih=>exact ih
theorem fI.self{i x:Int}(h:fI ns i x)(hf:aZ ns i=false):x=i:=by
 cases h with
 |flat=>rfl
 |left h=>rw[hf]at h;cases h
 |right h=>rw[hf]at h;cases h
structure Inn(ns:List TN):Prop where
 len:ns.length<=2000
 uO:Ga ns
 ends:∀i,i<ns.length->Ends ns i
def bI(ns:List TN)(i:Int):Prop:=0<=i∧i<ns.length
end Go.Proofs.YtpmniabdmbmafaaGreatDoor

namespace Go.Proofs.YtpmniabdmbmafaaGreatDoor
open Go.Ab
theorem afL{n:Nat}{L:List Int}(hd:L.Nodup)(h:∀x∈L,0<=x∧x<n):L.length<=n:=by
 have hm:(L.map Int.toNat).Nodup:=by
  rw[List.Nodup,ane];refine List.Pairwise.imp_of_mem ?_ hd;intro a b ha hb eC e;have:=h a ha;have:=h b hb;exact eC (by omega)
 have:=mO hm (n:=n) fun x hx=>by
  obtain⟨y,hy,rfl⟩:=ak6.1 hx;have:=h y hy;omega
 simpa using this
end Go.Proofs.YtpmniabdmbmafaaGreatDoor

namespace Go.Proofs.YtpmniabdmbmafaaGreatDoor
open Go.Ab Tryz
theorem Sb{G}(l:List da)(hl:l.length<=1000000):bZ prog G 55 [.d (eo l)] [] [] (fun r ae=>r=.vw [0] 0 l.length∧ae=[([0],.arr (some 2) (l.map aP))]):=by
 refine bZ.PG (Q:=fun r ae=>(r=.d .ao∧ae=[]∧l=[])∨(r=.vw [0] 0 l.length∧ae=[([0],.arr (some 2) (l.map aP))])) ?_ 0 (some 2) (by simp) ?_
 .unfold eo;refine jc func55 rfl (by decide +kernel) (by simp[ntmps55]) (aS fun E=>?_);simp only[go_sem];refine JS E (e:=78) (by simp only[go_sem]) (by simp only[go_sem]) rfl fun b hb=>?_;simp only[go_sem];refine ck E ?_ ?_<;>intro h<;>simp only[go_sem]
  .have:l=[]:=by simpa using hb h
   subst this;refine⟨_,[],[],id,.inl ⟨rfl,rfl,rfl⟩,?_⟩;simp only[go_sem]
  .refine⟨by omega,_,_,[0],ak [([0],[7])],.inr ⟨rfl,rfl⟩,?_⟩;simp only[go_sem]
 .rintro r ae (⟨rfl,rfl,rfl⟩|h)
  .exact .inr ⟨rfl,rfl,rfl,rfl⟩
  .exact .inl h
theorem Sc{G}(l:List Int)(hl:l.length<=1000000):HP prog G 62 [aL l] (fun r=>r=.d (aL l)):=by
 refine p9 ?_;unfold aL;refine fK func62 rfl (by decide +kernel) (by simp[ntmps62]) (aS fun E=>?_);simp only[go_sem];refine JS E (e:=3) (by simp only[go_sem]) (by simp only[go_sem]) rfl fun b hb=>?_;simp only[go_sem];refine ck E ?_ ?_<;>intro h<;>simp only[go_sem]
 .have:l=[]:=by simpa using hb h
  subst this;refine⟨[],?_⟩;simp only[go_sem];exact⟨_,rfl,.ao none⟩
 .refine⟨by omega,[([7],none,l.map i64)],?_⟩;simp only[go_sem];refine⟨_,rfl,?_⟩;exact .refl _
def oc(f:Int->Int)(l:List da)(i:Nat):List da:=(l.take i).map (fun q=>(q.1,f q.2))++l.drop i
theorem Sd(f:Int->Int)(l:List da)(i:Nat):(oc f l i).length=l.length:=by simp[oc];omega
theorem Se(f:Int->Int)(l:List da):oc f l 0=l:=by simp[oc]
theorem Sf(f:Int->Int)(l:List da):oc f l l.length=l.map fun q=>(q.1,f q.2):=by simp[oc]
theorem Gh{f:Int->Int}{l:List da}{i:Nat}(h:i<l.length):((oc f l i).map aP).getD i .aY=.agg [.str l[i].1,i64 l[i].2]:=by
 have h1:i<=l.length:=by omega
 simp[oc,aln,h1,h,aP]
theorem Sg{f:Int->Int}{l:List da}{i:Nat}(h:i<l.length):((oc f l i).map aP).set i (.agg [.str l[i].1,i64 (f l[i].2)])=(oc f l (i+1)).map aP:=by
 have h1:(l.take i).length=i:=by simp;omega
 have h2:(l.drop i)=l[i]::l.drop (i+1):=amo h;have h3:l.take (i+1)=l.take i++[l[i]]:=by rw[ak9 h]
 simp only[oc,h2,h3,alh,alf,alJ];rw[ang _ _ (by simp;omega)];simp[aP,amZ (Nat.le_of_lt h)]
def gK(m:List Int)(z:Int):Int:=m.getD z.toNat 0
theorem Sh{G}(l:List da)(m:List Int)(hl:l.length<=1000000)(hm:∀q∈l,0<=q.2∧q.2<m.length):HP prog G 31 [eo l,aL m] (fun r=>r=.d (eo (l.map fun q=>(q.1,gK m q.2)))):=by
 refine p9 ?_;have bS:∀{k:Int},0<=k->k<m.length->(m.map i64).getD k.toNat .aY=i64 (gK m k):=fun {k} h0 h1=>wH (show k.toNat<m.length by omega);unfold aL;refine fK func31 rfl (by decide +kernel) (by simp[ntmps31]) (aS fun E=>?_);simp only[go_sem];refine iJ E [.d (eo l)] [] [] (Sb l hl) rfl rfl ⟨by simp only[go_sem],by rw[aT];decide⟩ rfl (by simp only[go_sem]) (by simp only[go_sem]) ?_;rintro _ _ ⟨rfl,rfl⟩;simp only[go_sem]
 refine BP E (X:={ i:Nat // i<=l.length }) (fun x=>[(1,.d (.sl none (m.map i64))),(5,.vw [8,0] 0 l.length),(10,.d (i64 l.length)),(11,.d (i64 x.1))])
  (fun x=>[([8,0],.arr (some 2) ((oc (gK m) l x.1).map aP))]) [8] (fun x=>l.length-x.1) ⟨0,ale _⟩ ?_ ?_
 .simp only[go_sem];rw[Se]
  all_goals rfl
 rintro⟨i,hi⟩ E';simp only at hi ⊢;simp only[go_sem];refine aI E' ?_ ?_<;>intro h1<;>simp only[go_sem]
 .have bf:i<l.length:=by omega
  obtain⟨xn,qF⟩:=hm l[i] (ak2 bf);refine⟨by omega,?_⟩;rw[Gh bf];simp only[go_sem];refine⟨by omega,?_⟩;rw[bS xn qF];simp only[go_sem];refine⟨by omega,?_⟩;rw[Gh bf];simp only[go_sem];rw[Sg bf];refine⟨⟨i+1,by omega⟩,by show l.length-(i+1)<_;omega,?_⟩;rw[aD ⟨by omega,by omega⟩];exact⟨rfl,rfl⟩
 .have h3:i=l.length:=by omega
  subst h3;refine⟨[([8,0],some 2,(oc (gK m) l l.length).map aP)],?_⟩;simp only[go_sem];refine⟨_,rfl,?_⟩;rw[ak5 (by rw[alg,Sd];exact ali _),Sf];exact .refl _
theorem Si{G}(l:List da)(m:List Int)(hl:l.length<=1000000)(hm:∀q∈l,0<=q.2∧q.2<m.length):HP prog G 92 [eo l,aL m] (fun r=>r=.d (eo (l.map fun q=>(q.1,gK m q.2)))):=by
 refine p9 ?_;have bS:∀{k:Int},0<=k->k<m.length->(m.map i64).getD k.toNat .aY=i64 (gK m k):=fun {k} h0 h1=>wH (show k.toNat<m.length by omega);unfold aL;refine fK func92 rfl (by decide +kernel) (by simp[ntmps92]) (aS fun E=>?_);simp only[go_sem];refine iJ E [.d (eo l)] [] [] (Sb l hl) rfl rfl ⟨by simp only[go_sem],by rw[aT];decide⟩ rfl (by simp only[go_sem]) (by simp only[go_sem]) ?_;rintro _ _ ⟨rfl,rfl⟩;simp only[go_sem]
 refine BP E (X:={ i:Nat // i<=l.length }) (fun x=>[(1,.d (.sl none (m.map i64))),(5,.vw [8,0] 0 l.length),(10,.d (i64 l.length)),(11,.d (i64 x.1))])
  (fun x=>[([8,0],.arr (some 2) ((oc (gK m) l x.1).map aP))]) [8] (fun x=>l.length-x.1) ⟨0,ale _⟩ ?_ ?_
 .simp only[go_sem];rw[Se]
  all_goals rfl
 rintro⟨i,hi⟩ E';simp only at hi ⊢;simp only[go_sem];refine aI E' ?_ ?_<;>intro h1<;>simp only[go_sem]
 .have bf:i<l.length:=by omega
  obtain⟨xn,qF⟩:=hm l[i] (ak2 bf);refine⟨by omega,?_⟩;rw[Gh bf];simp only[go_sem];refine⟨by omega,?_⟩;rw[bS xn qF];simp only[go_sem];refine⟨by omega,?_⟩;rw[Gh bf];simp only[go_sem];rw[Sg bf];refine⟨⟨i+1,by omega⟩,by show l.length-(i+1)<_;omega,?_⟩;rw[aD ⟨by omega,by omega⟩];exact⟨rfl,rfl⟩
 .have h3:i=l.length:=by omega
  subst h3;refine⟨[([8,0],some 2,(oc (gK m) l l.length).map aP)],?_⟩;simp only[go_sem];refine⟨_,rfl,?_⟩;rw[ak5 (by rw[alg,Sd];exact ali _),Sf];exact .refl _
end Go.Proofs.YtpmniabdmbmafaaGreatDoor

namespace Go.Proofs.YtpmniabdmbmafaaGreatDoor
open Go.Ab Tryz
def Dn(l:List EA)(st:Int):List D:=[.ptr (.agg [.sl (some 13) (l.map aO),i64 st])]
theorem afM{G}(l:List EA)(st:Int):HP prog G 91 [ct l st] (fun r=>r=.d (.aH 136 (Dn l st))):=by
 unfold ct Dn
 have h:bZ prog G 91 [.d (.agg [.sl (some 13) (l.map aO),i64 st])] [] [] (fun r ae=>r=.aH 136 [.bx [1] 0]∧ae=[([1],.box [.d (.sl (some 13) (l.map aO)),.d (i64 st)])]):=by
  refine jc func91 rfl (by decide +kernel) (by simp[ntmps91]) (aS fun E=>?_);simp only[go_sem];refine⟨_,_,[1],id,⟨rfl,rfl⟩,?_⟩;simp only[go_sem]
 have h2:=bZ.fB (Q':=fun r ae=>r=.d (.aH 136 [.ptr (.agg [.sl (some 13) (l.map aO),i64 st])])∧ae=[]) h [1] (.agg [.sl (some 13) (l.map aO),i64 st]) (by
  rintro r ae ⟨rfl,rfl⟩;refine⟨rfl,rfl,?_,?_⟩
  .simp only[go_sem]
  .simp only[go_sem])
 exact h2.QO (ds:=[_]) fun r ae ⟨h1,h2⟩=>⟨⟨h1,by rw[h1];rfl⟩,h2⟩
def o9(N:Nat)(L:List Nat):List D:=(List.range N).map fun(j:Nat)=>D.bool (decide (j∈L))
theorem afN(N:Nat):List.replicate N (D.bool false)=o9 N []:=by
 refine al9 (by simp[o9]) fun q h1 h2=>?_;simp[o9]
theorem afO{N:Nat}{L:List Nat}{x:Nat}(hx:x<N):(o9 N L).getD x .aY=.bool (decide (x∈L)):=by simp[o9,hx]
theorem Sj{N:Nat}{L:List Nat}{x:Nat}(_hx:x<N):(o9 N L).set x (.bool true)=o9 N (L++[x]):=by
 refine al9 (by simp[o9]) fun q h1 h2=>?_;have hq:q<N:=by simpa[o9]using h2
 simp only[amP];by_cases e:x=q
 .subst e;simp[o9]
 .rw[if_neg e];have:¬(q=x):=by omega
  simp[o9,this]
theorem Sk:∀(a b L:List Nat),gp L (a++b)=gp (gp L a) b
 |[],b,L=>rfl
 |k::a,b,L=>by
   simp only[List.cons_append,gp];exact Sk a b _
def nD(k:Nat):D:=i64 (k:Int)
def Queue(c:List D)(o i:Nat)(L:List Nat):Prop:=i<=L.length∧o+(L.length-i)<=c.length∧(c.drop o).take (L.length-i)=(L.drop i).map nD
theorem Queue.get{c:List D}{o i:Nat}{L:List Nat}(h:Queue c o i L)(hi:i<L.length):c.getD o .aY=i64 (L[i]:Nat):=by
 have h1:=congrArg (fun l:List D=>l.getD 0 .aY) h.2.2;simp only[akX]at h1 ⊢;rw[amb,if_pos (by omega),alY,ala,alY,Nat.add_zero,Nat.add_zero,ak0 hi]at h1;exact h1
theorem Queue.pop{c:List D}{o i:Nat}{L:List Nat}(h:Queue c o i L)(hi:i<L.length):Queue c (o+1) (i+1) L:=by
 refine⟨by omega,by have:=h.2.1;omega,?_⟩;have h1:=congrArg (List.drop 1) h.2.2;rw[List.drop_take,anf,<-amT,anf]at h1;rw[show L.length-(i+1)=L.length-i-1 by omega];exact h1
theorem Queue.push{c:List D}{o i:Nat}{L:List Nat}(h:Queue c o i L)(k:Nat):Queue (((c.drop o).take (L.length-i))++[nD k]) 0 i (L++[k]):=by
 obtain⟨h1,h2,h3⟩:=h;have hl:=congrArg List.length h3;rw[h3];refine⟨by simp;omega,by simp;omega,?_⟩;rw[anO,ak5 (by simp;omega),List.drop_append_of_le_length h1];simp[nD]
structure Bf(l:List EA)(ord:List Nat)(i:Nat)(L:List Nat):Prop where
 nd:L.Nodup
 lt:∀x∈L,x<l.length
 go:nT (dB l) (l.length-i) i L=ord
theorem afP{ks L:List Nat}{j:Nat}(h:j<ks.length):gp L (ks.take (j+1))=if ks[j]∈gp L (ks.take j)then gp L (ks.take j)else gp L (ks.take j)++[ks[j]]:=by
 rw[ak9 h,Sk];rfl
theorem Bf.init{l:List EA}{start:Nat}(h:start<l.length):Bf l (er l start) 0 [start]:=⟨by simp,by simpa using h,rfl⟩
theorem Bf.next{l:List EA}{ord L:List Nat}{i:Nat}(h:Bf l ord i L)(aU:gq l)(hi:i<L.length):Bf l ord (i+1) (gp L (dB l L[i])):=by
 have hn:=mO h.nd h.lt;refine⟨Cv _ _ h.nd,JZ h.lt (zB aU _ (h.lt _ (ak2 hi))),?_⟩;have h1:=h.go;rw[show l.length-i=(l.length-(i+1))+1 by omega,nT,ak0 hi]at h1;exact h1
theorem Bf.pre{l:List EA}{ord L:List Nat}{i:Nat}(h:Bf l ord i L):∃r,ord=L++r:=by
 rw[<-h.go];exact JY _ _ _
theorem Bf.done{l:List EA}{ord L:List Nat}{i:Nat}(h:Bf l ord i L)(hi:L.length<=i):ord=L:=by
 rw[<-h.go]
 cases l.length-i with
 |zero=>rfl
 |succ f=>rw[nT,amy.2 hi]
theorem afQ{G}(l:List EA)(st:Nat)(hN:l.length<=1000000)(hs:∀s∈l,iL s)(aU:gq l)(ag:st<l.length) :
  Fx prog G 136 (Dn l st) (er l st).length (fun n=>[nD ((er l st).getD n 0)]):=by
 refine Qu func136 rfl (by decide +kernel) (by simp[ntmps136,Dn]) rfl fun z hz=>?_;unfold Dn;refine eD (fp fun E=>?_);simp only[go_sem];refine⟨⟨by omega,by omega,by omega,by omega⟩,?_⟩;rw[show List.replicate l.length (D.bool false)=o9 l.length []from afN _];refine eD (fp fun E=>?_);simp only[go_sem];refine⟨by omega,?_⟩;rw[Sj ag];refine eD (fp fun E=>?_);simp only[go_sem]
 refine zE (Qm (X:={ x:(Nat×List Nat)×(List D×Nat) // Bf l (er l st) x.1.1 x.1.2∧Queue x.2.1 x.2.2 x.1.1 x.1.2 }) (fun x=>mk [(0,.d (.yl z.l)),(1,.d (.ptr (.agg [.sl (some 13) (l.map aO),i64 st]))),(3,.vw [98] 0 l.length),(4,.vw [99] x.1.2.2 (x.1.1.2.length-x.1.1.1))]
  [([98],.arr none (o9 l.length x.1.1.2)),([99],.arr none x.1.2.1)] [98,99]) (fun x=>II z x.1.1.1) (fun x=>l.length-x.1.1.1) ⟨((0,[st]),([nD st],0)),.init ag,by simp[Queue]⟩ ⟨ak [([98],[11]),([99],[18])],cw.le ?_⟩ (fun _ _ h=>h) ?_)
 .simp only[go_sem]
  all_goals rfl
 rintro⟨⟨⟨i,L⟩,c,o⟩,uP,Gi⟩;simp only at uP Gi ⊢;generalize hΦ:zF _ _ _ _ _ _ _ _=Φ';refine eD (fp fun E=>?_);simp only[go_sem];refine aI E ?_ ?_<;>intro h1<;>simp only[go_sem]
 .have hi:i<L.length:=by omega
  obtain⟨z2,nY⟩:=uP.pre;have sg:=Gi.get hi;have bF:i<(er l st).length:=by rw[nY];simp;omega
  have gS:(er l st).getD i 0=L[i]:=by rw[nY,akX,alj hi,ak0 hi];rfl
  have hx:L[i]<l.length:=uP.lt _ (ak2 hi);refine zE (eD (fp fun E=>?_));simp only[go_sem];refine⟨by omega,?_⟩;rw[sg];simp only[go_sem];refine eD (fp fun E=>?_);simp only[go_sem];refine⟨by omega,?_⟩;refine eD (eD (Ql (wo rfl ?_)));simp only[go_sem];refine wo rfl ?_;simp only[go_sem];refine Qs hz bF (by simp) rfl (by simp only[go_sem];rw[gS];rfl) ?_ ?_
  .refine wo rfl ?_;simp only[go_sem];refine Fv (fp fun E=>?_);simp only[go_sem];refine fp fun E=>?_;simp only[go_sem];refine⟨by omega,?_⟩;rw[tw hx];have dk:=hs _ (ak2 hx);have c1:=aeV (G:=G) l[L[i]] dk;have dy:dB l L[i]=l[L[i]].next.map Int.toNat:=by rw[dB,akX,ak0 hx];rfl
   have Gj:∀z∈l[L[i]].next,0<=z∧z<l.length:=aU _ (ak2 hx)
   have r8:l[L[i]].next.length<=900000:=by
    have:=dk.f;have:=dk.t;rw[F5,oW];split<;>simp<;>omega
   generalize l[L[i]]=s at *
   obtain⟨K,hK⟩:∃K,K=s.next:=⟨_,rfl⟩
   rw[<-hK]at dy Gj r8 c1;unfold aL at c1;simp only[dK]at c1 ⊢;simp only[go_sem];refine bd E c1 rfl rfl (by simp) ?_;rintro _ rfl;simp only[go_sem]
   refine bC E (X:={ y:Nat×(List D×Nat) // y.1<=K.length∧Queue y.2.1 y.2.2 (i+1) (gp L ((dB l L[i]).take y.1))∧∀x∈gp L ((dB l L[i]).take y.1),x<l.length }) (fun y=>[(0,.d (.yl z.l)),(1,.d (.ptr (.agg [.sl (some 13) (l.map aO),i64 st]))),(3,.vw [98] 0 l.length),(4,.vw [99] y.1.2.2 ((gp L ((dB l L[i]).take y.1.1)).length-(i+1))),(36,.d (.sl none (K.map i64))),(37,.d (i64 K.length)),(38,.d (i64 y.1.1))])
    (fun y=>[([98],.arr none (o9 l.length (gp L ((dB l L[i]).take y.1.1)))),([99],.arr none y.1.2.1)]) [98,99] (fun y=>K.length-y.1.1) ⟨(0,(c,o+1)),ale _,Gi.pop hi,uP.lt⟩ id ?_ ?_
   .simp only[go_sem]
    all_goals first|rfl|(and_intros<;>first|rfl|trivial)
   rintro⟨⟨j,c2,o2⟩,hj,jJ,Eu⟩ E0;refine bK E0 fun Q2 cz E2=>?_;simp only at hj jJ Eu ⊢;obtain⟨L2,tq⟩:∃L2,gp L ((dB l L[i]).take j)=L2:=⟨_,rfl⟩
   have z6:Queue c2 o2 (i+1) L2:=by rw[<-tq];exact jJ
   have KR:∀x∈L2,x<l.length:=by rw[<-tq];exact Eu
   rw[tq];simp only[go_sem];refine aI E2 ?_ ?_<;>intro h3<;>simp only[go_sem]
   .have aX:j<K.length:=by omega
    have hjn:j<(dB l L[i]).length:=by rw[dy];simpa using aX
    have n4:=afP (L:=L) hjn;rw[tq]at n4;obtain⟨xn,qF⟩:=Gj _ (ak2 aX);have hkj:(dB l L[i])[j]=K[j].toNat:=by simp only[dy,amn]
    rw[hkj]at n4;refine⟨by omega,?_⟩;rw[fe aX];simp only[go_sem];obtain⟨y,hy⟩:∃y,K[j].toNat=y:=⟨_,rfl⟩
    have wC:y<l.length:=by omega
    have hyK:K[j]=(y:Int):=by omega
    rw[hy]at n4;refine⟨by omega,?_⟩;rw[hyK,Int.toNat_natCast,afO wC];simp only[go_sem];refine ck E2 ?_ ?_<;>intro hm<;>simp only[go_sem]
    .have hm:y∉L2:=by simpa using hm
     rw[if_neg hm]at n4;refine⟨by omega,?_⟩;rw[Sj wC];have hq4:=z6.push y;have sS:L2.Nodup:=by rw[<-tq];exact Cv _ _ uP.nd
     have sZ:=mO sS KR;refine⟨by omega,?_⟩;rw[cz];simp only[go_sem]
     refine⟨⟨(j+1,(((c2.drop o2).take (L2.length-(i+1)))++[nD y],0)),by show j+1<=K.length;omega,by show Queue _ 0 (i+1) (gp L ((dB l L[i]).take (j+1)));rw[n4];exact hq4,by
      show ∀x∈gp L ((dB l L[i]).take (j+1)),_;rw[n4];intro x hx;rcases ak1.1 hx with hx|hx
      .exact KR x hx
      .rw[ak3.1 hx];exact wC⟩,by show K.length-(j+1)<_;omega,ak [([99],[53])],?_⟩
     simp only[go_sem];have q8:=z6.1;rw[n4,aD ⟨by omega,by omega⟩,ak4,show L2.length+[y].length-(i+1)=L2.length-(i+1)+1 by rw[List.length_singleton];omega]
     and_intros<;>first|rfl|trivial
    .have hm:y∈L2:=by simpa using hm
     rw[if_pos hm]at n4;rw[cz];simp only[go_sem];refine⟨⟨(j+1,(c2,o2)),by show j+1<=K.length;omega,by show Queue c2 o2 (i+1) (gp L ((dB l L[i]).take (j+1)));rw[n4];exact z6,by show ∀x∈gp L ((dB l L[i]).take (j+1)),_;rw[n4];exact KR⟩,by show K.length-(j+1)<_;omega,id,?_⟩;simp only[go_sem];rw[n4,aD ⟨by omega,by omega⟩]
     and_intros<;>first|rfl|trivial
   .have gT:j=(dB l L[i]).length:=by rw[dy,alg];omega
    subst gT;rw[alk]at tq;have Dp:=uP.next aU hi;rw[tq]at Dp;rw[cz];simp only[go_sem];refine Fu ?_;subst hΦ;refine J6 (show { x:(Nat×List Nat)×(List D×Nat) // Bf l (er l st) x.1.1 x.1.2∧Queue x.2.1 x.2.2 x.1.1 x.1.2 } from⟨((i+1,L2),(c2,o2)),Dp,z6⟩) ?_ id (cw.le ?_) (fun _ _ h=>h)
    .show l.length-(i+1)<l.length-i;have:=mO uP.nd uP.lt;omega
    .simp only[go_sem]
  .refine wo rfl ?_;simp only[go_sem];refine Fv (fp fun E=>?_);simp only[go_sem];subst hΦ;exact Qo (Qr hz (.inr rfl))
 .subst hΦ;refine Qn ?_;simp only[go_sem];refine Qk ?_;have hd:=uP.done (by omega);have KS:i=(er l st).length:=by rw[hd];have:=Gi.1;omega
  subst KS;exact Qq hz (.inl rfl)
end Go.Proofs.YtpmniabdmbmafaaGreatDoor

namespace Go.Proofs.YtpmniabdmbmafaaGreatDoor
open Go.Ab Tryz
def kO(N:Nat)(ord:List Nat):List Int:=(List.range N).map fun k=>uC ord k
theorem KT(N:Nat)(ord:List Nat):(kO N ord).length=N:=by simp[kO]
theorem afR(N:Nat):List.replicate N (i64 0)=(kO N []).map i64:=by
 refine al9 (by simp[kO]) fun q h1 h2=>?_;simp[kO,uC]
theorem afS{N:Nat}{ord:List Nat}{n:Nat}(hd:ord.Nodup)(hn:n<ord.length):((kO N (ord.take n)).map i64).set ord[n] (i64 n)=(kO N (ord.take (n+1))).map i64:=by
 have e:ord.take (n+1)=ord.take n++[ord[n]]:=by rw[ak9 hn]
 have eO:ord[n]∉ord.take n:=by
  intro h;have h2:(ord.take (n+1)).Nodup:=hd.sublist (anU _ _);rw[e,alZ]at h2;exact h2.2.2 _ h _ (by simp) rfl
 refine al9 (by simp[kO]) fun q h1 h2=>?_;simp only[amP,kO,amn,List.getElem_range];by_cases hq:ord[n]=q
 .subst hq;rw[if_pos rfl]
  have h3:uC (ord.take (n+1)) ord[n]=(n:Nat):=by
   have h4:=J0 (ord:=ord.take (n+1)) (hd.sublist (anU _ _)) (j:=n) (by simp;omega);rw[am3]at h4;exact h4
  rw[h3]
 .rw[if_neg hq,e];congr 1;unfold uC;by_cases hm:q∈ord.take n
  .rw[if_pos hm,if_pos (alm _ hm),List.idxOf_append,if_pos hm]
  .rw[if_neg hm,if_neg];intro h;rcases ak1.1 h with h|h
   .exact hm h
   .exact hq (ak3.1 h).symm
theorem afT{N:Nat}{ord:List Nat}{z:Int}(h:z.toNat<N):gK (kO N ord) z=uC ord z.toNat:=by
 unfold gK kO;rw[akX,ala,List.getElem?_range h];rfl
def nS(l:List EA)(st:Int)(N:Nat)(ord:List Nat)(n:Nat):List (Name×Ob):=[([1],.box [.d (.sl (some 13) (l.map aO)),.d (i64 st)]),([2],.box [.d .ao,.d (i64 0)]),([3],.box [.vw [13] 0 N]),([13],.arr none ((kO N (ord.take n)).map i64)),([4],.box [.vw [99] 0 n]),([99],.arr none ((ord.take n).map nD))]
def mT(m:List Int)(s:EA):EA:=s.mv (gK m)
theorem Sl{f g:Int->Int}{s:EA}(h:∀z∈s.next,f z=g z):s.mv f=s.mv g:=by
 unfold EA.next at h;unfold EA.mv
 have e:∀l:List (List UInt8×Int),(∀z∈l.map (·.2),f z=g z)->l.map (fun q=>(q.1,f q.2))=l.map (fun q=>(q.1,g q.2)):=by
  intro l hl;refine alI fun q hq=>?_;rw[hl q.2 (ams hq)]
 rw[e s.fl fun z hz=>h z (alB _ (alm _ hz)),e s.tl fun z hz=>h z (alB _ (alB _ hz))]
 cases ha:s.arr with
 |false=>rfl
 |true =>
   have h1:=h s.bD (by simp[ha]);have h2:=h s.bE (by simp[ha]);simp only[if_true,h1,h2]
theorem afU{l:List EA}{st:Nat}(aU:gq l)(ag:st<l.length):(er l st).map (fun y=>aO (mT (kO l.length (er l st)) (l.getD y default)))=(eV l st).map aO:=by
 rw[eV,alD];refine alI fun y hy=>?_;have:=xO aU ag y hy;show aO _=aO _;congr 1;refine Sl fun z hz=>afT ?_;have:=aU _ (rY this) z hz;omega
theorem afV{G}(l:List EA)(st:Nat)(hN:l.length<=1000000)(hs:∀s∈l,iL s)(aU:gq l)(ag:st<l.length):HP prog G 51 [ct l st] (fun r=>r=.d (ct (eV l st) 0)):=by
 refine Km func51 rfl (by decide +kernel) (by simp[ntmps51]) fun B0 Dq=>?_;have c1:=afM (G:=G) l st;unfold ct at *
 have hnd:(er l st).Nodup:=Fq;have hlt:=xO aU ag;have wF:=Cw aU ag;refine eD (fp fun E=>?_);simp only[go_sem];refine eD (fp fun E=>?_);simp only[go_sem];refine⟨⟨by omega,by omega,by omega,by omega⟩,?_⟩;rw[show List.replicate l.length (D.int IntKind.i64 0)=(kO l.length []).map i64 from afR _];refine eD (fp fun E=>?_);simp only[go_sem];refine eD (eD (fp fun E=>?_));simp only[go_sem];refine bd E c1 rfl rfl (by simp) ?_;rintro _ rfl;simp only[go_sem];refine QQ [4] 0 99 none [.d .ao] rfl rfl (by rw[aT];decide) ?_;simp only[go_sem];refine zE (QK rfl (afQ l st hN hs aU ag) rfl (X:=Unit) (fun n _=>mk [(1,.bx [1] 0),(2,.bx [2] 0),(3,.bx [3] 0),(4,.bx [4] 0)] (nS l st l.length (er l st) n) [1,2,3,13,4,99]) (by simp) (fun n hn=>rfl) ⟨(),id,cw.le ?_⟩ ?_ ?_)
 .unfold nS;simp only[go_sem]
  all_goals first|rfl|(and_intros<;>first|rfl|trivial)
 .rintro n ⟨⟩ hn lb;unfold nS nD;have hgn:(er l st).getD n 0=(er l st)[n]:=by simp[hn]
  rw[hgn];have jt:=hlt _ (ak2 hn);refine aS fun E=>?_;simp only[go_sem];refine QJ fun E=>?_;simp only[go_sem];rw[afS hnd hn];refine⟨⟨by omega,by omega⟩,by omega,?_⟩
  have o6:List.take n (List.map nD (List.take n (er l st)))++[nD (er l st)[n]]=List.map nD (List.take (n+1) (er l st)):=by
   rw[ak5 (by simp;omega),ak9 hn,alh];rfl
  unfold nD at o6;rw[o6];refine Ko ?_ () (ak [([99],[25])]) rfl ?_
  .simp only[go_sem];rw[KT,KT];exact ali _
  .simp only[go_sem]
 .rintro⟨⟩;refine Fu ?_;unfold nS;rw[alk];obtain⟨ord,Sn⟩:∃ord,er l st=ord:=⟨_,rfl⟩
  rw[Sn]at hnd hlt wF ⊢;refine QR [13] none ((kO l.length ord).map i64) rfl ?_;simp only[go_sem];refine QR [99] none (ord.map nD) rfl ?_;simp only[go_sem];simp only[ak5 (anK (show((kO l.length ord).map i64).length=l.length by simp[kO])),ak5 (anK (show(ord.map nD).length=ord.length by simp))];refine CQ [3] (.sl none ((kO l.length ord).map i64)) rfl rfl ?_;simp only[go_sem];refine CQ [4] (.sl none (ord.map nD)) rfl rfl ?_;simp only[go_sem];refine CQ [1] (.agg [.sl (some 13) (l.map aO),i64 st]) rfl rfl ?_;simp only[go_sem];refine fp fun E=>?_;simp only[go_sem];obtain⟨m,hm⟩:∃m,kO l.length ord=m:=⟨_,rfl⟩
  have nC:m.length=l.length:=by rw[<-hm,KT]
  rw[hm];refine nQ E [6] 0 97 (some 13) [.d .ao,.d (i64 0)] rfl rfl (by rw[aT];decide) ?_;simp only[go_sem]
  refine bC E (X:={ k:Nat // k<=ord.length }) (fun x=>[(1,.d (.ptr (.agg [.sl (some 13) (l.map aO),i64 st]))),(2,.bx [2] 0),(3,.d (.ptr (.sl none (m.map i64)))),(6,.bx [6] 0),(26,.d (.sl none (ord.map nD))),(27,.d (i64 ord.length)),(28,.d (i64 x.1))])
   (fun x=>[([2],.box [.d .ao,.d (i64 0)]),([6],.box [.vw [97] 0 x.1,.d (i64 0)]),([97],.arr (some 13) ((ord.take x.1).map fun y=>aO (mT m (l.getD y default))))]) [2,6,97] (fun x=>ord.length-x.1) ⟨0,ale _⟩ id ?_ ?_
  .simp only[go_sem]
   all_goals first|rfl|(and_intros<;>first|rfl|trivial)
  rintro⟨k,fb⟩ E0;refine bK E0 fun Q' hQ E'=>?_;simp only at fb ⊢;simp only[go_sem];refine aI E' ?_ ?_<;>intro h1<;>simp only[go_sem]
  .have bf:k<ord.length:=by omega
   have jt:=hlt _ (ak2 bf);have gj:=rY jt;have bS:(ord.map nD).getD k .aY=i64 (ord[k]:Nat):=by simp[bf,nD]
   have p5:l[ord[k]]=l.getD ord[k] default:=by simp[jt]
   have dk:=hs _ gj;have Dr:=aU _ gj;refine⟨by omega,?_⟩;rw[bS];simp only[go_sem];refine⟨by omega,?_⟩;rw[tw jt,p5];generalize qi:l.getD ord[k] default=s at p5 gj dk Dr ⊢;have c2:=Sc (G:=G) s.vars dk.v
   have c3:=Si (G:=G) s.fl m (by have:=dk.f;omega) fun q hq=>by
    have:=Dr q.2 (by rw[F5,oW];exact alB _ (alm _ (ams hq)));omega
   have c4:=Si (G:=G) s.tl m (by have:=dk.t;omega) fun q hq=>by
    have:=Dr q.2 (by rw[F5,oW];exact alB _ (alB _ (ams hq)));omega
   unfold aL at c2 c3 c4;unfold eo at c3 c4;simp only[dK];simp only[go_sem];refine ck E' ?_ ?_<;>intro ha<;>simp only[go_sem]
   .obtain⟨d0,d1⟩:=Dr s.bD (by simp[EA.next,ha]);obtain⟨d2,d3⟩:=Dr s.bE (by simp[EA.next,ha]);refine bz mixed E' fun X=>?_;simp only[go_sem];have bS:∀{z:Int},0<=z->z<m.length->(m.map i64).getD z.toNat .aY=i64 (gK m z):=fun {z} h0 h1=>wH (show z.toNat<m.length by omega);refine⟨by omega,?_⟩;rw[bS d0 (by omega)];simp only[go_sem];refine⟨by omega,?_⟩;rw[bS d2 (by omega)];simp only[go_sem];(try refine⟨by decide +kernel,?_⟩);refine bd E' c2 rfl rfl (by simp) ?_;rintro _ rfl;simp only[go_sem];refine bz mixed E' fun X=>?_;simp only[go_sem];refine dA X c3 rfl rfl (by simp) ?_;simp only[go_sem];refine dA X c4 rfl rfl (by simp) ?_;simp only[go_sem];(try refine⟨by decide +kernel,?_⟩)
    have e1:aO (mT m s)=.agg [.bool s.plus,.bool s.al,.bool s.int,.bool s.bool,.bool s.str,.bool s.arr,.bool s.rc,.bool s.tg,.sl none (s.vars.map i64),i64 (gK m s.bD),i64 (gK m s.bE),.sl (some 2) ((s.fl.map fun q=>(q.1,gK m q.2)).map aP),.sl (some 2) ((s.tl.map fun q=>(q.1,gK m q.2)).map aP)]:=by
     rw[dK];simp only[mT,EA.mv,ha,if_true,if_false,als]
    refine⟨by omega,?_⟩;rw[hQ];simp only[go_sem];refine⟨⟨k+1,by omega⟩,by show ord.length-(k+1)<_;omega,ak [([97],[69])],?_⟩;simp only[go_sem];rw[<-tG bf,ak5 (by rw[alg,alq];omega),qi,e1,aD ⟨by omega,by omega⟩]
    and_intros<;>first|rfl|trivial
   .refine bd E' c2 rfl rfl (by simp) ?_;rintro _ rfl;simp only[go_sem];refine bz mixed E' fun X=>?_;simp only[go_sem];refine dA X c3 rfl rfl (by simp) ?_;simp only[go_sem];refine dA X c4 rfl rfl (by simp) ?_;simp only[go_sem];(try refine⟨by decide +kernel,?_⟩)
    have e1:aO (mT m s)=.agg [.bool s.plus,.bool s.al,.bool s.int,.bool s.bool,.bool s.str,.bool s.arr,.bool s.rc,.bool s.tg,.sl none (s.vars.map i64),i64 s.bD,i64 s.bE,.sl (some 2) ((s.fl.map fun q=>(q.1,gK m q.2)).map aP),.sl (some 2) ((s.tl.map fun q=>(q.1,gK m q.2)).map aP)]:=by
     rw[dK];simp only[mT,EA.mv,ha,if_true,if_false,als]
    refine⟨by omega,?_⟩;rw[hQ];simp only[go_sem];refine⟨⟨k+1,by omega⟩,by show ord.length-(k+1)<_;omega,ak [([97],[69])],?_⟩;simp only[go_sem];rw[<-tG bf,ak5 (by rw[alg,alq];omega),qi,e1,aD ⟨by omega,by omega⟩]
    and_intros<;>first|rfl|trivial
  .have h3:k=ord.length:=by omega
   subst h3;rw[hQ];simp only[go_sem];refine Kl (.inl rfl) Dq ?_;simp only[go_sem];refine⟨[([97],some 13,(ord.map fun y=>aO (mT m (l.getD y default))))],?_⟩;simp only[go_sem];rw[<-afU aU ag,Sn,hm]
end Go.Proofs.YtpmniabdmbmafaaGreatDoor

namespace Go.Proofs.YtpmniabdmbmafaaGreatDoor
open Go.Ab Tryz
theorem z7{l:List EA}{k:Int}{p:Bool}(h:jd l k p=true):0<=k∧k<l.length:=by
 simp only[jd,ak7,decide_eq_true_eq]at h;exact h.1
theorem afW{l:List EA}{s:EA}(h:kL l s=true):∀z∈s.next,0<=z∧z<l.length:=by
 simp only[kL,ak7,alH]at h;obtain⟨⟨_,h1⟩,h2⟩:=h;intro z hz;rw[F5]at hz;rcases ak1.1 hz with hz|hz
 .cases ha:s.arr with
  |false=>rw[ha]at hz;simp at hz
  |true =>
    rw[ha]at hz h1;simp only[ame,al0,amD]at h1;simp only[if_true,alc,alv,or_false]at hz;obtain rfl|rfl:=hz
    .exact z7 h1.1
    .exact z7 h1.2
 .have:=ama.1 h2 z hz;simp only[alH,amM]at this;exact z7 this
structure Good(l:List EA)(st:Int):Prop where
 n0:0<l.length
 n1:l.length<=2000
 s0:0<=st
 s1:st<l.length
 lX:gq l
 rt:∀s∈l,kL l s=true
theorem pb{l:List EA}{st:Int}(h:ff l st=0):Good l st:=by
 unfold ff at h;split at h
 .cases h
 .rename_i h1;split at h
  .cases h
  .rename_i h2;simp only[alF,alH,not_or,amM,anF]at h2;obtain⟨h2,h3⟩:=h2;obtain⟨h4,h5⟩:=z7 h2
   have hr:∀s∈l,kL l s=true:=fun s hs=>by
    have:=ama.1 h3 s hs;simpa using this
   exact⟨by omega,by omega,h4,h5,fun s hs=>afW (hr s hs),hr⟩
theorem Sp{G}(l:List EA)(st:Int)(hl:l.length<=1000000)(hs:∀s∈l,iL s)(h:ff l st=0):HP prog G 29 [ct l st] (fun r=>r=.az [.d (ct (eV l st.toNat) 0),.d (i64 0)]):=by
 have c1:=KB (G:=G) l st hl hs;have g:=pb h;obtain⟨k,rfl⟩:∃k:Nat,st=(k:Int):=⟨st.toNat,by have:=g.s0;omega⟩
 have c2:=afV (G:=G) l k hl hs g.lX (by have:=g.s1;omega);rw[h]at c1;rw[Int.toNat_natCast];unfold ct at *
 refine fK func29 rfl (by decide +kernel) (by simp[ntmps29]) (aS fun E=>?_);simp only[go_sem];refine bd E (c1) rfl rfl (by simp) ?_;rintro _ rfl;simp only[go_sem];refine bd E (c2) rfl rfl (by simp) ?_;rintro _ rfl;simp only[go_sem];exact⟨[],by simp only[go_sem]⟩
theorem afX{G}(l:List EA)(st:Int)(hl:l.length<=1000000)(hs:∀s∈l,iL s)(h:ff l st≠0):HP prog G 29 [ct l st] (fun r=>r=.az [.d (.agg [.ao,i64 0]),.d (i64 (ff l st))]):=by
 have c1:=KB (G:=G) l st hl hs;unfold ct at *
 refine fK func29 rfl (by decide +kernel) (by simp[ntmps29]) (aS fun E=>?_);simp only[go_sem];refine bd E (c1) rfl rfl (by simp) ?_;rintro _ rfl;simp only[go_sem];refine aI E ?_ ?_<;>intro h1<;>simp only[go_sem]
 .exact⟨[],by simp only[go_sem]⟩
 .exact absurd h h1
end Go.Proofs.YtpmniabdmbmafaaGreatDoor

namespace Go.Proofs.YtpmniabdmbmafaaGreatDoor
open Go.Ab
def wN(l:List da):List (List UInt8):=l.map (·.1)
end Go.Proofs.YtpmniabdmbmafaaGreatDoor

namespace Go.Proofs.YtpmniabdmbmafaaGreatDoor
open Go.Ab
end Go.Proofs.YtpmniabdmbmafaaGreatDoor

namespace Go.Proofs.YtpmniabdmbmafaaGreatDoor
open Go.Ab
theorem afY{s:EA}(h:iL s)(f:Int->Int):iL (s.mv f):=by
 obtain⟨h1,h2,h3,h4,h5⟩:=h;refine⟨h1,by simpa[EA.mv]using h2,by simpa[EA.mv]using h3,fun x hx=>?_,fun x hx=>?_⟩
 .obtain⟨q,hq,rfl⟩:=ak6.1 hx;exact h4 q hq
 .obtain⟨q,hq,rfl⟩:=ak6.1 hx;exact h5 q hq
def qj(out:List Nat):List Int:=out.map fun k:Nat=>(k:Int)
theorem afZ(L:List Nat):L.map nD=(L.map fun k:Nat=>(k:Int)).map i64:=by simp[nD,Function.comp_def]
theorem Sq(out:List Nat):out.map nD=(qj out).map i64:=afZ out
theorem Sr(out:List Nat)(z:Int):gK (qj out) z=((out.getD z.toNat 0:Nat):Int):=by
 unfold gK qj;rw[akX,akX,ala];cases out[z.toNat]?<;>rfl
theorem af0(out:List Nat)(s:EA):mT (qj out) s=s.mv fun z=>((out.getD z.toNat 0:Nat):Int):=by
 unfold mT;exact Sl fun z _=>Sr out z
theorem af1(out:List Nat)(l:List EA):l.map (fun s=>aO (mT (qj out) s))=(gQ out l).map aO:=by
 rw[gQ,alD];refine alI fun s _=>?_;rw[af0];rfl
theorem KU{l:List EA}{out:List Nat}(h:mN l out){i:Nat}(hi:i<l.length):out.getD i 0<l.length:=by
 have:=Ct h hi;omega
end Go.Proofs.YtpmniabdmbmafaaGreatDoor

namespace Go.Proofs.YtpmniabdmbmafaaGreatDoor
open Go.Ab Tryz
abbrev eu:=Int×List UInt8
abbrev rh:=eu×Int
def od(a:eu):D:=.agg [i64 a.1,.str a.2]
def pg(q:rh):D:=.agg [i64 q.1.1,.str q.1.2,i64 q.2]
def fP(s:EA):List rh:=if s.arr then[((0,[]),s.bD),((1,[]),s.bE)]else[]
def fX(k:Int)(l:List da):List rh:=l.map fun q=>((k,q.1),q.2)
def dX(s:EA):List rh:=fP s++fX 2 s.fl++fX 3 s.tl
theorem Ss(s:EA):(dX s).map (·.2)=s.next:=by
 unfold dX fP fX EA.next;cases s.arr<;>simp[Function.comp_def]
theorem Sv{l:List rh}{i:Nat}(h:i<l.length):(l.map pg).getD i .aY=pg l[i]:=by simp[h]
theorem yd(k:Int)(l:List da):(fX k l).length=l.length:=by simp[fX]
theorem Sw{k:Int}{l:List da}{i:Nat}(h:i<l.length):fX k (l.take (i+1))=fX k (l.take i)++[((k,l[i].1),l[i].2)]:=by
 rw[ak9 h,fX,fX,alh];rfl
theorem Sx{G}(s:EA)(hs:iL s):HP prog G 95 [aO s] (fun r=>r=.d (.sl (some 3) ((dX s).map pg))):=by
 refine p9 ?_;obtain⟨hv,hf,ht,zS,vY⟩:=hs;rw[dK];refine fK func95 rfl (by decide +kernel) (by simp[ntmps95]) (aS fun E=>?_);simp only[go_sem];refine ck E ?_ ?_<;>intro ha<;>simp only[go_sem]
 all_goals
  refine eU E [1] (aO s) rfl rfl ?_;simp only[dK];simp only[go_sem]
 have e1:fP s=[((0,[]),s.bD),((1,[]),s.bE)]:=by rw[fP,ha];rfl
 obtain⟨τ,h0⟩:∃x,x=ak [([99],[20])]:=⟨_,rfl⟩
 rotate_left
 have e1:fP s=[]:=by rw[fP,ha];rfl
 obtain⟨τ,h0⟩:∃x:Name->Name,x=id:=⟨_,rfl⟩
 refine wa E 3 99 (some 3) rfl (by rw[aT];decide) ?_;simp only[go_sem]
 all_goals
  refine bC E (X:={ i:Nat // i<=(s.fl).length }) (fun x=>[(1,.d (.ptr (aO s))),(3,.vw [99] 0 ((fP s).length+x.1)),(22,.d (.sl (some 2) ((s.fl).map aP))),(23,.d (i64 (s.fl).length)),(24,.d (i64 x.1))]) (fun x=>[([99],.arr (some 3) ((fP s++fX 2 ((s.fl).take x.1)).map pg))]) [99] (fun x=>(s.fl).length-x.1) ⟨0,ale _⟩ τ ?_ ?_
  .rw[h0];simp only[dK];simp only[go_sem]
   (rw[e1];exact⟨rfl,rfl⟩)
  rintro⟨i,hi⟩ E0;refine bK E0 fun Q' hQ E'=>?_;simp only[dK]at hi ⊢;simp only[go_sem];refine aI E' ?_ ?_<;>intro h1<;>simp only[go_sem]
  .have bf:i<(s.fl).length:=by omega
   refine⟨by omega,?_⟩;rw[tF bf];simp only[go_sem];have sZ:(fP s).length<=900000:=by(unfold fP;split<;>simp)
   refine⟨by omega,?_⟩;rw[hQ];simp only[go_sem];refine⟨⟨i+1,by omega⟩,by show(s.fl).length-(i+1)<_;omega,ak [([99],[36])],?_⟩;simp only[go_sem];have hlen:((fP s++fX 2 ((s.fl).take i)).map pg).length=(fP s).length+i:=by simp[fX];omega
   rw[ak5 (anK hlen),Sw bf,aD ⟨by omega,by omega⟩,<-alK,alh (l₂:=[_])]
   and_intros<;>first|rfl|trivial
  have h3:i=(s.fl).length:=by omega
  subst h3;rw[alk,hQ];simp only[go_sem];clear E' hQ Q' E0;refine bC E (X:={ i:Nat // i<=(s.tl).length }) (fun x=>[(1,.d (.ptr (aO s))),(3,.vw [99] 0 ((fP s++fX 2 s.fl).length+x.1)),(39,.d (.sl (some 2) ((s.tl).map aP))),(40,.d (i64 (s.tl).length)),(41,.d (i64 x.1))]) (fun x=>[([99],.arr (some 3) ((fP s++fX 2 s.fl++fX 3 ((s.tl).take x.1)).map pg))]) [99] (fun x=>(s.tl).length-x.1) ⟨0,ale _⟩ id ?_ ?_
  .skip
   simp only[dK];simp only[go_sem]
   (rw[ak4,yd];exact⟨rfl,by rw[show fX 3 []=[]from rfl,alS]⟩)
  rintro⟨i,hi⟩ E0;refine bK E0 fun Q' hQ E'=>?_;simp only[dK]at hi ⊢;simp only[go_sem];refine aI E' ?_ ?_<;>intro h1<;>simp only[go_sem]
  .have bf:i<(s.tl).length:=by omega
   refine⟨by omega,?_⟩;rw[tF bf];simp only[go_sem];have sZ:(fP s++fX 2 s.fl).length<=900000:=by(rw[ak4,yd];unfold fP;split<;>simp<;>omega)
   refine⟨by omega,?_⟩;rw[hQ];simp only[go_sem];refine⟨⟨i+1,by omega⟩,by show(s.tl).length-(i+1)<_;omega,ak [([99],[53])],?_⟩;simp only[go_sem];have hlen:((fP s++fX 2 s.fl++fX 3 ((s.tl).take i)).map pg).length=(fP s++fX 2 s.fl).length+i:=by simp[fX];omega
   rw[ak5 (anK hlen),Sw bf,aD ⟨by omega,by omega⟩,<-alK,alh (l₂:=[_])]
   and_intros<;>first|rfl|trivial
  have h3:i=(s.tl).length:=by omega
  subst h3;rw[alk,hQ];simp only[go_sem];clear E' hQ Q' E0;refine⟨[([99],some 3,(dX s).map pg)],?_⟩;simp only[go_sem];refine⟨rfl,_,rfl,?_⟩;rw[ak5 (anK (show((dX s).map pg).length=_ by rw[alg,dX,ak4,yd 3]))];exact .refl _
end Go.Proofs.YtpmniabdmbmafaaGreatDoor

namespace Go.Proofs.YtpmniabdmbmafaaGreatDoor
open Go.Ab
structure PS where
 cls:List Nat
 sets:List (List Nat)
 wait:List Nat
def lr(cls less:List Nat)(n:Nat):List Nat:=less.foldl (fun c x=>c.set x n) cls
theorem tI:∀(less cls:List Nat) (n:Nat),(lr cls less n).length=cls.length
 |[],_,_=>rfl
 |x::r,cls,n=>by
   show(lr (cls.set x n) r n).length=_;rw[tI r];simp
theorem Sy:∀(less cls:List Nat) (n x:Nat),x<cls.length->(lr cls less n).getD x 0=if x∈less then n else cls.getD x 0
 |[],_,_,_,_=>by simp[lr]
 |y::r,cls,n,x,hx=>by
   show(lr (cls.set y n) r n).getD x 0=_;rw[Sy r (cls.set y n) n x (by simpa using hx)];by_cases h:x∈r
   .simp[h]
   .rw[if_neg h];by_cases e:x=y
    .subst e;simp[akX,hx]
    .have e':¬y=x:=fun h=>e h.symm;simp[akX,h,e,alu e']
def gu(hit:Nat->Bool)(s:PS)(i:Nat):List Nat:=(s.sets.getD i []).filter hit
def gw(hit:Nat->Bool)(s:PS)(i:Nat):List Nat:=(s.sets.getD i []).filter fun x=>!hit x
def ft(hit:Nat->Bool)(s:PS)(i:Nat):List Nat:=if(gw hit s i).length<(gu hit s i).length then gw hit s i else gu hit s i
def lu(hit:Nat->Bool)(s:PS)(i:Nat):List Nat:=if(gw hit s i).length<(gu hit s i).length then gu hit s i else gw hit s i
def eL(hit:Nat->Bool)(s:PS)(i:Nat):PS :=
 if gu hit s i=[]∨gw hit s i=[]then s
 else { cls:=lr s.cls (ft hit s i) s.sets.length,sets:=s.sets.set i (lu hit s i)++[ft hit s i],wait:=s.wait++[s.sets.length] }
structure Wf(N:Nat)(s:PS):Prop where
 len:s.cls.length=N
 at':∀x,x<N->s.cls.getD x 0<s.sets.length∧x∈s.sets.getD (s.cls.getD x 0) []
 iN:∀c,c<s.sets.length->s.sets.getD c []≠[]∧∀x∈s.sets.getD c [],x<N∧s.cls.getD x 0=c
 dn:∀c,c<s.sets.length->(s.sets.getD c []).Nodup
 wt:∀c∈s.wait,c<s.sets.length
 wn:s.wait.Nodup
theorem Wf.le{N:Nat}{s:PS}(h:Wf N s):s.sets.length<=N:=by
 have hn:((List.range s.sets.length).map fun c=>(s.sets.getD c []).headD 0).Nodup:=by
  have hh:∀c,c<s.sets.length->(s.sets.getD c []).headD 0∈s.sets.getD c []:=by
   intro c hc;have:=(h.iN c hc).1
   cases hs:s.sets.getD c []with
   |nil=>exact absurd hs this
   |cons a r=>simp
  rw[List.Nodup,ane];refine List.pairwise_lt_range.imp_of_mem fun {i j} hi hj cx e=>?_;have hi:=alw.1 hi;have hj:=alw.1 hj;have h1:=((h.iN i hi).2 _ (hh i hi)).2;have h2:=((h.iN j hj).2 _ (hh j hj)).2;rw[e,h2]at h1;omega
 have:=mO (n:=N) hn (fun x hx=>by
  obtain⟨c,hc,rfl⟩:=ak6.1 hx;have hc:=alw.1 hc;have:=(h.iN c hc).1
  cases hs:s.sets.getD c []with
  |nil=>exact absurd hs this
  |cons a r =>
    have:=((h.iN c hc).2 a (by rw[hs];simp)).1
    simpa using this)
 simpa using this
theorem si(hit:Nat->Bool)(s:PS)(i:Nat)(x:Nat):(x∈ft hit s i∨x∈lu hit s i)↔x∈s.sets.getD i []:=by
 unfold ft lu gu gw;split
 .simp only[aly];cases hit x<;>simp
 .simp only[aly];cases hit x<;>simp
theorem af2{hit:Nat->Bool}{s:PS}{i:Nat}{x y:Nat}(hx:x∈ft hit s i)(hy:y∈ft hit s i):hit x=hit y:=by
 unfold ft gu gw at hx hy;by_cases hc:((s.sets.getD i []).filter fun x=>!hit x).length<((s.sets.getD i []).filter hit).length
 .rw[if_pos hc,aly]at hx hy;have h1:=hx.2;have h2:=hy.2;simp_all
 .rw[if_neg hc,aly]at hx hy;rw[hx.2,hy.2]
theorem af3{hit:Nat->Bool}{s:PS}{i:Nat}{x y:Nat}(hx:x∈lu hit s i)(hy:y∈lu hit s i):hit x=hit y:=by
 unfold lu gu gw at hx hy;by_cases hc:((s.sets.getD i []).filter fun x=>!hit x).length<((s.sets.getD i []).filter hit).length
 .rw[if_pos hc,aly]at hx hy;rw[hx.2,hy.2]
 .rw[if_neg hc,aly]at hx hy;have h1:=hx.2;have h2:=hy.2;simp_all
theorem KV{hit:Nat->Bool}{s:PS}{i:Nat}{x y:Nat}(hx:x∈ft hit s i)(hy:y∈lu hit s i):hit x≠hit y:=by
 unfold ft gu gw at hx;unfold lu gu gw at hy;by_cases hc:((s.sets.getD i []).filter fun x=>!hit x).length<((s.sets.getD i []).filter hit).length
 .rw[if_pos hc,aly]at hx hy;have h1:=hx.2;have h2:=hy.2;simp_all
 .rw[if_neg hc,aly]at hx hy;have h1:=hx.2;have h2:=hy.2;simp_all
theorem af4{hit:Nat->Bool}{s:PS}{i:Nat}{x:Nat}(hx:x∈ft hit s i):x∉lu hit s i:=fun hm=>KV hx hm rfl
section
variable {N:Nat}{hit:Nat->Bool}{s:PS}{i:Nat}
theorem uQ(h:gu hit s i=[]∨gw hit s i=[]):eL hit s i=s:=by rw[eL,if_pos h]
theorem sj(h:¬(gu hit s i=[]∨gw hit s i=[])):eL hit s i={ cls:=lr s.cls (ft hit s i) s.sets.length,sets:=s.sets.set i (lu hit s i)++[ft hit s i],wait:=s.wait++[s.sets.length] }:=by rw[eL,if_neg h]
theorem af5(h:¬(gu hit s i=[]∨gw hit s i=[])):ft hit s i≠[]∧lu hit s i≠[]:=by
 simp only[not_or]at h;unfold ft lu;split
 .exact⟨h.2,h.1⟩
 .exact⟨h.1,h.2⟩
theorem sk(w:Wf N s)(_hi:i<s.sets.length){x:Nat}(hx:x<N)(h:¬(gu hit s i=[]∨gw hit s i=[])) :
  (eL hit s i).cls.getD x 0=if x∈ft hit s i then s.sets.length else s.cls.getD x 0:=by
 rw[sj h];exact Sy _ _ _ _ (by rw[w.len];exact hx)
theorem Sz(w:Wf N s)(hi:i<s.sets.length):Wf N (eL hit s i):=by
 by_cases h:gu hit s i=[]∨gw hit s i=[]
 .rw[uQ h];exact w
 have hc:=fun x hx=>sk (x:=x) w hi hx h;obtain⟨n1,n2⟩:=af5 h;have oQ:(eL hit s i).sets.length=s.sets.length+1:=by rw[sj h];simp
 have yb:∀c,(eL hit s i).sets.getD c []=if c=s.sets.length then ft hit s i else if c=i then lu hit s i else s.sets.getD c []:=by
  intro c;rw[sj h];simp only[akX];by_cases e:c=s.sets.length
  .subst e;rw[aln (by simp)];simp
  .rw[if_neg e];by_cases hlt:c<s.sets.length
   .rw[alj (by simpa using hlt)];by_cases e2:c=i
    .subst e2;simp[hlt]
    .have:¬i=c:=fun h=>e2 h.symm;rw[if_neg e2,alu this]
   .have e2:c≠i:=by omega
    rw[if_neg e2,amy.2 (by simp;omega),amy.2 (by omega)]
 refine⟨by rw[sj h];exact(tI _ _ _).trans w.len,fun x hx=>?_,fun c cF=>?_,fun c cF=>?_,fun c z8=>?_,?_⟩
 .rw[hc x hx,oQ,yb];obtain⟨a1,a2⟩:=w.at' x hx;by_cases hl:x∈ft hit s i
  .rw[if_pos hl,if_pos rfl];exact⟨by omega,hl⟩
  .rw[if_neg hl,if_neg (by omega)];refine⟨by omega,?_⟩;by_cases e:s.cls.getD x 0=i
   .rw[if_pos e];rw[e]at a2;exact((si hit s i x).2 a2).resolve_left hl
   .rw[if_neg e];exact a2
 .rw[yb];rw[oQ]at cF;by_cases e:c=s.sets.length
  .rw[if_pos e];refine⟨n1,fun x hx=>?_⟩;have aR:=(si hit s i x).1 (.inl hx);have:=((w.iN i hi).2 x aR).1;exact⟨this,by rw[hc x this,if_pos hx,e]⟩
  .rw[if_neg e];by_cases e2:c=i
   .rw[if_pos e2];refine⟨n2,fun x hx=>?_⟩;have aR:=(si hit s i x).1 (.inr hx);have:=(w.iN i hi).2 x aR;exact⟨this.1,by rw[hc x this.1,if_neg (fun hl=>af4 hl hx),this.2,e2]⟩
   .rw[if_neg e2];obtain⟨b1,b2⟩:=w.iN c (by omega);refine⟨b1,fun x hx=>?_⟩;have:=b2 x hx;refine⟨this.1,?_⟩;rw[hc x this.1,if_neg,this.2];intro hl;have aR:=(si hit s i x).1 (.inl hl);have:=((w.iN i hi).2 x aR).2;omega
 .have hd:∀p:Nat->Bool,((s.sets.getD i []).filter p).Nodup:=fun p=>(w.dn i hi).sublist List.filter_sublist;rw[yb];rw[oQ]at cF;by_cases e:c=s.sets.length
  .rw[if_pos e];unfold ft gu gw;split<;>exact hd _
  .rw[if_neg e];by_cases e2:c=i
   .rw[if_pos e2];unfold lu gu gw;split<;>exact hd _
   .rw[if_neg e2];exact w.dn c (by omega)
 .rw[oQ];rw[sj h]at z8;rcases ak1.1 z8 with z8|z8
  .have:=w.wt c z8;omega
  .rw[ak3.1 z8];omega
 .rw[sj h];show(s.wait++[s.sets.length]).Nodup;rw[alZ];refine⟨w.wn,by simp,fun a ha b hb=>?_⟩;rw[ak3.1 hb];have:=w.wt a ha;omega
theorem Dt(w:Wf N s)(hi:i<s.sets.length){x y:Nat}(hx:x<N)(hy:y<N)(he:(eL hit s i).cls.getD x 0=(eL hit s i).cls.getD y 0):s.cls.getD x 0=s.cls.getD y 0:=by
 by_cases h:gu hit s i=[]∨gw hit s i=[]
 .rw[uQ h]at he;exact he
 rw[sk w hi hx h,sk w hi hy h]at he;have a1:=(w.at' x hx).1;have a2:=(w.at' y hy).1;have aU:∀z,z∈ft hit s i->s.cls.getD z 0=i:=fun z hz=>((w.iN i hi).2 z ((si hit s i z).1 (.inl hz))).2;by_cases h1:x∈ft hit s i<;>by_cases h2:y∈ft hit s i
 .rw[aU x h1,aU y h2]
 .rw[if_pos h1,if_neg h2]at he;omega
 .rw[if_neg h1,if_pos h2]at he;omega
 .rw[if_neg h1,if_neg h2]at he;exact he
theorem af6(w:Wf N s)(hi:i<s.sets.length){x y:Nat}(hx:x<N)(hy:y<N)(SA:s.cls.getD x 0=i)(he:(eL hit s i).cls.getD x 0=(eL hit s i).cls.getD y 0):hit x=hit y:=by
 have mG:s.cls.getD y 0=i:=(Dt w hi hx hy he).symm.trans SA;have mx:=(w.at' x hx).2;have my:=(w.at' y hy).2;rw[SA]at mx;rw[mG]at my;by_cases h:gu hit s i=[]∨gw hit s i=[]
 .unfold gu gw at h;obtain h|h:=h
  .rw[anc]at h;have:=h x mx;have:=h y my;simp_all
  .rw[anc]at h;have:=h x mx;have:=h y my;simp_all
 .rw[sk w hi hx h,sk w hi hy h]at he;have a1:=(w.at' x hx).1;have a2:=(w.at' y hy).1;by_cases h1:x∈ft hit s i<;>by_cases h2:y∈ft hit s i
  .exact af2 h1 h2
  .rw[if_pos h1,if_neg h2]at he;omega
  .rw[if_neg h1,if_pos h2]at he;omega
  .exact af3 (((si hit s i x).2 mx).resolve_left h1) (((si hit s i y).2 my).resolve_left h2)
theorem af7(w:Wf N s)(hi:i<s.sets.length){x y:Nat}(hx:x<N)(hy:y<N)(he:s.cls.getD x 0=s.cls.getD y 0)(hh:hit x=hit y):(eL hit s i).cls.getD x 0=(eL hit s i).cls.getD y 0:=by
 by_cases h:gu hit s i=[]∨gw hit s i=[]
 .rw[uQ h];exact he
 rw[sk w hi hx h,sk w hi hy h];have aU:∀z,z∈ft hit s i->s.cls.getD z 0=i:=fun z hz=>((w.iN i hi).2 z ((si hit s i z).1 (.inl hz))).2;have mx:=(w.at' x hx).2;have my:=(w.at' y hy).2;by_cases h1:x∈ft hit s i<;>by_cases h2:y∈ft hit s i
 .rw[if_pos h1,if_pos h2]
 .have e:=aU x h1;rw[he]at e;rw[e]at my;exact absurd hh (KV h1 (((si hit s i y).2 my).resolve_left h2))
 .have e:=aU y h2;rw[<-he]at e;rw[e]at mx;exact absurd hh.symm (KV h2 (((si hit s i x).2 mx).resolve_left h1))
 .rw[if_neg h1,if_neg h2];exact he
theorem af8(w:Wf N s)(hi:i<s.sets.length){k m:Nat}(hk:k<N)(hm:m<N)(aB:(eL hit s i).cls.getD k 0≠(eL hit s i).cls.getD m 0) :
  s.cls.getD k 0=s.cls.getD m 0->((eL hit s i).cls.getD k 0∈(eL hit s i).wait∨(eL hit s i).cls.getD m 0∈(eL hit s i).wait):=by
 intro he;by_cases h:gu hit s i=[]∨gw hit s i=[]
 .rw[uQ h]at aB;exact absurd he aB
 have hw:(eL hit s i).wait=s.wait++[s.sets.length]:=by rw[sj h]
 rw[sk w hi hk h,sk w hi hm h]at aB ⊢;rw[hw];by_cases h1:k∈ft hit s i
 .rw[if_pos h1];exact .inl (by simp)
 .by_cases h2:m∈ft hit s i
  .rw[if_pos h2];exact .inr (by simp)
  .rw[if_neg h1,if_neg h2]at aB;exact absurd he aB
theorem SB(w:Wf N s)(hi:i<s.sets.length){k:Nat}(hk:k<N)(ye:s.cls.getD k 0∈s.wait):(eL hit s i).cls.getD k 0∈(eL hit s i).wait:=by
 by_cases h:gu hit s i=[]∨gw hit s i=[]
 .rw[uQ h];exact ye
 have hw:(eL hit s i).wait=s.wait++[s.sets.length]:=by rw[sj h]
 rw[sk w hi hk h,hw];by_cases h1:k∈ft hit s i
 .rw[if_pos h1];simp
 .rw[if_neg h1];exact alm _ ye
theorem af9(w:Wf N s)(hi:i<s.sets.length):2*(N-(eL hit s i).sets.length)+(eL hit s i).wait.length<=2*(N-s.sets.length)+s.wait.length:=by
 by_cases h:gu hit s i=[]∨gw hit s i=[]
 .rw[uQ h];exact ali _
 have w2:=(Sz (hit:=hit) w hi).le;rw[sj h]at w2 ⊢;simp only[ak4,alX,List.length_singleton]at w2 ⊢;omega
end
end Go.Proofs.YtpmniabdmbmafaaGreatDoor

namespace Go.Proofs.YtpmniabdmbmafaaGreatDoor
open Go.Ab
def gL(l:List EA)(i:Nat):List (eu×Nat):=(dX (l.getD i default)).map fun q=>(q.1,q.2.toNat)
theorem Gk(l:List EA)(i:Nat):(gL l i).map (·.2)=dB l i:=by
 unfold gL dB;rw[alD,<-Ss,alD];rfl
theorem SC{s u:EA}(h:s.self=u.self):(dX s).map (·.1)=(dX u).map (·.1):=by
 simp only[EA.self,amd,al3]at h;have e:∀(k:Int) (l:List da),(fX k l).map (·.1)=(l.map (·.1)).map fun n=>(k,n):=fun k l=>by simp[fX,Function.comp_def]
 unfold dX;rw[alh,alh,alh,alh,e,e,e,e,h.2.1,h.2.2];congr 2;unfold fP;rw[h.1.1.2.2.2.2.2.1];split<;>rfl
theorem SD{l:List EA}{i j:Nat}(h:jW l i=jW l j):(gL l i).map (·.1)=(gL l j).map (·.1):=by
 unfold gL;rw[alD,alD];exact SC h
def Du(l:List EA):Prop:=∀i,i<l.length->∀(a:eu) k m,(a,k)∈gL l i->(a,m)∈gL l i->k=m
def gM(l:List EA)(a:eu)(T:List Nat)(x:Nat):Bool:=(gL l x).any fun q=>decide (q.1=a)&&decide (q.2∈T)
theorem Dv{l:List EA}{a:eu}{T:List Nat}{x:Nat}:gM l a T x=true↔∃k,(a,k)∈gL l x∧k∈T:=by
 unfold gM;rw[alG];constructor
 .rintro⟨⟨b,k⟩,h1,h2⟩;simp only[ak7,decide_eq_true_eq]at h2;exact⟨k,h2.1▸h1,h2.2⟩
 .rintro⟨k,h1,h2⟩;exact⟨(a,k),h1,by simp[h2]⟩
theorem uR{l:List EA}(aU:gq l){x:Nat}(hx:x<l.length){a:eu}{k:Nat}(h:(a,k)∈gL l x):k<l.length:=by
 have:k∈dB l x:=by rw[<-Gk];exact ak6.2 ⟨(a,k),h,rfl⟩
 exact zB aU x hx k this
theorem aga{l:List EA}{p q:Nat}(h:alike l p q){a:eu}{k:Nat}(hk:(a,k)∈gL l p):∃m,(a,m)∈gL l q∧alike l k m:=by
 obtain⟨e,g⟩:=zA _ _ _ h;have e1:=SD e;obtain⟨i,hi,dj⟩:=alx hk;have hlen:(gL l p).length=(gL l q).length:=by simpa using congrArg List.length e1
 have oM:i<(gL l q).length:=by omega
 have h1:(gL l q)[i].1=a:=by
  have:=congrArg (fun L:List eu=>L[i]?) e1;simp only[ala,ak0 hi,ak0 oM,Option.map_some,alE]at this;rw[<-this,dj]
 refine⟨(gL l q)[i].2,?_,?_⟩
 .rw[<-h1];exact ak2 oM
 .refine g i k _ ?_ ?_
  .rw[<-Gk,ala,ak0 hi,dj];rfl
  .rw[<-Gk,ala,ak0 oM];rfl
def KW(l:List EA)(T:List Nat):Prop:=∀k m,k<l.length->m<l.length->alike l k m->k∈T->m∈T
theorem agb{l:List EA}(aU:gq l){a:eu}{T:List Nat}(hT:KW l T){p q:Nat}(hp:p<l.length)(hq:q<l.length)(h:alike l p q):gM l a T p=gM l a T q:=by
 have key:∀{p q:Nat},p<l.length->q<l.length->alike l p q->gM l a T p=true->gM l a T q=true:=by
  intro p q hp hq h hh;obtain⟨k,h1,h2⟩:=Dv.1 hh;obtain⟨m,h3,h4⟩:=aga h h1;exact Dv.2 ⟨m,h3,hT k m (uR aU hp h1) (uR aU hq h3) h4 h2⟩
 cases h1:gM l a T p with
 |true=>exact(key hp hq h h1).symm
 |false =>
   cases h2:gM l a T q with
   |false=>rfl
   |true=>exact absurd (key hq hp (acI h) h2) (by rw[h1];decide)
structure jf(l:List EA)(s:PS)(T:List Nat)(Ls:List eu):Prop where
 wf:Wf l.length s
 al:∀p q,p<l.length->q<l.length->alike l p q->s.cls.getD p 0=s.cls.getD q 0
 sf:∀p q,p<l.length->q<l.length->s.cls.getD p 0=s.cls.getD q 0->jW l p=jW l q
 pd:∀p q,p<l.length->q<l.length->s.cls.getD p 0=s.cls.getD q 0->∀(a:eu) k m,(a,k)∈gL l p->(a,m)∈gL l q->s.cls.getD k 0≠s.cls.getD m 0 ->
  s.cls.getD k 0∈s.wait∨s.cls.getD m 0∈s.wait∨(a∈Ls∧¬(k∈T↔m∈T))
section
variable {l:List EA}{s:PS}{T:List Nat}{Ls:List eu}
theorem jf.split(h:jf l s T Ls)(aU:gq l){hit:Nat->Bool}(hr:∀p q,p<l.length->q<l.length->alike l p q->hit p=hit q){i:Nat}(hi:i<s.sets.length):jf l (eL hit s i) T Ls:=by
 have w:=h.wf;refine⟨Sz w hi,fun p q hp hq ha=>af7 w hi hp hq (h.al p q hp hq ha) (hr p q hp hq ha),fun p q hp hq he=>h.sf p q hp hq (Dt w hi hp hq he),fun p q hp hq he a k m hk hm aB=>?_⟩;have fb:=uR aU hp hk;have nC:=uR aU hq hm;by_cases e:s.cls.getD k 0=s.cls.getD m 0
 .rcases af8 w hi fb nC aB e with g|g
  .exact .inl g
  .exact .inr (.inl g)
 .rcases h.pd p q hp hq (Dt w hi hp hq he) a k m hk hm e with g|g|g
  .exact .inl (SB w hi fb g)
  .exact .inr (.inl (SB w hi nC g))
  .exact .inr (.inr g)
structure yf(l:List EA)(s0 s:PS)(hit:Nat->Bool)(done:List Nat):Prop where
 sub:∀x y,x<l.length->y<l.length->s.cls.getD x 0=s.cls.getD y 0->s0.cls.getD x 0=s0.cls.getD y 0
 SE:∀x y,x<l.length->y<l.length->s.cls.getD x 0=s.cls.getD y 0->s0.cls.getD x 0∈done->hit x=hit y
 rest:∀x,x<l.length->s0.cls.getD x 0∉done->s.cls.getD x 0=s0.cls.getD x 0
 le:s0.sets.length<=s.sets.length
theorem yf.init(l:List EA)(s:PS)(hit:Nat->Bool):yf l s s hit []:=⟨fun _ _ _ _ h=>h,fun _ _ _ _ _ h=>by simp at h,fun _ _ _=>rfl,ali _⟩
theorem yf.step{s0:PS}{hit:Nat->Bool}{done:List Nat}(h:yf l s0 s hit done)(w:Wf l.length s){c:Nat}(hc:c<s0.sets.length)(_w0:Wf l.length s0):yf l s0 (eL hit s c) hit (done++[c]):=by
 have hcs:c<s.sets.length:=by have:=h.le;omega
 refine⟨fun x y hx hy he=>h.sub x y hx hy (Dt w hcs hx hy he),fun x y hx hy he hm=>?_,fun x hx hm=>?_,?_⟩
 .by_cases hd:s0.cls.getD x 0∈done
  .exact h.SE x y hx hy (Dt w hcs hx hy he) hd
  .have e:s0.cls.getD x 0=c:=by
    rcases ak1.1 hm with g|g
    .exact absurd g hd
    .exact ak3.1 g
   exact af6 w hcs hx hy ((h.rest x hx hd).trans e) he
 .have hd:s0.cls.getD x 0∉done:=fun g=>hm (alm _ g);have x7:s0.cls.getD x 0≠c:=fun g=>hm (alB _ (ak3.2 g));have h1:=h.rest x hx hd;by_cases hs:gu hit s c=[]∨gw hit s c=[]
  .rw[uQ hs];exact h1
  .rw[sk w hcs hx hs,if_neg,h1];intro hl;have:=((w.iN c hcs).2 x ((si hit s c x).1 (.inl hl))).2;omega
 .by_cases hs:gu hit s c=[]∨gw hit s c=[]
  .rw[uQ hs];exact h.le
  .have:=h.le;rw[sj hs];simp;omega
theorem jf.done{s0:PS}{a:eu}{done:List Nat}(h:jf l s T (a::Ls))(yg:Du l)(hb:yf l s0 s (gM l a T) done)(hd:∀x,x<l.length->gM l a T x=true->s0.cls.getD x 0∈done):jf l s T Ls:=by
 refine⟨h.wf,h.al,h.sf,fun p q hp hq he b k m hk hm aB=>?_⟩;rcases h.pd p q hp hq he b k m hk hm aB with g|g|⟨g1,g2⟩
 .exact .inl g
 .exact .inr (.inl g)
 rcases alc.1 g1 with rfl|g1
 .exfalso
  have hh:gM l b T p=gM l b T q:=by
   by_cases e:s0.cls.getD p 0∈done
   .exact hb.SE p q hp hq he e
   .have h1:gM l b T p=false:=by
     cases g:gM l b T p with
     |false=>rfl
     |true=>exact absurd (hd p hp g) e
    have h2:gM l b T q=false:=by
     cases g:gM l b T q with
     |false=>rfl
     |true=>exact absurd (hd q hq g) (by rw[<-hb.sub p q hp hq he];exact e)
    rw[h1,h2]
  apply g2
  have key:∀{x k:Nat},x<l.length->(b,k)∈gL l x->(gM l b T x=true↔k∈T):=by
   intro x k hx hk;constructor
   .intro g;obtain⟨k',h1,h2⟩:=Dv.1 g;rw[yg x hx b k k' hk h1];exact h2
   .exact fun g=>Dv.2 ⟨k,hk,g⟩
  rw[<-key hp hk,<-key hq hm,hh]
 .exact .inr (.inr ⟨g1,g2⟩)
theorem jf.end'(h:jf l s T [])(T':List Nat)(Ls':List eu):jf l s T' Ls':=⟨h.wf,h.al,h.sf,fun p q hp hq he a k m hk hm aB=>by
 rcases h.pd p q hp hq he a k m hk hm aB with g|g|⟨g,_⟩
 .exact .inl g
 .exact .inr (.inl g)
 .simp at g⟩
theorem jf.pop(h:jf l s [] [])(aU:gq l){c:Nat}{r:List Nat}(hw:s.wait=c::r)(hL:∀x,x<l.length->∀(a:eu) k,(a,k)∈gL l x->s.cls.getD k 0=c->a∈Ls):jf l { s with wait:=r } (s.sets.getD c []) Ls∧KW l (s.sets.getD c []):=by
 have w:=h.wf;have hc:c<s.sets.length:=w.wt c (by rw[hw];simp)
 have gj:∀k,k<l.length->(k∈s.sets.getD c []↔s.cls.getD k 0=c):=by
  intro k hk;constructor
  .exact fun g=>((w.iN c hc).2 k g).2
  .intro g;have:=(w.at' k hk).2;rw[g]at this;exact this
 refine⟨⟨⟨w.len,w.at',w.iN,w.dn,fun x hx=>w.wt x (by rw[hw];exact ald _ hx),by have:=w.wn;rw[hw]at this;exact(alW.1 this).2⟩,h.al,h.sf,fun p q hp hq he a k m hk hm aB=>?_⟩,fun k m hk hm ha hkT=>?_⟩
 .have fb:=uR aU hp hk;have nC:=uR aU hq hm;have KX:s.cls.getD k 0≠s.cls.getD m 0:=aB;show s.cls.getD k 0∈r∨s.cls.getD m 0∈r∨_;rcases h.pd p q hp hq he a k m hk hm KX with g|g|⟨g,_⟩
  .rw[hw]at g;rcases alc.1 g with g|g
   .refine .inr (.inr ⟨hL p hp a k hk g,fun hi=>?_⟩);have:=hi.1 ((gj k fb).2 g);have:=(gj m nC).1 this;exact KX (g.trans this.symm)
   .exact .inl g
  .rw[hw]at g;rcases alc.1 g with g|g
   .refine .inr (.inr ⟨hL q hq a m hm g,fun hi=>?_⟩);have:=hi.2 ((gj m nC).2 g);have:=(gj k fb).1 this;exact KX (this.trans g.symm)
   .exact .inr (.inl g)
  .simp at g
 .rw[gj m hm,<-h.al k m hk hm ha];exact(gj k hk).1 hkT
theorem jf.alike(h:jf l s [] [])(aU:gq l)(hw:s.wait=[]){i j:Nat}(hi:i<l.length)(hj:j<l.length):alike l i j↔s.cls.getD i 0=s.cls.getD j 0:=by
 constructor
 .exact h.al i j hi hj
 .intro he;refine⟨fun p q=>p<l.length∧q<l.length∧s.cls.getD p 0=s.cls.getD q 0,?_,hi,hj,he⟩;rintro p q ⟨hp,hq,he⟩;have e:=h.sf p q hp hq he;refine⟨e,fun n k m hk hm=>?_⟩;have e1:=SD e;rw[<-Gk,ala,ak8]at hk hm;obtain⟨⟨a,k'⟩,h1,rfl⟩:=hk;obtain⟨⟨b,m'⟩,h2,rfl⟩:=hm
  have eC:a=b:=by
   have:=congrArg (fun L:List eu=>L[n]?) e1;simp only[ala,h1,h2,Option.map_some,alE]at this;exact this
  subst eC;have m1:=alp h1;have m2:=alp h2;refine⟨uR aU hp m1,uR aU hq m2,?_⟩;by_cases g:s.cls.getD k' 0=s.cls.getD m' 0
  .exact g
  .rcases h.pd p q hp hq he a k' m' m1 m2 g with g|g|⟨g,_⟩<;>simp[hw]at g
end
end Go.Proofs.YtpmniabdmbmafaaGreatDoor

namespace Go.Proofs.YtpmniabdmbmafaaGreatDoor
open Go.Ab
def Gl(c:UInt8):Bool:=decide (48<=c.toNat)&&decide (c.toNat<=57)
def yh(l:List UInt8):Nat:=l.foldl (fun v c=>10*v+(c.toNat-48)) 0
theorem agc(l:List UInt8)(c:UInt8):yh (l++[c])=10*yh l+(c.toNat-48):=by simp[yh]
theorem agd(u:Nat)(h:¬u<10):Lib.decDigits u=Lib.decDigits (u / 10)++[UInt8.ofNat (48+u % 10)]:=by
 rw[Lib.decDigits,dif_neg h]
theorem age(u:Nat)(h:u<10):Lib.decDigits u=[UInt8.ofNat (48+u)]:=by
 rw[Lib.decDigits,dif_pos h]
theorem SF{d:Nat}(h:d<10):Gl (UInt8.ofNat (48+d))=true∧(UInt8.ofNat (48+d)).toNat=48+d:=by
 have e:(UInt8.ofNat (48+d)).toNat=48+d:=by rw[UInt8.toNat_ofNat'];omega
 refine⟨?_,e⟩;unfold Gl;rw[e,decide_eq_true (by omega),decide_eq_true (by omega)];rfl
theorem agf(u:Nat):yh (Lib.decDigits u)=u∧(Lib.decDigits u).all Gl=true∧Lib.decDigits u≠[]:=by
 induction u using Nat.strongRecOn with
 |ind u ih =>
   by_cases h:u<10
   .rw[age u h];obtain⟨h1,h2⟩:=SF h;generalize UInt8.ofNat (48+u)=c at *
    refine⟨by simp[yh,h2],by simp[h1],by simp⟩
   .rw[agd u h];obtain⟨h1,h2⟩:=SF (d:=u % 10) (by omega);generalize UInt8.ofNat (48+u % 10)=c at *
    obtain⟨g1,g2,_⟩:=ih (u / 10) (by omega);exact⟨by rw[agc,g1,h2];omega,by simp[g2,h1],by simp⟩
theorem agh{n:Int}(h:0<=n):Lib.itoa n=Lib.decDigits n.toNat:=by simp[Lib.itoa,show¬n<0 by omega]
def Dw(b:Bool):UInt8:=if b then 49 else 48
def jy(s:EA):List UInt8:=[s.plus,s.al,s.int,s.bool,s.str,s.arr,s.rc,s.tg].map Dw
def eM(l:List (List UInt8)):List UInt8:=l.flatMap fun t=>32::t
def Dx(s:EA):List (List UInt8):=s.vars.map Lib.itoa++(wN s.fl++wN s.tl)
def jz(s:EA):List UInt8:=jy s++eM (Dx s)
theorem KY(a b:List (List UInt8)):eM (a++b)=eM a++eM b:=by simp[eM]
theorem agi(a:List UInt8):eM [a]=32::a:=by simp[eM]
theorem agj{x y:List UInt8}{r r':List (List UInt8)}(hx:32∉x)(hy:32∉y)(h:x++eM r=y++eM r'):x=y∧eM r=eM r':=by
 have key:∀(x:List UInt8) (r:List (List UInt8)),32∉x->(x++eM r).takeWhile (fun c=>c != 32)=x:=by
  intro x r hx
  induction x with
  |nil =>
    cases r with
    |nil=>rfl
    |cons a r=>simp[eM]
  |cons c x ih =>
    have h1:c≠32:=fun e=>hx (by simp[e]);have h2:32∉x:=fun e=>hx (by simp[e]);simp[h1,ih h2]
 have e:=congrArg (List.takeWhile fun c=>c != 32) h;rw[key x r hx,key y r' hy]at e;subst e;exact⟨rfl,List.append_cancel_left h⟩
theorem SG:∀{a b:List (List UInt8)},(∀t∈a,32∉t)->(∀t∈b,32∉t)->eM a=eM b->a=b
 |[],[],_,_,_=>rfl
 |[],y::b,_,_,h=>by simp[eM]at h
 |x::a,[],_,_,h=>by simp[eM]at h
 |x::a,y::b,ha,hb,h=>by
   have e:x++eM a=y++eM b:=by
    have:(32:UInt8)::(x++eM a)=32::(y++eM b):=h;exact(List.cons.inj this).2
   obtain⟨rfl,e2⟩:=agj (ha x (by simp)) (hb y (by simp)) e;rw[SG (fun t ht=>ha t (by simp[ht])) (fun t ht=>hb t (by simp[ht])) e2]
theorem agk{c:UInt8}(h:mo c=true):c≠32:=by
 rintro rfl
 revert h;decide
theorem SH:∀{l:List UInt8},nO l=l.length->∀c∈l,mo c=true
 |[],_,c,hc=>by simp at hc
 |a::r,h,c,hc=>by
   rw[nO]at h;split at h
   .rename_i ha;rcases alc.1 hc with rfl|hc
    .exact ha
    .exact SH (by simpa using h) c hc
   .simp at h
theorem agl{s:List UInt8}(h:lN s=true):s≠[]∧∀c∈s,mo c=true:=by
 simp only[lN,ak7,decide_eq_true_eq]at h;obtain⟨⟨h1,_⟩,h2⟩:=h
 cases s with
 |nil=>simp at h1
 |cons a r =>
   refine⟨by simp,?_⟩;rw[zz]at h2;split at h2
   .rename_i ha;intro c hc;rcases alc.1 hc with rfl|hc
    .simp only[mo,ha,Bool.true_or]
    .exact SH (by simpa using h2) c hc
   .simp at h2
theorem SI{s:List UInt8}(h:lN s=true):32∉s:=fun hc=>agk ((agl h).2 _ hc) rfl
def tJ(t:List UInt8):Nat:=if v7 (t.getD 0 0).toNat then 0 else if sm (t.getD 0 0)then 1 else 2
theorem KZ{n:Int}(h:0<=n):32∉Lib.itoa n∧tJ (Lib.itoa n)=0∧(yh (Lib.itoa n):Int)=n:=by
 rw[agh h];obtain⟨h1,h2,h3⟩:=agf n.toNat;refine⟨fun hc=>?_,?_,by rw[h1];omega⟩
 .have:=alr.1 h2 _ hc
  revert this;decide
 .cases hd:Lib.decDigits n.toNat with
  |nil=>exact absurd hd h3
  |cons c r =>
    rw[hd]at h2;have:=alr.1 h2 c (by simp);simp only[Gl,ak7,decide_eq_true_eq]at this;unfold tJ;rw[anp,if_pos];simp only[v7,ak7,decide_eq_true_eq];omega
theorem SJ{s:List UInt8}(h:lO s=true):32∉s∧tJ s=1:=by
 simp only[lO,ak7]at h;refine⟨SI h.1.1,?_⟩;have h2:=h.1.2;unfold tJ;rw[if_pos h2,if_neg];simp only[sm,xM,v7,alF,ak7,decide_eq_true_eq]at h2 ⊢;omega
theorem SK{s:List UInt8}(h:mL s=true):32∉s∧tJ s=2:=by
 simp only[mL,ak7]at h;refine⟨SI h.1,?_⟩;have h2:=h.2;unfold tJ;rw[if_neg,if_neg]
 .simp only[gr,Ck,sm,xM,v7,alF,ak7,decide_eq_true_eq]at h2 ⊢;omega
 .simp only[gr,Ck,sm,xM,v7,alF,ak7,decide_eq_true_eq]at h2 ⊢;omega
theorem Aa{α:Type}{k:α->Nat}{n:Nat}:∀{l:List α},(∀x∈l,k x=n)->l.filter (fun x=>decide (k x=n))=l:=fun h=>amU.2 fun x hx=>by simp[h x hx]
theorem ri{α:Type}{k:α->Nat}{n m:Nat}(eO:m≠n){l:List α}(h:∀x∈l,k x=m):l.filter (fun x=>decide (k x=n))=[]:=anc.2 fun x hx=>by simp[h x hx,eO]
theorem agm{α:Type}(k:α->Nat){a b c a' b' c':List α}(ha:∀x∈a,k x=0)(hb:∀x∈b,k x=1)(hc:∀x∈c,k x=2)(ha':∀x∈a',k x=0)(eI:∀x∈b',k x=1)(sN:∀x∈c',k x=2)
  (h:a++(b++c)=a'++(b'++c')):a=a'∧b=b'∧c=c':=by
 have h0:=congrArg (List.filter fun x=>decide (k x=0)) h;have h1:=congrArg (List.filter fun x=>decide (k x=1)) h;have h2:=congrArg (List.filter fun x=>decide (k x=2)) h;simp only[amx,Aa ha,Aa ha',ri (show 1≠0 by decide) hb,ri (show 1≠0 by decide) eI,ri (show 2≠0 by decide) hc,ri (show 2≠0 by decide) sN,alS]at h0;simp only[amx,Aa hb,Aa eI,ri (show 0≠1 by decide) ha,ri (show 0≠1 by decide) ha',ri (show 2≠1 by decide) hc,ri (show 2≠1 by decide) sN,alS,List.nil_append]at h1;simp only[amx,Aa hc,Aa sN,ri (show 0≠2 by decide) ha,ri (show 0≠2 by decide) ha',ri (show 1≠2 by decide) hb,ri (show 1≠2 by decide) eI,List.nil_append]at h2;exact⟨h0,h1,h2⟩
structure sn(s:EA):Prop where
 v:∀n∈s.vars,0<=n∧n<=999
 f:∀q∈s.fl,lO q.1=true
 t:∀q∈s.tl,mL q.1=true
theorem SM{s u:EA}(hs:sn s)(hu:sn u):jz s=jz u↔s.self=u.self:=by
 constructor
 .intro h;unfold jz at h;have hb:(jy s).length=(jy u).length:=by simp[jy]
  obtain⟨h1,h2⟩:=List.append_inj h hb
  have SP:∀{w:EA},sn w->∀t∈Dx w,32∉t:=by
   intro w hw t ht;unfold Dx at ht;rcases ak1.1 ht with ht|ht
   .obtain⟨n,hn,rfl⟩:=ak6.1 ht;exact(KZ (hw.v n hn).1).1
   .rcases ak1.1 ht with ht|ht
    .obtain⟨q,hq,rfl⟩:=ak6.1 ht;exact(SJ (hw.f q hq)).1
    .obtain⟨q,hq,rfl⟩:=ak6.1 ht;exact(SK (hw.t q hq)).1
  have h3:=SG (SP hs) (SP hu) h2
  have k0:∀{w:EA},sn w->∀t∈w.vars.map Lib.itoa,tJ t=0:=by
   intro w hw t ht;obtain⟨n,hn,rfl⟩:=ak6.1 ht;exact(KZ (hw.v n hn).1).2.1
  have k1:∀{w:EA},sn w->∀t∈wN w.fl,tJ t=1:=by
   intro w hw t ht;obtain⟨q,hq,rfl⟩:=ak6.1 ht;exact(SJ (hw.f q hq)).2
  have k2:∀{w:EA},sn w->∀t∈wN w.tl,tJ t=2:=by
   intro w hw t ht;obtain⟨q,hq,rfl⟩:=ak6.1 ht;exact(SK (hw.t q hq)).2
  obtain⟨h4,h5,h6⟩:=agm tJ (k0 hs) (k1 hs) (k2 hs) (k0 hu) (k1 hu) (k2 hu) h3
  have h7:s.vars=u.vars:=by
   have e:∀{w:EA},sn w->(w.vars.map Lib.itoa).map (fun t=>(yh t:Int))=w.vars:=by
    intro w hw;rw[alD]
    conv=>rhs;rw[<-List.map_id w.vars]
    exact alI fun n hn=>(KZ (hw.v n hn).1).2.2
   rw[<-e hs,h4,e hu]
  have wS:∀a b:Bool,Dw a=Dw b->a=b:=by decide
  simp only[jy,alf,alJ,al3,and_true]at h1;obtain⟨b1,b2,b3,b4,b5,b6,b7,b8⟩:=h1;simp only[EA.self,amd,al3,and_true];exact⟨⟨⟨wS _ _ b1,wS _ _ b2,wS _ _ b3,wS _ _ b4,wS _ _ b5,wS _ _ b6,wS _ _ b7,wS _ _ b8⟩,h7⟩,h5,h6⟩
 .intro h;simp only[EA.self,amd,al3,and_true]at h;obtain⟨⟨⟨b1,b2,b3,b4,b5,b6,b7,b8⟩,h7⟩,h5,h6⟩:=h;unfold jz jy Dx wN;rw[b1,b2,b3,b4,b5,b6,b7,b8,h7,h5,h6]
end Go.Proofs.YtpmniabdmbmafaaGreatDoor

