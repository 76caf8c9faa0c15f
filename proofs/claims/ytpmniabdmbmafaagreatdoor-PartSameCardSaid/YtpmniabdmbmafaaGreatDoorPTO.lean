/-
  What an automaton means, as a type: plain. (with the parts that follow it)
-/
import Derived.Test.YtpmniabdmbmafaaGreatDoorPTN
import Derived.Test.YtpmniabdmbmafaaGreatDoorPTM
import Derived.Test.YtpmniabdmbmafaaGreatDoorPTI
import Derived.Test.YtpmniabdmbmafaaGreatDoorPTG
import Derived.Test.YtpmniabdmbmafaaGreatDoorPTE
import Derived.Test.YtpmniabdmbmafaaGreatDoorPTL
import Derived.Test.YtpmniabdmbmafaaGreatDoorPTJ
import Derived.Test.YtpmniabdmbmafaaGreatDoorPTK
import Derived.Shelf.Lays
import Derived.Shelf.Small.Strs
import Derived.Ground.NamesProg
import Derived.Shelf.SlSortCmp.NoneTotal
set_option linter.all false
set_option maxHeartbeats 16000000
namespace Go.Proofs.YtpmniabdmbmafaaGreatDoor
open Go.Ab
inductive l7(T:List TN)(p:Bool)(m:Int):Int->List TN->Prop
 |nil {a:Int} (hm:m<=a) (h:bI T a) (hn:nd T a.toNat=⟨cQ p,0,0,[]⟩):l7 T p m a []
 |snoc {a c b:Int} {l:List TN} {x:TN} (h:l7 T p m c l) (hm:m<=a) (ha:bI T a) (kF:m<=b) (hb:bI T b) (hn:nd T a.toNat=⟨cy p,c,b,[]⟩) (hx:nd T b.toNat=x):l7 T p m a (l++[x])
theorem l7.keep{T T':List TN}{p:Bool}{m a:Int}{l:List TN}(hm:0<=m)(hl:T.length<=T'.length)(hk:∀j:Int,m<=j->bI T j->nd T' j.toNat=nd T j.toNat)(h:l7 T p m a l):l7 T' p m a l:=by
 have up:∀{j:Int},bI T j->bI T' j:=fun {j} h=>⟨h.1,by have:=h.2;omega⟩
 induction h with
 |nil h1 h hn=>exact .nil h1 (up h) (by rw[hk _ h1 h];exact hn)
 |snoc _ h1 ha h2 hb hn hx ih=>exact .snoc ih h1 (up ha) h2 (up hb) (by rw[hk _ h1 ha];exact hn) (by rw[hk _ h2 hb];exact hx)
theorem l7.at{T:List TN}{p:Bool}{m a:Int}{l:List TN}(h:l7 T p m a l):m<=a∧bI T a:=by cases h<;>exact⟨by assumption,by assumption⟩
theorem UB{L M:List TN}{j:Int}(h:bI L j):nd (L++M) j.toNat=nd L j.toNat:=by
 have:=h.1;have:=h.2;unfold nd;rw[akX,alj (by omega),<-akX]
theorem Mf{L M:List TN}{x:TN}(j:Int)(h:j=(L.length:Int)):nd (L++x::M) j.toNat=x:=by
 subst h;unfold nd;rw[akX,aln (by omega)];simp
theorem UC{p:Bool}{m:Int}(h0:0<=m):∀(P:List TN) (S:List TN×Nat) (l:List TN),m<=S.1.length->l7 S.1 p m S.2 l ->
  l7 (P.foldl (il (cy p)) S).1 p m (P.foldl (il (cy p)) S).2 (l++P)∧(P.foldl (il (cy p)) S).1.length=S.1.length+2*P.length∧∀j:Int,bI S.1 j->nd (P.foldl (il (cy p)) S).1 j.toNat=nd S.1 j.toNat
 |[],S,l,_,h=>⟨by simpa using h,by simp,fun _ _=>rfl⟩
 |x::P,S,l,hm,h=>by
   have hl:(il (cy p) S x).1.length=S.1.length+2:=by simp[il]
   have hk:∀j:Int,bI S.1 j->nd (il (cy p) S x).1 j.toNat=nd S.1 j.toNat:=fun j hj=>UB hj
   have h1:l7 (il (cy p) S x).1 p m ((il (cy p) S x).2:Nat) (l++[x]):=by
    refine .snoc (c:=S.2) (b:=S.1.length) (h.keep h0 (by omega) fun j _ hj=>hk j hj) (by simp only[il];omega) ⟨by simp only[il];omega,by rw[hl];simp only[il];omega⟩ hm ⟨by omega,by rw[hl];omega⟩ ?_ (Mf _ rfl);show nd (S.1++[x,_]) _=_;rw[show S.1++[x,(⟨cy p,S.2,S.1.length,[]⟩:TN)]=(S.1++[x])++[⟨cy p,S.2,S.1.length,[]⟩]from by simp];exact Mf _ (by simp[il])
   obtain⟨i1,i2,i3⟩:=UC h0 P (il (cy p) S x) (l++[x]) (by omega) h1;refine⟨?_,by rw[List.foldl_cons,i2,hl,List.length_cons];omega,fun j hj=>?_⟩
   .rw[alK]at i1;exact i1
   .rw[List.foldl_cons,i3 j ⟨hj.1,by have:=hj.2;omega⟩,hk j hj]
theorem UD(L:List TN)(i:Nat)(s:EA)(n:Nat)(hi:i<n)(hn:n<=L.length) :
  (kM L i s).length=L.length+1+2*(dO s (cR s.plus)).length∧(∀j:Int,bI L j->j≠i->nd (kM L i s) j.toNat=nd L j.toNat)∧∃a,nd (kM L i s) i=⟨cy s.plus,a,a,[]⟩∧l7 (kM L i s) s.plus n a (dO s (cR s.plus)):=by
 have hL:(L++[(⟨cQ s.plus,0,0,[]⟩:TN)]).length=L.length+1:=by simp
 obtain⟨c1,c2,c3⟩:=UC (p:=s.plus) (m:=n) (by omega) (dO s (cR s.plus)) (L++[⟨cQ s.plus,0,0,[]⟩],L.length) [] (by rw[hL];omega) (.nil (by omega) ⟨by omega,by rw[hL];simp only;omega⟩ (Mf _ rfl))
 have c1:l7 (o5 s.plus L (dO s (cR s.plus))).1 s.plus n (o5 s.plus L (dO s (cR s.plus))).2 (dO s (cR s.plus)):=by
  rw[List.nil_append]at c1;exact c1
 have c2:(o5 s.plus L (dO s (cR s.plus))).1.length=L.length+1+2*(dO s (cR s.plus)).length:=by rw[<-hL];exact c2
 have c3:∀j:Int,bI L j->nd (o5 s.plus L (dO s (cR s.plus))).1 j.toNat=nd L j.toNat:=fun j hj=>by
  have:=c3 j ⟨hj.1,by have:=hj.2;rw[hL];omega⟩;refine this.trans (UB hj)
 have hs:∀(j:Int),0<=j->j≠i->nd (kM L i s) j.toNat=nd (o5 s.plus L (dO s (cR s.plus))).1 j.toNat:=fun j h0 hj=>by
  unfold nd kM;rw[akX,alu (by omega),<-akX]
 have hlen:(kM L i s).length=(o5 s.plus L (dO s (cR s.plus))).1.length:=by unfold kM;rw[alX]
 refine⟨by rw[hlen,c2],fun j hj aB=>by rw[hs j hj.1 aB,c3 j hj],(o5 s.plus L (dO s (cR s.plus))).2,?_,?_⟩
 .unfold nd kM;rw[akX,alA (by rw[c2];omega)];rfl
 .exact c1.keep (by omega) (by rw[hlen];exact ali _) fun j hj _=>hs j (by omega) (by omega)
def G8(T:List TN)(n:Int)(k:Int)(s:EA):Prop:=∃a,nd T k.toNat=⟨cy s.plus,a,a,[]⟩∧l7 T s.plus n a (dO s (cR s.plus))
theorem Mg(R:List EA):∀i,i<=R.length->R.length<=(iM R i).length∧∀k:Nat,k<i->G8 (iM R i) R.length k (R.getD k default)
 |0,_=>⟨by simp[iM],fun k hk=>by omega⟩
 |i+1,hi=>by
   obtain⟨h1,h2⟩:=Mg R i (by omega);obtain⟨t1,t2,a,t3,t4⟩:=UD (iM R i) i (R.getD i default) R.length (by omega) h1;have hlen:(iM R i).length<=(iM R (i+1)).length:=by show _<=(kM _ _ _).length;rw[t1];omega
   refine⟨by omega,fun k hk=>?_⟩;by_cases e:k=i
   .subst e;exact⟨a,by rw[Int.toNat_natCast];exact t3,t4⟩
   .obtain⟨b,k1,k2⟩:=h2 k (by omega)
    exact⟨b,by
     have:=t2 (k:Int) ⟨by omega,by omega⟩ (by omega)
     exact this.trans k1,k2.keep (by omega) hlen fun j hj aW=>t2 j aW (by omega)⟩
theorem Ay(R:List EA):R.length<=(bw R).length∧∀k:Nat,k<R.length->G8 (bw R) R.length k (R.getD k default):=Mg R R.length (ali _)
theorem UE(R:List EA){b:Nat}(h:∀s∈R,(dO s (cR s.plus)).length<=b):∀i,i<=R.length->(iM R i).length<=R.length+i*(1+2*b)
 |0,_=>by simp[iM]
 |i+1,hi=>by
   have h1:=UE R h i (by omega);obtain⟨t1,_⟩:=UD (iM R i) i (R.getD i default) R.length (by omega) (Mg R i (by omega)).1
   have h2:R.getD i default∈R:=by
    rw[akX,ak0 (by omega)];exact ak2 _
   have h3:=h _ h2;have h4:(i+1)*(1+2*b)=i*(1+2*b)+(1+2*b):=al8 _ _;show(kM _ _ _).length<=_;rw[t1,h4];omega
theorem Az{T:List TN}{x:Int}{n:TN}(h:nd T x.toNat=n):aZ T x=fT n.k:=by unfold aZ;rw[h]
theorem UF{s:EA}{p:Bool}{x:TN}(h:x∈dO s (cR p)):fT x.k=false:=by
 unfold dO at h;simp only[ak1,ak6]at h;obtain((((((h|h)|h)|h)|h)|h)|h)|h:=h
 .split at h<;>simp at h;subst h;cases p<;>rfl
 .split at h<;>simp at h;subst h;rfl
 .split at h<;>simp at h;subst h;rfl
 .split at h<;>simp at h;subst h;rfl
 .obtain⟨v,_,rfl⟩:=h;rfl
 .split at h<;>simp at h;subst h;rfl
 .split at h<;>simp at h;subst h;rfl
 .split at h<;>simp at h;subst h;rfl
theorem l7.opn{T:List TN}{p:Bool}{m a:Int}{l:List TN}(h:l7 T p m a l):(∀y∈l,fT y.k=false)->(∀x,fI T a x->nd T x.toNat=⟨cQ p,0,0,[]⟩∨nd T x.toNat∈l)∧∀y∈l,∃x,fI T a x∧bI T x∧nd T x.toNat=y:=by
 induction h with
 | @nil a hm h hn =>
   intro _;refine⟨fun x hx=>.inl ?_,fun y hy=>by cases hy⟩;rw[hx.self (by rw[Az hn];cases p<;>rfl)];exact hn
 | @snoc a c b l x h hm ha kF hb hn hx ih =>
   intro hl;obtain⟨i1,i2⟩:=ih fun y hy=>hl y (alm _ hy);have G9:aZ T a=true:=by rw[Az hn];cases p<;>rfl
   have CW:aZ T b=false:=by rw[Az hx];exact hl x (by simp)
   refine⟨fun z hz=>?_,fun y hy=>?_⟩
   .cases hz with
    |flat g=>rw[G9]at g;cases g
    |left _ t =>
      rw[hn]at t;rcases i1 z t with g|g
      .exact .inl g
      .exact .inr (alm _ g)
    |right _ t =>
      rw[hn]at t;rw[t.self CW,hx];exact .inr (by simp)
   .rcases ak1.1 hy with hy|hy
    .obtain⟨z,z1,z2,z3⟩:=i2 y hy;exact⟨z,.left G9 (by rw[hn];exact z1),z2,z3⟩
    .rw[ak3.1 hy];exact⟨b,.right G9 (by rw[hn];exact .flat CW),hb,hx⟩
theorem G8.opn{T:List TN}{n k:Int}{s:EA}(h:G8 T n k s):(∀x,fI T k x->nd T x.toNat=⟨cQ s.plus,0,0,[]⟩∨nd T x.toNat∈dO s (cR s.plus))∧∀y∈dO s (cR s.plus),∃x,fI T k x∧bI T x∧nd T x.toNat=y:=by
 obtain⟨a,h1,h2⟩:=h;obtain⟨i1,i2⟩:=h2.opn fun y hy=>UF hy;have hl:aZ T k=true:=by rw[Az h1];cases s.plus<;>rfl
 refine⟨fun x hx=>?_,fun y hy=>?_⟩
 .cases hx with
  |flat g=>rw[hl]at g;cases g
  |left _ t=>rw[h1]at t;exact i1 x t
  |right _ t=>rw[h1]at t;exact i1 x t
 .obtain⟨x,x1,x2,x3⟩:=i2 y hy;exact⟨x,.left hl (by rw[h1];exact x1),x2,x3⟩
end Go.Proofs.YtpmniabdmbmafaaGreatDoor

namespace Go.Proofs.YtpmniabdmbmafaaGreatDoor
open Go.Ab
theorem UG{n:TN}(h:(n.l.map (·.1)).Nodup){q:da}(hq:q∈n.l):gW n q.1=q.2:=by
 obtain⟨q',bX,e1,e2⟩:=G1 (n:=n) (s:=q.1) (ak6.2 ⟨q,hq,rfl⟩);rw[e2]
 have key:∀{l:List da},(l.map (·.1)).Nodup->∀a∈l,∀b∈l,a.1=b.1->a.2=b.2:=by
  intro l
  induction l with
  |nil=>intro _ a ha;cases ha
  |cons z r ih =>
    intro hn a ha b hb e;rw[alf,alW]at hn;rcases alc.1 ha with ea|ha
    .rcases alc.1 hb with eb|hb
     .rw[ea,eb]
     .exact absurd (ak6.2 ⟨b,hb,by rw[<-e,ea]⟩) hn.1
    .rcases alc.1 hb with eb|hb
     .exact absurd (ak6.2 ⟨a,ha,by rw[e,eb]⟩) hn.1
     .exact ih hn.2 a ha b hb e
 exact key h q' bX q hq e1
def pW(R:List EA)(p:Bool)(x:Int):Prop:=∃k:Nat,k<R.length∧(R.getD k default).plus=p ∧
 (x=k∨(∃l,l7 (bw R) p R.length x l∧∀y∈l,y∈dO (R.getD k default) (cR p))∨(bI (bw R) x∧nd (bw R) x.toNat∈dO (R.getD k default) (cR p)))
section
variable {ts:List TN}{root:Int}{pt:Bool->Int->Prop}{V:List Clu}{R:List EA}
theorem Ha{s:EA}{e:Int}{n:TN}(h:n∈dO s e):(s.al=true∧n=⟨e,0,0,[]⟩)∨(s.int=true∧n=⟨3,0,0,[]⟩)∨(s.bool=true∧n=⟨4,0,0,[]⟩)∨(s.str=true∧n=⟨5,0,0,[]⟩)∨(∃v∈s.vars,n=⟨11,v,0,[]⟩)∨(s.arr=true∧n=⟨6,s.bD,s.bE,[]⟩)∨(s.rc=true∧n=⟨7,0,0,s.fl⟩)∨(s.tg=true∧n=⟨8,0,0,s.tl⟩):=by
 unfold dO at h;simp only[ak1,ak6]at h
 have key:∀{b:Bool} {m:TN},n∈(if b=true then[m]else[])->b=true∧n=m:=fun {b m} h=>by
  cases b with
  |true=>exact⟨rfl,ak3.1 h⟩
  |false=>cases h
 obtain((((((h|h)|h)|h)|h)|h)|h)|h:=h
 .exact .inl (key h)
 .exact .inr (.inl (key h))
 .exact .inr (.inr (.inl (key h)))
 .exact .inr (.inr (.inr (.inl (key h))))
 .obtain⟨v,hv,rfl⟩:=h;exact .inr (.inr (.inr (.inr (.inl ⟨v,hv,rfl⟩))))
 .exact .inr (.inr (.inr (.inr (.inr (.inl (key h))))))
 .exact .inr (.inr (.inr (.inr (.inr (.inr (.inl (key h)))))))
 .exact .inr (.inr (.inr (.inr (.inr (.inr (.inr (key h)))))))
theorem mZ{s:EA}{e:Int}{n:TN}(h:(s.al=true∧n=⟨e,0,0,[]⟩)∨(s.int=true∧n=⟨3,0,0,[]⟩)∨(s.bool=true∧n=⟨4,0,0,[]⟩)∨(s.str=true∧n=⟨5,0,0,[]⟩)∨(∃v∈s.vars,n=⟨11,v,0,[]⟩)∨(s.arr=true∧n=⟨6,s.bD,s.bE,[]⟩)∨(s.rc=true∧n=⟨7,0,0,s.fl⟩)∨(s.tg=true∧n=⟨8,0,0,s.tl⟩)):n∈dO s e:=by
 unfold dO;simp only[ak1,ak6];obtain⟨h,rfl⟩|⟨h,rfl⟩|⟨h,rfl⟩|⟨h,rfl⟩|⟨v,hv,rfl⟩|⟨h,rfl⟩|⟨h,rfl⟩|⟨h,rfl⟩:=h
 .exact .inl (.inl (.inl (.inl (.inl (.inl (.inl (by rw[if_pos h];exact ak3.2 rfl)))))))
 .exact .inl (.inl (.inl (.inl (.inl (.inl (.inr (by rw[if_pos h];exact ak3.2 rfl)))))))
 .exact .inl (.inl (.inl (.inl (.inl (.inr (by rw[if_pos h];exact ak3.2 rfl))))))
 .exact .inl (.inl (.inl (.inl (.inr (by rw[if_pos h];exact ak3.2 rfl)))))
 .exact .inl (.inl (.inl (.inr ⟨v,hv,rfl⟩)))
 .exact .inl (.inl (.inr (by rw[if_pos h];exact ak3.2 rfl)))
 .exact .inl (.inr (by rw[if_pos h];exact ak3.2 rfl))
 .exact .inr (by rw[if_pos h];exact ak3.2 rfl)
end
end Go.Proofs.YtpmniabdmbmafaaGreatDoor

namespace Go.Proofs.YtpmniabdmbmafaaGreatDoor
open Go.Ab
theorem getD_eq{α:Type}{l:List α}{i:Nat}{d:α}(h:i<l.length):l.getD i d=l[i]:=by simp[h]
theorem ahX{P:Program}{G:List (Nat×Obj)}{f:FuncId}{ds:List D}{Q Q':AV->Prop}(h:HP P G f ds Q)(hq:∀r,Q r->Q' r):HP P G f ds Q':=bZ.mono h fun r _ hr=>⟨hq r hr.1,hr.2⟩
end Go.Proofs.YtpmniabdmbmafaaGreatDoor

namespace Go.Proofs.YtpmniabdmbmafaaGreatDoor
open Go.Ab
theorem Mh{α:Type}[DecidableEq α]:∀{l u:List α},l.Nodup->(∀a∈l,a∈u)->l.length<=u.length
 |[],_,_,_=>ale _
 |x::l,u,hn,hs=>by
   rw[alW]at hn;have hx:=hs x alb
   have h1:=Mh (l:=l) (u:=u.erase x) hn.2 fun a ha=>by
    rw[List.mem_erase_of_ne (fun e=>by subst e;exact hn.1 ha)];exact hs a (ald _ ha)
   rw[anu hx]at h1;have:=amW hx;rw[List.length_cons];omega
theorem ahY{ns:List TN}{root:Int}(h:o8 ns root=0){i:Int}(hi:bI ns i):∀x∈fU (nd ns i.toNat),bI ns x:=Gd (zZ (DQ h).2.2.1 (by have h1:=hi.1;have h2:=hi.2;omega))
theorem UH{k:Int}(h:oZ k=true):p8 k=true:=by
 unfold oZ at h;unfold p8;simpa using h
theorem ahZ{gs:List TN}{g:Int}(hm:o8 gs g=0){B:List Int}(hB:∀y∈B,bI gs y)(hk:∀y∈B,∀z∈fU (nd gs y.toNat),z∈B)(hv:∀y∈B,ah gs y≠11):dU gs (·∈B):=by
 refine⟨hB,hv,fun y hy h2=>?_,fun y hy q hq=>?_⟩
 .have e:fU (nd gs y.toNat)=[(nd gs y.toNat).a,(nd gs y.toNat).b]:=by
   unfold fU;rw[show p8 (nd gs y.toNat).k=true from UH h2];rfl
  have:=hk y hy;rw[e]at this;exact⟨this _ (by simp),this _ (by simp)⟩
 .have hr:=zZ (DQ hm).2.2.1 (i:=y.toNat) (by have h1:=(hB y hy).1;have h2:=(hB y hy).2;omega);rcases(yw hr).2.2.2 with hw|hl
  .have e:fU (nd gs y.toNat)=(nd gs y.toNat).l.map (·.2):=by
    unfold fU
    rw[show p8 (nd gs y.toNat).k=false from by
     simp only[ij,alF,decide_eq_true_eq]at hw
     rcases hw with h|h<;>rw[h]<;>decide,if_neg (by simp),if_pos hw]
   exact hk y hy q.2 (by rw[e];exact ak6.2 ⟨q,hq,rfl⟩)
  .rw[hl]at hq;cases hq
def ry:Nat->List (List Int)
 |0=>[[]]
 |n+1=>ry n++(ry n).map fun r=>r++[(n:Int)]
theorem Hb:∀n,(ry n).length=2 ^ n
 |0=>rfl
 |n+1=>by
   rw[ry,ak4,alg,Hb n,Nat.pow_succ];omega
theorem Hc:∀(n:Nat) (r:List Int),gJ r->(∀y∈r,0<=y∧y<n)->r∈ry n
 |0,r,_,h=>by
   cases r with
   |nil=>simp[ry]
   |cons x t=>have:=h x alb;omega
 |n+1,r,hr,h=>by
   rw[ry,ak1];rcases List.eq_nil_or_concat r with rfl|⟨t,s,rfl⟩
   .exact .inl (Hc n [] hr (by simp))
   .rw[List.concat_eq_append]at hr h ⊢;have hp:=List.pairwise_append.1 hr
    have ht:∀y∈t,0<=y∧y<n:=fun y hy=>by
     have h1:=h y (by simp[hy]);have h2:=hp.2.2 y hy s (by simp);have h3:=h s (by simp);omega
    by_cases e:s=n
    .subst e;exact .inr (ak6.2 ⟨t,Hc n t hp.1 ht,rfl⟩)
    .have hs:=h s (by simp);refine .inl (Hc n _ hr fun y hy=>?_);rcases ak1.1 hy with hy|hy
     .exact ht y hy
     .rw[ak3.1 hy];omega
def Hd(N G:Nat):List SQ :=
 ((List.range N).flatMap fun(x:Nat)=>((ry G).map fun r=>([(x:Int)],sh N r))++(ry G).map fun r=>(sh N r,[(x:Int)]))++(ry G).flatMap fun l=>(ry G).map fun r=>(sh N l,sh N r)
theorem Mi{α β:Type}{f:α->List β}{c:Nat}:∀{l:List α},(∀x∈l,(f x).length=c)->(l.flatMap f).length=l.length*c
 |[],_=>by simp
 |x::r,h=>by
   rw[List.flatMap_cons,ak4,h x alb,Mi fun y hy=>h y (ald _ hy),List.length_cons,al8,anH]
theorem ah0(N G:Nat):(Hd N G).length=N*(2 ^ G+2 ^ G)+2 ^ G*2 ^ G:=by
 unfold Hd;rw[ak4,Mi (c:=2 ^ G+2 ^ G) fun x _=>by simp[Hb],Mi (c:=2 ^ G) fun x _=>by simp[Hb],Hb,anV]
theorem ah1{ns gs:List TN}{pos:Bool->Int->Prop}{gr:Int->Prop}(hs:kW ns pos)(hg:dU gs gr){f:Fm}(hf:ou pos gr f):bW ns.length f∈Hd ns.length gs.length:=by
 have sub:∀{r:List Int},gJ r->(∀y∈r,gr y)->r∈ry gs.length:=fun {r} h1 h2=>Hc _ r h1 fun y hy=>hg.ok y (h2 y hy);unfold Hd;rw[ak1]
 cases f with
 |G l r=>exact .inr (anE.2 ⟨l,sub hf.1.1 hf.1.2,ak6.2 ⟨r,sub hf.2.1 hf.2.2,rfl⟩⟩)
 |F p x r =>
   have ho:=hs.ok p x hf.1;have e:((x.toNat:Nat):Int)=x:=by have:=ho.1;omega
   refine .inl (anE.2 ⟨x.toNat,alw.2 (by have h1:=ho.1;have h2:=ho.2;omega),?_⟩);rw[ak1,e]
   cases p with
   |true=>exact .inl (ak6.2 ⟨r,sub hf.2.1 hf.2.2,rfl⟩)
   |false=>exact .inr (ak6.2 ⟨r,sub hf.2.1 hf.2.2,rfl⟩)
theorem ah2{ns gs:List TN}{pos:Bool->Int->Prop}{gr:Int->Prop}(hs:kW ns pos)(hg:dU gs gr){f0:Fm}(h0:ou pos gr f0){al:List SQ}(hn:al.Nodup)(ha:∀q∈al,gf 1000 (ar ns gs) (bW ns.length f0) q):al.length<=ns.length*(2 ^ gs.length+2 ^ gs.length)+2 ^ gs.length*2 ^ gs.length:=by
 rw[<-ah0];refine Mh hn fun q hq=>?_;obtain⟨f,hf,rfl⟩:=Uz hs hg h0 (ha q hq);exact ah1 hs hg hf
theorem He{ns gs:List TN}{r:List Int}(h:∀y∈r,bI gs y):∀y∈sh ns.length r,bI (ar ns gs) y:=fun y hy=>by
 obtain⟨z,hz,rfl⟩:=DV.1 hy;obtain⟨h1,h2⟩:=h z hz;have:(ar ns gs).length=ns.length+gs.length:=by simp[ar]
 exact⟨by omega,by omega⟩
theorem ah3{ns gs:List TN}{pos:Bool->Int->Prop}{gr:Int->Prop}(hs:kW ns pos)(hg:dU gs gr){f0:Fm}(h0:ou pos gr f0){q:SQ}(ha:gf 1000 (ar ns gs) (bW ns.length f0) q):(q.1.length<=gs.length+1∧q.2.length<=gs.length+1)∧(∀x∈q.1,bI (ar ns gs) x)∧∀x∈q.2,bI (ar ns gs) x:=by
 obtain⟨f,hf,rfl⟩:=Uz hs hg h0 ha
 have len:∀{r:List Int},gJ r->(∀y∈r,gr y)->(sh ns.length r).length<=gs.length:=fun {r} h1 h2=>by
  have:=afL (n:=gs.length) (L:=r) (h1.imp fun h=>by omega) fun y hy=>hg.ok y (h2 y hy);simpa[sh]using this
 have lft:∀{x:Int},bI ns x->bI (ar ns gs) x:=fun {x} h=>⟨h.1,by have:=h.2;simp[ar];omega⟩
 cases f with
 |G l r =>
   obtain⟨⟨h1,h2⟩,h3,h4⟩:=hf;exact⟨⟨amz (len h1 h2),amz (len h3 h4)⟩,He fun y hy=>hg.ok y (h2 y hy),He fun y hy=>hg.ok y (h4 y hy)⟩
 |F p x r =>
   obtain⟨h1,h2,h3⟩:=hf;have hx:∀y∈[x],bI (ar ns gs) y:=fun y hy=>by rw[ak3.1 hy];exact lft (hs.ok p x h1)
   cases p with
   |true=>exact⟨⟨by simp[bW],amz (len h2 h3)⟩,hx,He fun y hy=>hg.ok y (h3 y hy)⟩
   |false=>exact⟨⟨amz (len h2 h3),by simp[bW]⟩,He fun y hy=>hg.ok y (h3 y hy),hx⟩
end Go.Proofs.YtpmniabdmbmafaaGreatDoor

namespace Go.Proofs.YtpmniabdmbmafaaGreatDoor
open Go.Ab
def Sm(l R:List EA)(ρ:Nat->Nat->Prop):Prop :=
 ∀i k,ρ i k->(i<l.length∧k<R.length)∧jW l i=jW R k∧∀(m a b:Nat),(dB l i)[m]?=some a->(dB R k)[m]?=some b->ρ a b
def Mj(l:List EA)(st:Nat)(a j:Nat):Prop:=(er l st)[j]?=some a
theorem ah4{l R:List EA}{i j:Nat}(h:jW l i=jW R j):(dB l i).length=(dB R j).length:=by
 simp only[dB,alg];exact PT h
theorem UI{l:List EA}{st:Nat}(h:gq l)(hs:st<l.length):Sm l (eV l st) (Mj l st):=by
 intro i j cx;obtain⟨hj,rfl⟩:=akY.1 cx;refine⟨⟨xO h hs _ (ak2 hj),by rw[wc];exact hj⟩,(P1 j hj).symm,fun m a b ha hb=>?_⟩;rw[acK j hj,ala,ha,Option.map_some]at hb;have hb:=alo hb;obtain⟨x,hx,rfl⟩:=alx (P0 h hs _ (ak2 hj) a (alp ha));rw[J0 Fq hx,Int.toNat_natCast]at hb;subst hb;exact ak0 hx
def alR(l:List EA)(i j:Nat):Prop:=i<l.length∧j<l.length∧alike l i j
theorem ah5{l:List EA}{cls:List Nat}(h:gq l)(hc:mN l cls):Sm l (gQ cls l) (alR l):=by
 rintro i j ⟨hi,hj,ha⟩;refine⟨⟨hi,by simpa[gQ]using hj⟩,(zA l _ _ ha).1.trans (P2 j hj).symm,fun m a b h1 h2=>?_⟩;rw[acL j hj,ala]at h2;obtain⟨y,hy,rfl⟩:=ak8.1 h2;have g:=(zA l _ _ ha).2 m a y h1 hy;have wC:=zB h j hj y (alp hy);have:=Ct hc wC;exact⟨zB h i hi a (alp h1),by omega,acJ g (hc.2 y wC).1⟩
theorem Sm.comp{l n R:List EA}{ρ σ:Nat->Nat->Prop}(h:Sm l n ρ)(h':Sm n R σ):Sm l R (fun i k=>∃j,ρ i j∧σ j k):=by
 rintro i k ⟨j,h1,h2⟩;obtain⟨⟨a1,a2⟩,a3,a4⟩:=h i j h1;obtain⟨⟨b1,b2⟩,b3,b4⟩:=h' j k h2;refine⟨⟨a1,b2⟩,a3.trans b3,fun m a b ha hb=>?_⟩;have hm:m<(dB n j).length:=by rw[<-ah4 a3];exact(akY.1 ha).1
 exact⟨_,a4 m a _ ha (ak0 hm),b4 m _ b (ak0 hm) hb⟩
theorem ah6{l:List EA}{st:Int}(h:ff l st=0){out:List Nat}(hc:mN (eV l st.toNat) out):∃ρ,Sm l (oP (eV l st.toNat) out) ρ∧ρ st.toNat 0:=by
 have g:=pb h;have hs:st.toNat<l.length:=by have:=g.s0;have:=g.s1;omega
 have en:ff (eV l st.toNat) 0=0:=GN (by rw[anq g.s0];exact h);have gn:=pb en;have aU:=gn.lX;have h0:0<(eV l st.toNat).length:=gn.n0;have e0:out.getD 0 0=0:=by have:=Ct hc h0;omega
 obtain⟨r1,e1⟩:=Fs (l:=l) (start:=st.toNat);obtain⟨r2,e2⟩:=Fs (l:=gQ out (eV l st.toNat)) (start:=0);refine⟨_,(UI g.lX hs).comp ((ah5 aU hc).comp (UI (st:=out.getD 0 0) (P3 aU hc) (by rw[e0];simpa[gQ]using h0))),0,?_,0,⟨h0,h0,alike_refl _ _⟩,?_⟩
 .unfold Mj;rw[e1];rfl
 .unfold Mj;rw[e0,e2];rfl
def qx(R:List EA)(z:Int)(p:Bool):Prop:=0<=z∧z.toNat<R.length∧(R.getD z.toNat default).plus=p
structure UJ(R:List EA)(s:EA):Prop where
 bD:s.arr=true->qx R s.bD (!s.plus)
 bE:s.arr=true->qx R s.bE s.plus
 fl:∀q∈s.fl,qx R q.2 s.plus
 tl:∀q∈s.tl,qx R q.2 s.plus
 nf:(s.fl.map (·.1)).Nodup
 nt:(s.tl.map (·.1)).Nodup
 vr:∀v∈s.vars,0<=v∧v<1000
 nv:s.vars.length<=1000
 lf:s.fl.length<=30
 lt:s.tl.length<=30
def yG(R:List EA):Prop:=∀i,i<R.length->UJ R (R.getD i default)
theorem Hf{R:List EA}{z:Int}{p:Bool}(h:jd R z p=true):qx R z p:=by
 obtain⟨h1,h2⟩:=z7 h;simp only[jd,ak7]at h;exact⟨h1,by omega,by simpa using h.2⟩
theorem ah7{l:List Int}(h:tD l=true):l.length<=1000:=by
 have h1:=LQ h
 have key:l.Nodup:=by
  rw[List.nodup_iff_pairwise_ne,amk]
  have up:∀(d i:Nat),i+d+1<l.length->l.getD i 0<l.getD (i+d+1) 0:=by
   intro d
   induction d with
   |zero =>
     intro i hi;have:=Al h (i:=i+1) hi;simp only[tC,ak7,decide_eq_true_eq,alH]at this;have h2:=this.2;simp at h2;simpa using h2
   |succ d ih =>
     intro i hi;have a1:=ih i (by omega);have:=Al h (i:=i+d+1+1) (by omega);simp only[tC,ak7,decide_eq_true_eq,alH]at this;have h2:=this.2;simp at h2;have h3:l.getD (i+d+1) 0<l.getD (i+d+1+1) 0:=by simpa using h2
     have:i+(d+1)+1=i+d+1+1:=by omega
     rw[this];omega
  intro i j hi hj cx e;obtain⟨d,rfl⟩:∃d,j=i+d+1:=⟨j-i-1,by omega⟩
  have:=up d i hj;rw[akX,akX,ak0 hi,ak0 hj]at this;simp only[Option.getD_some]at this;omega
 have:=Mh (u:=(List.range 1000).map fun n:Nat=>(n:Int)) key fun v hv=>by
  have:=h1 v hv;exact ak6.2 ⟨v.toNat,alw.2 (by omega),by omega⟩
 simpa using this
theorem ah8{R:List EA}{s:EA}(h:kL R s=true):UJ R s:=by
 simp only[kL,ak7,alH,decide_eq_true_eq]at h;obtain⟨⟨⟨⟨⟨_,h2⟩,h3,uL⟩,h4,jw⟩,h5⟩,h6⟩:=h
 have ht:∀z∈oW s,qx R z s.plus:=fun z hz=>by
  have:=ama.1 h6 z hz;simp only[alH,amM]at this;exact Hf this
 have ha:s.arr=true->qx R s.bD (!s.plus)∧qx R s.bE s.plus:=fun e=>by
  rw[e]at h5;simp only[ame,al0,amD]at h5;exact⟨Hf h5.1,Hf h5.2⟩
 exact⟨fun e=>(ha e).1,fun e=>(ha e).2,fun q hq=>ht _ (alm _ (ak6.2 ⟨q,hq,rfl⟩)),fun q hq=>ht _ (alB _ (ak6.2 ⟨q,hq,rfl⟩)),(GK h3).2,(GK h4).2,fun v hv=>by have:=LQ h2 v hv;omega,ah7 h2,uL,jw⟩
theorem UK{R:List EA}{st:Int}(h:ff R st=0):yG R∧qx R st true:=by
 have g:=pb h;refine⟨fun i hi=>ah8 (g.rt _ (rY hi)),?_⟩;unfold ff at h;split at h
 .cases h
 .split at h
  .cases h
  .rename_i h2;simp only[alF,alH,not_or,amM,anF]at h2;exact Hf h2.1
end Go.Proofs.YtpmniabdmbmafaaGreatDoor

namespace Go.Proofs.YtpmniabdmbmafaaGreatDoor
open Go.Ab
theorem yH{R:List EA}{z:Int}{p:Bool}(h:qx R z p):pW R p z:=⟨z.toNat,h.2.1,h.2.2,.inl (by have:=h.1;omega)⟩
section
variable {R:List EA}
theorem Mk{p:Bool}{x:Int}(hx:pW R p x):bI (bw R) x∧∃k:Nat,k<R.length∧(R.getD k default).plus=p ∧
  ((∃a,nd (bw R) x.toNat=⟨cy p,a,a,[]⟩∧pW R p a)∨nd (bw R) x.toNat=⟨cQ p,0,0,[]⟩∨(∃c b,nd (bw R) x.toNat=⟨cy p,c,b,[]⟩∧pW R p c∧pW R p b)∨nd (bw R) x.toNat∈dO (R.getD k default) (cR p)):=by
 obtain⟨k,h1,h2,h3⟩:=hx;obtain rfl|⟨l,hc,hl⟩|⟨h3,h4⟩:=h3
 .obtain⟨a,a1,a2⟩:=(Ay R).2 k h1;rw[h2]at a1 a2;have:=(Ay R).1;exact⟨⟨by omega,by omega⟩,k,h1,h2,.inl ⟨a,a1,k,h1,h2,.inr (.inl ⟨_,a2,fun y hy=>hy⟩)⟩⟩
 .refine⟨hc.at.2,k,h1,h2,?_⟩
  cases hc with
  |nil hm ho hn=>exact .inr (.inl hn)
  | @snoc _ c b l x hc hm ha kF hb hn hx =>
    exact .inr (.inr (.inl ⟨c,b,hn,⟨k,h1,h2,.inr (.inl ⟨l,hc,fun y hy=>hl y (alm _ hy)⟩)⟩,⟨k,h1,h2,.inr (.inr ⟨hb,by rw[hx];exact hl x (by simp)⟩)⟩⟩))
 .exact⟨h3,k,h1,h2,.inr (.inr (.inr h4))⟩
theorem tZ{s:EA}{p:Bool}{n:TN}(h:n∈dO s (cR p)):(n.k=6->s.arr=true∧n=⟨6,s.bD,s.bE,[]⟩)∧(n.k=7->s.rc=true∧n=⟨7,0,0,s.fl⟩)∧(n.k=8->s.tg=true∧n=⟨8,0,0,s.tl⟩)∧(n.k=11->n.a∈s.vars)∧(n.l≠[]->n.k=7∨n.k=8):=by
 rcases Ha h with⟨g,rfl⟩|⟨g,rfl⟩|⟨g,rfl⟩|⟨g,rfl⟩|⟨v,hv,rfl⟩|⟨g,rfl⟩|⟨g,rfl⟩|⟨g,rfl⟩
 .cases p<;>simp[cR]
 .simp
 .simp
 .simp
 .simpa using hv
 .simp[g]
 .simp[g]
 .simp[g]
theorem Hg(h:yG R):kW (bw R) (pW R):=by
 have np:∀{p:Bool} {n:TN},n=⟨cy p,n.a,n.b,[]⟩∨n=⟨cQ p,0,0,[]⟩->n.k≠6∧¬ku n.k∧n.k≠11∧n.l=[]:=fun {p n} e=>by
  rcases e with e|e<;>rw[e]<;>cases p<;>refine⟨by simp[cy,cQ],fun g=>?_,by simp[cy,cQ],rfl⟩<;>(rcases g with g|g<;>simp[cy,cQ]at g)
 have at_:∀{p x},pW R p x->(nd (bw R) x.toNat).k=6∨ku (nd (bw R) x.toNat).k∨(nd (bw R) x.toNat).k=11∨(nd (bw R) x.toNat).l≠[]->∃k:Nat,k<R.length∧(R.getD k default).plus=p∧nd (bw R) x.toNat∈dO (R.getD k default) (cR p):=fun {p x} hx hk=>by
  obtain⟨_,k,h1,h2,h3⟩:=Mk hx
  have no:¬(nd (bw R) x.toNat=⟨cy p,(nd (bw R) x.toNat).a,(nd (bw R) x.toNat).b,[]⟩∨nd (bw R) x.toNat=⟨cQ p,0,0,[]⟩):=fun e=>by
   obtain⟨e1,e2,e3,e4⟩:=np e;obtain g|g|g|g:=hk
   .exact e1 g
   .exact e2 g
   .exact e3 g
   .exact g e4
  obtain⟨a,e,_⟩|e|⟨c,b,e,_⟩|hm:=h3
  .exact absurd (.inl (by rw[e])) no
  .exact absurd (.inr e) no
  .exact absurd (.inl (by rw[e])) no
  .exact⟨k,h1,h2,hm⟩
 refine⟨⟨fun p x hx hl=>?_,fun p x hx hk=>?_,fun p x hx hk s hs=>?_⟩,fun p x hx=>(Mk hx).1,fun p x hx q hq=>?_,fun p x hx hk=>?_⟩
 .obtain⟨_,k,_,_,⟨a,e,ha⟩|e|⟨c,b,e,hc,hb⟩|hm⟩:=Mk hx
  .unfold ah;rw[e];exact⟨rfl,ha,ha⟩
  .rw[Az e]at hl;cases p<;>cases hl
  .unfold ah;rw[e];exact⟨rfl,hc,hb⟩
  .rw[Az rfl,UF hm]at hl;cases hl
 .obtain⟨k,h1,h2,hm⟩:=at_ hx (.inl hk);obtain⟨g,e⟩:=(tZ hm).1 hk;have:=h k h1;rw[e];exact⟨yH (h2▸this.bD g),yH (h2▸this.bE g)⟩
 .obtain⟨k,h1,h2,hm⟩:=at_ hx (.inr (.inl hk));obtain⟨q,hq,_,eq⟩:=G1 hs;rw[eq];have:=h k h1;obtain hk|hk:=hk
  .obtain⟨g,e⟩:=(tZ hm).2.1 hk;rw[e]at hq;exact yH (h2▸this.fl q hq)
  .obtain⟨g,e⟩:=(tZ hm).2.2.1 hk;rw[e]at hq;exact yH (h2▸this.tl q hq)
 .obtain⟨k,h1,h2,hm⟩:=at_ hx (.inr (.inr (.inr fun e=>by rw[e]at hq;cases hq)));have:=h k h1;rcases(tZ hm).2.2.2.2 (fun e=>by rw[e]at hq;cases hq)with hk|hk
  .obtain⟨g,e⟩:=(tZ hm).2.1 hk;rw[e]at hq;exact(this.fl q hq).1
  .obtain⟨g,e⟩:=(tZ hm).2.2.1 hk;rw[e]at hq;exact(this.tl q hq).1
 .obtain⟨k,h1,h2,hm⟩:=at_ hx (.inr (.inr (.inl hk)));exact(h k h1).vr _ ((tZ hm).2.2.2.1 hk)
end
theorem Ml{a b:EA}(h:a.self=b.self):a.plus=b.plus∧a.al=b.al∧a.int=b.int∧a.bool=b.bool∧a.str=b.str∧a.arr=b.arr∧a.rc=b.rc∧a.tg=b.tg∧a.vars=b.vars∧a.fl.map (·.1)=b.fl.map (·.1)∧a.tl.map (·.1)=b.tl.map (·.1):=by
 simp only[EA.self,amd,al3,and_true]at h;obtain⟨⟨⟨h1,h2,h3,h4,h5,h6,h7,h8⟩,h9⟩,Mm,cT⟩:=h;exact⟨h1,h2,h3,h4,h5,h6,h7,h8,h9,Mm,cT⟩
theorem Hh{s:EA}(h:s.arr=true):s.next[0]?=some s.bD∧s.next[1]?=some s.bE:=by
 unfold EA.next;rw[if_pos h];exact⟨rfl,rfl⟩
theorem UL{s:EA}{m:Nat}{q:da}(h:s.fl[m]?=some q):s.next[(if s.arr=true then 2 else 0)+m]?=some q.2:=by
 have hm:=(akY.1 h).1;unfold EA.next;cases s.arr
 .rw[if_neg (by simp),List.nil_append,if_neg (by simp),alC,alj (by simpa using hm),ala,h];rfl
 .rw[if_pos rfl,if_pos rfl,aln (by simp),alj (by simp;omega),ala];simp[h]
theorem UM{s:EA}{m:Nat}{q:da}(h:s.tl[m]?=some q):s.next[(if s.arr=true then 2 else 0)+s.fl.length+m]?=some q.2:=by
 unfold EA.next;cases s.arr
 .rw[if_neg (by simp),List.nil_append,if_neg (by simp),aln (by simp),ala];simp[h]
 .rw[if_pos rfl,if_pos rfl,aln (by simp;omega),aln (by simp;omega),ala];simp[show 2+s.fl.length+m-2-s.fl.length=m by omega,h]
def CA(l R:List EA)(ρ:Nat->Nat->Prop)(k:Int)(p:Bool)(L:List Int):Prop:=∃i j:Nat,ρ i j∧k=(j:Int)∧L=[(i:Int)]∧(l.getD i default).plus=p∧(R.getD j default).plus=p
section
variable {l R:List EA}{ρ:Nat->Nat->Prop}
theorem Hj(h:Sm l R ρ){i j:Nat}(cx:ρ i j){m:Nat}{a b:Int}{p:Bool}(ha:(l.getD i default).next[m]?=some a)(hb:(R.getD j default).next[m]?=some b)(oa:qx l a p)(ob:qx R b p):CA l R ρ b p [a]:=by
 have:=(h i j cx).2.2 m a.toNat b.toNat (by unfold dB;rw[ala,ha];rfl) (by unfold dB;rw[ala,hb];rfl);exact⟨_,_,this,by have:=ob.1;omega,by have:=oa.1;rw[anq this],oa.2.2,ob.2.2⟩
theorem UN{p:Bool}{i j:Int}{k:Int}(hw:ku k)(ho:fI (bw l) i j){A B:List da}(hn:nd (bw l) j.toNat=⟨k,0,0,A⟩)(hu:∀z,fI (bw l) i z->ah (bw l) z=k->nd (bw l) z.toNat=⟨k,0,0,A⟩)
  (he:A.map (·.1)=B.map (·.1)) (nA:(A.map (·.1)).Nodup) (hc:∀(m:Nat) a b,A[m]?=some a->B[m]?=some b->CA l R ρ b.2 p [a.2]):LZ (bw l) (CA l R ρ) p [i] ⟨k,0,0,B⟩:=by
 have gh:ah (bw l) j=k:=by unfold ah;rw[hn]
 have lf:∀{z},Lf (bw l) [i] z->fI (bw l) i z:=fun {z} ⟨y,hy,hz⟩=>by rw[ak3.1 hy]at hz;exact hz
 have hl:Lf (bw l) [i] j:=⟨i,by simp,ho⟩
 refine .wide (j:=j) hl hw gh (fun s=>?_) fun s hs=>?_
 .show s∈B.map (·.1)↔_;rw[<-he];by_cases hp:decide (k=7)=p
  .rw[if_pos hp];refine⟨fun g z hz D1=>?_,fun g=>?_⟩
   .rw[hu z (lf hz) D1];exact g
   .have:=g j hl gh;rw[hn]at this;exact this
  .rw[if_neg hp];refine⟨fun g=>⟨j,hl,gh,by rw[hn];exact g⟩,fun⟨z,hz,D1,g⟩=>?_⟩;rw[hu z (lf hz) D1]at g;exact g
 .have hs:s∈B.map (·.1):=hs;obtain⟨b,hb,rfl⟩:=ak6.1 hs;obtain⟨m,hm,rfl⟩:=alx hb;have hlen:A.length=B.length:=by simpa using congrArg List.length he
  have Hk:m<A.length:=by omega
  have e1:A[m].1=B[m].1:=by
   have:=congrArg (fun z=>z[m]?) he;simpa[ala,hm,Hk]using this
  have pB:gW ⟨k,0,0,B⟩ B[m].1=B[m].2:=UG (n:=⟨k,0,0,B⟩) (by rw[<-he];exact nA) (ak2 hm);have pA:gW ⟨k,0,0,A⟩ B[m].1=A[m].2:=by rw[<-e1];exact UG (n:=⟨k,0,0,A⟩) nA (ak2 Hk)
  refine⟨[A[m].2],?_,fun x=>?_⟩
  .rw[pB];exact hc m _ _ (ak0 Hk) (ak0 hm)
  .rw[ak3];refine⟨fun e=>⟨j,hl,gh,?_,?_⟩,fun⟨z,hz,D1,_,e⟩=>?_⟩
   .rw[hn];exact ak6.2 ⟨A[m],ak2 Hk,e1⟩
   .rw[hn,pA];exact e
   .rw[hu z (lf hz) D1,pA]at e;exact e
theorem ah9(h:Sm l R ρ)(hl:yG l)(hR:yG R):GQ (bw l) (bw R) (pW l) (pW R) (CA l R ρ):=by
 refine⟨fun k p L hc=>?_,fun k p L x hc ho hx=>?_,fun k p L x hc ho hx=>?_⟩
 .obtain⟨i,j,cx,rfl,rfl,p1,p2⟩:=hc;obtain⟨⟨a1,a2⟩,_⟩:=h i j cx;exact⟨⟨j,a2,p2,.inl rfl⟩,fun z hz=>by rw[ak3.1 hz];exact⟨i,a1,p1,.inl rfl⟩⟩
 .obtain⟨i,j,cx,rfl,rfl,p1,p2⟩:=hc;obtain⟨⟨a1,a2⟩,a3,a4⟩:=h i j cx;obtain⟨_,s2,s3,s4,s5,s6,s7,s8,s9,Mn,UO⟩:=Ml a3;have mi:=hl i a1;have mj:=hR j a2;have ti:=(Ay l).2 i a1;have tj:=(Ay R).2 j a2
  have get:∀n,n∈dO (l.getD i default) (cR p)->∃x,fI (bw l) i x∧nd (bw l) x.toNat=n:=fun n hn=>by
   obtain⟨x,h1,_,h2⟩:=ti.opn.2 n (by rw[p1];exact hn);exact⟨x,h1,h2⟩
  have Mp:∀z,fI (bw l) i z->ah (bw l) z≠cQ p->nd (bw l) z.toNat∈dO (l.getD i default) (cR p):=fun z hz hk=>by
   rcases ti.opn.1 z hz with e|e
   .exact absurd (by unfold ah;rw[e,p1]) hk
   .rw[p1]at e;exact e
  have six:(6:Int)≠cQ p:=by cases p<;>simp[cQ]
  have UQ:(7:Int)≠cQ p∧(8:Int)≠cQ p:=by cases p<;>simp[cQ]
  have hm:nd (bw R) x.toNat∈dO (R.getD j default) (cR p):=by
   rcases tj.opn.1 x ho with e|e
   .exact absurd (by unfold ah;rw[e,p2]) hx
   .rw[p2]at e;exact e
  generalize nd (bw R) x.toNat=n at hm
  have flat:n∈dO (l.getD i default) (cR p)->n.k≠6∧¬ku n.k->LZ (bw l) (CA l R ρ) p [(i:Int)] n:=fun hn hk=>by
   obtain⟨z,z1,z2⟩:=get n hn;exact .flat (j:=z) ⟨_,by simp,z1⟩ (by unfold ah;rw[z2]) hk fun _=>by rw[z2]
  rcases Ha hm with⟨g,rfl⟩|⟨g,rfl⟩|⟨g,rfl⟩|⟨g,rfl⟩|⟨v,hv,rfl⟩|⟨g,rfl⟩|⟨g,rfl⟩|⟨g,rfl⟩
  .exact flat (mZ (.inl ⟨s2.trans g,rfl⟩)) (by cases p<;>exact⟨by simp[cR],by simp[ku,cR]⟩)
  .exact flat (mZ (.inr (.inl ⟨s3.trans g,rfl⟩))) ⟨by simp,by simp[ku]⟩
  .exact flat (mZ (.inr (.inr (.inl ⟨s4.trans g,rfl⟩)))) ⟨by simp,by simp[ku]⟩
  .exact flat (mZ (.inr (.inr (.inr (.inl ⟨s5.trans g,rfl⟩))))) ⟨by simp,by simp[ku]⟩
  .exact flat (mZ (.inr (.inr (.inr (.inr (.inl ⟨v,by rw[s9];exact hv,rfl⟩)))))) ⟨by simp,by simp[ku]⟩
  .have gi:(l.getD i default).arr=true:=s6.trans g;obtain⟨z,z1,z2⟩:=get _ (mZ (.inr (.inr (.inr (.inr (.inr (.inl ⟨gi,rfl⟩)))))));have zk:ah (bw l) z=6:=by unfold ah;rw[z2]
   have u6:∀y,Lf (bw l) [(i:Int)] y->ah (bw l) y=6->nd (bw l) y.toNat=⟨6,(l.getD i default).bD,(l.getD i default).bE,[]⟩:=fun y ⟨w,hw,hy⟩ hk=>by
    rw[ak3.1 hw]at hy;exact((tZ (Mp y hy (by rw[hk];exact six))).1 hk).2
   refine .arr (j:=z) (A:=[(l.getD i default).bD]) (B:=[(l.getD i default).bE]) ⟨_,by simp,z1⟩ rfl zk ?_ ?_ (fun y=>?_) fun y=>?_
   .exact Hj h cx (Hh gi).1 (Hh g).1 (p1▸mi.bD gi) (p2▸mj.bD g)
   .exact Hj h cx (Hh gi).2 (Hh g).2 (p1▸mi.bE gi) (p2▸mj.bE g)
   .rw[ak3];exact⟨fun e=>⟨z,⟨_,by simp,z1⟩,zk,by rw[z2];exact e⟩,fun⟨w,hw,hk,e⟩=>by rw[u6 w hw hk]at e;exact e⟩
   .rw[ak3];exact⟨fun e=>⟨z,⟨_,by simp,z1⟩,zk,by rw[z2];exact e⟩,fun⟨w,hw,hk,e⟩=>by rw[u6 w hw hk]at e;exact e⟩
  .have gi:(l.getD i default).rc=true:=s7.trans g;obtain⟨z,z1,z2⟩:=get _ (mZ (.inr (.inr (.inr (.inr (.inr (.inr (.inl ⟨gi,rfl⟩))))))));refine UN (.inl rfl) z1 z2 (fun y hy hk=>((tZ (Mp y hy (by rw[hk];exact UQ.1))).2.1 hk).2) Mn mi.nf fun m a b ha hb=>?_;refine Hj h cx (UL ha) ?_ (p1▸mi.fl a (alp ha)) (p2▸mj.fl b (alp hb));rw[s6];exact UL hb
  .have gi:(l.getD i default).tg=true:=s8.trans g;obtain⟨z,z1,z2⟩:=get _ (mZ (.inr (.inr (.inr (.inr (.inr (.inr (.inr ⟨gi,rfl⟩))))))));refine UN (.inr rfl) z1 z2 (fun y hy hk=>((tZ (Mp y hy (by rw[hk];exact UQ.2))).2.2.1 hk).2) UO mi.nt fun m a b ha hb=>?_;refine Hj h cx (UM ha) ?_ (p1▸mi.tl a (alp ha)) (p2▸mj.tl b (alp hb));have e:(l.getD i default).fl.length=(R.getD j default).fl.length:=by simpa using congrArg List.length Mn
   rw[s6,e];exact UM hb
 .obtain⟨i,j,cx,rfl,rfl,p1,p2⟩:=hc;obtain⟨⟨a1,a2⟩,a3,a4⟩:=h i j cx;obtain⟨_,s2,s3,s4,s5,s6,s7,s8,s9,Mn,UO⟩:=Ml a3;obtain⟨w,hw,ho⟩:=ho;rw[ak3.1 hw]at ho;have ti:=(Ay l).2 i a1;have tj:=(Ay R).2 j a2
  have hm:nd (bw l) x.toNat∈dO (l.getD i default) (cR p):=by
   rcases ti.opn.1 x ho with e|e
   .exact absurd (by unfold ah;rw[e,p1]) hx
   .rw[p1]at e;exact e
  have fin:∀n,n∈dO (R.getD j default) (cR p)->n.k=ah (bw l) x->(ah (bw l) x=11->n.a=(nd (bw l) x.toNat).a)->∃z,fI (bw R) j z∧ah (bw R) z≠cQ p∧(ah (bw R) z=ah (bw l) x∧(ah (bw l) x=11->(nd (bw R) z.toNat).a=(nd (bw l) x.toNat).a)∨ah (bw R) z=cR p):=fun n hn e1 e2=>by
   obtain⟨z,z1,_,z2⟩:=tj.opn.2 n (by rw[p2];exact hn);have e:ah (bw R) z=ah (bw l) x:=by unfold ah;rw[z2];exact e1
   exact⟨z,z1,by rw[e];exact hx,.inl ⟨e,fun g=>by rw[z2];exact e2 g⟩⟩
  unfold ah at fin;rcases Ha hm with⟨g,e⟩|⟨g,e⟩|⟨g,e⟩|⟨g,e⟩|⟨v,hv,e⟩|⟨g,e⟩|⟨g,e⟩|⟨g,e⟩
  .exact fin ⟨cR p,0,0,[]⟩ (mZ (.inl ⟨s2▸g,rfl⟩)) (by rw[e]) fun q=>by rw[e]
  .exact fin ⟨3,0,0,[]⟩ (mZ (.inr (.inl ⟨s3▸g,rfl⟩))) (by rw[e]) fun q=>by rw[e]
  .exact fin ⟨4,0,0,[]⟩ (mZ (.inr (.inr (.inl ⟨s4▸g,rfl⟩)))) (by rw[e]) fun q=>by rw[e]
  .exact fin ⟨5,0,0,[]⟩ (mZ (.inr (.inr (.inr (.inl ⟨s5▸g,rfl⟩))))) (by rw[e]) fun q=>by rw[e]
  .exact fin ⟨11,v,0,[]⟩ (mZ (.inr (.inr (.inr (.inr (.inl ⟨v,by rw[<-s9];exact hv,rfl⟩)))))) (by rw[e]) fun q=>by rw[e]
  .exact fin ⟨6,_,_,[]⟩ (mZ (.inr (.inr (.inr (.inr (.inr (.inl ⟨s6▸g,rfl⟩))))))) (by rw[e]) fun q=>by rw[e]at q;cases q
  .exact fin ⟨7,0,0,_⟩ (mZ (.inr (.inr (.inr (.inr (.inr (.inr (.inl ⟨s7▸g,rfl⟩)))))))) (by rw[e]) fun q=>by rw[e]at q;cases q
  .exact fin ⟨8,0,0,_⟩ (mZ (.inr (.inr (.inr (.inr (.inr (.inr (.inr ⟨s8▸g,rfl⟩)))))))) (by rw[e]) fun q=>by rw[e]at q;cases q
theorem aia(h:Sm l R ρ)(hl:yG l)(hR:yG R){st:Int}(ag:qx l st true)(h0:ρ st.toNat 0){gs:List TN}{g:Int}{gr:Int->Prop}(hg:dU gs gr)(cX:gr g) :
  pw 1000 (ar (bw l) gs) ([st],[g+(bw l).length])↔pw 1000 (ar (bw R) gs) ([0],[g+(bw R).length]):=by
 obtain⟨⟨a1,a2⟩,a3,_⟩:=h _ _ h0;have e:=anq ag.1;refine ahW (ah9 h hl hR) (Hg hl) (Hg hR) hg (yH ag) ⟨st.toNat,0,h0,rfl,by rw[e],ag.2.2,?_⟩ cX;rw[<-(Ml a3).1];exact ag.2.2
end
end Go.Proofs.YtpmniabdmbmafaaGreatDoor

namespace Go.Proofs.YtpmniabdmbmafaaGreatDoor
open Go.Ab Tryz
def lC:List Nat->Nat
 |[]=>0
 |x::r=>r.foldl Nat.min x
theorem foldl_min(r:List Nat):∀x,(r.foldl Nat.min x=x∨r.foldl Nat.min x∈r)∧r.foldl Nat.min x<=x∧∀y∈r,r.foldl Nat.min x<=y:=by
 induction r with
 |nil=>intro x;exact⟨.inl rfl,ali _,by simp⟩
 |cons z r ih =>
   intro x;obtain⟨h1,h2,h3⟩:=ih (Nat.min x z);rw[List.foldl_cons];refine⟨?_,alU h2 (Nat.min_le_left _ _),fun y hy=>?_⟩
   .rcases h1 with h1|h1
    .rcases Nat.le_total x z with h|h
     .left;rw[h1];exact amZ h
     .right;rw[h1,show Nat.min x z=z from Nat.min_eq_right h];exact alb
    .exact .inr (ald _ h1)
   .rcases alc.1 hy with rfl|hy
    .exact alU h2 (Nat.min_le_right _ _)
    .exact h3 y hy
theorem aib{T:List Nat}(h:T≠[]):lC T∈T∧∀y∈T,lC T<=y:=by
 cases T with
 |nil=>exact absurd rfl h
 |cons x r =>
   obtain⟨h1,h2,h3⟩:=foldl_min r x;refine⟨?_,fun y hy=>?_⟩
   .rcases h1 with h1|h1
    .show r.foldl Nat.min x∈_;rw[h1];exact alb
    .exact ald _ h1
   .rcases alc.1 hy with rfl|hy
    .exact h2
    .exact h3 y hy
theorem aic{T:List Nat}{i:Nat}(h:i<T.length)(h0:0<i):lC (T.take (i+1))=Nat.min (lC (T.take i)) T[i]:=by
 rw[ak9 h]
 cases T with
 |nil=>simp at h
 |cons x r =>
   obtain⟨j,rfl⟩:∃j,i=j+1:=⟨i-1,by omega⟩
   simp only[List.take_succ_cons,List.cons_append,lC,amN,List.foldl_cons,List.foldl_nil]
theorem aid{G}(T:List Nat)(h0:T≠[])(hl:T.length<=1000000)(hT:∀x∈T,x<=1000000):HP prog G 54 [dT T] (fun r=>r=.d (i64 (lC T:Nat))):=by
 have hp:0<T.length:=amJ.2 h0;unfold dT;refine cj func54 rfl (by decide +kernel) (by simp[ntmps54]) (aS fun E=>?_);simp only[go_sem];refine aI E (fun h=>absurd h (by omega)) (fun _=>?_);simp only[go_sem];refine⟨by omega,?_⟩;have hg:∀i (h:i<T.length),(T.map nD).getD i .aY=i64 (T[i]:Nat):=fun i h=>by simp[h,nD]
 rw[hg 0 hp];simp only[go_sem];refine pU E (X:={ i:Nat // 1<=i∧i<=T.length }) (fun x=>[(0,.d (.sl none (T.map nD))),(3,.d (i64 (lC (T.take x.1):Nat))),(4,.d (i64 x.1))]) (fun x=>T.length-x.1) rfl ⟨1,ali _,hp⟩ ?_ ?_
 .simp only[go_sem]
  have:lC (T.take 1)=T[0]:=by
   cases T with
   |nil=>simp at hp
   |cons x r=>rfl
  rw[this]
 rintro⟨i,zW,hi⟩ E';simp only[go_sem];refine aI E' ?_ ?_<;>intro h1<;>simp only[go_sem]
 .have bf:i<T.length:=by omega
  refine⟨by omega,?_⟩;rw[hg i bf];simp only[go_sem];refine⟨⟨i+1,by omega,by omega⟩,by show T.length-(i+1)<T.length-i;omega,?_⟩;rw[aD ⟨by omega,by omega⟩,aic bf zW];refine⟨?_,rfl⟩
  have:((Nat.min (lC (T.take i)) T[i]:Nat):Int)=if((T[i]:Nat):Int)<((lC (T.take i):Nat):Int)then((T[i]:Nat):Int)else((lC (T.take i):Nat):Int):=by
   split
   .rw[show Nat.min (lC (T.take i)) T[i]=T[i]from Nat.min_eq_right (by omega)]
   .rw[show Nat.min (lC (T.take i)) T[i]=lC (T.take i)from amZ (by omega)]
  rw[this]
 .have h3:i=T.length:=by omega
  subst h3;rw[alk]
end Go.Proofs.YtpmniabdmbmafaaGreatDoor

namespace Go.Proofs
open Go.Shelf
def Tryz.aie:Go.Shelf.Ren:=⟨fun|106=>141|213=>163|265=>194|n=>n,fun|9=>9|3=>3|n=>n,fun|n=>n⟩
theorem Tryz.aif:Go.Proofs.Lays.n106 Tryz.prog Tryz.aie:={
 mixed:=by kernel_rfl
 f106:=Tryz.func141.trans (congrArg some (by kernel_rfl))
 f213:=Tryz.func163.trans (congrArg some (by kernel_rfl))
 f265:=Tryz.func194.trans (congrArg some (by kernel_rfl))
 t3:=Tryz.underlying3
 a3:=Tryz.isAgg3
 z3:=Tryz.sizeOf3
 v3:=Tryz.zeroValue3
 t9:=Tryz.underlying9
 a9:=Tryz.isAgg9
 z9:=Tryz.sizeOf9
 v9:=Tryz.zeroValue9 }
end Go.Proofs

namespace Go.Proofs.YtpmniabdmbmafaaGreatDoor
open Go.Ab Go.Sort Go.Shelf Go.RowKit Go.Lib Go.Proofs
abbrev ub:={ a:eu // 0<=a.1∧a.1<1000 }
instance:Inhabited ub:=⟨⟨(0,[]),by decide,by decide⟩⟩
def Hl(x:ub):List Value:=[.int .i64 x.1.1,.string ⟨x.1.2.toArray⟩]
def cmpL(x y:ub):Int:=if x.1.1=y.1.1 then Lib.compareBytes x.1.2 y.1.2 else x.1.1-y.1.1
theorem aih(x y:ub)(W:World):Calls Tryz.prog 140 #[.agg #[.int .i64 x.1.1,.string ⟨x.1.2.toArray⟩],.agg #[.int .i64 y.1.1,.string ⟨y.1.2.toArray⟩]] W fun e w'=>e=.returned (.int .i64 (cmpL x y))∧∃q os',w'=grow (W.drewN q) os':=by
 have hw:IntKind.i64.wrap (x.1.1-y.1.1)=x.1.1-y.1.1:=by
  have:=x.2;have:=y.2;exact aD ⟨by omega,by omega⟩
 unfold cmpL
 go_enter Tryz.func140,Tryz.ntmps140
 by_cases hk:x.1.1=y.1.1
 .rw[if_pos hk]
  go_wp2_with (go_at_call 141;refine(Any.strings_Compare Tryz.aif ⟨x.1.2.toArray⟩ ⟨y.1.2.toArray⟩ _).mono ?_;rintro e w' ⟨rfl,rfl⟩)
  go_ret
  exact⟨by simp,0,_,by rw[alloc_eq_grow,alloc_eq_grow,grow_grow];rfl⟩
 .rw[if_neg hk]
  go_wp2
  go_ret
  exact⟨rfl,0,_,by rw[alloc_eq_grow,alloc_eq_grow,grow_grow];rfl⟩
theorem aii:∀(a b:List UInt8),decide (Lib.compareBytes a b<0)=decide (a<b):=by
 intro a
 induction a with
 |nil =>
   intro b
   cases b with
   |nil=>simp[Lib.compareBytes]
   |cons y b=>simp[Lib.compareBytes]
 |cons x a ih =>
   intro b
   cases b with
   |nil=>simp[Lib.compareBytes]
   |cons y b =>
     have:=ih b;rw[decide_eq_decide]at this ⊢;rw[List.cons_lt_cons_iff,<-this];simp only[Lib.compareBytes];split
     .rename_i h;simp[h]
     .rename_i h;split
      .rename_i h2;have h3:¬x=y:=fun e=>by subst e;exact absurd h2 (by simp)
       simp[h,h3]
      .rename_i h2
       have h3:x=y:=by
        have h4:=UInt8.not_lt.1 h;have h5:=UInt8.not_lt.1 h2;exact UInt8.le_antisymm h5 h4
       simp[h,h3]
abbrev D2(x y:ub):Prop:=x.1.1<y.1.1∨(x.1.1=y.1.1∧x.1.2<y.1.2)
theorem Mq(x y:ub):ltOf cmpL x y=decide (D2 x y):=by
 unfold ltOf cmpL D2;by_cases h:x.1.1=y.1.1
 .have:=aii x.1.2 y.1.2;rw[if_pos h,this];rw[decide_eq_decide];constructor
  .exact fun g=>.inr ⟨h,g⟩
  .rintro(g|⟨_,g⟩)
   .omega
   .exact g
 .rw[if_neg h,decide_eq_decide];constructor
  .exact fun g=>.inl (by omega)
  .rintro(g|⟨g,_⟩)
   .omega
   .exact absurd g h
theorem aij:SWO (ltOf cmpL) where
 irrefl x:=by
  rw[Mq];simp only[D2,decide_eq_false_iff_not];rintro(h|⟨_,h⟩)
  .omega
  .exact List.lt_irrefl _ h
 trans x y z h1 h2:=by
  rw[Mq]at *
  simp only[D2,decide_eq_true_eq]at *
  rcases h1 with h1|⟨h1,g1⟩<;>obtain h2|⟨h2,g2⟩:=h2
  .exact .inl (by omega)
  .exact .inl (by omega)
  .exact .inl (by omega)
  .exact .inr ⟨by omega,aob g1 g2⟩
 ntrans x y z h1 h2:=by
  rw[Mq]at *
  simp only[D2,decide_eq_false_iff_not]at *
  rintro(h|⟨h,g⟩)
  .exact h1 (.inl (by
    have a1:¬x.1.1<y.1.1:=fun e=>h1 (.inl e);have a2:¬y.1.1<z.1.1:=fun e=>h2 (.inl e)
    omega))
  .have a1:¬x.1.1<y.1.1:=fun e=>h1 (.inl e);have a2:¬y.1.1<z.1.1:=fun e=>h2 (.inl e);have b1:¬x.1.2<y.1.2:=fun e=>h1 (.inr ⟨by omega,e⟩);have b2:¬y.1.2<z.1.2:=fun e=>h2 (.inr ⟨by omega,e⟩);exact List.not_lt.2 (List.le_trans (List.not_lt.1 b2) (List.not_lt.1 b1)) g
theorem aik(ef off size:Nat)(w:World):CmpLays Tryz.prog 140 #[] Hl 2 cmpL ef off size w:=fun _ _ _ _ x y=>aih x y _
def Mr(x:ub):List D:=[i64 x.1.1,.str x.1.2]
theorem ail:∀args w,(callFunc 140 args).run Tryz.prog w=.ok (.enter 140 args) w:=enters_of Tryz.func140 (by kernel_rfl) rfl
theorem aim:∀args w,(callFunc 139 args).run Tryz.prog w=.ok (.enter 139 args) w:=fun args w=>vH Tryz.func139 rfl (by decide +kernel) args w
end Go.Proofs.YtpmniabdmbmafaaGreatDoor

namespace Go.Proofs.YtpmniabdmbmafaaGreatDoor
open Go.Ab Go.Sort Go.Shelf Go.RowKit Go.Lib Go.Proofs
theorem ain{G}(a:Nat)(l:List eu)(hl:∀q∈l,0<=q.1∧q.1<1000)(hn:l.length<=1000000):bZ Tryz.prog G 139 [.vw [a] 0 l.length,.aH 140 []] [([a],.arr (some 2) (l.map od))] [a] (fun r ae=>r=.az []∧∃l':List eu,l'.Perm l∧ae=[([a],.arr (some 2) (l'.map od))]):=by
 obtain⟨lv,rfl⟩:∃lv:List ub,l=lv.map (·.1):=⟨l.pmap (fun q h=>(⟨q,h⟩:ub)) hl,by rw[List.map_pmap];simp⟩
 have hb:=agD (P:=Tryz.prog) (G:=G) (f:=139) (g:=140) (k:=2) (by decide) Hl Mr (ltOf cmpL) (fun _=>rfl) (fun _=>rfl) aim
  (fun ef off cap d w hH hblk bj=>AnyQ.slices_SortFunc Tryz.S7 2 Tryz.isAgg154 Tryz.sizeOf154 Hl (fun _=>rfl) (fun x v hv=>by simp[Hl]at hv;rcases hv with rfl|rfl<;>rfl) cmpL aij 140 #[] ef off cap d w ail (aik ef off d.size w) hH hblk bj)
  (fun p cap w=>AnyF.slices_SortFunc_none Tryz.S7 p cap _ w) a lv (by simp at hn;omega)
 have e:∀m:List ub,(m.map (·.1)).map od=m.map fun x=>.agg (Mr x):=fun m=>by simp[od,Mr,Function.comp_def]
 rw[e,alg];refine hb.mono ?_;rintro r ae ⟨rfl,l',hp,hs,rfl⟩;exact⟨rfl,l'.map (·.1),hp.map _,by rw[e]⟩
end Go.Proofs.YtpmniabdmbmafaaGreatDoor

namespace Go.Proofs.YtpmniabdmbmafaaGreatDoor
open Go.Ab Tryz
def oN(L:List eu):List (sc×D):=L.foldl (fun(m:List (sc×D)) (a:eu)=>ek m a (.bool true)) []
theorem aio(L:List eu)(a:eu):oN (L++[a])=ek (oN L) a (.bool true):=by simp[oN,amN]
theorem aip(L:List eu)(a:eu):cJ (oN L) a=if a∈L then some (.bool true)else none:=by
 have key:∀(R:List eu) (m:List (sc×D)),cJ (R.foldl (fun(m:List (sc×D)) (a:eu)=>ek m a (.bool true)) m) a=if a∈R then some (.bool true)else cJ m a:=by
  intro R
  induction R with
  |nil=>intro m;simp
  |cons y R ih =>
    intro m;rw[List.foldl_cons,ih,yj];by_cases h:a∈R
    .simp[h]
    .rw[if_neg h];by_cases e:a=y
     .subst e;simp
     .simp[h,e]
 rw[oN,key];simp[cJ]
def w5(s:PS)(c:Nat)(done:List (ch×D))(L:List eu):Prop:=(∀a,a∈L↔∃q∈done,q.1.1=a∧s.cls.getD q.1.2.toNat 0=c)∧L.length<=done.length
theorem w5.skip{s:PS}{c:Nat}{done:List (ch×D)}{L:List eu}(h:w5 s c done L)(q:ch×D)(hn:q.1.1∈L∨s.cls.getD q.1.2.toNat 0≠c):w5 s c (done++[q]) L:=by
 refine⟨fun a=>?_,by rw[ak4];have:=h.2;omega⟩;rw[h.1];constructor
 .rintro⟨p,hp,g⟩;exact⟨p,alm _ hp,g⟩
 .rintro⟨p,hp,g1,g2⟩;rcases ak1.1 hp with hp|hp
  .exact⟨p,hp,g1,g2⟩
  .rw[ak3.1 hp]at g1 g2;obtain hn|hn:=hn
   .rw[g1]at hn;exact(h.1 a).1 hn
   .exact absurd g2 hn
theorem w5.add{s:PS}{c:Nat}{done:List (ch×D)}{L:List eu}(h:w5 s c done L)(q:ch×D)(hc:s.cls.getD q.1.2.toNat 0=c):w5 s c (done++[q]) (L++[q.1.1]):=by
 refine⟨fun a=>?_,by rw[ak4,ak4];have:=h.2;simp;omega⟩;rw[ak1,h.1,ak3];constructor
 .rintro(⟨p,hp,g⟩|g)
  .exact⟨p,alm _ hp,g⟩
  .exact⟨q,by simp,g.symm,hc⟩
 .rintro⟨p,hp,g1,g2⟩;rcases ak1.1 hp with hp|hp
  .exact .inl ⟨p,hp,g1,g2⟩
  .rw[ak3.1 hp]at g1;exact .inr g1.symm
theorem aiq{G}(l:List EA)(st:Int)(FM:List (ch×D))(ay:Nat)(bs:List Nat)(s:PS)(o:Nat)(cc:List D)(es:List (Int×D))(c:Nat)(hN:l.length<=4000)(hF:Af l FM)(Hm:FM.length<=1000000)(ag:wi ay bs (aM dt FM))(sq:∀q∈FM,0<=q.1.1.1∧q.1.1.1<1000)(w:Wf l.length s) :
  bZ prog G 96 [.bx [0] 0,.d (i64 c)] (dm l st (fo ay bs (aM dt FM)) s 2 3 o cc es) [0,1,2,3,100] (fun r ae=>∃LS:List eu,r=.vw [6] 0 LS.length∧ae=dm l st (fo ay bs (aM dt FM)) s 2 3 o cc es++[([6],.arr (some 2) (LS.map od))]∧LS.length<=1000000 ∧
   ∀a,a∈LS↔∃q∈FM,q.1.1=a∧s.cls.getD q.1.2.toNat 0=c):=by
 unfold dm gU;obtain⟨FD,mV⟩:∃FD,fo ay bs (aM dt FM)=FD:=⟨_,rfl⟩
 rw[mV];refine jc func96 rfl (by decide +kernel) (by simp[ntmps96]) (aS fun E=>?_);simp only[go_sem];refine EX E (by simp only[go_sem]) (by rw[aT];decide) ?_;simp only[go_sem];refine Qg E ag (by rw[Ca]) (by rw[mV];rfl) (by simp only[go_sem]) (by rw[aT];decide) ?_;simp only[go_sem];refine wa E 6 98 (some 2) rfl (by rw[aT];decide) ?_;simp only[go_sem];rw[mV]
 refine bC E (X:={ x:(List (ch×D)×List (ch×D)×Option (D×D))×List eu // (x.1.1++x.1.2.1).Perm FM∧w5 s c x.1.1 x.2 }) (fun x=>[(0,.bx [0] 0),(1,.d (i64 c)),(5,.mp [8]),(6,.vw [98] 0 x.1.2.length),(13,.it [13])])
  (fun x=>[([0],.box [.d (.sl (some 13) (l.map aO)),.d (i64 st),.d FD,.vw [1] 0 s.cls.length,.vw [2] 0 s.sets.length,.vw [3] o s.wait.length,.mp [100]]),([1],.arr none (s.cls.map nD)),([2],.arr none (s.sets.map dT)),([3],.arr none cc),([100],.map (aM (fun n:Int=>i64 n) es)),
   ([8],.map (aM zU (oN x.1.2))),([13],.kz FD x.1.1.2.2 (aM dt x.1.1.2.1)),([98],.arr (some 2) (x.1.2.map od))])
  [0,1,2,3,100,8,13,98] (fun x=>x.1.1.2.1.length) ⟨(([],FM,none),[]),.refl _,by simp[w5]⟩ id ?_ ?_
 .simp only[go_sem]
  all_goals first|rfl|(and_intros<;>first|rfl|trivial)
 rintro⟨⟨⟨acc,rem,cur⟩,SL⟩,kP,w6⟩ E0;refine bK E0 fun Q' hQ E'=>?_;simp only at kP w6 ⊢;simp only[go_sem];have km:acc.length+rem.length=FM.length:=by rw[<-ak4];exact kP.length_eq
 refine Qh E' [13] FD cur (aM dt rem) rfl rfl (by simp only[go_sem]) ?_ ?_
 .intro l1 y l2 iF;obtain⟨a1,q,b1,rfl,rfl,rfl,rfl⟩:=Tw iF;simp only[go_sem];refine Qj E' [13] FD (dt q.1,q.2) (aM dt a1++aM dt b1) rfl rfl (by simp only[go_sem]) ?_;have Di:aM dt a1++aM dt b1=aM dt (a1++b1):=by simp[aM]
  rw[Di];obtain⟨⟨ql,qk⟩,qv⟩:=q;have hqm:((ql,qk),qv)∈FM:=kP.mem_iff.1 (by simp);obtain⟨_,_,_,q0,q1,_⟩:=hF.val _ _ hqm;have q0:0<=qk:=q0;have q1:qk<l.length:=q1;have cF:=w.len
  have yn:(s.cls.map nD).getD qk.toNat .aY=i64 (s.cls.getD qk.toNat 0:Nat):=by
   have:qk.toNat<s.cls.length:=by omega
   simp[this,nD]
  rw[show dt (ql,qk)=.agg [i64 ql.1,.str ql.2,i64 qk]from rfl];simp only[go_sem];refine bz mixed E' fun X=>?_;simp only[go_sem];refine fO X (d:=19) [0] 0 none [.d (.sl (some 13) (l.map aO)),.d (i64 st),.d FD,.vw [1] 0 s.cls.length,.vw [2] 0 s.sets.length,.vw [3] o s.wait.length,.mp [100]] (by simp only[go_sem]) rfl rfl ?_;simp only[go_sem];refine⟨by omega,?_⟩;rw[yn];simp only[go_sem];refine zx X ?_ ?_<;>intro h1<;>simp only[go_sem]
  .have uJ:s.cls.getD qk.toNat 0=c:=by omega
   refine ab9 X [8] (oN SL) ql (.bool false) (by rw[Jm]) Tv Gp rfl rfl rfl (by simp) ?_;rw[aip];by_cases hm:ql∈SL
   .rw[if_pos hm];simp only[go_sem];(try refine⟨by decide +kernel,?_⟩);rw[hQ];simp only[go_sem];refine⟨⟨((acc++[((ql,qk),qv)],a1++b1,some (D.agg [i64 ql.1,.str ql.2,i64 qk],qv)),SL),?_,w6.skip ((ql,qk),qv) (.inl hm)⟩,?_,id,?_⟩
    .refine List.Perm.trans ?_ kP;rw[alK];refine anh acc ?_;show(((ql,qk),qv)::(a1++b1)).Perm (a1++((ql,qk),qv)::b1);exact anG.symm
    .show(a1++b1).length<(a1++((ql,qk),qv)::b1).length;simp only[ak4,List.length_cons];omega
    .simp only[go_sem]
     skip
   .rw[if_neg hm];simp only[go_sem];(try refine⟨by decide +kernel,?_⟩);refine vW E' [8] (oN SL) ql (.bool true) (by rw[Jm]) Tv rfl rfl rfl rfl rfl ?_;rw[<-aio];simp only[go_sem];have hle:=w6.2;simp only[ak4,List.length_cons]at km;refine⟨by omega,?_⟩;rw[hQ];simp only[go_sem];refine⟨⟨((acc++[((ql,qk),qv)],a1++b1,some (D.agg [i64 ql.1,.str ql.2,i64 qk],qv)),SL++[ql]),?_,w6.add ((ql,qk),qv) uJ⟩,?_,ak [([98],[42])],?_⟩
    .refine List.Perm.trans ?_ kP;rw[alK];refine anh acc ?_;show(((ql,qk),qv)::(a1++b1)).Perm (a1++((ql,qk),qv)::b1);exact anG.symm
    .show(a1++b1).length<(a1++((ql,qk),qv)::b1).length;simp only[ak4,List.length_cons];omega
    .simp only[go_sem]
     (rw[ak4,alh];exact⟨rfl,rfl⟩)
  ·(try refine⟨by decide +kernel,?_⟩);rw[hQ];simp only[go_sem];refine⟨⟨((acc++[((ql,qk),qv)],a1++b1,some (D.agg [i64 ql.1,.str ql.2,i64 qk],qv)),SL),?_,w6.skip ((ql,qk),qv) (.inr (fun g=>h1 (by have:s.cls.getD qk.toNat 0=c:=g;omega)))⟩,?_,id,?_⟩
   .refine List.Perm.trans ?_ kP;rw[alK];refine anh acc ?_;show(((ql,qk),qv)::(a1++b1)).Perm (a1++((ql,qk),qv)::b1);exact anG.symm
   .show(a1++b1).length<(a1++((ql,qk),qv)::b1).length;simp only[ak4,List.length_cons];omega
   .simp only[go_sem]
    skip
 .intro Lu
  have Lv:rem=[]:=by
   cases rem with
   |nil=>rfl
   |cons q r=>simp[aM]at Lu
  subst Lv;rw[alS]at kP;simp only[go_sem];rw[hQ];simp only[go_sem]
  have hsk:∀q∈SL,0<=q.1∧q.1<1000:=fun a ha=>by
   obtain⟨q,hq,rfl,_⟩:=(w6.1 a).1 ha;exact sq q (kP.mem_iff.1 hq)
  have oQ:SL.length<=1000000:=by have:=w6.2;have:=kP.length_eq;omega
  refine iJ E [.vw [98] 0 SL.length,.aH 140 []] [([98],.arr (some 2) (SL.map od))] [98] (ain 98 SL hsk oQ) rfl rfl ⟨by simp only[go_sem],by rw[aT];decide⟩ rfl (by simp only[go_sem]) (by simp only[go_sem]) ?_;rintro _ _ ⟨rfl,LS,UR,rfl⟩;have K4:=UR.length_eq;simp only[go_sem];refine⟨by omega,.vw [6] 0 LS.length,_,[0,1,2,3,100,6],ak [([6],[98])],⟨LS,rfl,rfl,by omega,fun a=>?_⟩,?_⟩
  .rw[UR.mem_iff,w6.1];constructor
   .rintro⟨q,hq,g⟩;exact⟨q,kP.mem_iff.1 hq,g⟩
   .rintro⟨q,hq,g⟩;exact⟨q,kP.mem_iff.2 hq,g⟩
  .rw[K4];simp only[go_sem]
end Go.Proofs.YtpmniabdmbmafaaGreatDoor

namespace Go.Proofs.YtpmniabdmbmafaaGreatDoor
open Go.Ab Tryz
theorem air{κ:Type}[DecidableEq κ](q:κ×D)(r:List (κ×D))(a:κ):jX (q::r) a=if q.1=a then r else q::jX r a:=by
 unfold jX;rw[alf,eT];by_cases e:q.1=a
 .simp[e]
 .rw[if_neg e,if_neg e];cases eT (r.map (·.1)) a<;>rfl
theorem US{κ:Type}[DecidableEq κ]:∀{m:List (κ×D)} {a:κ},a∉m.map (·.1)->cJ m a=none
 |[],_,_=>rfl
 |q::r,a,h=>by
   rw[cJ,if_neg (fun e=>h (by simp[e])),US (fun g=>h (by simp only[alf,alc];exact .inr g))]
theorem UT{κ:Type}[DecidableEq κ]:∀(m:List (κ×D)) (a:κ),(m.map (·.1)).Nodup->(∀b,cJ (jX m a) b=if b=a then none else cJ m b)∧((jX m a).map (·.1)).Nodup∧∀b∈(jX m a).map (·.1),b∈m.map (·.1)
 |[],a,_=>⟨fun b=>by simp[jX,eT,cJ],by simp[jX,eT],by simp[jX,eT]⟩
 |q::r,a,h=>by
   rw[alf,alW]at h;obtain⟨h1,h2,h3⟩:=UT r a h.2;rw[air];by_cases e:q.1=a
   .rw[if_pos e];refine⟨fun b=>?_,h.2,fun b hb=>ald _ hb⟩;by_cases e2:b=a
    .rw[if_pos e2,e2,US];rw[<-e];exact h.1
    .rw[if_neg e2,cJ,if_neg (fun g=>e2 (g.symm.trans e))]
   .rw[if_neg e];refine⟨fun b=>?_,?_,fun b hb=>?_⟩
    .rw[cJ,cJ,h1];by_cases e2:q.1=b
     .rw[if_pos e2,if_pos e2,if_neg (fun g=>e (e2.trans g))]
     .rw[if_neg e2,if_neg e2]
    .rw[alf,alW];exact⟨fun g=>h.1 (h3 _ g),h2⟩
    .rcases alc.1 hb with rfl|hb
     .simp
     .exact ald _ (h3 b hb)
theorem ko.pop{es:List (Int×D)}{c:Nat}{r:List Nat}(h:ko es (c::r))(hn:(c::r).Nodup):ko (jX es (c:Int)) r:=by
 obtain⟨h1,h2,_⟩:=UT es (c:Int) h.2;refine⟨fun k=>?_,h2⟩;rw[h1];have hc:=(alW.1 hn).1;by_cases e:k=c
 .subst e;rw[if_pos rfl,if_neg hc]
 .have e':¬((k:Int)=(c:Int)):=by omega
  rw[if_neg e',h.1 k];simp[e]
theorem Queue.tail{c:List D}{o x:Nat}{r:List Nat}(h:Queue c o 0 (x::r)):Queue c (o+1) 0 r:=by
 obtain⟨_,h2,h3⟩:=h;simp only[List.length_cons,Nat.sub_zero,anO]at h2 h3 ⊢;refine⟨ale _,by simp;omega,?_⟩;have h1:=congrArg (List.drop 1) h3;rw[List.drop_take,anf]at h1;simpa using h1
theorem Queue.head{c:List D}{o x:Nat}{r:List Nat}(h:Queue c o 0 (x::r)):c.getD o .aY=i64 (x:Nat):=h.get (by simp)
theorem ais{G}(l:List Nat)(hl:l.length<=1000000):HP prog G 62 [dT l] (fun r=>r=.d (dT l)):=by
 have:=Sc (G:=G) (qj l) (by simpa[qj]using hl);unfold aL at this;rw[<-Sq]at this;exact this
theorem ait{G}(l:List EA)(st:Int)(FM:List (ch×D))(ay:Nat)(bs:List Nat)(s:PS)(o:Nat)(cc:List D)(es:List (Int×D))(hN:l.length<=4000)(hF:Af l FM)(Hm:FM.length<=1000000)(ag:wi ay bs (aM dt FM))(sq:∀q∈FM,0<=q.1.1.1∧q.1.1.1<1000)
  (h:jf l s [] []) (aU:gq l) (yg:Du l) (hq:Queue cc o 0 s.wait) (eP:ko es s.wait) :
  bZ prog G 53 [.bx [0] 0] (dm l st (fo ay bs (aM dt FM)) s 2 3 o cc es) [0,1,2,3,100] (fun r ae=>r=.az []∧∃s' o' c' kN,ae=dm l st (fo ay bs (aM dt FM)) s' 6 7 o' c' kN∧jf l s' [] []∧s'.wait=[]):=by
 unfold dm gU;obtain⟨FD,mV⟩:∃FD,fo ay bs (aM dt FM)=FD:=⟨_,rfl⟩
 rw[mV];refine jc func53 rfl (by decide +kernel) (by simp[ntmps53]) (aS fun E=>?_);simp only[go_sem]
 refine bC E (X:={ x:PS×(Nat×List D×List (Int×D)) // jf l x.1 [] []∧Queue x.2.2.1 x.2.1 0 x.1.wait∧ko x.2.2.2 x.1.wait }) (fun x=>[(0,.bx [0] 0)])
  (fun x=>[([0],.box [.d (.sl (some 13) (l.map aO)),.d (i64 st),.d FD,.vw [1] 0 x.1.1.cls.length,.vw [96] 0 x.1.1.sets.length,.vw [95] x.1.2.1 x.1.1.wait.length,.mp [100]]),([1],.arr none (x.1.1.cls.map nD)),([96],.arr none (x.1.1.sets.map dT)),([95],.arr none x.1.2.2.1),([100],.map (aM (fun n:Int=>i64 n) x.1.2.2.2))])
  [0,1,2,3,100,96,95] (fun x=>2*(l.length-x.1.1.sets.length)+x.1.1.wait.length) ⟨(s,(o,cc,es)),h,hq,eP⟩ (ak [([96],[2]),([95],[3])]) ?_ ?_
 .simp only[go_sem]
  all_goals first|rfl|(and_intros<;>first|rfl|trivial)
 rintro⟨⟨s1,o1,c1,tP⟩,pS,sg,tu⟩ E0;refine bK E0 fun Q' hQ E'=>?_;simp only at pS sg tu ⊢;simp only[go_sem];refine aI E' ?_ ?_<;>intro h1<;>simp only[go_sem]
 .obtain⟨c,r,hw⟩:∃c r,s1.wait=c::r:=by
   cases hh:s1.wait with
   |nil=>rw[hh]at h1;simp at h1
   |cons c r=>exact⟨c,r,rfl⟩
  have hlen:s1.wait.length=r.length+1:=by rw[hw];rfl
  have wf:=pS.wf;have cF:c<s1.sets.length:=wf.wt c (by rw[hw];simp);rw[hw]at sg tu;refine⟨by omega,?_⟩;rw[sg.head];simp only[go_sem];refine⟨by omega,?_⟩;refine adr E' [100] tP (c:Int) (by rw[qQ]) tM rfl rfl rfl ?_;simp only[go_sem];refine⟨by omega,?_⟩;obtain⟨T,hT⟩:∃T,s1.sets.getD c []=T:=⟨_,rfl⟩
  have lh:(s1.sets.map dT).getD c .aY=.sl none (T.map nD):=by rw[<-hT];simp[cF,dT]
  rw[lh];have Ms:=wf.iN c cF;rw[hT]at Ms
  have hTN:T.length<=l.length:=by
   have hd:=wf.dn c cF;rw[hT]at hd;exact mO hd fun x hx=>(Ms.2 x hx).1
  simp only[go_sem];refine iJ E' [.d (dT T)] [] [] (ais T (by omega)) rfl rfl ⟨by simp only[go_sem],by rw[aT];decide⟩ rfl (by simp only[go_sem]) (by simp only[go_sem]) ?_;rintro _ _ ⟨rfl,-,rfl⟩;simp only[go_sem];have pZ:s1.wait.length-1=r.length:=by omega
  have wfp:Wf l.length { s1 with wait:=r }:=⟨wf.len,wf.at',wf.iN,wf.dn,fun x hx=>wf.wt x (by rw[hw];simp[hx]),by have g:=wf.wn;rw[hw]at g;exact(alW.1 g).2⟩
  have kn:=aiq (G:=G) l st FM ay bs { s1 with wait:=r } (o1+1) c1 (jX tP (c:Int)) c hN hF Hm ag sq wfp;rw[mV]at kn;rw[pZ];refine uG E' (ak [([2],[96]),([3],[95])]) [.bx [0] 0,.d (i64 c)] (dm l st FD { s1 with wait:=r } 2 3 (o1+1) c1 (jX tP (c:Int))) [0,1,2,3,100] kn rfl (by simp only[go_sem]) ⟨by simp only[go_sem],by rw[aT];decide⟩ rfl (by unfold dm gU;simp only[go_sem]) (by unfold dm gU;simp only[go_sem]) ?_;rintro _ _ ⟨LS,rfl,rfl,hLS,gj⟩;unfold dm gU;simp only[go_sem];refine⟨⟨ali _,ali _,ali _⟩,?_⟩
  have hL:∀x,x<l.length->∀(a:eu) k,(a,k)∈gL l x->s1.cls.getD k 0=c->a∈LS:=fun x hx a k hs hc=>by
   obtain⟨v,hv⟩:=hF.all x hx a k hs;exact(gj a).2 ⟨((a,(k:Int)),v),hv,rfl,by simpa using hc⟩
  obtain⟨UU,UW⟩:=pS.pop aU hw hL;rw[hT]at UU UW;have q8:=sg.tail;have wu:(c::r).Nodup:=by rw[<-hw];exact wf.wn
  have aiu:=tu.pop wu;have DH:∀k∈T,k<l.length:=fun k hk=>(Ms.2 k hk).1;refine rZ E' [41,6] (some 2) (LS.map od) rfl ?_;simp only[go_sem]
  refine bC E' (X:={ x:(Nat×PS)×(Nat×List D×List (Int×D)) // x.1.1<=LS.length∧jf l x.1.2 T (LS.drop x.1.1)∧(Queue x.2.2.1 x.2.1 0 x.1.2.wait∧ko x.2.2.2 x.1.2.wait)∧2*(l.length-x.1.2.sets.length)+x.1.2.wait.length<=2*(l.length-s1.sets.length)+r.length })
   (fun x=>[(0,.bx [0] 0),(3,.d (dT T)),(41,.d (.sl (some 2) (LS.map od))),(42,.d (i64 LS.length)),(43,.d (i64 x.1.1.1))])
   (fun x=>[([0],.box [.d (.sl (some 13) (l.map aO)),.d (i64 st),.d FD,.vw [1] 0 x.1.1.2.cls.length,.vw [96] 0 x.1.1.2.sets.length,.vw [95] x.1.2.1 x.1.1.2.wait.length,.mp [100]]),([1],.arr none (x.1.1.2.cls.map nD)),([96],.arr none (x.1.1.2.sets.map dT)),([95],.arr none x.1.2.2.1),([100],.map (aM (fun n:Int=>i64 n) x.1.2.2.2))])
   [0,1,2,3,100,96,95] (fun x=>LS.length-x.1.1.1) ⟨((0,{ s1 with wait:=r }),(o1+1,c1,jX tP (c:Int))),ale _,UU,⟨q8,aiu⟩,ali _⟩ id ?_ ?_
  .simp only[go_sem]
   all_goals first|rfl|(and_intros<;>first|rfl|trivial)
  rintro⟨⟨⟨j,s2⟩,o2,c2,lx⟩,hj,sB,⟨jJ,oT⟩,DK⟩ E0;refine bK E0 fun Q2 cz E2=>?_;simp only at hj sB jJ oT DK ⊢;simp only[go_sem];refine aI E2 ?_ ?_<;>intro h2<;>simp only[go_sem]
  .have aX:j<LS.length:=by omega
   have bS:(LS.map od).getD j .aY=.agg [i64 LS[j].1,.str LS[j].2]:=by simp[aX,od]
   refine⟨by omega,?_⟩;rw[bS];simp only[go_sem];have J1:LS.drop j=LS[j]::LS.drop (j+1):=amo aX;rw[J1]at sB;have kn:=ahe (G:=G) l st FM ay bs s2 o2 c2 lx LS[j] T (LS.drop (j+1)) hN hF sB UW aU yg DH hTN jJ oT;rw[mV]at kn;refine uG E2 (ak [([2],[96]),([3],[95])]) [.bx [0] 0,.d (od LS[j]),.d (.sl none (T.map nD))] (dm l st FD s2 2 3 o2 c2 lx) [0,1,2,3,100] kn rfl (by unfold dT od;simp only[go_sem]) ⟨by simp only[go_sem],by rw[aT];decide⟩ rfl (by unfold dm gU;simp only[go_sem]) (by unfold dm gU;simp only[go_sem]) ?_;rintro _ _ ⟨rfl,s3,o3,c3,es3,rfl,UX,z6,aiv,aiw⟩;have ahj:=sB.wf.len;have akL:=UX.wf.len;unfold dm gU;simp only[go_sem];refine⟨by omega,?_⟩;rw[cz];simp only[go_sem];refine⟨⟨((j+1,s3),(o3,c3,es3)),aX,UX,⟨z6,aiv⟩,alU aiw DK⟩,by show LS.length-(j+1)<LS.length-j;omega,ak [([96],[50,6]),([95],[50,7])],?_⟩;simp only[go_sem];rw[aD ⟨by omega,by omega⟩]
   and_intros<;>first|rfl|trivial
  .have gT:j=LS.length:=by omega
   subst gT;rw[List.drop_length]at sB;rw[cz];simp only[go_sem];rw[hQ];simp only[go_sem];refine⟨⟨(s2,(o2,c2,lx)),sB.end' [] [],jJ,oT⟩,by show 2*(l.length-s2.sets.length)+s2.wait.length<2*(l.length-s1.sets.length)+s1.wait.length;omega,id,?_⟩;simp only[go_sem]
 .have ye:s1.wait=[]:=amh (by omega);rw[hQ];simp only[go_sem];refine⟨.az [],_,[0,1,2,3,100,6,7],ak [([6],[96]),([7],[95])],⟨rfl,s1,o1,c1,tP,rfl,pS,ye⟩,?_⟩;simp only[go_sem]
end Go.Proofs.YtpmniabdmbmafaaGreatDoor

namespace Go.Proofs.YtpmniabdmbmafaaGreatDoor
open Go.Ab Tryz
variable {t:TypeId}{fz:Nat×Nat}
def kX(s:PS)(N:Nat):List Nat:=(List.range N).map fun i=>lC (s.sets.getD (s.cls.getD i 0) [])
theorem aix{l:List EA}{s:PS}(h:jf l s [] [])(aU:gq l)(hw:s.wait=[]):mN l (kX s l.length):=by
 have w:=h.wf;refine⟨by simp[kX],fun i hi=>?_⟩;have hg:(kX s l.length).getD i 0=lC (s.sets.getD (s.cls.getD i 0) []):=by simp[kX,hi]
 rw[hg];have hc:=(w.at' i hi).1;obtain⟨h1,h2⟩:=w.iN _ hc;obtain⟨m1,m2⟩:=aib h1;obtain⟨k1,k2⟩:=h2 _ m1;refine⟨(h.alike aU hw hi k1).2 k2.symm,fun j hj ha=>?_⟩;have e6:j<l.length:=by omega
 have e:=(h.alike aU hw hi e6).1 ha;have:=m2 j (by rw[e];exact(w.at' j e6).2);omega
theorem UY(l:List EA)(st:Int)(h0:0<l.length)(hN:l.length<=1000)(hp:∀s∈l,Plain s)(aU:gq l):HP prog (GT t fz) 30 [ct l st] (fun r=>∃out,mN l out∧r=.d (.sl none (out.map nD))):=by
 have c1:=ahs (t:=t) (fz:=fz) l st h0 hN (fun s hs=>⟨(hp s hs).ins,(hp s hs).fit⟩) (fun s hs=>(hp s hs).nd) aU fun s hs=>(hp s hs).nice;have yg:Du l:=agR fun s hs=>(hp s hs).nd;unfold ct at *
 refine fK func30 rfl (by decide +kernel) (by simp[ntmps30]) (aS fun E=>?_);simp only[go_sem];refine iJ E [.d (.agg [.sl (some 13) (l.map aO),i64 st])] [] [] c1 rfl rfl ⟨by simp only[go_sem],by rw[aT];decide⟩ rfl (by simp only[go_sem]) (by simp only[go_sem]) ?_;rintro _ _ ⟨rfl,s,FM,ay,bs,c,es,rfl,LP,ag,Hm,sq,pS,hq,eP⟩;obtain⟨FD,mV⟩:∃FD,fo ay bs (aM dt FM)=FD:=⟨_,rfl⟩
 have c2:=ait (G:=GT t fz) l st FM ay bs s 0 c es (by omega) LP Hm ag sq pS aU yg hq eP;rw[mV]at c2;rw[mV];unfold dm gU;simp only[go_sem];refine uG E (ak [([0],[7,0]),([1],[7,1]),([2],[7,2]),([3],[7,3]),([100],[7,100])]) [.bx [0] 0] (dm l st FD s 2 3 0 c es) [0,1,2,3,100] c2 rfl (by simp only[go_sem]) ⟨by simp only[go_sem],by rw[aT];decide⟩ rfl (by unfold dm gU;simp only[go_sem]) (by unfold dm gU;simp only[go_sem]) ?_;rintro _ _ ⟨rfl,s',o',c',kN,rfl,UZ,rQ⟩;have w:=UZ.wf;have cF:=w.len;have akM:=pS.wf.len;have oQ:=w.le;have w7:=aix UZ aU rQ;unfold dm gU;simp only[go_sem];refine⟨by omega,?_⟩;rw[cF];refine⟨⟨by omega,by omega,by omega,by omega⟩,?_⟩;rw[show List.replicate l.length (D.int IntKind.i64 0)=kR l.length []from(TE _).symm]
 refine bC E (X:={ i:Nat // i<=l.length }) (fun x=>[(3,.bx [0] 0),(4,.vw [13] 0 l.length),(15,.d (.sl (some 13) (l.map aO))),(16,.d (i64 l.length)),(17,.d (i64 x.1))])
  (fun x=>[([0],.box [.d (.sl (some 13) (l.map aO)),.d (i64 st),.d FD,.vw [1] 0 l.length,.vw [6] 0 s'.sets.length,.vw [10] o' s'.wait.length,.mp [100]]),([1],.arr none (s'.cls.map nD)),([6],.arr none (s'.sets.map dT)),([13],.arr none (kR l.length ((kX s' l.length).take x.1)))])
  [0,1,6,10,13,100] (fun x=>l.length-x.1) ⟨0,ale _⟩ (ak [([0],[7,0]),([1],[7,1]),([6],[9,6]),([10],[9,7]),([100],[7,100])]) ?_ ?_
 .simp only[go_sem]
  all_goals first|rfl|(and_intros<;>first|rfl|trivial)
 rintro⟨i,hi⟩ E0;refine bK E0 fun Q' hQ E'=>?_;simp only at hi ⊢;simp only[go_sem];refine aI E' ?_ ?_<;>intro h1<;>simp only[go_sem]
 .have aq:i<l.length:=by omega
  obtain⟨k,hk⟩:∃k,s'.cls.getD i 0=k:=⟨_,rfl⟩
  have fb:=(w.at' i aq).1;have pn:=(w.at' i aq).2;rw[hk]at fb pn;obtain⟨T,hT⟩:∃T,s'.sets.getD k []=T:=⟨_,rfl⟩
  obtain⟨U1,Mt⟩:=w.iN k fb;have U2:=w.dn k fb;rw[hT]at pn U1 Mt U2;have DH:T.length<=l.length:=mO U2 fun x hx=>(Mt x hx).1
  have yn:(s'.cls.map nD).getD i .aY=i64 (k:Nat):=by
   rw[<-hk];simp[cF,aq,nD]
  have p5:(s'.sets.map dT).getD k .aY=.sl none (T.map nD):=by
   rw[<-hT];simp[fb,dT]
  have c3:=aid (G:=GT t fz) T U1 (by omega) (fun x hx=>by have:=(Mt x hx).1;omega);unfold dT at c3
  have k7:(kR l.length ((kX s' l.length).take i)).set i (i64 (lC T:Nat))=kR l.length ((kX s' l.length).take (i+1)):=by
   have qg:(kX s' l.length).length=l.length:=by simp[kX]
   have q7:((kX s' l.length).take i).length=i:=by rw[alq];omega
   have:=LI (N:=l.length) (k:=lC T) (cls:=(kX s' l.length).take i) (by omega);rw[q7]at this;rw[this,ak9 (by omega)];congr 2;simp[kX,<-hT,<-hk]
  refine bz mixed E' fun X=>?_;simp only[go_sem];refine fO X (d:=23) [0] 0 none _ (by simp only[go_sem]) rfl rfl ?_;simp only[go_sem];refine fO X (d:=27) [0] 0 none _ (by simp only[go_sem]) rfl rfl ?_;simp only[go_sem];refine⟨by omega,?_⟩;rw[yn];simp only[go_sem];refine⟨by omega,?_⟩;rw[p5];simp only[go_sem];refine dA X c3 rfl rfl (by simp) ?_;simp only[go_sem];refine⟨by omega,?_⟩;rw[k7];(try refine⟨by decide +kernel,?_⟩);rw[hQ];simp only[go_sem];refine⟨⟨i+1,by omega⟩,by show l.length-(i+1)<l.length-i;omega,id,?_⟩;simp only[go_sem];rw[aD ⟨by omega,by omega⟩]
  all_goals first|rfl|(and_intros<;>first|rfl|trivial)
 .have KN:i=l.length:=by omega
  subst KN;have qg:(kX s' l.length).length=l.length:=by simp[kX]
  have x5:kR l.length ((kX s' l.length).take l.length)=(kX s' l.length).map nD:=by
   rw[ak5 (by omega)];unfold kR;rw[qg,am5];simp
  rw[hQ,x5];simp only[go_sem];refine⟨[([13],none,(kX s' l.length).map nD)],?_⟩;simp only[go_sem];have o6:List.take l.length ((kX s' l.length).map nD)=(kX s' l.length).map nD:=ak5 (by rw[alg,qg];exact ali _)
  try rw[o6]
  exact⟨_,w7,rfl⟩
end Go.Proofs.YtpmniabdmbmafaaGreatDoor

namespace Go.Proofs.YtpmniabdmbmafaaGreatDoor
open Go.Ab Tryz
variable {t:TypeId}{fz:Nat×Nat}
theorem aiy(l:List EA)(st:Int)(hN:l.length<=1000)(hs:∀s∈l,iL s)(h:ff l st=0):HP prog (GT t fz) 27 [ct l st] (fun r=>∃out,mN l out∧r=.az [.d (.sl none (out.map nD)),.d (i64 0)]):=by
 have c1:=KB (G:=GT t fz) l st (by omega) hs;have g:=pb h;have c2:=UY (t:=t) (fz:=fz) l st g.n0 hN (LW hs h) g.lX;rw[h]at c1;unfold ct at *
 refine fK func27 rfl (by decide +kernel) (by simp[ntmps27]) (aS fun E=>?_);simp only[go_sem];refine bd E (c1) rfl rfl (by simp) ?_;rintro _ rfl;simp only[go_sem];refine bd E c2 rfl rfl (by simp) ?_;rintro _ ⟨out,cF,rfl⟩;simp only[go_sem];refine⟨[],?_⟩;simp only[go_sem];exact⟨out,cF,rfl⟩
theorem aiz(l:List EA)(st:Int)(hN:l.length<=1000000)(hs:∀s∈l,iL s)(h:ff l st≠0):HP prog (GT t fz) 14 [ct l st] (fun r=>r=.az [.d (.agg [.ao,i64 0]),.d (i64 (ff l st))]):=by
 have c1:=afX (G:=GT t fz) l st hN hs h;generalize ff l st=e at *
 unfold ct at *
 refine fK func14 rfl (by decide +kernel) (by simp[ntmps14]) (aS fun E=>?_);simp only[go_sem];refine bd E (c1) rfl rfl (by simp) ?_;rintro _ rfl;simp only[go_sem];refine aI E (fun _=>?_) (fun h'=>absurd h h')<;>simp only[go_sem];refine⟨[],?_⟩;simp only[go_sem]
end Go.Proofs.YtpmniabdmbmafaaGreatDoor

namespace Go.Proofs.YtpmniabdmbmafaaGreatDoor
open Go.Ab Tryz
variable {t:TypeId}{fz:Nat×Nat}
theorem U3(l:List EA)(st:Int)(hN:l.length<=1000)(hs:∀s∈l,iL s)(h:ff l st=0):HP prog (GT t fz) 14 [ct l st] (fun r=>∃out,mN (eV l st.toNat) out∧r=.az [.d (ct (oP (eV l st.toNat) out) 0),.d (i64 0)]):=by
 have c1:=Sp (G:=GT t fz) l st (by omega) hs h;have g:=pb h;obtain⟨k0,rfl⟩:∃k:Nat,st=(k:Int):=⟨st.toNat,by have:=g.s0;omega⟩
 have k6:k0<l.length:=by have:=g.s1;omega
 have wF:=Cw g.lX k6;have oE:=LW hs h;rw[Int.toNat_natCast]at c1 ⊢;have U4:=GN h;have ib:=LX oE g.lX k6;have r8:(eV l k0).length<=1000:=by rw[wc];omega
 generalize hn:eV l k0=n at *
 have gn:=pb U4;have c2:=UY (t:=t) (fz:=fz) n 0 gn.n0 r8 ib gn.lX;unfold ct at *
 refine fK func14 rfl (by decide +kernel) (by simp[ntmps14]) (aS fun E=>?_);simp only[go_sem];refine bd E (c1) rfl rfl (by simp) ?_;rintro _ rfl;simp only[go_sem];refine bd E c2 rfl rfl (by simp) ?_;rintro _ ⟨out,AA,rfl⟩;have hec:=LV U4 AA;have cF:=AA.1;have q7:(qj out).length=n.length:=by simp[qj,cF]
 have D3:(qj out).getD 0 0=((out.getD 0 0:Nat):Int):=Sr out 0;have hcn:(gQ out n).length=n.length:=by simp[gQ]
 have c4:=Sp (G:=GT t fz) (gQ out n) ((out.getD 0 0:Nat):Int) (by omega) (fun s hs=>(T5 ib s hs).ins) hec;rw[Int.toNat_natCast,show eV (gQ out n) (out.getD 0 0)=oP n out from rfl]at c4;have aiA:=af1 out n;have dy:∀s∈n,∀z∈s.next,0<=z∧z<(qj out).length:=by rw[q7];exact gn.lX
 rw[Sq];have CZ:=gn.n0;simp only[go_sem];refine⟨by omega,?_⟩;rw[wH (show 0<(qj out).length by omega),D3];generalize out.getD 0 0=q0 at *
 generalize hm:qj out=m at *
 unfold ct at c4;simp only[go_sem];refine nQ E [7] 0 97 (some 13) [.d .ao,.d (i64 q0)] rfl rfl (by rw[aT];decide) ?_;simp only[go_sem]
 refine bC E (X:={ k:Nat // k<=n.length }) (fun x=>[(2,.bx [2] 0),(6,.d (.sl none (m.map i64))),(7,.bx [7] 0),(28,.d (.sl (some 13) (n.map aO))),(29,.d (i64 n.length)),(30,.d (i64 x.1))])
  (fun x=>[([2],.box [.d .ao,.d (i64 0)]),([7],.box [.vw [97] 0 x.1,.d (i64 q0)]),([97],.arr (some 13) ((n.take x.1).map fun s=>aO (mT m s)))]) [97,7,2] (fun x=>n.length-x.1) ⟨0,ale _⟩ id ?_ ?_
 .simp only[go_sem]
  all_goals first|rfl|(and_intros<;>first|rfl|trivial)
 rintro⟨k,hk⟩ E0;refine bK E0 fun Q' hQ E'=>?_;simp only at hk ⊢;simp only[go_sem];refine aI E' ?_ ?_<;>intro h2<;>simp only[go_sem]
 .have mM:k<n.length:=by omega
  have gj:=ak2 mM;have yI:=dy _ gj;have DC:=(ib _ gj).ins;refine⟨by omega,?_⟩;rw[tw mM];generalize qi:n[k]=s at yI DC ⊢
  have fW:∀q∈s.fl,0<=q.2∧q.2<m.length:=fun q hq=>yI _ (by
   unfold EA.next
   exact alB _ (alm _ (ak6.2 ⟨q,hq,rfl⟩)))
  have ur:∀q∈s.tl,0<=q.2∧q.2<m.length:=fun q hq=>yI _ (by
   unfold EA.next
   exact alB _ (alB _ (ak6.2 ⟨q,hq,rfl⟩)))
  have m1:=Sh (G:=GT t fz) s.fl m (by have:=DC.f;omega) fW;have m2:=Sh (G:=GT t fz) s.tl m (by have:=DC.t;omega) ur;unfold eo aL at m1 m2;rw[dK s];simp only[go_sem];refine ck E' ?_ ?_<;>intro ha<;>simp only[go_sem]
  .have nV:0<=s.bD∧s.bD<m.length:=yI _ (by simp[EA.next,ha]);have CU:0<=s.bE∧s.bE<m.length:=yI _ (by simp[EA.next,ha]);refine bz mixed E' fun X=>?_;simp only[go_sem];refine⟨by omega,?_⟩;rw[wH (show s.bD.toNat<m.length by omega),show m.getD s.bD.toNat 0=gK m s.bD from rfl];simp only[go_sem];refine⟨by omega,?_⟩;rw[wH (show s.bE.toNat<m.length by omega),show m.getD s.bE.toNat 0=gK m s.bE from rfl];simp only[go_sem];(try refine⟨by decide +kernel,?_⟩);refine bz mixed E' fun X=>?_;simp only[go_sem];refine dA X m1 rfl rfl (by simp) ?_;simp only[go_sem];refine dA X m2 rfl rfl (by simp) ?_;simp only[go_sem];(try refine⟨by decide +kernel,?_⟩);refine⟨by omega,?_⟩;rw[hQ];simp only[go_sem];refine⟨⟨k+1,by omega⟩,by show n.length-(k+1)<n.length-k;omega,ak [([97],[62])],?_⟩;simp only[go_sem];have Mu:aO (mT m s)=.agg [.bool s.plus,.bool s.al,.bool s.int,.bool s.bool,.bool s.str,.bool s.arr,.bool s.rc,.bool s.tg,.sl none (s.vars.map i64),i64 (gK m s.bD),i64 (gK m s.bE),.sl (some 2) ((s.fl.map fun q=>(q.1,gK m q.2)).map aP),.sl (some 2) ((s.tl.map fun q=>(q.1,gK m q.2)).map aP)]:=by rw[dK];simp[mT,EA.mv,ha]
   rw[ak5 (by rw[alg,alq];omega),<-tG mM,qi,Mu,aD ⟨by omega,by omega⟩]
   and_intros<;>first|rfl|trivial
  .refine bz mixed E' fun X=>?_;simp only[go_sem];refine dA X m1 rfl rfl (by simp) ?_;simp only[go_sem];refine dA X m2 rfl rfl (by simp) ?_;simp only[go_sem];(try refine⟨by decide +kernel,?_⟩);refine⟨by omega,?_⟩;rw[hQ];simp only[go_sem];refine⟨⟨k+1,by omega⟩,by show n.length-(k+1)<n.length-k;omega,ak [([97],[62])],?_⟩;simp only[go_sem];have Mu:aO (mT m s)=.agg [.bool s.plus,.bool s.al,.bool s.int,.bool s.bool,.bool s.str,.bool s.arr,.bool s.rc,.bool s.tg,.sl none (s.vars.map i64),i64 s.bD,i64 s.bE,.sl (some 2) ((s.fl.map fun q=>(q.1,gK m q.2)).map aP),.sl (some 2) ((s.tl.map fun q=>(q.1,gK m q.2)).map aP)]:=by rw[dK];simp[mT,EA.mv,ha]
   rw[ak5 (by rw[alg,alq];omega),<-tG mM,qi,Mu,aD ⟨by omega,by omega⟩]
   and_intros<;>first|rfl|trivial
 .have h3:k=n.length:=by omega
  subst h3;rw[alk,hQ];simp only[go_sem];refine qZ E [97] (some 13) (n.map fun s=>aO (mT m s)) rfl rfl ?_;rw[Qc];refine bd E c4 rfl (by simp only[go_sem];rw[aiA]) (by simp) ?_;rintro _ rfl;simp only[go_sem];refine⟨[],?_⟩;simp only[go_sem];exact⟨out,AA,rfl⟩
end Go.Proofs.YtpmniabdmbmafaaGreatDoor

namespace Go.Proofs.YtpmniabdmbmafaaGreatDoor
open Go.Ab Tryz
variable {t:TypeId}{fz:Nat×Nat}
inductive DL:D->D->Prop
 |refl (x):DL x x
 |nil (w):DL .ao (.sl w [])
 |agg (cs ds:List D) (hl:cs.length=ds.length) (hc:∀d∈ds,d.bR=true) (h:∀(i:Nat) x y,cs[i]?=some x->ds[i]?=some y->DL x y):DL (.agg cs) (.agg ds)
 |sl (w:W) (xs ys:List D) (hl:xs.length=ys.length) (hw:∀y∈ys,okW w y) (hc:∀(i:Nat) x y,xs[i]?=some x->ys[i]?=some y->x.cells.length=y.cells.length)
  (h:∀(i:Nat) x y,xs[i]?=some x->ys[i]?=some y->∀(j:Nat) d e,x.cells[j]?=some d->y.cells[j]?=some e->DL d e):DL (.sl w xs) (.sl w ys)
theorem DL.rep{x y:D}(h:DL x y):∀{H:Array Obj} {own:Nat->Prop} {v:Value},au H own v x->au H own v y:=by
 induction h with
 |refl=>exact fun h=>h
 |nil w =>
   intro H own v hr;cases hr;exact .kZ _ _ _
 |agg cs ds hl hc h ih =>
   intro H own v hr
   cases hr with
   |agg vs _ hs _ h' =>
     refine .agg vs ds (hs.trans hl) hc fun i d hd=>?_;have hlt:=(akY.1 hd).1;have hx:cs[i]?=some (cs[i]'(by omega)):=ak0 _;exact ih i _ _ hx hd (h' i _ hx)
 |sl w xs ys hl hw hc h ih =>
   intro H own v hr
   cases hr with
   |kZ a cap _ =>
     have:ys=[]:=amh (by rw[<-hl];rfl);rw[this];exact .kZ a cap w
   |sl b o cap c e fz _ _ hb hn eY hz _ h' =>
     have key:au H own (.slice (some ⟨b,o,none⟩) ys.length cap) (.sl w ys):=by
      refine .sl b o cap c e fz w ys hb hn (by omega) (by rw[<-hl];exact hz) hw fun i y j d hi hj=>?_;have hlt:=(akY.1 hi).1;have hx:xs[i]?=some (xs[i]'(by omega)):=ak0 _;have cF:=hc i _ _ hx hi;have akN:=(akY.1 hj).1;have Ak:(xs[i]'(by omega)).cells[j]?=some ((xs[i]'(by omega)).cells[j]'(by omega)):=ak0 _;exact ih i _ _ hx hi j _ _ Ak hj (h' i _ j _ hx Ak)
     rw[<-hl]at key;exact key
theorem HP.dl{P:Program}{G:List (Nat×Obj)}{f:FuncId}{args args':List D}{Q:AV->Prop}(hl:args.length=args'.length)
  (hr:∀(i:Nat) x y,args[i]?=some x->args'[i]?=some y->DL x y) (h:HP P G f args' Q):HP P G f args Q:=by
 refine⟨h.1,fun B β vs w h1 h2 h3 h4 h5=>h.2 B β vs w (h1.trans (by simpa using hl)) h2 h3 h4 { bG:=h5.bG,io:=h5.io,size:=h5.size,frame:=h5.frame,slots:=fun t=>?_,aJ:=h5.aJ,blocks:=h5.blocks,inj:=h5.inj,us:=h5.us,stay:=h5.stay }⟩;have hv:=h5.slots t;rw[kC,qJ,if_pos (ale _),Nat.sub_zero]at hv ⊢;show VR w.heap ((mk (dQ 0 (args.map .d)) [] []).own B.A β) [] _ β _ _;rw[ala]at hv ⊢
 cases hx:args[t]? with
 |none =>
   rw[alN (by rw[<-hl];exact amy.1 hx)];exact .un _
 |some x =>
   have hlt:=(akY.1 hx).1;have hy:args'[t]?=some args'[t]:=ak0 (by omega);rw[hx]at hv;rw[hy];simp only[Option.map_some]at hv ⊢;generalize vs.getD t undef=v at hv ⊢
   cases hv with
   |d _ _ hv=>exact .d _ _ ((hr t _ _ hx hy).rep hv)
theorem HP.mo{P:Program}{G:List (Nat×Obj)}{f:FuncId}{args:List D}{Q Q':AV->Prop}(h:HP P G f args Q)(hq:∀r,Q r->Q' r):HP P G f args Q':=bZ.mono h fun r _ h=>⟨hq r h.1,h.2⟩
def l8:List EA:=[⟨true,false,false,false,false,false,true,false,[],0,0,[([97],1),([98],2)],[]⟩,⟨true,false,true,false,false,false,false,false,[],0,0,[],[]⟩,⟨true,false,true,false,false,false,false,false,[],0,0,[],[]⟩]
def U5:List D:=[.agg [.str [97],i64 1],.agg [.str [98],i64 2]]
def D4(r n:Bool)(f:D):D:=.agg [.bool true,.bool false,.bool n,.bool false,.bool false,.bool false,.bool r,.bool false,.ao,i64 0,i64 0,f,.ao]
def yJ:D:=.agg [.sl (some 13) [D4 true false (.sl (some 2) U5),D4 false true .ao,D4 false true .ao],i64 0]
theorem U6:DL yJ (ct l8 0):=by
 unfold yJ ct;refine .agg _ _ rfl (by simp[D.bR,i64]) fun i x y hx hy=>?_;obtain _|_|i:=i
 .cases hx;cases hy;refine .sl _ _ _ rfl (fun y hy=>?_) (fun i x y hx hy=>?_) fun i x y hx hy j d e hd he=>?_
  .obtain⟨s,hs,rfl⟩:=ak6.1 hy;rw[dK];exact⟨rfl,by simp[D.bR,i64]⟩
  .rcases i with _|_|_|i<;>first|(cases hx;cases hy;rfl)|(simp at hx)
  .rcases i with _|_|_|i
   iterate 3
    .cases hx;cases hy;rcases j with _|_|_|_|_|_|_|_|_|_|_|_|_|j<;>first|(cases hd;cases he;exact .refl _)|(cases hd;cases he;exact .nil _)|(simp[D.cells,D4]at hd)
   simp at hx
 .cases hx;cases hy;exact .refl _
 .simp at hx
theorem U7:ff l8 0=0:=by decide
theorem U8:∀s∈l8,iL s:=by
 intro s hs;simp only[l8,alc,alv,or_false]at hs;rcases hs with rfl|rfl|rfl<;>exact⟨by simp,by simp,by simp,by simp,by simp⟩
theorem aiB:eV l8 0=l8:=by decide
theorem U9:mN l8 [0,1,1]:=by
 have aB:∀i,i=1∨i=2->¬alike l8 i 0:=by
  intro i hi h;have:=(zA _ _ _ h).1;rcases hi with rfl|rfl<;>revert this<;>decide
 have Mv:alike l8 2 1:=by
  refine⟨fun a b=>a=b∨(a=2∧b=1),?_,.inr ⟨rfl,rfl⟩⟩;rintro i j (rfl|⟨rfl,rfl⟩)
  .exact⟨rfl,fun k a b h1 h2=>by rw[h1]at h2;exact .inl (alo h2)⟩
  .refine⟨by decide,fun k a b h1 _=>?_⟩;have:dB l8 2=[]:=by decide
   rw[this]at h1;simp at h1
 refine⟨rfl,fun i hi=>?_⟩
 have aq:i=0∨i=1∨i=2:=by
  have:l8.length=3:=rfl;omega
 obtain rfl|rfl|rfl:=aq
 .exact⟨alike_refl _ _,fun j hj=>by simp at hj⟩
 .refine⟨alike_refl _ _,fun j hj=>?_⟩;have:j=0:=by simp at hj;exact hj
  rw[this];exact aB 1 (.inl rfl)
 .refine⟨Mv,fun j hj=>?_⟩;have:j=0:=by simp at hj;exact hj
  rw[this];exact aB 2 (.inr rfl)
theorem aiC:(oP l8 [0,1,1]).length=2:=by decide
theorem aiD:HP prog (GT t fz) 12 [] (fun r=>r=.d (.bool true)):=by
 have c1:HP prog (GT t fz) 27 [yJ] (fun r=>r=.az [.d (.sl none ([0,1,1].map nD)),.d (i64 0)]) :=
  HP.mo (HP.dl (args:=[yJ]) (args':=[ct l8 0]) rfl (fun i x y hx hy=>by
   obtain _|i:=i
   .cases hx;cases hy;exact U6
   .simp at hx) (aiy l8 0 (by decide) U8 U7)) fun r ⟨out,hc,e⟩=>by
    rw[PV hc U9]at e;exact e
 have c2:HP prog (GT t fz) 14 [yJ] (fun r=>r=.az [.d (ct (oP l8 [0,1,1]) 0),.d (i64 0)]) :=
  HP.mo (HP.dl (args:=[yJ]) (args':=[ct l8 0]) rfl (fun i x y hx hy=>by
   obtain _|i:=i
   .cases hx;cases hy;exact U6
   .simp at hx) (U3 l8 0 (by decide) U8 U7)) fun r ⟨out,hc,e⟩=>by
    rw[show(0:Int).toNat=0 from rfl,aiB]at hc e;rw[PV hc U9]at e;exact e
 have hlen:=aiC;unfold ct yJ D4 U5 at *
 refine cj func12 rfl (by decide +kernel) (by simp[ntmps12]) (aS fun E=>?_);simp only[go_sem];refine qZ E [8] (some 2) _ rfl (by simp only[go_sem];rfl) ?_;simp only[go_sem];refine qZ E [12] (some 13) _ rfl (by simp only[go_sem];rfl) ?_;simp only[go_sem];refine bd E (c1) rfl rfl (by simp) ?_;rintro _ rfl;simp only[go_sem];refine bd E (c2) rfl rfl (by simp) ?_;rintro _ rfl;simp only[go_sem];refine qZ E [32] none _ rfl (by simp only[go_sem];rfl) ?_;simp only[go_sem];refine bd E (Fl (G:=GT t fz) [0,1,1] [0,1,1] (by decide)) rfl rfl (by simp) ?_;rintro _ rfl;simp only[go_sem];rw[hlen];rfl
end Go.Proofs.YtpmniabdmbmafaaGreatDoor

namespace Go.Proofs.YtpmniabdmbmafaaGreatDoor
open Go.Ab
end Go.Proofs.YtpmniabdmbmafaaGreatDoor

namespace Go.Proofs.YtpmniabdmbmafaaGreatDoor
open Go.Ab
variable {t:TypeId}{fz:Nat×Nat}
def Hn:List TS:=[.bool,.bool,.bool,.bool,.bool,.bool,.bool,.bool,.sl none [.int .i64],.int .i64,.int .i64,.sl (some 2) [.str,.int .i64],.sl (some 2) [.str,.int .i64]]
def Va:List TS:=[.sl (some 13) Hn,.int .i64]
theorem Vb:maxLen<=9223372036854775807:=by unfold maxLen;omega
theorem Vc:∀{xs:List D},(∀x∈xs,okW none x∧ig [.int .i64] x.cells)->∃l:List Int,xs=l.map i64
 |[],_=>⟨[],rfl⟩
 |x::xs,h=>by
   obtain⟨l,hl⟩:=Vc fun y hy=>h y (ald _ hy);obtain⟨h1,h2⟩:=h x alb
   cases x with
   |int k n =>
     have h2:ig [.int .i64] [.int k n]:=h2;obtain rfl:k=.i64:=h2.1.1;exact⟨n::l,by rw[hl];rfl⟩
   |agg cs=>exact absurd h1 (by simp[okW,D.bR])
   |_=>exact h2.1.elim
theorem Vd:∀{xs:List D},(∀x∈xs,okW (some 2) x∧ig [.str,.int .i64] x.cells)->∃l:List da,xs=l.map aP∧∀f∈l,f.1.length<=maxLen
 |[],_=>⟨[],rfl,by simp⟩
 |x::xs,h=>by
   obtain⟨l,hl,hf⟩:=Vd fun y hy=>h y (ald _ hy);obtain⟨h1,h2⟩:=h x alb
   cases x with
   |agg cs =>
     have h2:ig [.str,.int .i64] cs:=h2
     match cs,h2 with
     |[.str s,.int k n],h2 =>
       obtain⟨g1,g2,_⟩:=h2;obtain rfl:k=.i64:=g2.1
       exact⟨(s,n)::l,by rw[hl];rfl,fun f pY=>by
        rcases alc.1 pY with rfl|pY
        .exact g1
        .exact hf f pY⟩
   |_=>simp[okW]at h1
theorem aiE{F:D}(h:TS.ok (.sl none [.int .i64]) F):∃l:List Int,DL F (aL l)∧l.length<=maxLen:=by
 cases F with
 |ao=>exact⟨[],.nil _,by simp⟩
 |sl w xs =>
   obtain⟨rfl,g1,g2⟩:=h;obtain⟨l,rfl⟩:=Vc g2;exact⟨l,.refl _,by simpa using g1⟩
 |_=>exact h.elim
theorem Ve{F:D}(h:TS.ok (.sl (some 2) [.str,.int .i64]) F):∃l:List da,DL F (eo l)∧l.length<=maxLen∧∀f∈l,f.1.length<=maxLen:=by
 cases F with
 |ao=>exact⟨[],.nil _,by simp,by simp⟩
 |sl w xs =>
   obtain⟨rfl,g1,g2⟩:=h;obtain⟨l,rfl,hl⟩:=Vd g2;exact⟨l,.refl _,by simpa using g1,hl⟩
 |_=>exact h.elim
theorem aiF{x:D}(h1:okW (some 13) x)(h2:ig Hn x.cells):∃s:EA,x8 s∧x.cells.length=13∧∀(j:Nat) d e,x.cells[j]?=some d->(aO s).cells[j]?=some e->DL d e:=by
 have hm:=Vb
 cases x with
 |agg cs =>
   have h2:ig Hn cs:=h2
   match cs,h2 with
   |[.bool b0,.bool b1,.bool b2,.bool b3,.bool b4,.bool b5,.bool b6,.bool b7,V,.int k1 d,.int k2 c,F,T],h2 =>
     obtain⟨_,_,_,_,_,_,_,_,g8,g9,g10,g11,g12,_⟩:=h2;obtain rfl:k1=.i64:=g9.1;obtain rfl:k2=.i64:=g10.1;obtain⟨vs,v1,v2⟩:=aiE g8;obtain⟨fl,f1,f2,f3⟩:=Ve g11;obtain⟨tl,t1,t2,t3⟩:=Ve g12;refine⟨⟨b0,b1,b2,b3,b4,b5,b6,b7,vs,d,c,fl,tl⟩,⟨by simp only;omega,by simp only;omega,by simp only;omega,fun x hx=>by have:=f3 x hx;omega,fun x hx=>by have:=t3 x hx;omega⟩,rfl,fun j x y hx hy=>?_⟩;obtain _|_|_|_|_|_|_|_|_|_|_|_|_|j:=j
     iterate 8
      .cases hx;cases hy;exact .refl _
     .cases hx;cases hy;exact v1
     .cases hx;cases hy;exact .refl _
     .cases hx;cases hy;exact .refl _
     .cases hx;cases hy;exact f1
     .cases hx;cases hy;exact t1
     .simp[D.cells]at hx
 |_=>simp[okW]at h1
def RwS(x:D)(s:EA):Prop:=x.cells.length=13∧∀(j:Nat) d e,x.cells[j]?=some d->(aO s).cells[j]?=some e->DL d e
theorem Vf:∀{xs:List D},(∀x∈xs,okW (some 13) x∧ig Hn x.cells)->∃l:List EA,xs.length=l.length∧(∀s∈l,x8 s)∧∀(i:Nat) x s,xs[i]?=some x->l[i]?=some s->RwS x s
 |[],_=>⟨[],rfl,by simp,fun i x s h=>by simp at h⟩
 |x::xs,h=>by
   obtain⟨l,h1,h2,h3⟩:=Vf fun y hy=>h y (ald _ hy);obtain⟨g1,g2⟩:=h x alb;obtain⟨s,k1,k2,k3⟩:=aiF g1 g2;refine⟨s::l,by simp[h1],fun u hu=>?_,fun i y u hy hu=>?_⟩
   .rcases alc.1 hu with rfl|hu
    .exact k1
    .exact h2 u hu
   .cases i with
    |zero =>
      simp at hy hu;subst hy;subst hu;exact⟨k2,k3⟩
    |succ i=>exact h3 i y u (by simpa using hy) (by simpa using hu)
theorem aiG(s:EA):okW (some 13) (aO s):=⟨rfl,by simp[D.bR,aL,eo]⟩
theorem aiH{ds:List D}(h:ig Va ds):∃(l:List EA) (st:Int),DL (.agg ds) (ct l st)∧l.length<=9223372036854775807∧∀s∈l,x8 s:=by
 have hm:=Vb
 match ds,h with
 |[L,.int k n],h =>
   obtain⟨h1,h2,_⟩:=h;obtain rfl:k=.i64:=h2.1
   cases L with
   |ao =>
     refine⟨[],n,.agg _ _ rfl (by simp[D.bR,i64]) fun i x y hx hy=>?_,by simp,by simp⟩;obtain _|_|i:=i
     .cases hx;cases hy;exact .nil _
     .cases hx;cases hy;exact .refl _
     .simp at hx
   |sl w xs =>
     obtain⟨rfl,g1,g2⟩:=h1;obtain⟨l,k1,k2,k3⟩:=Vf g2;refine⟨l,n,.agg _ _ rfl (by simp[D.bR,i64]) fun i x y hx hy=>?_,by omega,k2⟩;obtain _|_|i:=i
     .cases hx;cases hy;refine .sl _ _ _ (by simp[k1]) (fun y hy=>?_) (fun i x y hx hy=>?_) fun i x y hx hy=>?_
      .obtain⟨s,_,rfl⟩:=ak6.1 hy;exact aiG s
      .rw[ala,ak8]at hy;obtain⟨s,hs,rfl⟩:=hy;exact(k3 i x s hx hs).1
      .rw[ala,ak8]at hy;obtain⟨s,hs,rfl⟩:=hy;exact(k3 i x s hx hs).2
     .cases hx;cases hy;exact .refl _
     .simp at hx
   |_=>exact h1.elim
end Go.Proofs.YtpmniabdmbmafaaGreatDoor

namespace Go.Proofs.YtpmniabdmbmafaaGreatDoor
open Go.Ab Tryz
def Ho(n:TN):Prop:=(n.l.length<=1000∧∀q∈n.l,0<=q.2∧q.2<=4000)∧(oZ n.k=true->(0<=n.a∧n.a<=4000)∧0<=n.b∧n.b<=4000)
theorem Hp{l:List da}{i:Nat}(h:i<l.length):(l.map aP).getD i .aY=.agg [.str l[i].1,i64 l[i].2]:=by simp[h,aP]
theorem Vg{α β:Type}{f:α->β}{l:List α}{i:Nat}(h:i<l.length):(l.take i).map f++[f l[i]]=(l.take (i+1)).map f:=by
 rw[ak9 h,alh];rfl
theorem aiI{n:TN}{d:Int}(h:oZ n.k=true):aK (jx d n)=.agg [i64 n.k,i64 (n.a+d),i64 (n.b+d),.sl (some 2) (n.l.map fun q=>aP (q.1,q.2+d))]:=by
 unfold jx;rw[h];simp[aK,eo,Function.comp_def]
theorem aiJ{n:TN}{d:Int}(h:oZ n.k=false):aK (jx d n)=.agg [i64 n.k,i64 n.a,i64 n.b,.sl (some 2) (n.l.map fun q=>aP (q.1,q.2+d))]:=by
 unfold jx;rw[h];simp[aK,eo,Function.comp_def]
theorem aiK{ns gs:List TN}{d:Int}{i:Nat}(h:i<gs.length):List.map aK (ns++(gs.take i).map (jx d))++[aK (jx d gs[i])]=List.map aK (ns++(gs.take (i+1)).map (jx d)):=by
 rw[ak9 h];simp only[alh,alK,alf,alJ]
theorem aiL{G}(ns gs:List TN)(root g:Int)(hn:ns.length<=4000)(hg:gs.length<=4000)(hm:∀n∈gs,Ho n):HP prog G 22 [bU ns root,bU gs g] (fun r=>r=.az [.d (bU (ar ns gs) root),.d (i64 ns.length)]):=by
 unfold bU;refine fK func22 rfl (by decide +kernel) (by simp[ntmps22]) (aS fun E=>?_);simp only[go_sem];refine bz mixed E fun X=>?_;simp only[go_sem];refine⟨by omega,by decide +kernel,?_⟩;refine eU E [2] (.agg [.sl (some 4) (ns.map aK),i64 root]) rfl rfl ?_;simp only[go_sem];refine eU E [3] (.agg [.sl (some 4) (gs.map aK),i64 g]) rfl rfl ?_;simp only[go_sem]
 refine bC E (X:={ i:Nat // i<=gs.length }) (fun x=>[(2,.d (.ptr (.agg [.sl (some 4) (ns.map aK),i64 root]))),(3,.d (.ptr (.agg [.sl (some 4) (gs.map aK),i64 g]))),(4,.bx [4] 0),(6,.bx [6] 0),(7,.d (i64 ns.length)),(8,.d (i64 x.1))])
  (fun x=>[([4],.box [.d .ao,.d (i64 0)]),([6],.box [.vw [99] 0 (ns.length+x.1),.d (i64 root)]),([99],.arr (some 4) ((ns++(gs.take x.1).map (jx ns.length)).map aK))]) [4,6,99] (fun x=>gs.length-x.1) ⟨0,ale _⟩ (ak [([99],[15])]) ?_ ?_
 .simp only[go_sem];simp
 rintro⟨i,hi⟩ E0;refine bK E0 fun Q' hQ E'=>?_;simp only at hi ⊢;simp only[go_sem];refine aI E' ?_ ?_<;>intro h1<;>simp only[go_sem]
 .have aq:i<gs.length:=by omega
  have F9:=hm _ (ak2 aq);have fW:=F9.1.1;refine⟨by omega,?_⟩;rw[JV aq];simp only[go_sem];refine bH E' (fun gk=>?_) (fun g1=>?_)<;>simp only[go_sem]
  rotate_left
  refine bH E' (fun gk=>?_) (fun g2=>?_)<;>simp only[go_sem]
  rotate_left
  refine aI E' (fun gk=>?_) (fun g3=>?_)<;>simp only[go_sem]
  rotate_left
  have hk:oZ gs[i].k=false:=by simp[oZ,g1,g2,g3]
  have nZ:=aiJ (d:=(ns.length:Int)) hk;generalize gs[i].a=na at nZ ⊢;generalize gs[i].b=nb at nZ ⊢
  rotate_left
  iterate 3
   have hk:oZ gs[i].k=true:=by rw[gk];rfl
   have h2k:=F9.2 hk;rw[aD ⟨by omega,by omega⟩,aD ⟨by omega,by omega⟩];have nZ:=aiI (d:=(ns.length:Int)) hk;generalize gs[i].a+(ns.length:Int)=na at nZ ⊢;generalize gs[i].b+(ns.length:Int)=nb at nZ ⊢
   rotate_left
  all_goals
   refine bC E' (X:={ j:Nat // j<=gs[i].l.length }) (fun x=>[(2,.d (.ptr (.agg [.sl (some 4) (ns.map aK),i64 root]))),(3,.d (.ptr (.agg [.sl (some 4) (gs.map aK),i64 g]))),(4,.bx [4] 0),(6,.bx [6] 0),(7,.d (i64 ns.length)),(8,.d (i64 i)),(9,.bx [9] 0),(10,.vw [98] 0 x.1),(11,.d (i64 x.1))])
    (fun x=>[([4],.box [.d .ao,.d (i64 0)]),([6],.box [.vw [99] 0 (ns.length+i),.d (i64 root)]),([99],.arr (some 4) ((ns++(gs.take i).map (jx ns.length)).map aK)),([9],.box [.d (i64 gs[i].k),.d (i64 na),.d (i64 nb),.d (.sl (some 2) (gs[i].l.map aP))]),([98],.arr (some 2) ((gs[i].l.take x.1).map fun q=>aP (q.1,q.2+ns.length)))]) [4,6,99,9,98] (fun x=>gs[i].l.length-x.1) ⟨0,ale _⟩ (ak [([98],[57])]) ?_ ?_
   .simp only[go_sem]
    all_goals rfl
   rintro⟨j,hj⟩ E1;refine bK E1 fun Q2 cz E2=>?_;simp only at hj ⊢;simp only[go_sem];refine aI E2 ?_ ?_<;>intro h2<;>simp only[go_sem]
   .have aX:j<gs[i].l.length:=by omega
    have hq:=F9.1.2 _ (ak2 aX);refine bz mixed E2 fun X=>?_;simp only[go_sem];refine⟨by omega,?_⟩;rw[Hp aX];simp only[go_sem];refine⟨by omega,?_⟩;rw[Hp aX];simp only[go_sem];refine⟨by omega,?_⟩;(try refine⟨by decide +kernel,?_⟩);rw[cz];simp only[go_sem];refine⟨⟨j+1,by omega⟩,by show gs[i].l.length-(j+1)<_;omega,ak [([98],[82])],?_⟩;simp only[go_sem];rw[ak5 (by simp;omega),aD ⟨by omega,by omega⟩,aD ⟨by omega,by omega⟩,<-Vg aX]
    and_intros<;>first|rfl|trivial
   have h5:j=gs[i].l.length:=by omega
   subst h5;rw[cz,alk];simp only[go_sem];refine qP E' [98] (some 2) (gs[i].l.map fun q=>aP (q.1,q.2+ns.length)) rfl ?_;simp only[go_sem];refine⟨by omega,?_⟩;rw[hQ];simp only[go_sem];refine⟨⟨i+1,by omega⟩,by show gs.length-(i+1)<_;omega,ak [([99],[89])],?_⟩;simp only[go_sem];rw[ak5 (by simp;omega),aD ⟨by omega,by omega⟩,<-aiK aq,nZ]
   and_intros<;>first|rfl|trivial
 .have de:i=gs.length:=by omega
  subst de;rw[hQ];simp only[go_sem];refine⟨[([99],some 4,(ns++gs.map (jx ns.length)).map aK)],?_⟩;simp only[go_sem];rw[ak5 (by simp)];rfl
end Go.Proofs.YtpmniabdmbmafaaGreatDoor

