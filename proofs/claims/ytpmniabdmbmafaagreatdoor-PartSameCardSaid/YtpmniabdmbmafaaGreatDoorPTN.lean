/-
  Sequents, and what one leads to: plain. (with the parts that follow it)
-/
import Derived.Test.YtpmniabdmbmafaaGreatDoorPTL
import Derived.Test.YtpmniabdmbmafaaGreatDoorPTJ
import Derived.Test.YtpmniabdmbmafaaGreatDoorPTM
set_option linter.all false
set_option maxHeartbeats 16000000
namespace Go.Proofs.YtpmniabdmbmafaaGreatDoor
open Go.Ab
abbrev SQ:=List Int×List Int
def fQ(q:SQ):D:=.agg [aL q.1,aL q.2]
def gx(l:List Int)(i:Nat)(ins:List Int):List Int:=bL (l.take i++l.drop (i+1)++ins)
def rm(p:Int->Bool)(l:List Int):Int:=if l.any p=true then(l.findIdx p:Int)else -1
def gW(n:TN)(s:List UInt8):Int:=match n.l.find? fun q=>q.1 == s with
 |some q=>q.2
 |none=>-1
def gX(ns:List TN)(s:List UInt8)(x:Int):Bool:=decide (0<=gW (nd ns x.toNat) s)
def om(ns:List TN)(l:List Int)(s:List UInt8):List Int:=(l.filter (gX ns s)).map fun x=>gW (nd ns x.toNat) s
def dY(ns:List TN)(l:List Int)(s:List UInt8):List Int:=bL (om ns l s)
def kS(ns:List TN)(l:List Int)(out:List (List UInt8))(s:List UInt8):List (List UInt8) :=
 if(decide (0<(dY ns l s).length)&&decide ((l.filter (gX ns s)).length=l.length)&&!decide (s∈out))=true then out++[s]else out
def eE(ns:List TN)(l:List Int):List (List UInt8):=((nd ns (l.getD 0 0).toNat).l.map (·.1)).foldl (kS ns l) []
def gY(ns:List TN)(x y:Int):Bool:=decide (ah ns x=11)&&decide (ah ns y=11)&&decide ((nd ns x.toNat).a=(nd ns y.toNat).a)
def gy(ns:List TN)(l:List Int):List Int:=[3,4,5,6,7,8].filter fun k=>l.any fun x=>decide (ah ns x=k)
def po(ns:List TN)(l r:List Int)(s:List UInt8):SQ:=(dY ns l s,dY ns r s)
def gA(ns:List TN)(l r:List Int)(s:List UInt8):Bool:=decide (0<(dY ns l s).length)&&decide (0<(dY ns r s).length)
def lA(ns:List TN)(k:Int)(l r:List Int):List (List UInt8):=if k=7 then eE ns r else if k=8 then eE ns l else[]
def fJ(ns:List TN)(k:Int)(l r:List Int):Option (List SQ)×Bool :=
 if(!decide (k=8)&&decide (r.length=0))=true then(none,false)
 else if k=6 then(some [(bL (r.map fun x=>(nd ns x.toNat).a),bL (l.map fun x=>(nd ns x.toNat).a)),(bL (l.map fun x=>(nd ns x.toNat).b),bL (r.map fun x=>(nd ns x.toNat).b))],true)
 else if(lA ns k l r).all (gA ns l r)=true then(some ((lA ns k l r).map (po ns l r)),true)else(none,false)
def gZ(ns:List TN)(l:List Int):Nat:=l.findIdx (aZ ns)
def bO(ns:List TN)(l:List Int):TN:=nd ns (l.getD (gZ ns l) 0).toNat
def dh(ns:List TN)(q:SQ):Option (List SQ)×Bool :=
 if(q.1.any (fun x=>decide (ah ns x=2))||q.2.any fun x=>decide (ah ns x=1))=true then(none,true)
 else if q.1.any (aZ ns)=true then
  if(bO ns q.1).k=10 then(some [(gx q.1 (gZ ns q.1) [(bO ns q.1).a,(bO ns q.1).b],q.2)],true)
  else(some [(gx q.1 (gZ ns q.1) [(bO ns q.1).a],q.2),(gx q.1 (gZ ns q.1) [(bO ns q.1).b],q.2)],true)
 else if q.2.any (aZ ns)=true then
  if(bO ns q.2).k=9 then(some [(q.1,gx q.2 (gZ ns q.2) [(bO ns q.2).a,(bO ns q.2).b])],true)
  else(some [(q.1,gx q.2 (gZ ns q.2) [(bO ns q.2).a]),(q.1,gx q.2 (gZ ns q.2) [(bO ns q.2).b])],true)
 else if(q.1.any fun x=>q.2.any fun y=>gY ns x y)=true then(none,true)
 else if(gy ns q.1).length=0 then(none,false)
 else if 1<(gy ns q.1).length then(none,true)
 else fJ ns ((gy ns q.1).getD 0 0) (bP ns ((gy ns q.1).getD 0 0) q.1) (bP ns ((gy ns q.1).getD 0 0) q.2)
def jB(ns:List TN)(q:SQ):List SQ×Bool:=((dh ns q).1.getD [],(dh ns q).2)
def DS:Option (List SQ)->D
 |none=>.ao
 |some L=>.sl (some 2) (L.map fQ)
def kT(fx:Int)(ns:List TN)(x:Int):Bool:=decide (ah ns x=11)&&decide ((nd ns x.toNat).a<fx)
def lZ(fx:Int)(ns:List TN)(l:List Int):Bool:=l.any (kT fx ns)
def du(fx:Int)(ns:List TN)(l:List Int):Int :=
 if l.length=0 then -1
 else if(l.all fun x=>kT fx ns x&&decide ((nd ns x.toNat).a=(nd ns (l.getD 0 0).toNat).a))=true then(nd ns (l.getD 0 0).toNat).a else -1
def bV(ns:List TN)(k:Int)(l:List Int):List Int:=l.filter fun x=>!decide (ah ns x=k)
def sC(ns:List TN)(r:List Int)(x:Int):Bool:=(decide (ah ns x=2)||decide (ah ns x=9)||decide (ah ns x=10))||r.any fun y=>gY ns x y
def uV(ns:List TN)(y:Int):Bool:=decide (ah ns y=1)||decide (ah ns y=9)||decide (ah ns y=10)
def qu(ns:List TN)(q:SQ):Bool:=q.1.any (sC ns q.2)||q.2.any (uV ns)
def aQ(fx:Int)(ns:List TN)(q:SQ):Int:=du fx ns (bV ns 1 q.1)
def bQ(fx:Int)(ns:List TN)(q:SQ):Int:=du fx ns (bV ns 2 q.2)
def tR(fx:Int)(ns:List TN)(q:SQ):Bool:=lZ fx ns (bV ns 1 q.1)
def tS(fx:Int)(ns:List TN)(q:SQ):Bool:=lZ fx ns (bV ns 2 q.2)
def iu(fx:Int)(ns:List TN)(q:SQ):Bool:=!qu ns q&&(decide (0<=aQ fx ns q)&&(decide (0<=bQ fx ns q)||!tS fx ns q))
def iw(fx:Int)(ns:List TN)(q:SQ):Bool:=!qu ns q&&(decide (0<=bQ fx ns q)&&(decide (0<=aQ fx ns q)||!tR fx ns q))
def kU(fx:Int)(ns:List TN)(q:SQ):Bool:=!qu ns q&&((decide (0<=aQ fx ns q)&&(decide (0<=bQ fx ns q)||!tS fx ns q))||(decide (0<=bQ fx ns q)&&!tR fx ns q))
def hY(fx:Int)(ns:List TN)(q:SQ):Bool:=!qu ns q&&!((decide (0<=aQ fx ns q)&&(decide (0<=bQ fx ns q)||!tS fx ns q))||(decide (0<=bQ fx ns q)&&!tR fx ns q))&&(tR fx ns q||tS fx ns q)
def fZ(fx:Int)(ns:List TN)(q:SQ):Bool:=!kU fx ns q&&!hY fx ns q
def kV(fx:Int)(ns:List TN)(q:SQ):Bool:=fZ fx ns q&&!(jB ns q).2
def kr(q:SQ):Int:=((7*(q.1.length:Int)+11*(q.2.length:Int)+31*q.1.sum)+17*q.2.sum).tmod 997
structure SW where
 al:List SQ
 bk:List (List Nat)
 be:List (List (List Int))
 ab:List (List (List Int))
 mx:Bool
 fl:Bool
def cn(w:SW)(q:SQ):SW:=if q∈w.al then w else { w with al:=w.al++[q],bk:=w.bk.set (kr q).toNat (w.bk.getD (kr q).toNat []++[w.al.length]) }
def rp:List Int->List Int->Bool
 |[],[]=>false
 |[],_::_=>true
 |_::_,[]=>false
 |x::a,y::b=>if x=y then rp a b else decide (x<y)
def bJ(s:List Int):List (List Int)->Nat
 |[]=>0
 |y::r=>if rp y s=true then bJ s r+1 else 0
def mY(l:List (List Int))(s:List Int):List (List Int):=if bJ s l<l.length∧l.getD (bJ s l) []=s then l else l.take (bJ s l)++s::l.drop (bJ s l)
def iO(L:List (List (List Int)))(v:Int)(s:List Int):List (List (List Int)):=L.set v.toNat (mY (L.getD v.toNat []) s)
def oq(fx:Int)(ns:List TN)(w:SW)(q:SQ):SW :=
 (if fZ fx ns q=true then(jB ns q).1 else[]).foldl cn
  { w with
    be:=if iw fx ns q=true then iO w.be (bQ fx ns q) (bV ns 1 q.1)else w.be
    ab:=if iu fx ns q=true then iO w.ab (aQ fx ns q) (bV ns 2 q.2)else w.ab
    mx:=w.mx||hY fx ns q
    fl:=w.fl||kV fx ns q }
inductive gf(fx:Int)(ns:List TN)(q0:SQ):SQ->Prop
 |root:gf fx ns q0 q0
 |to {q q':SQ} (h:gf fx ns q0 q) (hl:fZ fx ns q=true) (hq:q'∈(jB ns q).1):gf fx ns q0 q'
 |pair {q1 q2:SQ} (h1:gf fx ns q0 q1) (h2:gf fx ns q0 q2) (ha:iu fx ns q1=true) (hb:iw fx ns q2=true) (hv:aQ fx ns q1=bQ fx ns q2):gf fx ns q0 (bV ns 1 q2.1,bV ns 2 q1.2)
def pw(fx:Int)(ns:List TN)(q0:SQ):Prop:=∀q,gf fx ns q0 q->hY fx ns q=false∧kV fx ns q=false
end Go.Proofs.YtpmniabdmbmafaaGreatDoor

namespace Go.Proofs.YtpmniabdmbmafaaGreatDoor
open Go.Ab
inductive Fm where
 |F (p:Bool) (x:Int) (r:List Int)
 |G (l r:List Int)
def jC(gs:List TN)(p:Bool)(r:List Int):Bool:=r.any fun y=>decide (ah gs y=cR p)
def l4(ns gs:List TN)(p:Bool)(x:Int)(r:List Int):Bool:=decide (ah ns x=cQ p)||jC gs p r
inductive uW(gs:List TN)(p:Bool)(r:List Int):List Int->Prop
 |both (h:(bO gs r).k=cy p):uW gs p r (gx r (gZ gs r) [(bO gs r).a,(bO gs r).b])
 |left (h:(bO gs r).k≠cy p):uW gs p r (gx r (gZ gs r) [(bO gs r).a])
 |right (h:(bO gs r).k≠cy p):uW gs p r (gx r (gZ gs r) [(bO gs r).b])
inductive FO(gs:List TN)(p:Bool):List Int->List Int->Prop
 |done {r:List Int} (h:jC gs p r=false) (hl:r.any (aZ gs)=false):FO gs p r r
 |step {r r1 r':List Int} (h:jC gs p r=false) (hl:r.any (aZ gs)=true) (ho:uW gs p r r1) (t:FO gs p r1 r'):FO gs p r r'
inductive LY where
 |fail
 |done
 |go
deriving DecidableEq
def eX(gs:List TN)(p:Bool)(r:List Int)(k:Int):LY :=
 if p=true then(if 3<=k∧k<=8 then(if k≠8∧bP gs k r=[]then .fail else .go)else .fail)
 else match gy gs r with
  |[]=>.fail
  |[k']=>if k'=k then .go else if k'=8∧eE gs (bP gs 8 r)=[]then .done else .fail
  |_::_::_=>.done
def j3(p:Bool)(n:TN)(gs:List TN)(r:List Int)(s:List UInt8):Prop:=if(decide (n.k=7))=p then s∈eE gs (bP gs n.k r)else s∈n.l.map (·.1)
def ku(k:Int):Prop:=k=7∨k=8
def sD(gs:List TN)(p:Bool)(n:TN)(r:List Int):Prop :=
 eX gs p r n.k=.done∨eX gs p r n.k=.go∧(ku n.k->∀s,j3 p n gs r s->s∈n.l.map (·.1)∧dY gs (bP gs n.k r) s≠[])
inductive rr(gs:List TN)(p:Bool)(n:TN)(r:List Int):Fm->Prop
 |bD (hs:eX gs p r n.k=.go) (hk:n.k=6):rr gs p n r (.F (!p) n.a (bL ((bP gs 6 r).map fun x=>(nd gs x.toNat).a)))
 |bE (hs:eX gs p r n.k=.go) (hk:n.k=6):rr gs p n r (.F p n.b (bL ((bP gs 6 r).map fun x=>(nd gs x.toNat).b)))
 |j4 (hs:eX gs p r n.k=.go) (hk:ku n.k) (s:List UInt8) (hd:j3 p n gs r s):rr gs p n r (.F p (gW n s) (dY gs (bP gs n.k r) s))
section
variable (ns gs:List TN)
def fA(p:Bool)(x:Int)(r:List Int):Bool:=aZ ns x&&(p||!r.any (aZ gs))
def lB:Fm->Prop
 |.F p x r=>l4 ns gs p x r=true∨aZ ns x=true∨r.any (aZ gs)=true∨ah ns x=11∨sD gs p (nd ns x.toNat) r
 |.G l r=>(dh gs (l,r)).2=true
inductive j5:Fm->Fm->Prop
 |a {p:Bool} {x:Int} {r:List Int} (h:l4 ns gs p x r=false) (hf:fA ns gs p x r=true):j5 (.F p x r) (.F p (nd ns x.toNat).a r)
 |b {p:Bool} {x:Int} {r:List Int} (h:l4 ns gs p x r=false) (hf:fA ns gs p x r=true):j5 (.F p x r) (.F p (nd ns x.toNat).b r)
 |r {p:Bool} {x:Int} {r r1:List Int} (h:l4 ns gs p x r=false) (hf:fA ns gs p x r=false) (hl:r.any (aZ gs)=true) (ho:uW gs p r r1):j5 (.F p x r) (.F p x r1)
 |hd {p:Bool} {x:Int} {r:List Int} {g:Fm} (h:l4 ns gs p x r=false) (hx:aZ ns x=false) (hl:r.any (aZ gs)=false) (hk:ah ns x≠11) (hg:rr gs p (nd ns x.toNat) r g):j5 (.F p x r) g
 |g {l r:List Int} {q:SQ} (hq:q∈(dh gs (l,r)).1.getD []):j5 (.G l r) (.G q.1 q.2)
def l5(p:Bool)(x:Int)(r:List Int):Prop:=ah ns x=11∧jC gs p r=false∧r.any (aZ gs)=false
structure yx(I:Fm->Prop):Prop where
 ok:∀f,I f->lB ns gs f
 to:∀f g,I f->j5 ns gs f g->I g
 pair:∀x r y l,I (.F true x r)->I (.F false y l)->l5 ns gs true x r->l5 ns gs false y l->(nd ns x.toNat).a=(nd ns y.toNat).a->I (.G (bV gs 1 l) (bV gs 2 r))
end
theorem FO.alive{gs:List TN}{p:Bool}{r r':List Int}(h:FO gs p r r'):jC gs p r=false:=by cases h<;>assumption
theorem FO.end_{gs:List TN}{p:Bool}{r r':List Int}(h:FO gs p r r'):jC gs p r'=false∧r'.any (aZ gs)=false:=by
 induction h with
 |done h hl=>exact⟨h,hl⟩
 |step _ _ _ _ ih=>exact ih
theorem DT{ns:List TN}{p:Bool}{x:Int}(h:aZ ns x=true):ah ns x≠cQ p:=fun e=>by
 have h':fT (ah ns x)=true:=h;rw[e]at h';cases p<;>cases h'
theorem sE{ns gs:List TN}{p:Bool}{x:Int}{r:List Int}(h1:ah ns x≠cQ p)(h2:jC gs p r=false):l4 ns gs p x r=false:=by simp[l4,h1,h2]
theorem wY{ns gs:List TN}{p:Bool}{x:Int}{r:List Int}(h:l4 ns gs p x r=false):ah ns x≠cQ p∧jC gs p r=false:=by simpa[l4]using h
theorem yx.open_{ns gs:List TN}{I:Fm->Prop}(h:yx ns gs I){p:Bool}{x j:Int}{r r':List Int}(hi:I (.F p x r))(ho:fI ns x j)(hj:ah ns j≠cQ p)(hr:FO gs p r r'):I (.F p j r'):=by
 have e2:=ho.wM
 cases p with
 |true =>
   have h1:I (.F true j r):=by
    clear hj e2
    induction ho with
    |flat _=>exact hi
    |left hl _ ih=>exact ih (h.to _ _ hi (.a (sE (DT hl) hr.alive) (by simp[fA,hl])))
    |right hl _ ih=>exact ih (h.to _ _ hi (.b (sE (DT hl) hr.alive) (by simp[fA,hl])))
   clear hi
   induction hr with
   |done _ _=>exact h1
   |step ha hl aV _ ih=>exact ih (h.to _ _ h1 (.r (sE hj ha) (by simp[fA,e2]) hl aV))
 |false =>
   have h1:I (.F false x r'):=by
    by_cases hx:ah ns x=cQ false
    .exfalso
     have:aZ ns x=false:=by
      cases hl:aZ ns x with
      |false=>rfl
      |true=>exact absurd hx (DT hl)
     rw[ho.self this]at hj;exact hj hx
    .clear hj e2 ho
     induction hr with
     |done _ _=>exact hi
     |step ha hl aV _ ih=>exact ih (h.to _ _ hi (.r (sE hx ha) (by simp[fA,hl]) hl aV))
   have he:=hr.end_;clear hi hr
   induction ho with
   |flat _=>exact h1
   |left hl _ ih=>exact ih e2 hj (h.to _ _ h1 (.a (sE (DT hl) he.1) (by simp[fA,hl,he.2])))
   |right hl _ ih=>exact ih e2 hj (h.to _ _ h1 (.b (sE (DT hl) he.1) (by simp[fA,hl,he.2])))
def Lf(ts:List TN)(l:List Int)(j:Int):Prop:=∃i∈l,fI ts i j
inductive LZ(ts:List TN)(C:Int->Bool->List Int->Prop)(p:Bool)(l:List Int)(n:TN):Prop
 |flat {j:Int} (hj:Lf ts l j) (hk:n.k=ah ts j) (hn:n.k≠6∧¬ku n.k) (hv:n.k=11->n.a=(nd ts j.toNat).a)
 |arr {j:Int} {A B:List Int} (hj:Lf ts l j) (hk:n.k=6) (gh:ah ts j=6) (ha:C n.a (!p) A) (hb:C n.b p B) (hA:∀x,x∈A↔∃j,Lf ts l j∧ah ts j=6∧x=(nd ts j.toNat).a) (hB:∀x,x∈B↔∃j,Lf ts l j∧ah ts j=6∧x=(nd ts j.toNat).b)
 |wide {j:Int} (hj:Lf ts l j) (hk:ku n.k) (gh:ah ts j=n.k) (hs:∀s,s∈n.l.map (·.1)↔if(decide (n.k=7))=p then ∀j,Lf ts l j->ah ts j=n.k->s∈(nd ts j.toNat).l.map (·.1)else ∃j,Lf ts l j∧ah ts j=n.k∧s∈(nd ts j.toNat).l.map (·.1))
  (ht:∀s,s∈n.l.map (·.1)->∃A,C (gW n s) p A∧∀x,x∈A↔∃j,Lf ts l j∧ah ts j=n.k∧s∈(nd ts j.toNat).l.map (·.1)∧x=gW (nd ts j.toNat) s)
structure GQ(ts T:List TN)(pt pT:Bool->Int->Prop)(C:Int->Bool->List Int->Prop):Prop where
 ot:∀k p l,C k p l->pT p k∧∀i∈l,pt p i
 part:∀k p l x,C k p l->fI T k x->ah T x≠cQ p->LZ ts C p l (nd T x.toNat)
 leaf:∀k p l j,C k p l->Lf ts l j->ah ts j≠cQ p->∃x,fI T k x∧ah T x≠cQ p∧(ah T x=ah ts j∧(ah ts j=11->(nd T x.toNat).a=(nd ts j.toNat).a)∨ah T x=cR p)
structure L0(ns:List TN)(pos:Bool->Int->Prop):Prop where
 uO:∀p x,pos p x->aZ ns x=true->ah ns x=cy p∧pos p (nd ns x.toNat).a∧pos p (nd ns x.toNat).b
 arr:∀p x,pos p x->ah ns x=6->pos (!p) (nd ns x.toNat).a∧pos p (nd ns x.toNat).b
 j4:∀p x,pos p x->ku (ah ns x)->∀s∈(nd ns x.toNat).l.map (·.1),pos p (gW (nd ns x.toNat) s)
theorem L5{gs:List TN}{p:Bool}{n m:TN}{r:List Int}(hk:n.k=m.k)(hw:¬ku n.k)(h:sD gs p n r):sD gs p m r:=by
 obtain h|⟨h,_⟩:=h
 .exact .inl (hk▸h)
 .exact .inr ⟨hk▸h,fun g=>absurd (hk▸g) hw⟩
theorem L6{gs:List TN}{p:Bool}{n:TN}{r:List Int}{g:Fm}(h6:n.k≠6)(hw:¬ku n.k):¬rr gs p n r g:=fun h=>by
 cases h with
 |bD _ hk=>exact h6 hk
 |bE _ hk=>exact h6 hk
 |j4 _ hk=>exact hw hk
theorem ahC{gs:List TN}{p:Bool}{r:List Int}{k:Int}(h:eX gs p r k=.go):3<=k∧k<=8:=by
 unfold eX at h;split at h
 .split at h
  .assumption
  .cases h
 .have hm:∀k'∈gy gs r,3<=k'∧k'<=8:=fun k' aC=>by
   have:=(aly.1 aC).1;simp at this;omega
  split at h
  .cases h
  .rename_i k' e;rw[e]at hm;split at h
   .rename_i e';rw[<-e'];exact hm k' (by simp)
   .split at h<;>cases h
  .cases h
theorem GR{gs:List TN}{p:Bool}{n:TN}{r:List Int}(h:sD gs p n r)(hk:n.k=cR p):p=false∧(∀m,sD gs p m r∧∀g,¬rr gs p m r g)∧(1<(gy gs r).length∨gy gs r=[8]∧eE gs (bP gs 8 r)=[]):=by
 have hd:eX gs p r n.k=.done:=by
  obtain h|⟨h,_⟩:=h
  .exact h
  .have:=ahC h;rw[hk]at this;exfalso;cases p<;>simp[cR]at this
 clear h;unfold eX at hd;split at hd
 .split at hd
  .split at hd<;>cases hd
  .cases hd
 .rename_i hp;have hp:p=false:=by simpa using hp
  subst hp;split at hd
  .cases hd
  .rename_i k' e;split at hd
   .cases hd
   .split at hd
    .rename_i h8;obtain⟨h8,hn⟩:=h8;subst h8
     have hs:∀k,eX gs false r k=if 8=k then .go else .done:=fun k=>by
      simp only[eX,e];split
      .rename_i hq;cases hq
      .simp[hn]
     refine⟨rfl,fun m=>?_,.inr ⟨e,hn⟩⟩
     have uS:∀s,m.k=8->¬j3 false m gs r s:=fun s hm hd=>by
      unfold j3 at hd;rw[hm,if_pos (by decide),hn]at hd;cases hd
     by_cases hm:m.k=8
     .refine⟨.inr ⟨by rw[hs,hm];rfl,fun _ s hd=>absurd hd (uS s hm)⟩,fun g hg=>?_⟩
      cases hg with
      |bD _ hk=>omega
      |bE _ hk=>omega
      |j4 _ _ s hd=>exact uS s hm hd
     .have rM:eX gs false r m.k=.done:=by rw[hs,if_neg (fun g=>hm g.symm)]
      refine⟨.inl rM,fun g hg=>?_⟩
      cases hg with
      |bD h _=>rw[rM]at h;cases h
      |bE h _=>rw[rM]at h;cases h
      |j4 h _=>rw[rM]at h;cases h
    .cases hd
  .rename_i a b c e;have hs:∀k,eX gs false r k=.done:=fun k=>by simp[eX,e]
   refine⟨rfl,fun m=>⟨.inl (hs _),fun g hg=>?_⟩,.inl (by rw[e];simp)⟩
   cases hg with
   |bD h _=>rw[hs]at h;cases h
   |bE h _=>rw[hs]at h;cases h
   |j4 h _=>rw[hs]at h;cases h
end Go.Proofs.YtpmniabdmbmafaaGreatDoor

namespace Go.Proofs.YtpmniabdmbmafaaGreatDoor
open Go.Ab
section
variable {ts T gs:List TN}{pt pT:Bool->Int->Prop}{C:Int->Bool->List Int->Prop}
inductive Ia(ts T gs:List TN)(pT:Bool->Int->Prop)(C:Int->Bool->List Int->Prop)(I:Fm->Prop):Fm->Prop
 |F {p:Bool} {x k:Int} {r l:List Int} (hp:pT p x) (hc:C k p l) (hx:∀q,fI T x q->fI T k q) (hj:∀j,Lf ts l j->ah ts j≠cQ p->∀r',FO gs p r r'->I (.F p j r')):Ia ts T gs pT C I (.F p x r)
 |G {l r:List Int} (h:I (.G l r)):Ia ts T gs pT C I (.G l r)
theorem L7{p:Bool}{k:Int}(h:ku k):k≠cQ p:=by rcases h with h | h<;>cases p<;>simp[cQ,h]
theorem GU{p:Bool}:(6:Int)≠cQ p:=by cases p<;>simp[cQ]
theorem T9{p:Bool}{n:TN}{l r:List Int}{s:List UInt8}{j0:Int}(qM:Lf ts l j0)(Ua:ah ts j0=n.k)
  (hs:∀s,s∈n.l.map (·.1)↔if(decide (n.k=7))=p then ∀j,Lf ts l j->ah ts j=n.k->s∈(nd ts j.toNat).l.map (·.1)else ∃j,Lf ts l j∧ah ts j=n.k∧s∈(nd ts j.toNat).l.map (·.1)) (hd:j3 p n gs r s) :
  (∃j,Lf ts l j∧ah ts j=n.k∧j3 p (nd ts j.toNat) gs r s)∧∀j,Lf ts l j->ah ts j=n.k->((decide (n.k=7))=p∨s∈(nd ts j.toNat).l.map (·.1))->j3 p (nd ts j.toNat) gs r s:=by
 have h2:∀j,Lf ts l j->ah ts j=n.k->((decide (n.k=7))=p∨s∈(nd ts j.toNat).l.map (·.1))->j3 p (nd ts j.toNat) gs r s:=fun j _ gh ho=>by
  have e:(nd ts j.toNat).k=n.k:=gh;unfold j3 at hd ⊢;rw[e];by_cases hp:decide (n.k=7)=p
  .rw[if_pos hp]at hd ⊢;exact hd
  .rw[if_neg hp];exact ho.resolve_left hp
 refine⟨?_,h2⟩;by_cases hp:decide (n.k=7)=p
 .exact⟨j0,qM,Ua,h2 j0 qM Ua (.inl hp)⟩
 .have h3:s∈n.l.map (·.1):=by
   unfold j3 at hd
   rwa [if_neg hp]at hd
  have h4:=(hs s).1 h3;rw[if_neg hp]at h4;obtain⟨j,hj,gh,hm⟩:=h4;exact⟨j,hj,gh,h2 j hj gh (.inr hm)⟩
theorem ahD(hb:GQ ts T pt pT C)(hT:L0 T pT){I:Fm->Prop}(h:yx ts gs I):yx T gs (Ia ts T gs pT C I):=by
 have Ub:∀{p:Bool} {x k:Int} {r l:List Int},(∀j,Lf ts l j->ah ts j≠cQ p->∀r',FO gs p r r'->I (.F p j r'))->jC gs p r=false->r.any (aZ gs)=false->∀j,Lf ts l j->ah ts j≠cQ p->I (.F p j r):=fun hj he hl j h1 h2=>hj j h1 h2 _ (.done he hl)
 have jg:∀{p:Bool} {j:Int} {r:List Int},I (.F p j r)->ah ts j≠cQ p->aZ ts j=false->ah ts j≠11->jC gs p r=false->r.any (aZ gs)=false->sD gs p (nd ts j.toNat) r:=fun hi hk hlt cT he hl=>by
  rcases h.ok _ hi with g|g|g|g|g
  .rw[sE hk he]at g;cases g
  .rw[hlt]at g;cases g
  .rw[hl]at g;cases g
  .exact absurd g cT
  .exact g
 refine⟨fun f hf=>?_,fun f g hf hg=>?_,fun x r y l hx hy sx sy ha=>?_⟩
 .cases hf with
  |G hi=>exact h.ok _ hi
  | @F p x k r l hp hc hx hj =>
    unfold lB
    cases hd:l4 T gs p x r with
    |true=>exact .inl hd
    |false =>
    cases hlt:aZ T x with
    |true=>exact .inr (.inl hlt)
    |false =>
    cases dD:r.any (aZ gs)with
    |true=>exact .inr (.inr (.inl dD))
    |false =>
    refine .inr (.inr (.inr ?_));by_cases cT:ah T x=11
    .exact .inl cT
    refine .inr ?_;obtain⟨d1,d2⟩:=wY hd;have hL:∀j,Lf ts l j->ah ts j≠cQ p->I (.F p j r):=Ub (x:=x) (k:=k) hj d2 dD;rcases hb.part k p l x hc (hx x (.flat hlt)) d1 with⟨je,hk,hn,hv⟩|⟨je,hk,gh,ha,kl,hA,hB⟩|⟨je,hk,gh,hs,ht⟩
    .rename_i j;have aC:ah T x=ah ts j:=hk;obtain⟨i,hi,ho⟩:=je;exact L5 hk.symm (fun g=>hn.2 (hk▸g)) (jg (hL j ⟨i,hi,ho⟩ (aC▸d1)) (aC▸d1) ho.wM (aC▸cT) d2 dD)
    .rename_i j A B;obtain⟨i,hi,ho⟩:=je;have aC:(nd ts j.toNat).k=(nd T x.toNat).k:=by rw[hk];exact gh
     refine L5 aC (fun g=>?_) (jg (hL j ⟨i,hi,ho⟩ (gh▸GU)) (gh▸GU) ho.wM (by rw[gh];decide) d2 dD);rw[show(nd ts j.toNat).k=6 from gh]at g;rcases g with g|g<;>cases g
    .rename_i j
     have ok:∀j,Lf ts l j->ah ts j=(nd T x.toNat).k->sD gs p (nd ts j.toNat) r:=fun j aX tT=>by
      obtain⟨i,hi,ho⟩:=aX;have hn:ah ts j≠cQ p:=by rw[tT];exact L7 hk
      exact jg (hL j ⟨i,hi,ho⟩ hn) hn ho.wM (by rw[tT];rcases hk with g|g<;>rw[g]<;>decide) d2 dD
     have e:(nd ts j.toNat).k=(nd T x.toNat).k:=gh;rcases ok j je gh with g|⟨g,_⟩
     .exact .inl (e▸g)
     .refine .inr ⟨e▸g,fun _ s hd=>?_⟩;obtain⟨⟨j',aX,tT,dP⟩,hall⟩:=T9 je gh hs hd;have e':(nd ts j'.toNat).k=(nd T x.toNat).k:=tT
      have gG:∀j,Lf ts l j->ah ts j=(nd T x.toNat).k->j3 p (nd ts j.toNat) gs r s->s∈(nd ts j.toNat).l.map (·.1)∧dY gs (bP gs (nd T x.toNat).k r) s≠[]:=fun j2 kJ DU CU=>by
       have e2:(nd ts j2.toNat).k=(nd T x.toNat).k:=DU;rcases ok j2 kJ DU with q|⟨_,q⟩
       .rw[e2,<-e,g]at q;cases q
       .have:=q (e2▸hk) s CU
        rwa [e2]at this
      have g2:=gG j' aX tT dP;refine⟨?_,g2.2⟩;rw[hs];by_cases jD:decide ((nd T x.toNat).k=7)=p
      .rw[if_pos jD];exact fun j2 kJ DU=>(gG j2 kJ DU (hall j2 kJ DU (.inl jD))).1
      .rw[if_neg jD];exact⟨j',aX,tT,g2.1⟩
 .cases hf with
  |G hi =>
    cases hg with
    |g hq=>exact .G (h.to _ _ hi (.g hq))
  | @F p x k r l hp hc hx hj =>
    cases hg with
    |a hd hf =>
      have hl:aZ T x=true:=by
       unfold fA at hf
       cases hl:aZ T x with
       |true=>rfl
       |false=>rw[hl]at hf;cases hf
      exact .F (hT.uO p x hp hl).2.1 hc (fun q hq=>hx q (.left hl hq)) hj
    |b hd hf =>
      have hl:aZ T x=true:=by
       unfold fA at hf
       cases hl:aZ T x with
       |true=>rfl
       |false=>rw[hl]at hf;cases hf
      exact .F (hT.uO p x hp hl).2.2 hc (fun q hq=>hx q (.right hl hq)) hj
    |r hd hf hl ho=>exact .F hp hc hx fun j h1 h2 r' hr=>hj j h1 h2 r' (.step (wY hd).2 hl ho hr)
    |hd hd nE dD cT hg =>
      obtain⟨d1,d2⟩:=wY hd;have hL:∀j,Lf ts l j->ah ts j≠cQ p->I (.F p j r):=Ub (x:=x) (k:=k) hj d2 dD;rcases hb.part k p l x hc (hx x (.flat nE)) d1 with⟨je,hk,hn,hv⟩|⟨je,hk,gh,ha,kl,hA,hB⟩|⟨je,hk,gh,hs,ht⟩
      .exact absurd hg (L6 hn.1 hn.2)
      .have ld:∀j,Lf ts l j->ah ts j=6->∀g,rr gs p (nd ts j.toNat) r g->I g:=fun j aX tT g o7=>by
        obtain⟨i,hi,ho⟩:=aX;exact h.to _ _ (hL j ⟨i,hi,ho⟩ (tT▸GU)) (.hd (sE (tT▸GU) d2) ho.wM dD (by rw[tT];decide) o7)
       cases hg with
       |bD hs _ =>
         refine .F (hb.ot _ _ _ ha).1 ha (fun q hq=>hq) fun j' ⟨i,hi,ho⟩ hn r' hr=>?_;obtain⟨j,h1,h2,rfl⟩:=(hA i).1 hi;exact h.open_ (ld j h1 h2 _ (.bD (by rw[show(nd ts j.toNat).k=6 from h2,<-hk];exact hs) h2)) ho hn hr
       |bE hs _ =>
         refine .F (hb.ot _ _ _ kl).1 kl (fun q hq=>hq) fun j' ⟨i,hi,ho⟩ hn r' hr=>?_;obtain⟨j,h1,h2,rfl⟩:=(hB i).1 hi;exact h.open_ (ld j h1 h2 _ (.bE (by rw[show(nd ts j.toNat).k=6 from h2,<-hk];exact hs) h2)) ho hn hr
       |j4 _ hw=>rw[hk]at hw;rcases hw with g|g<;>cases g
      .cases hg with
       |bD _ h6=>rw[h6]at hk;rcases hk with g|g<;>cases g
       |bE _ h6=>rw[h6]at hk;rcases hk with g|g<;>cases g
       |j4 ag _ s uS =>
         obtain⟨_,hall⟩:=T9 je gh hs uS;by_cases hm:s∈(nd T x.toNat).l.map (·.1)
         .obtain⟨A,hA,hA2⟩:=ht s hm;refine .F (hb.ot _ _ _ hA).1 hA (fun q hq=>hq) fun j' ⟨i,hi,ho⟩ hn r' hr=>?_;obtain⟨j,h1,h2,h3,rfl⟩:=(hA2 i).1 hi;have e:(nd ts j.toNat).k=(nd T x.toNat).k:=h2;have aB:ah ts j≠cQ p:=by rw[h2];exact L7 hk
          refine h.open_ (r:=dY gs (bP gs (nd T x.toNat).k r) s) ?_ ho hn hr;obtain⟨i2,oM,Am⟩:=h1;refine h.to _ _ (hL j ⟨i2,oM,Am⟩ aB) (.hd (sE aB d2) Am.wM dD (by rw[h2];rcases hk with g|g<;>rw[g]<;>decide) ?_);rw[<-e];exact .j4 (e▸ag) (e▸hk) s (hall j ⟨i2,oM,Am⟩ h2 (.inr h3))
         .exfalso;rename_i j0
          have jD:decide ((nd T x.toNat).k=7)=p:=by
           by_cases jD:decide ((nd T x.toNat).k=7)=p
           .exact jD
           .unfold j3 at uS;rw[if_neg jD]at uS;exact absurd uS hm
          refine hm ((hs s).2 ?_);rw[if_pos jD];intro j h1 h2;have e:(nd ts j.toNat).k=(nd T x.toNat).k:=h2;have aB:ah ts j≠cQ p:=by rw[h2];exact L7 hk
          have hdj:=hall j h1 h2 (.inl jD);obtain⟨i2,oM,Am⟩:=h1;rcases jg (hL j ⟨i2,oM,Am⟩ aB) aB Am.wM (by rw[h2];rcases hk with g|g<;>rw[g]<;>decide) d2 dD with q|⟨_,q⟩
          .rw[e,ag]at q;cases q
          .exact(q (e▸hk) s hdj).1
 .obtain⟨Ao,yy,yz⟩:=sx;obtain⟨Ap,yA,yB⟩:=sy
  cases hx with
  | @F _ _ k r l2 hp hc hx hj =>
  cases hy with
  | @F _ _ k' _ l3 ae sN aR aX =>
  have key:∀{p:Bool} {x k:Int} {r l:List Int},C k p l->(∀q,fI T x q->fI T k q)->(∀j,Lf ts l j->ah ts j≠cQ p->∀r',FO gs p r r'->I (.F p j r'))->ah T x=11->jC gs p r=false->r.any (aZ gs)=false->∃j,I (.F p j r)∧ah ts j=11∧(nd T x.toNat).a=(nd ts j.toNat).a:=by
   intro p x k r l hc hx hj cT he hl
   have nE:aZ T x=false:=by
    have:(nd T x.toNat).k=11:=cT;unfold aZ fT;rw[this];rfl
   have aB:ah T x≠cQ p:=by rw[cT];cases p<;>decide
   rcases hb.part k p l x hc (hx x (.flat nE)) aB with⟨je,hk,hn,hv⟩|⟨je,hk,gh,ha,kl,hA,hB⟩|⟨je,hk,gh,hs,ht⟩
   .rename_i j;have aC:ah T x=ah ts j:=hk;exact⟨j,hj j je (aC▸aB) _ (.done he hl),aC▸cT,hv cT⟩
   .rw[show(nd T x.toNat).k=11 from cT]at hk;cases hk
   .rw[show(nd T x.toNat).k=11 from cT]at hk;rcases hk with g|g<;>cases g
  obtain⟨j,i1,k1,a1⟩:=key hc hx hj Ao yy yz;obtain⟨j',i2,k2,a2⟩:=key sN aR aX Ap yA yB;exact .G (h.pair _ _ _ _ i1 i2 ⟨k1,yy,yz⟩ ⟨k2,yA,yB⟩ (by rw[<-a1,<-a2];exact ha))
def Uc(gs:List TN)(l r:List Int):Prop:=(dh gs (l,r)).2=true∧(dh gs (l,r)).1.getD []=[]
inductive ItX(ts T gs:List TN)(pt:Bool->Int->Prop)(C:Int->Bool->List Int->Prop)(I:Fm->Prop):Fm->Prop
 |F {p:Bool} {i k:Int} {r l:List Int} (hp:pt p i) (hc:C k p l) (hx:∀j,fI ts i j->Lf ts l j) (hj:∀x,fI T k x->ah T x≠cQ p->∀r',FO gs p r r'->I (.F p x r')):ItX ts T gs pt C I (.F p i r)
 |G {l r:List Int} (h:I (.G l r)):ItX ts T gs pt C I (.G l r)
 |D {l r:List Int} (h:Uc gs l r):ItX ts T gs pt C I (.G l r)
theorem ahE(gs:List TN)(l r:List Int)(h1:jC gs false l=false)(h2:l.any (aZ gs)=false)(h3:jC gs true r=false)(h4:r.any (aZ gs)=false)(h5:1<(gy gs l).length∨gy gs l=[8]∧eE gs (bP gs 8 l)=[]):Uc gs (bV gs 1 l) (bV gs 2 r):=by
 have hf:∀{l:List Int} {f:Int->Bool} (k:Int),l.any f=false->(bV gs k l).any f=false:=fun {l f} k h=>ama.2 fun x hx=>ama.1 h x (aly.1 hx).1
 have hk:gy gs (bV gs 1 l)=gy gs l:=by
  unfold gy;refine am2 fun k hk=>?_;rw[amL,alG,alG];constructor
  .rintro⟨x,hx,e⟩;exact⟨x,(aly.1 hx).1,e⟩
  .rintro⟨x,hx,e⟩;have:ah gs x=k:=by simpa using e
   refine⟨x,aly.2 ⟨hx,?_⟩,e⟩
   have:ah gs x≠1:=by
    rw[this];simp at hk;omega
   simpa using this
 have ho:bP gs 8 (bV gs 1 l)=bP gs 8 l:=by
  unfold bP bV;rw[List.filter_filter];refine am2 fun x _=>?_;by_cases e:ah gs x=8
  .rw[e];decide
  .simp[e]
 have c1:(bV gs 1 l).any (fun x=>decide (ah gs x=2))=false:=hf 1 h1;have c2:(bV gs 2 r).any (fun x=>decide (ah gs x=1))=false:=hf 2 h3
 have key:dh gs (bV gs 1 l,bV gs 2 r)=(none,true)∨dh gs (bV gs 1 l,bV gs 2 r)=(some [],true):=by
  unfold dh;simp only[c1,c2,hf 1 h2,hf 2 h4,hk,Bool.or_self,als,if_false];by_cases hv:((bV gs 1 l).any fun x=>(bV gs 2 r).any fun y=>gY gs x y)=true
  .rw[if_pos hv];exact .inl rfl
  rw[if_neg hv];obtain h5|⟨h5,h6⟩:=h5
  .rw[if_neg (by omega),if_pos h5];exact .inl rfl
  .rw[h5];refine .inr ?_;show fJ gs 8 (bP gs 8 (bV gs 1 l)) _=_;rw[ho];simp[fJ,lA,h6]
 rcases key with e|e<;>exact⟨by rw[e],by rw[e];rfl⟩
theorem ahF(hb:GQ ts T pt pT C)(ht:L0 ts pt)   {I:Fm->Prop}(h:yx T gs I):yx ts gs (ItX ts T gs pt C I):=by
 have jg:∀{p:Bool} {j:Int} {r:List Int},I (.F p j r)->ah T j≠cQ p->aZ T j=false->ah T j≠11->jC gs p r=false->r.any (aZ gs)=false->sD gs p (nd T j.toNat) r:=fun hi hk hlt cT he hl=>by
  rcases h.ok _ hi with g|g|g|g|g
  .rw[sE hk he]at g;cases g
  .rw[hlt]at g;cases g
  .rw[hl]at g;cases g
  .exact absurd g cT
  .exact g
 have Ud:∀p,cR p≠11:=fun p=>by cases p<;>decide
 have GV:∀{p:Bool} {i k:Int} {r l:List Int},C k p l->(∀j,fI ts i j->Lf ts l j)->(∀x,fI T k x->ah T x≠cQ p->∀r',FO gs p r r'->I (.F p x r'))->jC gs p r=false->r.any (aZ gs)=false->aZ ts i=false->ah ts i≠cQ p ->
   ∃x,I (.F p x r)∧fI T k x∧aZ T x=false∧ah T x≠cQ p∧(ah T x=ah ts i∧(ah ts i=11->(nd T x.toNat).a=(nd ts i.toNat).a)∨ah T x=cR p):=by
  intro p i k r l hc hx hj he hl KS Gj;obtain⟨x,h1,h2,h3⟩:=hb.leaf k p l i hc (hx i (.flat KS)) Gj;exact⟨x,hj x h1 h2 _ (.done he hl),h1,h1.wM,h2,h3⟩
 refine⟨fun f hf=>?_,fun f g hf hg=>?_,fun x r y l hx hy sx sy ha=>?_⟩
 .cases hf with
  |G hi=>exact h.ok _ hi
  |D hd=>exact hd.1
  | @F p i k r l hp hc hx hj =>
    unfold lB
    cases hd:l4 ts gs p i r with
    |true=>exact .inl hd
    |false =>
    cases hlt:aZ ts i with
    |true=>exact .inr (.inl hlt)
    |false =>
    cases dD:r.any (aZ gs)with
    |true=>exact .inr (.inr (.inl dD))
    |false =>
    refine .inr (.inr (.inr ?_));by_cases cT:ah ts i=11
    .exact .inl cT
    refine .inr ?_;obtain⟨d1,d2⟩:=wY hd;obtain⟨x,i1,i2,i3,i4,i5⟩:=GV hc hx hj d2 dD hlt d1;obtain⟨i5,_⟩|i5:=i5
    .have GX:ah T x≠11:=by rw[i5];exact cT
     have ok:=jg i1 i4 i3 GX d2 dD;have e:(nd T x.toNat).k=(nd ts i.toNat).k:=i5;by_cases hw:ku (nd T x.toNat).k
     .rcases hb.part k p l x hc i2 i4 with⟨je,hk,hn,hv⟩|⟨je,hk,gh,ha,kl,hA,hB⟩|⟨je,hk,gh,hs,ht⟩
      .exact absurd hw hn.2
      .rw[hk]at hw;rcases hw with g|g<;>cases g
      .rcases ok with q|⟨q,q2⟩
       .exact .inl (e▸q)
       .refine .inr ⟨e▸q,fun _ s ai=>?_⟩
        have GY:j3 p (nd T x.toNat) gs r s:=by
         unfold j3 at ai ⊢;rw[e];by_cases jD:decide ((nd ts i.toNat).k=7)=p
         .rw[if_pos jD]at ai ⊢;exact ai
         .rw[if_neg jD]at ai ⊢;rw[hs,e,if_neg jD];exact⟨i,hx i (.flat hlt),rfl,ai⟩
        obtain⟨q3,q4⟩:=q2 hw s GY;rw[e]at q4;refine⟨?_,q4⟩;by_cases jD:decide ((nd ts i.toNat).k=7)=p
        .rw[hs,e,if_pos jD]at q3;exact q3 i (hx i (.flat hlt)) rfl
        .unfold j3 at ai
         rwa [if_neg jD]at ai
     .exact L5 e hw ok
    .exact((GR (jg i1 i4 i3 (by rw[i5];exact Ud p) d2 dD) i5).2.1 _).1
 .cases hf with
  |G hi =>
    cases hg with
    |g hq=>exact .G (h.to _ _ hi (.g hq))
  |D hd =>
    cases hg with
    |g hq=>rw[hd.2]at hq;cases hq
  | @F p i k r l hp hc hx hj =>
    cases hg with
    |a hd hf =>
      have hl:aZ ts i=true:=by
       unfold fA at hf
       cases hl:aZ ts i with
       |true=>rfl
       |false=>rw[hl]at hf;cases hf
      exact .F (ht.uO p i hp hl).2.1 hc (fun q hq=>hx q (.left hl hq)) hj
    |b hd hf =>
      have hl:aZ ts i=true:=by
       unfold fA at hf
       cases hl:aZ ts i with
       |true=>rfl
       |false=>rw[hl]at hf;cases hf
      exact .F (ht.uO p i hp hl).2.2 hc (fun q hq=>hx q (.right hl hq)) hj
    |r hd hf hl ho=>exact .F hp hc hx fun x h1 h2 r' hr=>hj x h1 h2 r' (.step (wY hd).2 hl ho hr)
    |hd hd hlt dD cT hg =>
      obtain⟨d1,d2⟩:=wY hd;obtain⟨x,i1,i2,i3,i4,i5⟩:=GV hc hx hj d2 dD hlt d1;obtain⟨i5,_⟩|i5:=i5
      .have GX:ah T x≠11:=by rw[i5];exact cT
       have e:(nd T x.toNat).k=(nd ts i.toNat).k:=i5;have ld:∀g,rr gs p (nd T x.toNat) r g->I g:=fun g hg=>h.to _ _ i1 (.hd (sE i4 d2) i3 dD GX hg);rcases hb.part k p l x hc i2 i4 with⟨je,hk,hn,hv⟩|⟨je,hk,gh,ha,kl,hA,hB⟩|⟨je,hk,gh,hs,Bu⟩
       .exact absurd hg (L6 (e▸hn.1) (e▸hn.2))
       .have aC:ah ts i=6:=by rw[<-i5];exact hk
        cases hg with
        |bD ag _=>exact .F (ht.arr p i hp aC).1 ha (fun q hq=>⟨_,(hA _).2 ⟨i,hx i (.flat hlt),aC,rfl⟩,hq⟩) fun x' aR iH r' hr=>h.open_ (ld _ (.bD (e▸ag) hk)) aR iH hr
        |bE ag _=>exact .F (ht.arr p i hp aC).2 kl (fun q hq=>⟨_,(hB _).2 ⟨i,hx i (.flat hlt),aC,rfl⟩,hq⟩) fun x' aR iH r' hr=>h.open_ (ld _ (.bE (e▸ag) hk)) aR iH hr
        |j4 _ hw=>rw[show(nd ts i.toNat).k=6 from aC]at hw;rcases hw with g|g<;>cases g
       .cases hg with
        |bD _ h6=>rw[<-e]at h6;rw[h6]at hk;rcases hk with g|g<;>cases g
        |bE _ h6=>rw[<-e]at h6;rw[h6]at hk;rcases hk with g|g<;>cases g
        |j4 ag hw s ai =>
          have GY:j3 p (nd T x.toNat) gs r s:=by
           unfold j3 at ai ⊢;rw[e];by_cases jD:decide ((nd ts i.toNat).k=7)=p
           .rw[if_pos jD]at ai ⊢;exact ai
           .rw[if_neg jD]at ai ⊢;rw[hs,e,if_neg jD];exact⟨i,hx i (.flat hlt),rfl,ai⟩
          have ok:=jg i1 i4 i3 GX d2 dD;have CG:eX gs p r (nd T x.toNat).k=.go:=e▸ag;obtain q|⟨_,q⟩:=ok
          .rw[CG]at q;cases q
          obtain⟨q3,_⟩:=q hk s GY
          have oY:s∈(nd ts i.toNat).l.map (·.1):=by
           by_cases jD:decide ((nd ts i.toNat).k=7)=p
           .rw[hs,e,if_pos jD]at q3;exact q3 i (hx i (.flat hlt)) rfl
           .unfold j3 at ai
            rwa [if_neg jD]at ai
          obtain⟨A,hA,hA2⟩:=Bu s q3;refine .F (ht.j4 p i hp (show ku (ah ts i)from hw) s oY) hA (fun q hq=>⟨_,(hA2 _).2 ⟨i,hx i (.flat hlt),i5.symm,oY,rfl⟩,hq⟩) fun x' aR iH r' hr=>?_;have:=ld _ (.j4 CG hk s GY);rw[e]at this;exact h.open_ this aR iH hr
      .exact absurd hg (((GR (jg i1 i4 i3 (by rw[i5];exact Ud p) d2 dD) i5).2.1 _).2 _)
 .obtain⟨Ao,yy,yz⟩:=sx;obtain⟨Ap,yA,yB⟩:=sy
  cases hx with
  | @F _ _ k r l2 hp hc hx hj =>
  cases hy with
  | @F _ _ k' _ l3 ae sN aR aX =>
  have Ue:∀{x:Int},ah ts x=11->aZ ts x=false:=fun {x} cT=>by
   have:(nd ts x.toNat).k=11:=cT;unfold aZ fT;rw[this];rfl
  have n11:∀{p:Bool} {x:Int},ah ts x=11->ah ts x≠cQ p:=fun {p x} cT=>by rw[cT];cases p<;>decide
  obtain⟨u,u1,u2,u3,u4,u5⟩:=GV hc hx hj yy yz (Ue Ao) (n11 Ao);obtain⟨v,v1,v2,v3,v4,v5⟩:=GV sN aR aX yA yB (Ue Ap) (n11 Ap);obtain⟨u5,u6⟩|u5:=u5
  .rcases v5 with⟨v5,v6⟩|v5
   .exact .G (h.pair _ _ _ _ u1 v1 ⟨by rw[u5];exact Ao,yy,yz⟩ ⟨by rw[v5];exact Ap,yA,yB⟩ (by rw[u6 Ao,v6 Ap];exact ha))
   .exact .D (ahE gs l r yA yB yy yz (GR (jg v1 v4 v3 (by rw[v5];decide) yA yB) v5).2.2)
  .have:=(GR (jg u1 u4 u3 (by rw[u5];decide) yy yz) u5).1;cases this
end
end Go.Proofs.YtpmniabdmbmafaaGreatDoor

namespace Go.Proofs.YtpmniabdmbmafaaGreatDoor
open Go.Ab
def sh(d:Int)(l:List Int):List Int:=l.map fun y=>y+d
structure dU(gs:List TN)(gr:Int->Prop):Prop where
 ok:∀y,gr y->bI gs y
 nv:∀y,gr y->ah gs y≠11
 Uf:∀y,gr y->oZ (ah gs y)=true->gr (nd gs y.toNat).a∧gr (nd gs y.toNat).b
 j4:∀y,gr y->∀q∈(nd gs y.toNat).l,gr q.2
theorem ahG{d:Int}{l:List Int}(h:gJ l):gJ (sh d l):=ane.2 (h.imp fun h=>by omega)
theorem DV{d:Int}{l:List Int}{x:Int}:x∈sh d l↔∃y∈l,x=y+d:=by
 unfold sh;rw[ak6];exact⟨fun⟨y,h,e⟩=>⟨y,h,e.symm⟩,fun⟨y,h,e⟩=>⟨y,h,e.symm⟩⟩
theorem ru(d:Int)(l:List Int):bL (sh d l)=sh d (bL l):=Gg (ahG (Gf l)) fun x=>by
 rw[DV,DV];exact⟨fun⟨y,h,e⟩=>⟨y,(Dm l y).1 h,e⟩,fun⟨y,h,e⟩=>⟨y,(Dm l y).2 h,e⟩⟩
theorem tU(x:Int):bL [x]=[x]:=Gg (am8 _ _) fun _=>Iff.rfl
theorem Ug:bL []=[]:=Gg (by simp) fun _=>Iff.rfl
theorem rv{d:Int}{f g:Int->Bool}{r:List Int}(h:∀y∈r,f (y+d)=g y):(sh d r).any f=r.any g:=by
 unfold sh;rw[List.any_map]
 induction r with
 |nil=>rfl
 |cons x t ih =>
   rw[List.any_cons,List.any_cons,ih fun y hy=>h y (ald _ hy)];simp only[Function.comp_def];rw[h x alb]
theorem GZ{d:Int}{f g:Int->Bool}{r:List Int}(h:∀y∈r,f (y+d)=g y):(sh d r).filter f=sh d (r.filter g):=by
 unfold sh;rw[List.filter_map];congr 1;refine am2 fun x hx=>?_;exact h x hx
theorem ahH{d:Int}{f g:Int->Bool}{r:List Int}(h:∀y∈r,f (y+d)=g y):(sh d r).findIdx f=r.findIdx g:=by
 unfold sh
 induction r with
 |nil=>rfl
 |cons x t ih =>
   rw[alf,anW,anW,ih fun y hy=>h y (ald _ hy),h x alb]
section
variable {ns gs:List TN}
theorem l6{x:Int}(h:bI ns x):nd (ar ns gs) x.toNat=nd ns x.toNat:=by
 have:=h.1;have:=h.2;unfold nd ar;rw[akX,alj (by omega),<-akX]
theorem tV{y:Int}(h:bI gs y):nd (ar ns gs) (y+(ns.length:Int)).toNat=jx ns.length (nd gs y.toNat):=by
 have h1:=h.1;have h2:=h.2;have e:(y+(ns.length:Int)).toNat=ns.length+y.toNat:=by omega
 unfold nd ar;rw[e,akX,aln (by omega),show ns.length+y.toNat-ns.length=y.toNat by omega];have h3:y.toNat<gs.length:=by omega
 simp[h3]
theorem py{x:Int}(h:bI ns x):ah (ar ns gs) x=ah ns x:=by unfold ah;rw[l6 h]
theorem qw{y:Int}(h:bI gs y):ah (ar ns gs) (y+(ns.length:Int))=ah gs y:=by unfold ah;rw[tV h];rfl
theorem Aq{x:Int}(h:bI ns x):aZ (ar ns gs) x=aZ ns x:=congrArg fT (py h)
theorem DW{y:Int}(h:bI gs y):aZ (ar ns gs) (y+(ns.length:Int))=aZ gs y:=congrArg fT (qw h)
theorem Uh(d:Int)(s:List UInt8):∀(l:List da),(l.map fun q=>(q.1,q.2+d)).find? (fun q=>q.1 == s)=(l.find? fun q=>q.1 == s).map fun q=>(q.1,q.2+d)
 |[]=>rfl
 |q::r=>by
   rw[alf,List.find?_cons,List.find?_cons,Uh d s r];cases q.1 == s<;>rfl
theorem ahI{d:Int}{n:TN}{s:List UInt8}(hs:s∈n.l.map (·.1)):gW (jx d n) s=gW n s+d:=by
 unfold gW jx;rw[Uh]
 cases hf:n.l.find? (fun q=>q.1 == s)with
 |none =>
   obtain⟨q,hq,e⟩:=ak6.1 hs;have:=anw.1 hf q hq;simp[e]at this
 |some q=>rfl
theorem ahJ{n:TN}{s:List UInt8}(hs:s∉n.l.map (·.1)):gW n s = -1:=by
 unfold gW
 cases hf:n.l.find? (fun q=>q.1 == s)with
 |none=>rfl
 |some q =>
   have h1:=anX hf;have h2:=List.find?_some hf;exact absurd (ak6.2 ⟨q,h1,by simpa using h2⟩) hs
theorem G1{n:TN}{s:List UInt8}(hs:s∈n.l.map (·.1)):∃q∈n.l,q.1=s∧gW n s=q.2:=by
 unfold gW
 cases hf:n.l.find? (fun q=>q.1 == s)with
 |none =>
   obtain⟨q,hq,e⟩:=ak6.1 hs;have:=anw.1 hf q hq;simp[e]at this
 |some q=>exact⟨q,anX hf,by simpa using List.find?_some hf,rfl⟩
theorem Ui(d:Int)(n:TN):(jx d n).l.map (·.1)=n.l.map (·.1):=by simp[jx,Function.comp_def]
theorem yC{s:List UInt8}{x:Int}(h:∀q∈(nd ns x.toNat).l,0<=q.2):gX ns s x=true↔s∈(nd ns x.toNat).l.map (·.1):=by
 unfold gX;rw[decide_eq_true_iff];constructor
 .intro hp;by_cases hs:s∈(nd ns x.toNat).l.map (·.1)
  .exact hs
  .rw[ahJ hs]at hp;omega
 .intro hs;obtain⟨q,hq,_,e⟩:=G1 hs;rw[e];exact h q hq
variable {gr:Int->Prop}
theorem dU.Ar(hg:dU gs gr){y:Int}(h:gr y):∀q∈(nd gs y.toNat).l,0<=q.2:=fun q hq=>(hg.ok _ (hg.j4 y h q hq)).1
theorem Uj(hg:dU gs gr){y:Int}(h:gr y)(s:List UInt8):gX (ar ns gs) s (y+(ns.length:Int))=gX gs s y:=by
 rw[amL,yC (hg.Ar h),yC,tV (hg.ok y h),Ui];intro q hq;rw[tV (hg.ok y h)]at hq;obtain⟨q',bX,rfl⟩:=ak6.1 hq;have:=hg.Ar h q' bX;show 0<=q'.2+(ns.length:Int)
 omega
theorem yD(hg:dU gs gr){r:List Int}(h:∀y∈r,gr y)(s:List UInt8):dY (ar ns gs) (sh ns.length r) s=sh ns.length (dY gs r s):=by
 unfold dY;rw[<-ru];congr 1;unfold om;rw[GZ (g:=gX gs s) fun y hy=>Uj hg (h y hy) s];unfold sh;rw[alD,alD];refine alI fun y hy=>?_;obtain⟨hy,hs⟩:=aly.1 hy;have hs:=(yC (hg.Ar (h y hy))).1 hs;simp only[Function.comp_def];rw[tV (hg.ok y (h y hy)),ahI hs]
theorem G2{ns:List TN}{l:List Int}{P:List UInt8->Bool}(hP:∀s,(decide (0<(dY ns l s).length)&&decide ((l.filter (gX ns s)).length=l.length))=P s):∀(L out:List (List UInt8)),L.foldl (kS ns l) out=L.foldl (fun o s=>if(P s&&!decide (s∈o))=true then o++[s]else o) out
 |[],_=>rfl
 |s::L,out=>by
   rw[List.foldl_cons,List.foldl_cons,G2 hP L];congr 1;unfold kS;rw[hP]
theorem Uk{P:List UInt8->Bool}(s:List UInt8):∀(L out:List (List UInt8)),s∈L.foldl (fun o s=>if(P s&&!decide (s∈o))=true then o++[s]else o) out↔s∈out∨s∈L∧P s=true
 |[],out=>by simp
 |t::L,out=>by
   rw[List.foldl_cons,Uk s L];by_cases ht:(P t&&!decide (t∈out))=true
   .rw[if_pos ht];simp only[ak7,alH,decide_eq_false_iff_not]at ht;rw[ak1,ak3,alc];constructor
    .rintro((h|h)|h)
     .exact .inl h
     .exact .inr ⟨.inl h,h▸ht.1⟩
     .exact .inr ⟨.inr h.1,h.2⟩
    .rintro(h|⟨h|h,hp⟩)
     .exact .inl (.inl h)
     .exact .inl (.inr h)
     .exact .inr ⟨h,hp⟩
   .rw[if_neg ht];simp only[alc];constructor
    .rintro(h|h)
     .exact .inl h
     .exact .inr ⟨.inr h.1,h.2⟩
    .rintro(h|⟨h|h,hp⟩)
     .exact .inl h
     .subst h;rw[hp]at ht;simp at ht;exact .inl ht
     .exact .inr ⟨h,hp⟩
theorem ahK{ns:List TN}{l:List Int}{s:List UInt8}:s∈eE ns l↔s∈(nd ns (l.getD 0 0).toNat).l.map (·.1)∧0<(dY ns l s).length∧(l.filter (gX ns s)).length=l.length:=by
 unfold eE;rw[G2 (P:=fun s=>decide (0<(dY ns l s).length)&&decide ((l.filter (gX ns s)).length=l.length)) fun _=>rfl,Uk];simp
theorem DX(hg:dU gs gr){r:List Int}(h:∀y∈r,gr y)(hr:r≠[]):eE (ar ns gs) (sh ns.length r)=eE gs r:=by
 unfold eE
 rw[G2 (P:=fun s=>decide (0<(dY gs r s).length)&&decide ((r.filter (gX gs s)).length=r.length)) fun s=>by
  rw[yD hg h,GZ (g:=gX gs s) fun y hy=>Uj hg (h y hy) s]
  simp[sh],G2 (ns:=gs) (P:=fun s=>decide (0<(dY gs r s).length)&&decide ((r.filter (gX gs s)).length=r.length)) fun _=>rfl]
 congr 1
 cases r with
 |nil=>exact absurd rfl hr
 |cons y t =>
   show(nd (ar ns gs) (y+(ns.length:Int)).toNat).l.map (·.1)=(nd gs y.toNat).l.map (·.1);rw[tV (hg.ok y (h y alb)),Ui]
theorem G3(hg:dU gs gr){r:List Int}(h:∀y∈r,gr y)(k:Int):bP (ar ns gs) k (sh ns.length r)=sh ns.length (bP gs k r):=GZ fun y hy=>by rw[qw (hg.ok y (h y hy))]
theorem Ul(hg:dU gs gr){r:List Int}(h:∀y∈r,gr y):gy (ar ns gs) (sh ns.length r)=gy gs r:=am2 fun k _=>rv fun y hy=>by rw[qw (hg.ok y (h y hy))]
theorem tW(hg:dU gs gr){r:List Int}(h:∀y∈r,gr y)(k:Int):bV (ar ns gs) k (sh ns.length r)=sh ns.length (bV gs k r):=GZ fun y hy=>by rw[qw (hg.ok y (h y hy))]
theorem at_mem{r:List Int}(h:r.any (aZ gs)=true):gZ gs r<r.length∧r.getD (gZ gs r) 0∈r∧aZ gs (r.getD (gZ gs r) 0)=true:=by
 obtain⟨x,hx,hl⟩:=alG.1 h;have h1:gZ gs r<r.length:=List.findIdx_lt_length_of_exists ⟨x,hx,hl⟩;have e:r.getD (gZ gs r) 0=r[gZ gs r]:=by simp[h1]
 refine⟨h1,by rw[e];exact ak2 h1,?_⟩;rw[e];exact List.findIdx_getElem (w:=h1)
theorem Um(hg:dU gs gr){r:List Int}(h:∀y∈r,gr y):gZ (ar ns gs) (sh ns.length r)=gZ gs r:=ahH fun y hy=>DW (hg.ok y (h y hy))
theorem ahL(hg:dU gs gr){r:List Int}(h:∀y∈r,gr y)(hl:r.any (aZ gs)=true):bO (ar ns gs) (sh ns.length r)=jx ns.length (bO gs r):=by
 obtain⟨h1,h2,_⟩:=at_mem hl;unfold bO;rw[Um hg h,<-tV (hg.ok _ (h _ h2))];congr 2;unfold sh;simp[h1]
theorem ahM(d:Int)(r:List Int)(i:Nat)(ins:List Int):gx (sh d r) i (sh d ins)=sh d (gx r i ins):=by
 unfold gx;rw[<-ru];congr 1;simp[sh,am0,amT]
end
end Go.Proofs.YtpmniabdmbmafaaGreatDoor

namespace Go.Proofs.YtpmniabdmbmafaaGreatDoor
open Go.Ab
def bW(d:Int):Fm->SQ
 |.F true x r=>([x],sh d r)
 |.F false x r=>(sh d r,[x])
 |.G l r=>(sh d l,sh d r)
def ou(pos:Bool->Int->Prop)(gr:Int->Prop):Fm->Prop
 |.F p x r=>pos p x∧gJ r∧∀y∈r,gr y
 |.G l r=>(gJ l∧∀y∈l,gr y)∧gJ r∧∀y∈r,gr y
section
variable {ns gs:List TN}{pos:Bool->Int->Prop}{gr:Int->Prop}
theorem Un{k:Int}(h:fT k=true):oZ k=true:=by
 unfold fT at h;unfold oZ;simp only[alF,decide_eq_true_iff]at h ⊢;omega
theorem wZ{l:List Int}(h:∀y∈l,gr y):gJ (bL l)∧∀y∈bL l,gr y:=⟨Gf l,fun y hy=>h y ((Dm l y).1 hy)⟩
theorem uX{r ins:List Int}{i:Nat}(h:∀y∈r,gr y)(hi:∀y∈ins,gr y):gJ (gx r i ins)∧∀y∈gx r i ins,gr y:=wZ fun y hy=>by
 simp only[ak1]at hy;obtain(hy|hy)|hy:=hy
 .exact h y (alL hy)
 .exact h y (al5 hy)
 .exact hi y hy
theorem L8(hg:dU gs gr){r:List Int}(h:∀y∈r,gr y)(s:List UInt8):gJ (dY gs r s)∧∀y∈dY gs r s,gr y:=wZ fun y hy=>by
 obtain⟨x,hx,rfl⟩:=ak6.1 hy;obtain⟨hx,hs⟩:=aly.1 hx;obtain⟨q,hq,_,e⟩:=G1 ((yC (hg.Ar (h x hx))).1 hs);rw[e];exact hg.j4 x (h x hx) q hq
theorem yE{r:List Int}(h:∀y∈r,gr y)(k:Int):∀y∈bP gs k r,gr y:=fun y hy=>h y (aly.1 hy).1
theorem L9(hg:dU gs gr){r:List Int}(h:∀y∈r,gr y)(hl:r.any (aZ gs)=true):gr (bO gs r).a∧gr (bO gs r).b:=by
 obtain⟨_,h2,h3⟩:=at_mem hl;exact hg.Uf _ (h _ h2) (Un h3)
theorem ahN(hg:dU gs gr){p:Bool}{r r1:List Int}(h:∀y∈r,gr y)(hl:r.any (aZ gs)=true)(ho:uW gs p r r1):gJ r1∧∀y∈r1,gr y:=by
 obtain⟨ha,hb⟩:=L9 hg h hl
 cases ho with
 |both _=>exact uX h (by simp[ha,hb])
 |left _=>exact uX h (by simp[ha])
 |right _=>exact uX h (by simp[hb])
theorem Au(hg:dU gs gr){r:List Int}(h:∀y∈r,gr y):(∀y∈(bP gs 6 r).map (fun x=>(nd gs x.toNat).a),gr y)∧∀y∈(bP gs 6 r).map (fun x=>(nd gs x.toNat).b),gr y:=by
 have key:∀x∈bP gs 6 r,gr (nd gs x.toNat).a∧gr (nd gs x.toNat).b:=fun x hx=>by
  obtain⟨h1,h2⟩:=aly.1 hx;have h2:ah gs x=6:=by simpa using h2
  exact hg.Uf x (h x h1) (by rw[h2];rfl)
 constructor
 .intro y hy;obtain⟨x,hx,rfl⟩:=ak6.1 hy;exact(key x hx).1
 .intro y hy;obtain⟨x,hx,rfl⟩:=ak6.1 hy;exact(key x hx).2
theorem Uo{x a:Int}:gx [x] 0 [a]=[a]:=by
 unfold gx;simp[tU]
theorem Ma(x:Int)(s:List UInt8)(h:∀q∈(nd ns x.toNat).l,0<=q.2)(hs:s∈(nd ns x.toNat).l.map (·.1)):dY ns [x] s=[gW (nd ns x.toNat) s]:=by
 have h1:gX ns s x=true:=(yC h).2 hs;unfold dY om;rw[am9 h1];exact tU _
theorem ahO(x:Int)(s:List UInt8)(h:∀q∈(nd ns x.toNat).l,0<=q.2)(hs:s∉(nd ns x.toNat).l.map (·.1)):dY ns [x] s=[]:=by
 have h1:¬gX ns s x=true:=fun g=>hs ((yC h).1 g);unfold dY om;rw[an2 h1];exact Ug
theorem ahP(x:Int)(s:List UInt8)(h:∀q∈(nd ns x.toNat).l,0<=q.2):s∈eE ns [x]↔s∈(nd ns x.toNat).l.map (·.1):=by
 rw[ahK];constructor
 .exact fun g=>g.1
 .intro g;have h1:gX ns s x=true:=(yC h).2 g;refine⟨g,?_,?_⟩
  .rw[Ma x s h g];exact Nat.one_pos
  .rw[am9 h1];rfl
structure kW(ns:List TN)(pos:Bool->Int->Prop):Prop where
 ot:L0 ns pos
 ok:∀p x,pos p x->bI ns x
 Ar:∀p x,pos p x->∀q∈(nd ns x.toNat).l,0<=q.2
 v:∀p x,pos p x->ah ns x=11->0<=(nd ns x.toNat).a∧(nd ns x.toNat).a<1000
theorem Mb(hs:kW ns pos)(hg:dU gs gr){f g:Fm}(hf:ou pos gr f)(hd:j5 ns gs f g)(aW:lB ns gs f):ou pos gr g:=by
 cases hd with
 |a h h1 =>
   obtain⟨h2,h3⟩:=hf;exact⟨(hs.ot.uO _ _ h2 (by unfold fA at h1;simp at h1;exact h1.1)).2.1,h3⟩
 |b h h1 =>
   obtain⟨h2,h3⟩:=hf;exact⟨(hs.ot.uO _ _ h2 (by unfold fA at h1;simp at h1;exact h1.1)).2.2,h3⟩
 |r h h1 hl ho=>exact⟨hf.1,ahN hg hf.2.2 hl ho⟩
 | @hd p x r g h hx hl hk o7 =>
   obtain⟨h2,h3,h4⟩:=hf
   cases o7 with
   |bD _ h6=>exact⟨(hs.ot.arr _ _ h2 h6).1,wZ (Au hg h4).1⟩
   |bE _ h6=>exact⟨(hs.ot.arr _ _ h2 h6).2,wZ (Au hg h4).2⟩
   |j4 ag hw s hd =>
     have hm:s∈(nd ns x.toNat).l.map (·.1):=by
      obtain q|q|q|q|q:=aW
      .rw[h]at q;cases q
      .rw[hx]at q;cases q
      .rw[hl]at q;cases q
      .exact absurd q hk
      .rcases q with q|⟨_,q⟩
       .rw[ag]at q;cases q
       .exact(q hw s hd).1
     exact⟨hs.ot.j4 _ _ h2 hw s hm,L8 hg (yE h4 _) s⟩
 | @g l r q hq =>
   obtain⟨⟨h1,h2⟩,h3,h4⟩:=hf;unfold dh at hq;simp only at hq;split at hq
   .cases hq
   split at hq
   .rename_i hl;obtain⟨ha,hb⟩:=L9 hg h2 hl;split at hq
    .simp at hq;subst hq;exact⟨uX h2 (by simp[ha,hb]),h3,h4⟩
    .simp at hq;obtain rfl|rfl:=hq
     .exact⟨uX h2 (by simp[ha]),h3,h4⟩
     .exact⟨uX h2 (by simp[hb]),h3,h4⟩
   split at hq
   .rename_i hl;obtain⟨ha,hb⟩:=L9 hg h4 hl;split at hq
    .simp at hq;subst hq;exact⟨⟨h1,h2⟩,uX h4 (by simp[ha,hb])⟩
    .simp at hq;obtain rfl|rfl:=hq
     .exact⟨⟨h1,h2⟩,uX h4 (by simp[ha])⟩
     .exact⟨⟨h1,h2⟩,uX h4 (by simp[hb])⟩
   split at hq
   .cases hq
   split at hq
   .cases hq
   split at hq
   .cases hq
   unfold fJ at hq;split at hq
   .cases hq
   split at hq
   .rename_i h6;rw[h6]at hq;simp at hq;obtain rfl|rfl:=hq
    .exact⟨wZ (Au hg h4).1,wZ (Au hg h2).1⟩
    .exact⟨wZ (Au hg h2).2,wZ (Au hg h4).2⟩
   .split at hq
    .obtain⟨s,_,rfl⟩:=ak6.1 (show q∈List.map _ _ from hq);exact⟨L8 hg (yE h2 _) s,L8 hg (yE h4 _) s⟩
    .cases hq
theorem Uq(hs:kW ns pos)(hg:dU gs gr){p:Bool}{x:Int}{r:List Int}(hx:pos p x)(hr:∀y∈r,gr y){k:Int}(hk:ah ns x=k)(aB:bP gs k r≠[]∨p=true∧k=8)(ag:eX gs p r k=.go)(L R:List Int)(pI:(L,R)=bW ns.length (.F p x (bP gs k r))) :
  ((fJ (ar ns gs) k L R).2=true↔sD gs p (nd ns x.toNat) r)∧((fJ (ar ns gs) k L R).2=true->∀q,q∈(fJ (ar ns gs) k L R).1.getD []↔∃g,rr gs p (nd ns x.toNat) r g∧q=bW ns.length g):=by
 have aW:=hs.ok p x hx;have ho:∀y∈bP gs k r,gr y:=yE hr k;have iy:(nd ns x.toNat).k=k:=hk;have hX:∀q∈(nd (ar ns gs) x.toNat).l,0<=q.2:=by rw[l6 aW];exact hs.Ar p x hx
 have c0:(!decide (k=8)&&decide (R.length=0))=false:=by
  cases p with
  |true =>
    obtain⟨rfl,rfl⟩:=amH pI;obtain h|⟨_,h⟩:=aB
    .simp[sh,h]
    .simp[h]
  |false =>
    obtain⟨rfl,rfl⟩:=amH pI;simp
 unfold fJ;rw[c0];simp only[als,if_false];by_cases h6:k=6
 .rw[if_pos h6];subst h6
  have Av:(sh ns.length (bP gs 6 r)).map (fun x=>(nd (ar ns gs) x.toNat).a)=sh ns.length ((bP gs 6 r).map fun x=>(nd gs x.toNat).a):=by
   unfold sh;rw[alD,alD];refine alI fun y hy=>?_;simp only[Function.comp_def];rw[tV (hg.ok y (ho y hy))];have:ah gs y=6:=by simpa using(aly.1 hy).2
   unfold jx;rw[show(nd gs y.toNat).k=6 from this];rfl
  have Aw:(sh ns.length (bP gs 6 r)).map (fun x=>(nd (ar ns gs) x.toNat).b)=sh ns.length ((bP gs 6 r).map fun x=>(nd gs x.toNat).b):=by
   unfold sh;rw[alD,alD];refine alI fun y hy=>?_;simp only[Function.comp_def];rw[tV (hg.ok y (ho y hy))];have:ah gs y=6:=by simpa using(aly.1 hy).2
   unfold jx;rw[show(nd gs y.toNat).k=6 from this];rfl
  refine⟨⟨fun _=>.inr ⟨by rw[iy];exact ag,fun g=>by rw[iy]at g;rcases g with g|g<;>cases g⟩,fun _=>rfl⟩,fun _ q=>?_⟩;constructor
  .intro hq
   cases p with
   |true =>
     obtain⟨rfl,rfl⟩:=amH pI;simp only[Option.getD_some,alc,alv,or_false,alf,alJ,Av,Aw,ru,tU,l6 aW]at hq;obtain rfl|rfl:=hq
     .exact⟨_,.bD (by rw[iy];exact ag) iy,rfl⟩
     .exact⟨_,.bE (by rw[iy];exact ag) iy,rfl⟩
   |false =>
     obtain⟨rfl,rfl⟩:=amH pI;simp only[Option.getD_some,alc,alv,or_false,alf,alJ,Av,Aw,ru,tU,l6 aW]at hq;obtain rfl|rfl:=hq
     .exact⟨_,.bD (by rw[iy];exact ag) iy,rfl⟩
     .exact⟨_,.bE (by rw[iy];exact ag) iy,rfl⟩
  .rintro⟨g,gS,rfl⟩
   cases gS with
   |j4 _ hw=>rw[iy]at hw;rcases hw with g|g<;>cases g
   |bD _ _ =>
     cases p with
     |true =>
       obtain⟨rfl,rfl⟩:=amH pI;simp only[Option.getD_some,alc,alv,or_false,alf,alJ,Av,Aw,ru,tU,l6 aW];exact .inl rfl
     |false =>
       obtain⟨rfl,rfl⟩:=amH pI;simp only[Option.getD_some,alc,alv,or_false,alf,alJ,Av,Aw,ru,tU,l6 aW];exact .inl rfl
   |bE _ _ =>
     cases p with
     |true =>
       obtain⟨rfl,rfl⟩:=amH pI;simp only[Option.getD_some,alc,alv,or_false,alf,alJ,Av,Aw,ru,tU,l6 aW];exact .inr rfl
     |false =>
       obtain⟨rfl,rfl⟩:=amH pI;simp only[Option.getD_some,alc,alv,or_false,alf,alJ,Av,Aw,ru,tU,l6 aW];exact .inr rfl
 rw[if_neg h6]
 have hb:∀s,gA (ar ns gs) L R s=true↔s∈(nd ns x.toNat).l.map (·.1)∧dY gs (bP gs k r) s≠[]:=fun s=>by
  have e1:0<(dY (ar ns gs) [x] s).length↔s∈(nd ns x.toNat).l.map (·.1):=by
   by_cases h:s∈(nd ns x.toNat).l.map (·.1)
   .rw[Ma x s hX (by rw[l6 aW];exact h)];exact⟨fun _=>h,fun _=>Nat.one_pos⟩
   .rw[ahO x s hX (by rw[l6 aW];exact h)];exact⟨fun g=>absurd g (by simp),fun g=>absurd g h⟩
  have e2:0<(dY (ar ns gs) (sh ns.length (bP gs k r)) s).length↔dY gs (bP gs k r) s≠[]:=by
   rw[yD hg ho,<-amJ];simp[sh]
  unfold gA;rw[ak7,decide_eq_true_iff,decide_eq_true_iff]
  cases p with
  |true =>
    obtain⟨rfl,rfl⟩:=amH pI;rw[e1,e2]
  |false =>
    obtain⟨rfl,rfl⟩:=amH pI;rw[e1,e2,and_comm]
 have hh:∀s,s∈(nd ns x.toNat).l.map (·.1)->po (ar ns gs) L R s=bW ns.length (.F p (gW (nd ns x.toNat) s) (dY gs (bP gs k r) s)):=fun s h=>by
  have e1:dY (ar ns gs) [x] s=[gW (nd ns x.toNat) s]:=by
   rw[Ma x s hX (by rw[l6 aW];exact h),l6 aW]
  have e2:=yD (ns:=ns) hg ho s;unfold po
  cases p with
  |true =>
    obtain⟨rfl,rfl⟩:=amH pI;rw[e1,e2];rfl
  |false =>
    obtain⟨rfl,rfl⟩:=amH pI;rw[e1,e2];rfl
 by_cases hw:ku k
 .have ha:∀s,s∈lA (ar ns gs) k L R↔j3 p (nd ns x.toNat) gs r s:=fun s=>by
   unfold lA j3;rw[iy];have n1:s∈eE (ar ns gs) [x]↔s∈(nd ns x.toNat).l.map (·.1):=by rw[ahP x s hX,l6 aW]
   cases p with
   |true =>
     obtain⟨rfl,rfl⟩:=amH pI;obtain rfl|rfl:=hw
     .have aB:bP gs 7 r≠[]:=by
       obtain h|⟨_,h⟩:=aB
       .exact h
       .cases h
      simp only[if_true,decide_true,DX hg ho aB]
     .simp only[show((8:Int)=7)=False from by simp,if_false,decide_false,if_true,als];exact n1
   |false =>
     obtain⟨rfl,rfl⟩:=amH pI;obtain rfl|rfl:=hw
     .simp only[if_true,decide_true,Bool.true_eq_false,if_false];exact n1
     .have aB:bP gs 8 r≠[]:=by
       obtain h|⟨h,_⟩:=aB
       .exact h
       .cases h
      simp only[show((8:Int)=7)=False from by simp,if_false,decide_false,if_true,DX hg ho aB]
  by_cases hall:(lA (ar ns gs) k L R).all (gA (ar ns gs) L R)=true
  .rw[if_pos hall];have Mc:∀s,j3 p (nd ns x.toNat) gs r s->s∈(nd ns x.toNat).l.map (·.1)∧dY gs (bP gs k r) s≠[]:=fun s hd=>(hb s).1 (alr.1 hall s ((ha s).2 hd));refine⟨⟨fun _=>.inr ⟨by rw[iy];exact ag,fun _ s hd=>by rw[iy];exact Mc s hd⟩,fun _=>rfl⟩,fun _ q=>?_⟩;constructor
   .intro hq;obtain⟨s,bm,rfl⟩:=ak6.1 (show q∈List.map _ _ from hq);have hd:=(ha s).1 bm;refine⟨_,.j4 (by rw[iy];exact ag) (by rw[iy];exact hw) s hd,?_⟩;rw[hh s (Mc s hd).1,iy]
   .rintro⟨g,gS,rfl⟩
    cases gS with
    |bD _ h=>rw[iy]at h;exact absurd h h6
    |bE _ h=>rw[iy]at h;exact absurd h h6
    |j4 _ _ s hd =>
      rw[iy,<-hh s (Mc s hd).1];exact ak6.2 ⟨s,(ha s).2 hd,rfl⟩
  .rw[if_neg hall];refine⟨⟨fun h=>(by cases h),fun h=>absurd (alr.2 fun s bm=>(hb s).2 ?_) hall⟩,fun h=>(by cases h)⟩;obtain h|⟨_,h⟩:=h
   .rw[iy,ag]at h;cases h
   .rw[iy]at h;exact h hw s ((ha s).1 bm)
 .have rQ:k≠7∧k≠8:=⟨fun h=>hw (.inl h),fun h=>hw (.inr h)⟩
  have e:lA (ar ns gs) k L R=[]:=by
   unfold lA;rw[if_neg rQ.1,if_neg rQ.2]
  rw[e];refine⟨⟨fun _=>.inr ⟨by rw[iy];exact ag,fun g=>absurd (iy▸g) hw⟩,fun _=>rfl⟩,fun _ q=>⟨fun h=>(by cases h),?_⟩⟩;rintro⟨g,gS,_⟩;exact absurd gS (L6 (by rw[iy];exact h6) (by rw[iy];exact hw))
end
end Go.Proofs.YtpmniabdmbmafaaGreatDoor

namespace Go.Proofs.YtpmniabdmbmafaaGreatDoor
open Go.Ab
section
variable {ns gs:List TN}{pos:Bool->Int->Prop}{gr:Int->Prop}
theorem ahQ(X:List TN)(x:Int):gy X [x]=if 3<=ah X x∧ah X x<=8 then[ah X x]else[]:=by
 have e:gy X [x]=[3,4,5,6,7,8].filter fun k=>decide (ah X x=k):=am2 fun k _=>by simp
 rw[e];generalize ah X x=k;by_cases h3:k=3
 .subst h3;rfl
 by_cases h4:k=4
 .subst h4;rfl
 by_cases h5:k=5
 .subst h5;rfl
 by_cases h6:k=6
 .subst h6;rfl
 by_cases h7:k=7
 .subst h7;rfl
 by_cases h8:k=8
 .subst h8;rfl
 rw[if_neg (by omega)];simp[h3,h4,h5,h6,h7,h8]
theorem Ur{X:List TN}{l:List Int}{k:Int}(h:k∈gy X l):bP X k l≠[]∧3<=k∧k<=8:=by
 obtain⟨h1,h2⟩:=aly.1 h;obtain⟨x,hx,e⟩:=alG.1 h2;refine⟨fun g=>?_,?_⟩
 .have:x∈bP X k l:=aly.2 ⟨hx,e⟩;rw[g]at this;cases this
 .simp at h1;omega
theorem Us(hg:dU gs gr){r:List Int}(h:∀y∈r,gr y)(x:Int):((sh ns.length r).any fun y=>gY (ar ns gs) x y)=false:=ama.2 fun y hy=>by
 obtain⟨z,hz,rfl⟩:=DV.1 hy;have:=hg.nv z (h z hz);unfold gY;rw[qw (hg.ok z (h z hz))];simp[this]
theorem Ut(hg:dU gs gr){r:List Int}(h:∀y∈r,gr y)(R:List Int):((sh ns.length r).any fun x=>R.any fun y=>gY (ar ns gs) x y)=false:=ama.2 fun y hy=>by
 obtain⟨z,hz,rfl⟩:=DV.1 hy;have:=hg.nv z (h z hz);simp only[anF];refine ama.2 fun x _=>?_;unfold gY;rw[qw (hg.ok z (h z hz))];simp[this]
theorem at_one{X:List TN}{x:Int}(h:aZ X x=true):gZ X [x]=0:=by
 unfold gZ;rw[anW,h];rfl
theorem G4(hg:dU gs gr){p:Bool}{r:List Int}(hr:∀y∈r,gr y)(hl:r.any (aZ gs)=true):(bO (ar ns gs) (sh ns.length r)).k=(bO gs r).k∧(∀ins,gx (sh ns.length r) (gZ (ar ns gs) (sh ns.length r)) (ins.map fun y=>y+(ns.length:Int))=sh ns.length (gx r (gZ gs r) ins)) ∧
  (bO (ar ns gs) (sh ns.length r)).a=(bO gs r).a+ns.length∧(bO (ar ns gs) (sh ns.length r)).b=(bO gs r).b+ns.length:=by
 obtain⟨_,_,h3⟩:=at_mem hl;have h4:oZ (bO gs r).k=true:=Un h3;rw[ahL hg hr hl,Um hg hr];unfold jx;rw[h4];exact⟨rfl,fun ins=>ahM _ _ _ ins,rfl,rfl⟩
theorem tX{p:Bool}{r r1:List Int}(hk:(bO gs r).k=cy p∨(bO gs r).k=cy (!p)):uW gs p r r1↔if(bO gs r).k=cy p then r1=gx r (gZ gs r) [(bO gs r).a,(bO gs r).b]else r1=gx r (gZ gs r) [(bO gs r).a]∨r1=gx r (gZ gs r) [(bO gs r).b]:=by
 constructor
 .intro h
  cases h with
  |both h=>rw[if_pos h]
  |left h=>rw[if_neg h];exact .inl rfl
  |right h=>rw[if_neg h];exact .inr rfl
 .intro h;by_cases e:(bO gs r).k=cy p
  .rw[if_pos e]at h;subst h;exact .both e
  .rw[if_neg e]at h;obtain rfl|rfl:=h
   .exact .left e
   .exact .right e
theorem ahR(hs:kW ns pos)(hg:dU gs gr){x:Int}{r:List Int}(hx:pos true x)(hr:∀y∈r,gr y)(hn:¬l5 ns gs true x r) :
  ((dh (ar ns gs) ([x],sh ns.length r)).2=true↔lB ns gs (.F true x r))∧((dh (ar ns gs) ([x],sh ns.length r)).2=true->∀q,q∈(dh (ar ns gs) ([x],sh ns.length r)).1.getD []↔∃g,j5 ns gs (.F true x r) g∧q=bW ns.length g):=by
 have aW:=hs.ok _ x hx
 have c1:([x].any (fun x=>decide (ah (ar ns gs) x=2))||(sh ns.length r).any fun x=>decide (ah (ar ns gs) x=1))=l4 ns gs true x r:=by
  unfold l4 jC;rw[rv (g:=fun y=>decide (ah gs y=1)) fun y hy=>by rw[qw (hg.ok y (hr y hy))]];simp[py aW,cQ,cR]
 have c2:[x].any (aZ (ar ns gs))=aZ ns x:=by simp[Aq aW]
 have c3:(sh ns.length r).any (aZ (ar ns gs))=r.any (aZ gs):=rv fun y hy=>DW (hg.ok y (hr y hy));have c4:([x].any fun x=>(sh ns.length r).any fun y=>gY (ar ns gs) x y)=false:=by simp[Us hg hr]
 unfold dh;simp only[c1,c2,c3,c4]
 cases hd:l4 ns gs true x r with
 |true =>
   simp only[if_true];refine⟨⟨fun _=>.inl hd,fun _=>by trivial⟩,fun _ q=>⟨fun h=>(by cases h),?_⟩⟩;rintro⟨g,h,_⟩
   cases h with
   |a h _=>rw[hd]at h;cases h
   |b h _=>rw[hd]at h;cases h
   |r h _ _ _=>rw[hd]at h;cases h
   |hd h _ _ _ _=>rw[hd]at h;cases h
 |false =>
 simp only[als,if_false]
 cases hl:aZ ns x with
 |true =>
   have hk:=(hs.ot.uO _ x hx hl).1
   have eN:bO (ar ns gs) [x]=nd ns x.toNat:=by
    unfold bO;rw[at_one (by rw[Aq aW];exact hl)];exact l6 aW
   have e9:(nd ns x.toNat).k=9:=hk;rw[eN,e9,at_one (by rw[Aq aW];exact hl)];simp only[if_true,show((9:Int)=10)=False from by simp,if_false,Uo];refine⟨⟨fun _=>.inr (.inl hl),fun _=>by trivial⟩,fun _ q=>?_⟩;simp only[Option.getD_some,alc,alv,or_false];constructor
   .rintro(rfl|rfl)
    .exact⟨_,.a hd (by simp[fA,hl]),rfl⟩
    .exact⟨_,.b hd (by simp[fA,hl]),rfl⟩
   .rintro⟨g,h,rfl⟩
    cases h with
    |a _ _=>exact .inl rfl
    |b _ _=>exact .inr rfl
    |r _ h _ _=>simp[fA,hl]at h
    |hd _ h _ _ _=>rw[hl]at h;cases h
 |false =>
 simp only[als,if_false]
 cases dD:r.any (aZ gs)with
 |true =>
   obtain⟨o1,o2,o3,o4⟩:=G4 (ns:=ns) (p:=true) hg hr dD;obtain⟨_,_,zD⟩:=at_mem dD
   have hk:(bO gs r).k=cy true∨(bO gs r).k=cy (!true):=by
    have:fT (bO gs r).k=true:=zD;unfold fT at this;simpa[cy]using this
   simp only[if_true,o1,o3,o4];refine⟨⟨fun _=>.inr (.inr (.inl dD)),fun _=>by split<;>rfl⟩,fun _ q=>?_⟩
   have key:(∃g,j5 ns gs (.F true x r) g∧q=bW ns.length g)↔∃r1,uW gs true r r1∧q=([x],sh ns.length r1):=by
    constructor
    .rintro⟨g,h,rfl⟩
     cases h with
     |a _ h=>simp[fA,hl]at h
     |b _ h=>simp[fA,hl]at h
     |r _ _ _ ho=>exact⟨_,ho,rfl⟩
     |hd _ _ h _ _=>rw[dD]at h;cases h
    .rintro⟨r1,ho,rfl⟩;exact⟨_,.r hd (by simp[fA,hl]) dD ho,rfl⟩
   rw[key];have t1:=o2 [(bO gs r).a,(bO gs r).b];have t2:=o2 [(bO gs r).a];have t3:=o2 [(bO gs r).b];simp only[alf,alJ]at t1 t2 t3;by_cases e:(bO gs r).k=9
   .rw[if_pos e,t1];simp only[Option.getD_some,alc,alv,or_false];constructor
    .rintro rfl;exact⟨_,(tX hk).2 (by rw[if_pos (show _=cy true from e)]),rfl⟩
    .rintro⟨r1,ho,rfl⟩;have:=(tX hk).1 ho;rw[if_pos (show _=cy true from e)]at this;rw[this]
   .rw[if_neg e,t2,t3];simp only[Option.getD_some,alc,alv,or_false];constructor
    .rintro(rfl|rfl)
     .exact⟨_,(tX hk).2 (by rw[if_neg (show¬_=cy true from e)];exact .inl rfl),rfl⟩
     .exact⟨_,(tX hk).2 (by rw[if_neg (show¬_=cy true from e)];exact .inr rfl),rfl⟩
    .rintro⟨r1,ho,rfl⟩;have:=(tX hk).1 ho;rw[if_neg (show¬_=cy true from e)]at this;rcases this with h|h<;>rw[h]<;>simp
 |false =>
 simp only[als,if_false];have cT:ah ns x≠11:=fun h=>hn ⟨h,(wY hd).2,dD⟩;have kf:(∃g,j5 ns gs (.F true x r) g∧True)->True:=fun _=>trivial
 have ld:∀q,(∃g,j5 ns gs (.F true x r) g∧q=bW ns.length g)↔∃g,rr gs true (nd ns x.toNat) r g∧q=bW ns.length g:=fun q=>by
  constructor
  .rintro⟨g,h,rfl⟩
   cases h with
   |a _ h=>simp[fA,hl]at h
   |b _ h=>simp[fA,hl]at h
   |r _ _ h _=>rw[dD]at h;cases h
   |hd _ _ _ _ h=>exact⟨_,h,rfl⟩
  .rintro⟨g,h,rfl⟩;exact⟨_,.hd hd hl dD cT h,rfl⟩
 have tY:lB ns gs (.F true x r)↔sD gs true (nd ns x.toNat) r:=by
  constructor
  .rintro(q|q|q|q|q)
   .rw[hd]at q;cases q
   .rw[hl]at q;cases q
   .rw[dD]at q;cases q
   .exact absurd q cT
   .exact q
  .exact fun h=>.inr (.inr (.inr (.inr h)))
 rw[ahQ,py aW];by_cases DY:3<=ah ns x∧ah ns x<=8
 .rw[if_pos DY];simp only[List.length_cons,List.length_nil,alC,an5,if_false,anB,anp];rw[show bP (ar ns gs) (ah ns x) [x]=[x]from by simp[bP,py aW],G3 hg hr];by_cases aB:ah ns x≠8∧bP gs (ah ns x) r=[]
  .have ag:eX gs true r (ah ns x)=.fail:=by
    unfold eX;rw[if_pos rfl,if_pos DY,if_pos aB]
   rw[aB.2,show fJ (ar ns gs) (ah ns x) [x] (sh ns.length [])=(none,false)from by simp[fJ,sh,aB.1]];refine⟨⟨fun h=>(by cases h),fun h=>?_⟩,fun h=>by cases h⟩;rcases tY.1 h with q|⟨q,_⟩<;>(rw[show(nd ns x.toNat).k=ah ns x from rfl,ag]at q;cases q)
  .have ag:eX gs true r (ah ns x)=.go:=by
    unfold eX;rw[if_pos rfl,if_pos DY,if_neg aB]
   have:=Uq hs hg hx hr (k:=ah ns x) rfl (by
    by_cases h:bP gs (ah ns x) r=[]
    .exact .inr ⟨rfl,by by_cases h8:ah ns x=8;exact h8;exact absurd ⟨h8,h⟩ aB⟩
    .exact .inl h) ag [x] (sh ns.length (bP gs (ah ns x) r)) rfl
   exact⟨this.1.trans tY.symm,fun h q=>(this.2 h q).trans (ld q).symm⟩
 .rw[if_neg DY]
  have ag:eX gs true r (ah ns x)=.fail:=by
   unfold eX;rw[if_pos rfl,if_neg DY]
  simp only[List.length_nil,if_true];refine⟨⟨fun h=>(by cases h),fun h=>?_⟩,fun h=>by cases h⟩;rcases tY.1 h with q|⟨q,_⟩<;>(rw[show(nd ns x.toNat).k=ah ns x from rfl,ag]at q;cases q)
theorem ahS(hs:kW ns pos)(hg:dU gs gr){x:Int}{r:List Int}(hx:pos false x)(hr:∀y∈r,gr y)(hn:¬l5 ns gs false x r) :
  ((dh (ar ns gs) (sh ns.length r,[x])).2=true↔lB ns gs (.F false x r))∧((dh (ar ns gs) (sh ns.length r,[x])).2=true->∀q,q∈(dh (ar ns gs) (sh ns.length r,[x])).1.getD []↔∃g,j5 ns gs (.F false x r) g∧q=bW ns.length g):=by
 have aW:=hs.ok _ x hx
 have c1:((sh ns.length r).any (fun x=>decide (ah (ar ns gs) x=2))||[x].any fun x=>decide (ah (ar ns gs) x=1))=l4 ns gs false x r:=by
  unfold l4 jC;rw[rv (g:=fun y=>decide (ah gs y=2)) fun y hy=>by rw[qw (hg.ok y (hr y hy))]];simp[py aW,cQ,cR,Bool.or_comm]
 have c2:[x].any (aZ (ar ns gs))=aZ ns x:=by simp[Aq aW]
 have c3:(sh ns.length r).any (aZ (ar ns gs))=r.any (aZ gs):=rv fun y hy=>DW (hg.ok y (hr y hy));have c4:((sh ns.length r).any fun x'=>[x].any fun y=>gY (ar ns gs) x' y)=false:=Ut hg hr [x];unfold dh;simp only[c1,c2,c3,c4]
 cases hd:l4 ns gs false x r with
 |true =>
   simp only[if_true];refine⟨⟨fun _=>.inl hd,fun _=>by trivial⟩,fun _ q=>⟨fun h=>(by cases h),?_⟩⟩;rintro⟨g,h,_⟩
   cases h with
   |a h _=>rw[hd]at h;cases h
   |b h _=>rw[hd]at h;cases h
   |r h _ _ _=>rw[hd]at h;cases h
   |hd h _ _ _ _=>rw[hd]at h;cases h
 |false =>
 simp only[als,if_false]
 cases dD:r.any (aZ gs)with
 |true =>
   obtain⟨o1,o2,o3,o4⟩:=G4 (ns:=ns) (p:=false) hg hr dD;obtain⟨_,_,zD⟩:=at_mem dD
   have hk:(bO gs r).k=cy false∨(bO gs r).k=cy (!false):=by
    have:fT (bO gs r).k=true:=zD;unfold fT at this;simp at this;simp[cy];omega
   simp only[if_true,o1,o3,o4];refine⟨⟨fun _=>.inr (.inr (.inl dD)),fun _=>by split<;>rfl⟩,fun _ q=>?_⟩
   have key:(∃g,j5 ns gs (.F false x r) g∧q=bW ns.length g)↔∃r1,uW gs false r r1∧q=(sh ns.length r1,[x]):=by
    constructor
    .rintro⟨g,h,rfl⟩
     cases h with
     |a _ h=>simp[fA,dD]at h
     |b _ h=>simp[fA,dD]at h
     |r _ _ _ ho=>exact⟨_,ho,rfl⟩
     |hd _ _ h _ _=>rw[dD]at h;cases h
    .rintro⟨r1,ho,rfl⟩;exact⟨_,.r hd (by simp[fA,dD]) dD ho,rfl⟩
   rw[key];have t1:=o2 [(bO gs r).a,(bO gs r).b];have t2:=o2 [(bO gs r).a];have t3:=o2 [(bO gs r).b];simp only[alf,alJ]at t1 t2 t3;by_cases e:(bO gs r).k=10
   .rw[if_pos e,t1];simp only[Option.getD_some,alc,alv,or_false];constructor
    .rintro rfl;exact⟨_,(tX hk).2 (by rw[if_pos (show _=cy false from e)]),rfl⟩
    .rintro⟨r1,ho,rfl⟩;have:=(tX hk).1 ho;rw[if_pos (show _=cy false from e)]at this;rw[this]
   .rw[if_neg e,t2,t3];simp only[Option.getD_some,alc,alv,or_false];constructor
    .rintro(rfl|rfl)
     .exact⟨_,(tX hk).2 (by rw[if_neg (show¬_=cy false from e)];exact .inl rfl),rfl⟩
     .exact⟨_,(tX hk).2 (by rw[if_neg (show¬_=cy false from e)];exact .inr rfl),rfl⟩
    .rintro⟨r1,ho,rfl⟩;have:=(tX hk).1 ho;rw[if_neg (show¬_=cy false from e)]at this;rcases this with h|h<;>rw[h]<;>simp
 |false =>
 simp only[als,if_false]
 cases hl:aZ ns x with
 |true =>
   have hk:=(hs.ot.uO _ x hx hl).1
   have eN:bO (ar ns gs) [x]=nd ns x.toNat:=by
    unfold bO;rw[at_one (by rw[Aq aW];exact hl)];exact l6 aW
   have e9:(nd ns x.toNat).k=10:=hk;rw[eN,e9,at_one (by rw[Aq aW];exact hl)];simp only[if_true,show((10:Int)=9)=False from by simp,if_false,Uo];refine⟨⟨fun _=>.inr (.inl hl),fun _=>by trivial⟩,fun _ q=>?_⟩;simp only[Option.getD_some,alc,alv,or_false];constructor
   .rintro(rfl|rfl)
    .exact⟨_,.a hd (by simp[fA,hl,dD]),rfl⟩
    .exact⟨_,.b hd (by simp[fA,hl,dD]),rfl⟩
   .rintro⟨g,h,rfl⟩
    cases h with
    |a _ _=>exact .inl rfl
    |b _ _=>exact .inr rfl
    |r _ h _ _=>simp[fA,hl,dD]at h
    |hd _ h _ _ _=>rw[hl]at h;cases h
 |false =>
 simp only[als,if_false];have cT:ah ns x≠11:=fun h=>hn ⟨h,(wY hd).2,dD⟩
 have ld:∀q,(∃g,j5 ns gs (.F false x r) g∧q=bW ns.length g)↔∃g,rr gs false (nd ns x.toNat) r g∧q=bW ns.length g:=fun q=>by
  constructor
  .rintro⟨g,h,rfl⟩
   cases h with
   |a _ h=>simp[fA,hl]at h
   |b _ h=>simp[fA,hl]at h
   |r _ _ h _=>rw[dD]at h;cases h
   |hd _ _ _ _ h=>exact⟨_,h,rfl⟩
  .rintro⟨g,h,rfl⟩;exact⟨_,.hd hd hl dD cT h,rfl⟩
 have tY:lB ns gs (.F false x r)↔sD gs false (nd ns x.toNat) r:=by
  constructor
  .rintro(q|q|q|q|q)
   .rw[hd]at q;cases q
   .rw[hl]at q;cases q
   .rw[dD]at q;cases q
   .exact absurd q cT
   .exact q
  .exact fun h=>.inr (.inr (.inr (.inr h)))
 rw[Ul hg hr]
 have Uu:∀g,eX gs false r (nd ns x.toNat).k≠.go->¬rr gs false (nd ns x.toNat) r g:=fun g h hh=>by
  cases hh with
  |bD h' _=>exact h h'
  |bE h' _=>exact h h'
  |j4 h' _=>exact h h'
 cases uN:gy gs r with
 |nil =>
   have ag:eX gs false r (nd ns x.toNat).k=.fail:=by simp[eX,uN]
   simp only[List.length_nil,if_true];refine⟨⟨fun h=>(by cases h),fun h=>?_⟩,fun h=>by cases h⟩;rcases tY.1 h with q|⟨q,_⟩<;>(rw[ag]at q;cases q)
 |cons k' t =>
 cases t with
 |nil =>
   have hm:=Ur (X:=gs) (l:=r) (k:=k') (by rw[uN];simp);simp only[List.length_cons,List.length_nil,alC,an5,if_false,anB,anp];rw[G3 hg hr];by_cases aC:k'=ah ns x
   .subst aC;rw[show bP (ar ns gs) (ah ns x) [x]=[x]from by simp[bP,py aW]];have ag:eX gs false r (ah ns x)=.go:=by simp[eX,uN]
    have:=Uq hs hg hx hr (k:=ah ns x) rfl (.inl hm.1) ag (sh ns.length (bP gs (ah ns x) r)) [x] rfl;exact⟨this.1.trans tY.symm,fun h q=>(this.2 h q).trans (ld q).symm⟩
   .have eZ:¬k'=(nd ns x.toNat).k:=aC;have Md:¬ah ns x=k':=fun h=>aC h.symm;rw[show bP (ar ns gs) k' [x]=[]from by simp[bP,py aW,Md]];by_cases h8:k'=8
    .subst h8
     have ea:lA (ar ns gs) 8 (sh ns.length (bP gs 8 r)) []=eE gs (bP gs 8 r):=by
      unfold lA;simp only[show((8:Int)=7)=False from by simp,if_false,if_true];exact DX hg (yE hr 8) hm.1
     have eb:∀s,gA (ar ns gs) (sh ns.length (bP gs 8 r)) [] s=false:=fun s=>by
      unfold gA dY om;simp[Ug]
     unfold fJ;simp only[decide_true,amA,alQ,als,if_false,show((8:Int)=6)=False from by simp,ea];by_cases eO:eE gs (bP gs 8 r)=[]
     .have ag:eX gs false r (nd ns x.toNat).k=.done:=by
       unfold eX;rw[if_neg (by simp),uN];simp only;rw[if_neg eZ,if_pos ⟨trivial,eO⟩]
      rw[eO];simp only[List.all_nil,if_true,alJ,Option.getD_some];refine⟨⟨fun _=>tY.2 (.inl ag),fun _=>trivial⟩,fun _ q=>⟨fun h=>(by cases h),fun h=>?_⟩⟩;obtain⟨g,h,_⟩:=(ld q).1 h;exact absurd h (Uu g (by rw[ag];exact LY.noConfusion))
     .have ag:eX gs false r (nd ns x.toNat).k=.fail:=by
       unfold eX;rw[if_neg (by simp),uN];simp only;rw[if_neg eZ,if_neg (fun h=>eO h.2)]
      have:(eE gs (bP gs 8 r)).all (gA (ar ns gs) (sh ns.length (bP gs 8 r)) [])=false:=by
       cases hz:eE gs (bP gs 8 r)with
       |nil=>exact absurd hz eO
       |cons s t=>rw[List.all_cons,eb];rfl
      rw[this];simp only[als,if_false];refine⟨⟨fun h=>(by cases h),fun h=>?_⟩,fun h=>by cases h⟩;rcases tY.1 h with q|⟨q,_⟩<;>(rw[ag]at q;cases q)
    .have ag:eX gs false r (nd ns x.toNat).k=.fail:=by
      unfold eX;rw[if_neg (by simp),uN];simp only;rw[if_neg eZ,if_neg (fun h=>h8 h.1)]
     rw[show fJ (ar ns gs) k' (sh ns.length (bP gs k' r)) []=(none,false)from by simp[fJ,h8]];refine⟨⟨fun h=>(by cases h),fun h=>?_⟩,fun h=>by cases h⟩;rcases tY.1 h with q|⟨q,_⟩<;>(rw[ag]at q;cases q)
 |cons k2 t =>
   have ag:eX gs false r (nd ns x.toNat).k=.done:=by simp[eX,uN]
   simp only[List.length_cons];rw[if_neg (by omega),if_pos (by omega)];refine⟨⟨fun _=>tY.2 (.inl ag),fun _=>by trivial⟩,fun _ q=>⟨fun h=>(by cases h),fun h=>?_⟩⟩;obtain⟨g,h,_⟩:=(ld q).1 h;exact absurd h (Uu g (by rw[ag];exact LY.noConfusion))
end
end Go.Proofs.YtpmniabdmbmafaaGreatDoor

namespace Go.Proofs.YtpmniabdmbmafaaGreatDoor
open Go.Ab
def yF(d:Int)(q:SQ):SQ:=(sh d q.1,sh d q.2)
section
variable {ns gs:List TN}{pos:Bool->Int->Prop}{gr:Int->Prop}
theorem ahT(hg:dU gs gr){k:Int}{l r:List Int}(hl:∀y∈l,gr y)(hr:∀y∈r,gr y)(hk:∀y∈l,ah gs y=k)(aC:∀y∈r,ah gs y=k)(aB:l≠[]) :
  fJ (ar ns gs) k (sh ns.length l) (sh ns.length r)=((fJ gs k l r).1.map (List.map (yF ns.length)),(fJ gs k l r).2):=by
 have eC:k=6->∀{l:List Int},(∀y∈l,gr y)->(∀y∈l,ah gs y=k)->(sh ns.length l).map (fun x=>(nd (ar ns gs) x.toNat).a)=sh ns.length (l.map fun x=>(nd gs x.toNat).a)∧(sh ns.length l).map (fun x=>(nd (ar ns gs) x.toNat).b)=sh ns.length (l.map fun x=>(nd gs x.toNat).b):=fun h6 l hl hk=>by
  unfold sh;rw[alD,alD,alD,alD];constructor
  .refine alI fun y hy=>?_;have:(nd gs y.toNat).k=6:=by rw[<-h6];exact hk y hy
   simp only[Function.comp_def];rw[tV (hg.ok y (hl y hy))];unfold jx;rw[this];rfl
  .refine alI fun y hy=>?_;have:(nd gs y.toNat).k=6:=by rw[<-h6];exact hk y hy
   simp only[Function.comp_def];rw[tV (hg.ok y (hl y hy))];unfold jx;rw[this];rfl
 have c0:(sh (ns.length:Int) r).length=r.length:=by simp[sh]
 unfold fJ;rw[c0];by_cases h0:(!decide (k=8)&&decide (r.length=0))=true
 .rw[if_pos h0,if_pos h0];rfl
 rw[if_neg h0,if_neg h0];by_cases h6:k=6
 .rw[if_pos h6,if_pos h6];obtain⟨l1,l2⟩:=eC h6 hl hk;obtain⟨r1,r2⟩:=eC h6 hr aC;rw[l1,l2,r1,r2,ru,ru,ru,ru];rfl
 rw[if_neg h6,if_neg h6]
 have ea:lA (ar ns gs) k (sh ns.length l) (sh ns.length r)=lA gs k l r:=by
  unfold lA;by_cases h7:k=7
  .rw[if_pos h7,if_pos h7];refine DX hg hr fun h=>h0 ?_;subst h7;rw[h];rfl
  .rw[if_neg h7,if_neg h7];by_cases h8:k=8
   .rw[if_pos h8,if_pos h8];exact DX hg hl aB
   .rw[if_neg h8,if_neg h8]
 have eb:∀s,gA (ar ns gs) (sh ns.length l) (sh ns.length r) s=gA gs l r s:=fun s=>by
  unfold gA;rw[yD hg hl,yD hg hr];simp[sh]
 have eh:∀s,po (ar ns gs) (sh ns.length l) (sh ns.length r) s=yF ns.length (po gs l r s):=fun s=>by
  unfold po;rw[yD hg hl,yD hg hr];rfl
 rw[ea,show gA (ar ns gs) (sh ns.length l) (sh ns.length r)=gA gs l r from funext eb];by_cases ha:(lA gs k l r).all (gA gs l r)=true
 .rw[if_pos ha,if_pos ha,show po (ar ns gs) (sh ns.length l) (sh ns.length r)=yF ns.length ∘ po gs l r from funext eh];simp
 .rw[if_neg ha,if_neg ha];rfl
theorem ahU(hg:dU gs gr){l r:List Int}(hl:∀y∈l,gr y)(hr:∀y∈r,gr y):dh (ar ns gs) (sh ns.length l,sh ns.length r)=((dh gs (l,r)).1.map (List.map (yF ns.length)),(dh gs (l,r)).2):=by
 have c1:((sh ns.length l).any (fun x=>decide (ah (ar ns gs) x=2))||(sh ns.length r).any fun x=>decide (ah (ar ns gs) x=1))=(l.any (fun x=>decide (ah gs x=2))||r.any fun x=>decide (ah gs x=1)):=by
  rw[rv (g:=fun y=>decide (ah gs y=2)) fun y hy=>by rw[qw (hg.ok y (hl y hy))],rv (g:=fun y=>decide (ah gs y=1)) fun y hy=>by rw[qw (hg.ok y (hr y hy))]]
 have c2:(sh ns.length l).any (aZ (ar ns gs))=l.any (aZ gs):=rv fun y hy=>DW (hg.ok y (hl y hy));have c3:(sh ns.length r).any (aZ (ar ns gs))=r.any (aZ gs):=rv fun y hy=>DW (hg.ok y (hr y hy));have c4:((sh ns.length l).any fun x=>(sh ns.length r).any fun y=>gY (ar ns gs) x y)=false:=Ut hg hl _
 have c5:(l.any fun x=>r.any fun y=>gY gs x y)=false:=ama.2 fun x hx=>by
  simp only[anF];refine ama.2 fun y _=>?_;have:=hg.nv x (hl x hx);unfold gY;simp[this]
 unfold dh;simp only[c1,c2,c3,c4,c5,Ul hg hl];by_cases h1:(l.any (fun x=>decide (ah gs x=2))||r.any fun x=>decide (ah gs x=1))=true
 .rw[if_pos h1,if_pos h1];rfl
 rw[if_neg h1,if_neg h1];by_cases h2:l.any (aZ gs)=true
 .rw[if_pos h2,if_pos h2];obtain⟨o1,o2,o3,o4⟩:=G4 (ns:=ns) (p:=true) hg hl h2;have t1:=o2 [(bO gs l).a,(bO gs l).b];have t2:=o2 [(bO gs l).a];have t3:=o2 [(bO gs l).b];simp only[alf,alJ]at t1 t2 t3;rw[o1,o3,o4,t1,t2,t3];by_cases e:(bO gs l).k=10
  .rw[if_pos e,if_pos e];rfl
  .rw[if_neg e,if_neg e];rfl
 rw[if_neg h2,if_neg h2];by_cases h3:r.any (aZ gs)=true
 .rw[if_pos h3,if_pos h3];obtain⟨o1,o2,o3,o4⟩:=G4 (ns:=ns) (p:=true) hg hr h3;have t1:=o2 [(bO gs r).a,(bO gs r).b];have t2:=o2 [(bO gs r).a];have t3:=o2 [(bO gs r).b];simp only[alf,alJ]at t1 t2 t3;rw[o1,o3,o4,t1,t2,t3];by_cases e:(bO gs r).k=9
  .rw[if_pos e,if_pos e];rfl
  .rw[if_neg e,if_neg e];rfl
 rw[if_neg h3,if_neg h3];simp only[als,if_false]
 cases hk:gy gs l with
 |nil=>rfl
 |cons k t =>
 cases t with
 |nil =>
   simp only[List.length_cons,List.length_nil,alC,an5,if_false,anB,anp];rw[G3 hg hl,G3 hg hr];refine ahT hg (yE hl k) (yE hr k) (fun y hy=>by simpa using(aly.1 hy).2) (fun y hy=>by simpa using(aly.1 hy).2) (Ur (X:=gs) (l:=l) (k:=k) (by rw[hk];simp)).1
 |cons k2 t =>
   simp only[List.length_cons];rw[if_neg (by omega),if_pos (by omega),if_neg (by omega),if_pos (by omega)];rfl
theorem G5(hg:dU gs gr){r:List Int}(h:∀y∈r,gr y)(fx:Int):du fx (ar ns gs) (sh ns.length r) = -1∧lZ fx (ar ns gs) (sh ns.length r)=false:=by
 have hv:∀y∈r,kT fx (ar ns gs) (y+(ns.length:Int))=false:=fun y hy=>by
  unfold kT;rw[qw (hg.ok y (h y hy))];simp[hg.nv y (h y hy)]
 constructor
 .unfold du
  cases r with
  |nil=>rfl
  |cons y t =>
    rw[if_neg (by simp[sh]),if_neg];intro hall;have:=alr.1 hall (y+(ns.length:Int)) (by simp[sh]);rw[hv y alb]at this;cases this
 .unfold lZ;rw[rv (g:=fun _=>false) hv];simp
theorem Uv(hs:kW ns pos){p:Bool}{x:Int}(hx:pos p x)(k:Int)(hk:k=1∨k=2):du 1000 (ar ns gs) (bV (ar ns gs) k [x])=(if ah ns x=11 then(nd ns x.toNat).a else -1)∧lZ 1000 (ar ns gs) (bV (ar ns gs) k [x])=decide (ah ns x=11):=by
 have aW:=hs.ok p x hx;by_cases cT:ah ns x=11
 .have hv:=hs.v p x hx cT
  have e:bV (ar ns gs) k [x]=[x]:=by
   unfold bV;rw[am9 (by rw[py aW,cT];simp;omega)];rfl
  have eS:kT 1000 (ar ns gs) x=true:=by
   unfold kT;rw[py aW,l6 aW,cT];simp[hv.2]
  rw[e,if_pos cT,cT];constructor
  .unfold du;rw[if_neg (by simp),if_pos]
   .simp[l6 aW]
   .simp[eS]
  .simp[lZ,eS]
 .have eS:kT 1000 (ar ns gs) x=false:=by
   unfold kT;rw[py aW];simp[cT]
  rw[if_neg cT];by_cases e:ah ns x=k
  .have e2:bV (ar ns gs) k [x]=[]:=by
    unfold bV;rw[an2 (by rw[py aW,e];simp)];rfl
   rw[e2];simp[du,lZ,cT]
  .have e2:bV (ar ns gs) k [x]=[x]:=by
    unfold bV;rw[am9 (by rw[py aW];simp[e])];rfl
   rw[e2];simp[du,lZ,eS,cT]
structure Cs(ns gs:List TN)(f:Fm)(st ab be:Prop):Prop where
 st:kU 1000 (ar ns gs) (bW ns.length f)=true↔st
 ab:iu 1000 (ar ns gs) (bW ns.length f)=true↔ab
 be:iw 1000 (ar ns gs) (bW ns.length f)=true↔be
 mx:hY 1000 (ar ns gs) (bW ns.length f)=false
theorem G6(hs:kW ns pos)(hg:dU gs gr){x:Int}{r:List Int}(hx:pos true x)(hr:∀y∈r,gr y):Cs ns gs (.F true x r) (l5 ns gs true x r) (l5 ns gs true x r) False∧(l5 ns gs true x r->aQ 1000 (ar ns gs) (bW ns.length (.F true x r))=(nd ns x.toNat).a):=by
 have aW:=hs.ok _ x hx;have a1:=Uv (gs:=gs) hs hx 1 (.inl rfl)
 have b1:bQ 1000 (ar ns gs) ([x],sh ns.length r) = -1∧tS 1000 (ar ns gs) ([x],sh ns.length r)=false:=by
  unfold bQ tS;simp only[tW hg hr];exact G5 hg (fun y hy=>hr y (aly.1 hy).1) _
 have a2:aQ 1000 (ar ns gs) ([x],sh ns.length r)=if ah ns x=11 then(nd ns x.toNat).a else -1:=a1.1
 have a3:tR 1000 (ar ns gs) ([x],sh ns.length r)=decide (ah ns x=11):=a1.2
 have he:qu (ar ns gs) ([x],sh ns.length r)=(decide (ah ns x=2)||aZ ns x||jC gs true r||r.any (aZ gs)):=by
  unfold qu
  have e1:[x].any (sC (ar ns gs) (sh ns.length r))=(decide (ah ns x=2)||aZ ns x):=by
   simp only[List.any_cons,List.any_nil,anQ];unfold sC;rw[Us hg hr,py aW];show _=(decide (ah ns x=2)||(decide (ah ns x=9)||decide (ah ns x=10)))
   rw[anQ,anm]
  have e2:(sh ns.length r).any (uV (ar ns gs))=(jC gs true r||r.any (aZ gs)):=by
   rw[rv (g:=fun y=>decide (ah gs y=1)||aZ gs y) fun y hy=>by
    unfold uV;rw[qw (hg.ok y (hr y hy)),anm]
    rfl]
   unfold jC;simp only[cR,if_true];rw[amL];simp only[alF,alG];constructor
   .rintro⟨y,h,h1|h1⟩
    .exact .inl ⟨y,h,h1⟩
    .exact .inr ⟨y,h,h1⟩
   .rintro(⟨y,h,h1⟩|⟨y,h,h1⟩)
    .exact⟨y,h,.inl h1⟩
    .exact⟨y,h,.inr h1⟩
  simp only[e1,e2,anm]
 have cT:ah ns x=11->(0:Int)<=(nd ns x.toNat).a:=fun h=>(hs.v _ x hx h).1
 have DZ:ah ns x=11->aZ ns x=false:=fun h=>by
  have:(nd ns x.toNat).k=11:=h;unfold aZ fT;rw[this];rfl
 refine⟨⟨?_,?_,?_,?_⟩,fun h=>?_⟩
 .show kU 1000 (ar ns gs) ([x],sh ns.length r)=true↔_;unfold kU l5;rw[he,a2,b1.1,b1.2,a3];by_cases h:ah ns x=11
  .simp[h,cT h,DZ h]
  .simp[h]
 .show iu 1000 (ar ns gs) ([x],sh ns.length r)=true↔_;unfold iu l5;rw[he,a2,b1.1,b1.2];by_cases h:ah ns x=11
  .simp[h,cT h,DZ h]
  .simp[h]
 .show iw 1000 (ar ns gs) ([x],sh ns.length r)=true↔_;unfold iw;rw[b1.1];simp
 .show hY 1000 (ar ns gs) ([x],sh ns.length r)=false;unfold hY;rw[a2,b1.1,b1.2,a3];by_cases h:ah ns x=11
  .simp[h,cT h]
  .simp[h]
 .show aQ 1000 (ar ns gs) ([x],sh ns.length r)=_;rw[a2,if_pos h.1]
theorem G7(hs:kW ns pos)(hg:dU gs gr){x:Int}{r:List Int}(hx:pos false x)(hr:∀y∈r,gr y):Cs ns gs (.F false x r) (l5 ns gs false x r) False (l5 ns gs false x r)∧(l5 ns gs false x r->bQ 1000 (ar ns gs) (bW ns.length (.F false x r))=(nd ns x.toNat).a):=by
 have aW:=hs.ok _ x hx;have a1:=Uv (gs:=gs) hs hx 2 (.inr rfl)
 have b1:aQ 1000 (ar ns gs) (sh ns.length r,[x]) = -1∧tR 1000 (ar ns gs) (sh ns.length r,[x])=false:=by
  unfold aQ tR;simp only[tW hg hr];exact G5 hg (fun y hy=>hr y (aly.1 hy).1) _
 have a2:bQ 1000 (ar ns gs) (sh ns.length r,[x])=if ah ns x=11 then(nd ns x.toNat).a else -1:=a1.1
 have a3:tS 1000 (ar ns gs) (sh ns.length r,[x])=decide (ah ns x=11):=a1.2
 have he:qu (ar ns gs) (sh ns.length r,[x])=(jC gs false r||r.any (aZ gs)||decide (ah ns x=1)||aZ ns x):=by
  unfold qu
  have e1:[x].any (uV (ar ns gs))=(decide (ah ns x=1)||aZ ns x):=by
   simp only[List.any_cons,List.any_nil,anQ];unfold uV;rw[py aW,anm];rfl
  have e2:(sh ns.length r).any (sC (ar ns gs) [x])=(jC gs false r||r.any (aZ gs)):=by
   rw[rv (g:=fun y=>decide (ah gs y=2)||aZ gs y) fun y hy=>by
    unfold sC gY;rw[qw (hg.ok y (hr y hy))];have:=hg.nv y (hr y hy);simp only[this,decide_false,alQ,List.any_cons,List.any_nil,anQ];rw[anm]
    rfl]
   unfold jC;simp only[cR,if_true];rw[amL];simp only[alF,alG];constructor
   .rintro⟨y,h,h1|h1⟩
    .exact .inl ⟨y,h,h1⟩
    .exact .inr ⟨y,h,h1⟩
   .rintro(⟨y,h,h1⟩|⟨y,h,h1⟩)
    .exact⟨y,h,.inl h1⟩
    .exact⟨y,h,.inr h1⟩
  simp only[e1,e2,anm]
 have cT:ah ns x=11->(0:Int)<=(nd ns x.toNat).a:=fun h=>(hs.v _ x hx h).1
 have DZ:ah ns x=11->aZ ns x=false:=fun h=>by
  have:(nd ns x.toNat).k=11:=h;unfold aZ fT;rw[this];rfl
 refine⟨⟨?_,?_,?_,?_⟩,fun h=>?_⟩
 .show kU 1000 (ar ns gs) (sh ns.length r,[x])=true↔_;unfold kU l5;rw[he,a2,b1.1,b1.2];by_cases h:ah ns x=11
  .simp[h,cT h,DZ h]
  .simp[h]
 .show iu 1000 (ar ns gs) (sh ns.length r,[x])=true↔_;unfold iu;rw[b1.1];simp
 .show iw 1000 (ar ns gs) (sh ns.length r,[x])=true↔_;unfold iw l5;rw[he,a2,b1.1,b1.2];by_cases h:ah ns x=11
  .simp[h,cT h,DZ h]
  .simp[h]
 .show hY 1000 (ar ns gs) (sh ns.length r,[x])=false;unfold hY;rw[a2,b1.1,b1.2,a3];by_cases h:ah ns x=11
  .simp[h,cT h]
  .simp[h]
 .show bQ 1000 (ar ns gs) (sh ns.length r,[x])=_;rw[a2,if_pos h.1]
theorem Me(hg:dU gs gr){l r:List Int}(hl:∀y∈l,gr y)(hr:∀y∈r,gr y):Cs ns gs (.G l r) False False False:=by
 have b1:aQ 1000 (ar ns gs) (sh ns.length l,sh ns.length r) = -1∧tR 1000 (ar ns gs) (sh ns.length l,sh ns.length r)=false:=by
  unfold aQ tR;simp only[tW hg hl];exact G5 hg (fun y hy=>hl y (aly.1 hy).1) _
 have b2:bQ 1000 (ar ns gs) (sh ns.length l,sh ns.length r) = -1∧tS 1000 (ar ns gs) (sh ns.length l,sh ns.length r)=false:=by
  unfold bQ tS;simp only[tW hg hr];exact G5 hg (fun y hy=>hr y (aly.1 hy).1) _
 refine⟨?_,?_,?_,?_⟩
 .show kU 1000 (ar ns gs) (sh ns.length l,sh ns.length r)=true↔_;unfold kU;rw[b1.1,b2.1];simp
 .show iu 1000 (ar ns gs) (sh ns.length l,sh ns.length r)=true↔_;unfold iu;rw[b1.1];simp
 .show iw 1000 (ar ns gs) (sh ns.length l,sh ns.length r)=true↔_;unfold iw;rw[b2.1];simp
 .show hY 1000 (ar ns gs) (sh ns.length l,sh ns.length r)=false;unfold hY;rw[b1.2,b2.2];simp
end
end Go.Proofs.YtpmniabdmbmafaaGreatDoor

namespace Go.Proofs.YtpmniabdmbmafaaGreatDoor
open Go.Ab
theorem ahV{X:List TN}{q:SQ}(h:(dh X q).2=false):(dh X q).1=none:=by
 unfold dh at h ⊢;by_cases h1:(q.1.any (fun x=>decide (ah X x=2))||q.2.any fun x=>decide (ah X x=1))=true
 .rw[if_pos h1]at h;cases h
 rw[if_neg h1]at h ⊢;by_cases h2:q.1.any (aZ X)=true
 .rw[if_pos h2]at h;split at h<;>cases h
 rw[if_neg h2]at h ⊢;by_cases h3:q.2.any (aZ X)=true
 .rw[if_pos h3]at h;split at h<;>cases h
 rw[if_neg h3]at h ⊢;by_cases h4:(q.1.any fun x=>q.2.any fun y=>gY X x y)=true
 .rw[if_pos h4]at h;cases h
 rw[if_neg h4]at h ⊢;by_cases h5:(gy X q.1).length=0
 .rw[if_pos h5]
 rw[if_neg h5]at h ⊢;by_cases h6:1<(gy X q.1).length
 .rw[if_pos h6]at h;cases h
 rw[if_neg h6]at h ⊢;unfold fJ at h ⊢;by_cases h7:(!decide ((gy X q.1).getD 0 0=8)&&decide ((bP X ((gy X q.1).getD 0 0) q.2).length=0))=true
 .rw[if_pos h7]
 rw[if_neg h7]at h ⊢;by_cases h8:(gy X q.1).getD 0 0=6
 .rw[if_pos h8]at h;cases h
 rw[if_neg h8]at h ⊢;split at h
 .cases h
 .rename_i h9;rw[if_neg h9]
section
variable {ns gs:List TN}{pos:Bool->Int->Prop}{gr:Int->Prop}
theorem D0(hs:kW ns pos)(hg:dU gs gr){f:Fm}(hf:ou pos gr f):hY 1000 (ar ns gs) (bW ns.length f)=false∧(kV 1000 (ar ns gs) (bW ns.length f)=false↔lB ns gs f) ∧
  (∀q,fZ 1000 (ar ns gs) (bW ns.length f)=true->q∈(jB (ar ns gs) (bW ns.length f)).1->lB ns gs f∧∃g,j5 ns gs f g∧q=bW ns.length g) ∧
  (∀g,lB ns gs f->j5 ns gs f g->fZ 1000 (ar ns gs) (bW ns.length f)=true∧bW ns.length g∈(jB (ar ns gs) (bW ns.length f)).1):=by
 have key:∀(st ab be:Prop),Cs ns gs f st ab be->(st->lB ns gs f∧∀g,¬j5 ns gs f g)->(¬st->((dh (ar ns gs) (bW ns.length f)).2=true↔lB ns gs f)∧((dh (ar ns gs) (bW ns.length f)).2=true->∀q,q∈(dh (ar ns gs) (bW ns.length f)).1.getD []↔∃g,j5 ns gs f g∧q=bW ns.length g)) ->
   hY 1000 (ar ns gs) (bW ns.length f)=false∧(kV 1000 (ar ns gs) (bW ns.length f)=false↔lB ns gs f) ∧
  (∀q,fZ 1000 (ar ns gs) (bW ns.length f)=true->q∈(jB (ar ns gs) (bW ns.length f)).1->lB ns gs f∧∃g,j5 ns gs f g∧q=bW ns.length g) ∧
  (∀g,lB ns gs f->j5 ns gs f g->fZ 1000 (ar ns gs) (bW ns.length f)=true∧bW ns.length g∈(jB (ar ns gs) (bW ns.length f)).1):=by
  intro st ab be hc h1 h2
  have hl:fZ 1000 (ar ns gs) (bW ns.length f)=true↔¬st:=by
   unfold fZ;rw[hc.mx,<-hc.st];simp
  by_cases ag:st
  .have jO:fZ 1000 (ar ns gs) (bW ns.length f)=false:=by
    cases e:fZ 1000 (ar ns gs) (bW ns.length f)with
    |false=>rfl
    |true=>exact absurd ag (hl.1 e)
   refine⟨hc.mx,⟨fun _=>(h1 ag).1,fun _=>by unfold kV;rw[jO];rfl⟩,fun q h=>(by rw[jO]at h;cases h),fun g _ h=>absurd h ((h1 ag).2 g)⟩
  .obtain⟨h3,h4⟩:=h2 ag;have jO:=hl.2 ag;refine⟨hc.mx,?_,fun q _ hq=>?_,fun g ho h=>⟨jO,(h4 (h3.2 ho) _).2 ⟨g,h,rfl⟩⟩⟩
   .unfold kV;rw[jO,<-h3];show(true&&!(dh (ar ns gs) (bW ns.length f)).2)=false↔_;cases (dh (ar ns gs) (bW ns.length f)).2<;>simp
   .have bX:q∈(dh (ar ns gs) (bW ns.length f)).1.getD []:=hq
    cases e:(dh (ar ns gs) (bW ns.length f)).2 with
    |false=>rw[ahV e]at bX;cases bX
    |true=>exact⟨h3.1 e,(h4 e q).1 bX⟩
 have Uw:∀{p:Bool} {x:Int} {r:List Int},pos p x->l5 ns gs p x r->lB ns gs (.F p x r)∧∀g,¬j5 ns gs (.F p x r) g:=fun {p x r} hx ⟨cT,he,hl⟩=>by
  have nE:aZ ns x=false:=by
   have:(nd ns x.toNat).k=11:=cT;unfold aZ fT;rw[this];rfl
  refine⟨.inr (.inr (.inr (.inl cT))),fun g h=>?_⟩
  cases h with
  |a _ h=>simp[fA,nE]at h
  |b _ h=>simp[fA,nE]at h
  |r _ _ h _=>rw[hl]at h;cases h
  |hd _ _ _ h _=>exact h cT
 cases f with
 |G l r =>
   obtain⟨⟨_,h2⟩,_,h4⟩:=hf;refine key _ _ _ (Me hg h2 h4) (fun h=>h.elim) fun _=>?_;have e:dh (ar ns gs) (bW ns.length (.G l r))=((dh gs (l,r)).1.map (List.map (yF ns.length)),(dh gs (l,r)).2):=ahU hg h2 h4;rw[e];refine⟨Iff.rfl,fun _ q=>?_⟩
   have e2:((dh gs (l,r)).1.map (List.map (yF ns.length))).getD []=((dh gs (l,r)).1.getD []).map (yF ns.length):=by
    cases (dh gs (l,r)).1<;>rfl
   rw[e2,ak6];constructor
   .rintro⟨q',bX,rfl⟩;exact⟨_,.g bX,rfl⟩
   .rintro⟨g,h,rfl⟩
    cases h with
    |g hq=>exact⟨_,hq,rfl⟩
 |F p x r =>
   obtain⟨h1,_,h3⟩:=hf
   cases p with
   |true=>exact key _ _ _ (G6 hs hg h1 h3).1 (Uw h1) fun h=>ahR hs hg h1 h3 h
   |false=>exact key _ _ _ (G7 hs hg h1 h3).1 (Uw h1) fun h=>ahS hs hg h1 h3 h
theorem Ax{l:List Int}{k:Int}(h:gJ l∧∀y∈l,gr y):gJ (bV gs k l)∧∀y∈bV gs k l,gr y:=⟨List.Pairwise.filter _ h.1,fun y hy=>h.2 y (aly.1 hy).1⟩
theorem Ux(hs:kW ns pos)(hg:dU gs gr){f:Fm}(hf:ou pos gr f)(h:iu 1000 (ar ns gs) (bW ns.length f)=true):∃x r,f=.F true x r∧l5 ns gs true x r∧aQ 1000 (ar ns gs) (bW ns.length f)=(nd ns x.toNat).a:=by
 cases f with
 |G l r=>exact((Me hg hf.1.2 hf.2.2).ab.1 h).elim
 |F p x r =>
   cases p with
   |true =>
     have hc:=G6 hs hg hf.1 hf.2.2;have:=hc.1.ab.1 h;exact⟨x,r,rfl,this,hc.2 this⟩
   |false=>exact((G7 hs hg hf.1 hf.2.2).1.ab.1 h).elim
theorem Uy(hs:kW ns pos)(hg:dU gs gr){f:Fm}(hf:ou pos gr f)(h:iw 1000 (ar ns gs) (bW ns.length f)=true):∃x r,f=.F false x r∧l5 ns gs false x r∧bQ 1000 (ar ns gs) (bW ns.length f)=(nd ns x.toNat).a:=by
 cases f with
 |G l r=>exact((Me hg hf.1.2 hf.2.2).be.1 h).elim
 |F p x r =>
   cases p with
   |true=>exact((G6 hs hg hf.1 hf.2.2).1.be.1 h).elim
   |false =>
     have hc:=G7 hs hg hf.1 hf.2.2;have:=hc.1.be.1 h;exact⟨x,r,rfl,this,hc.2 this⟩
theorem Uz(hs:kW ns pos)(hg:dU gs gr){f0:Fm}(h0:ou pos gr f0){q:SQ}(h:gf 1000 (ar ns gs) (bW ns.length f0) q):∃f,ou pos gr f∧q=bW ns.length f:=by
 induction h with
 |root=>exact⟨f0,h0,rfl⟩
 |to _ hl hq ih =>
   obtain⟨f,hf,rfl⟩:=ih;obtain⟨ho,g,o7,e⟩:=(D0 hs hg hf).2.2.1 _ hl hq;exact⟨g,Mb hs hg hf o7 ho,e⟩
 |pair _ _ ha hb hv vk sJ =>
   obtain⟨f1,ph,rfl⟩:=vk;obtain⟨f2,pj,rfl⟩:=sJ;obtain⟨x,r,rfl,_,_⟩:=Ux hs hg ph ha;obtain⟨y,l,rfl,_,_⟩:=Uy hs hg pj hb;refine⟨.G (bV gs 1 l) (bV gs 2 r),⟨Ax pj.2,Ax ph.2⟩,?_⟩;show(bV (ar ns gs) 1 (sh ns.length l),bV (ar ns gs) 2 (sh ns.length r))=_;rw[tW hg pj.2.2,tW hg ph.2.2];rfl
theorem UA(hs:kW ns pos)(hg:dU gs gr){f0:Fm}(h0:ou pos gr f0):pw 1000 (ar ns gs) (bW ns.length f0)↔∃I,yx ns gs I∧I f0:=by
 constructor
 .intro aW;have ok:∀f,ou pos gr f->gf 1000 (ar ns gs) (bW ns.length f0) (bW ns.length f)->lB ns gs f:=fun f hf hr=>((D0 hs hg hf).2.1).1 (aW _ hr).2;refine⟨fun f=>ou pos gr f∧gf 1000 (ar ns gs) (bW ns.length f0) (bW ns.length f),⟨fun f hf=>ok f hf.1 hf.2,fun f g hf hl=>?_,fun x r y l hx hy sx sy ha=>?_⟩,h0,.root⟩
  .have ho:=ok f hf.1 hf.2;obtain⟨h1,h2⟩:=(D0 hs hg hf.1).2.2.2 g ho hl;exact⟨Mb hs hg hf.1 hl ho,.to hf.2 h1 h2⟩
  .have c1:=G6 hs hg hx.1.1 hx.1.2.2;have c2:=G7 hs hg hy.1.1 hy.1.2.2;refine⟨⟨Ax hy.1.2,Ax hx.1.2⟩,?_⟩;have:=gf.pair hx.2 hy.2 (c1.1.ab.2 sx) (c2.1.be.2 sy) (by rw[c1.2 sx,c2.2 sy];exact ha)
   have e:(bV (ar ns gs) 1 (bW ns.length (.F false y l)).1,bV (ar ns gs) 2 (bW ns.length (.F true x r)).2)=bW ns.length (.G (bV gs 1 l) (bV gs 2 r)):=by
    show(bV (ar ns gs) 1 (sh ns.length l),bV (ar ns gs) 2 (sh ns.length r))=_;rw[tW hg hy.1.2.2,tW hg hx.1.2.2];rfl
   rwa [e]at this
 .rintro⟨I,hI,Bj⟩ q hq
  have key:∃f,ou pos gr f∧I f∧q=bW ns.length f:=by
   induction hq with
   |root=>exact⟨f0,h0,Bj,rfl⟩
   |to _ hl hq ih =>
     obtain⟨f,hf,yr,rfl⟩:=ih;obtain⟨ho,g,o7,e⟩:=(D0 hs hg hf).2.2.1 _ hl hq;exact⟨g,Mb hs hg hf o7 ho,hI.to _ _ yr o7,e⟩
   |pair _ _ ha hb hv vk sJ =>
     obtain⟨f1,ph,zW,rfl⟩:=vk;obtain⟨f2,pj,oM,rfl⟩:=sJ;obtain⟨x,r,rfl,s1,a1⟩:=Ux hs hg ph ha;obtain⟨y,l,rfl,s2,a2⟩:=Uy hs hg pj hb;refine⟨.G (bV gs 1 l) (bV gs 2 r),⟨Ax pj.2,Ax ph.2⟩,hI.pair x r y l zW oM s1 s2 (by rw[<-a1,<-a2];exact hv),?_⟩;show(bV (ar ns gs) 1 (sh ns.length l),bV (ar ns gs) 2 (sh ns.length r))=_;rw[tW hg pj.2.2,tW hg ph.2.2];rfl
  obtain⟨f,hf,yr,rfl⟩:=key;have:=D0 hs hg hf;exact⟨this.1,this.2.1.2 (hI.ok _ yr)⟩
theorem ahW{ts T:List TN}{pt pT:Bool->Int->Prop}{C:Int->Bool->List Int->Prop}(hb:GQ ts T pt pT C)(h1:kW ts pt)(h2:kW T pT)(hg:dU gs gr){i k g:Int}(hi:pt true i)(hc:C k true [i])(cX:gr g) :
  pw 1000 (ar ts gs) ([i],[g+ts.length])↔pw 1000 (ar T gs) ([k],[g+T.length]):=by
 have g1:gJ [g]∧∀y∈[g],gr y:=⟨am8 _ _,fun y hy=>by rw[ak3.1 hy];exact cX⟩
 have e1:=UA h1 hg (f0:=.F true i [g]) ⟨hi,g1⟩;have e2:=UA h2 hg (f0:=.F true k [g]) ⟨(hb.ot _ _ _ hc).1,g1⟩;refine(show pw 1000 (ar ts gs) ([i],[g+ts.length])↔_ from e1).trans (Iff.trans ?_ (show pw 1000 (ar T gs) ([k],[g+T.length])↔_ from e2).symm);constructor
 .rintro⟨I,hI,h⟩
  exact⟨_,ahD hb h2.ot hI,.F (hb.ot _ _ _ hc).1 hc (fun _ hq=>hq) fun j ⟨i',aq,ho⟩ hn r' hr=>by
   rw[ak3.1 aq]at ho
   exact hI.open_ h ho hn hr⟩
 .rintro⟨I,hI,h⟩;exact⟨_,ahF hb h1.ot hI,.F hi hc (fun j hj=>⟨i,ak3.2 rfl,hj⟩) fun x hx hn r' hr=>hI.open_ h hx hn hr⟩
end
end Go.Proofs.YtpmniabdmbmafaaGreatDoor

namespace Go.Proofs.YtpmniabdmbmafaaGreatDoor
open Go.Ab
end Go.Proofs.YtpmniabdmbmafaaGreatDoor

