/-
  The generic layer, part 88: a text is seen in a builder's bytes. (with the parts that follow it)
-/
import Derived.Test.YtpmniabdmbmafaaGreatDoorPTH
import Derived.Test.YtpmniabdmbmafaaGreatDoorPTG
import Derived.Lib.UnsafeStr
import Derived.Deep.Upon
import Derived.Lib.MakeNoZero
set_option linter.all false
set_option maxHeartbeats 16000000
namespace Go.Ab
theorem adT{P:Program}{e:TypeId}(hc:P.cellsOf e=1)(count o n:Nat)(hn:o+n<=count):liesAt P P.depth e count o e n=true:=by
 have hd:P.depth=(2*(P.types.size+Made.depth)+1)+1:=rfl;rw[hd];simp only[liesAt,alF];left;rw[hd];simp[rowAt,hc,hn,sameLayout,Nat.mod_one]
theorem adU{P:Program}(w:World)(pt it ty e:TypeId)(hp:P.underlying pt=some (.pointer e))(hc:P.cellsOf e=1)(g o cells:Nat)(nZ:w.shape? g=some (e,cells))(l:List UInt8)(h0:l≠[])(hn:o+l.length<=cells)(Q9:l.length<=9223372036854775807)
  (hcell:∀j x,l[j]?=some x->w.cell? ((⟨g,o,none⟩:Addr).add j)=some (.int .u8 x.toNat)) :
  (Builtin.unsafeString_ #[pt,it] ty #[.pointer (some ⟨g,o,none⟩),.int .i64 l.length]).run P w=.ok (.string ⟨l.toArray⟩) (w.freeze ⟨g,o,none⟩ l.length):=by
 have hl:l.length≠0:=by simpa using h0
 have CW:=Lib.run_loadBytes (P:=P) w l ⟨g,o,none⟩ .empty hcell;have adV:=adT (P:=P) hc (cells / P.cellsOf e) o l.length (by rw[hc];simpa using hn);have Ik:¬(9223372036854775807:Int)<(l.length:Int):=by omega
 obtain⟨z1,z2,z3,adW⟩:∃z1 z2 z3,Builtin.unsafeString_ #[pt,it] ty #[.pointer (some ⟨g,o,none⟩),.int .i64 l.length] =
  (do
   let n <-asInt (.int .i64 l.length)
   if n<0 then runtimePanic (.error z1)
   if n > IntKind.i64.max then unsupported (.unsafePointer z2)
   if n=0 then pure (.string .empty)
   else if<-variablesAt ⟨g,o,none⟩ (<-elemOf pt) n.toNat then do
    let s <-loadBytes ⟨g,o,none⟩ .empty n.toNat
    freeze ⟨g,o,none⟩ n.toNat
    pure (.string s)
   else unsupported (.unsafePointer z3)) :=⟨_,_,_,rfl⟩
 rw[adW];have adX:IntKind.i64.max=9223372036854775807:=rfl;have adY:¬(l.length:Int)<0:=by omega
 simp[asInt,asIntOf,adX,Ik,adY,hl,variablesAt,nZ,elemOf,run_underlying hp,adV,CW]
def fV(c:UInt8):D:=.int .u8 (c.toNat:Nat)
section
variable {P:Program}{cf:Cf}{Q:Exit->St->Prop}{s:St}{k:List It}
theorem adZ{d:Nat}{x:Operand}{at':Array TypeId}{ty:TypeId}{pos:String}{af:Array Edge}{g:Option (Nat×Bool)}(p:Name)(tg:Option Nat)(w0:W)(xs:List D)(l:Nat)(hd:d<cf.n)(hx:ev s x=.vw p 0 l)(hp:s.hp p=some (.bB tg w0 xs))(hl:0<l)(h:run P cf k Q (s.put d (.el p 0 0))) :
  ia P cf { dst:=some d,op:=.call { callee:=.builtin .unsafeSliceData,args:=#[x],argTypes:=at' },type:=ty,pos:=pos,after:=af,guard:=g } s k Q:=by
 refine Kq rfl hd (by simp) (fun B β a w hs=>?_) h;have hv:=hs.ev x;rw[hx]at hv;generalize xW:a.eval x=vx at hv
 cases hv with
 |vw _ _ _ _ hn h1 aR =>
   obtain⟨hle,a0,cap,rfl,hc⟩:=aR _ _ _ hp;obtain⟨h0,_⟩|⟨k,hk,rfl,eY,hz⟩:=hc
   .omega
   .refine⟨.pointer (some ⟨k.b,k.o+0*wd w0,none⟩),?_,.el _ _ _ _ hn rfl fun ty' w' xs' ae=>?_⟩
    .obtain⟨oo,Kr⟩:∃oo,k.o+0*wd w0=oo:=⟨_,rfl⟩
     rw[Kr]at xW ⊢;have:=Lib.run_unsafeSliceData_row (P:=P) w at' ty ⟨k.b,oo,none⟩ l cap (by omega);simp[execOp,resolve,invoke,builtin,xW,this]
    .rw[hp]at ae;cases ae;exact⟨by omega,k,hk,rfl⟩
theorem ad0(E:bu P cf Q){d pt it e:Nat}{x y:Operand}{ty:TypeId}{pos:String}{af:Array Edge}(p:Name)(l:List UInt8)(hd:d<cf.n)(CX:P.underlying pt=some (.pointer e))(hc:P.cellsOf e=1)(h0:l≠[])(Q9:l.length<=9223372036854775807)
  (hx:ev s x=.el p 0 0) (hp:s.hp p=some (.bB (some e) none (l.map fV))) (hy:ev s y=.d (.int .i64 l.length)) (h:E.run k ((s.set p none).put d (.d (.str l)))) :
  E.bc { dst:=some d,op:=.call { callee:=.builtin .unsafeString,args:=#[x,y],argTypes:=#[pt,it] },type:=ty,pos:=pos,after:=af,guard:=none } s k .no:=by
 rw[ie];rw[E.run_eq]at h;intro B hB ds β a w ai hs Q';have hv:=hs.ev x;rw[hx]at hv;have hw:=hs.ev y;rw[hy]at hw;have hw:=hw.int;generalize xW:a.eval x=vx at hv
 cases hv with
 |el _ _ _ _ hn h1 aR =>
 obtain⟨hlt,k0,hk,rfl⟩:=aR _ _ _ hp;rcases(hs.aJ p _ hp).2 with⟨_,rL⟩|⟨k1,c,e',nw,hh,hz,hl,aW,cd⟩
 .simp at rL;exact absurd rL h0
 rw[hk]at nw;cases nw;simp only[wd,ann,alg]at hl;have nZ:w.shape? k0.b=some (e,c.size):=by simp[World.shape?,hh]
 have hcell:∀j x,l[j]?=some x->w.cell? ((⟨k0.b,k0.o+0*wd none+0,none⟩:Addr).add j)=some (.int .u8 x.toNat):=fun j x hj=>by
  have e6:=(akY.1 hj).1;have h2:=cd j (fV x) 0 (fV x) (by simp[hj]) rfl;have h3:k0.o+j<c.size:=by omega
  rw[show k0.o+j*wd none+0=k0.o+j by simp[wd]]at h2;simp only[akZ,al6 h3,Option.getD_some]at h2
  have h4:c[k0.o+j]=.int .u8 x.toNat:=by
   generalize c[k0.o+j]=v at h2;cases h2;rfl
  rw[nr];simp[World.cell?,hh,wd,h3,h4]
 have aF:=adU (P:=P) w pt it ty e CX hc k0.b (k0.o+0*wd none+0) c.size nZ l h0 (by simp[wd];omega) Q9 hcell;obtain⟨oo,Kr⟩:∃oo,k0.o+0*wd none+0=oo:=⟨_,rfl⟩
 rw[Kr]at aF xW;refine fR (v:=.string ⟨l.toArray⟩) (w':=w.freeze ⟨k0.b,oo,none⟩ l.length) (by simp) (by simp[execOp,resolve,invoke,builtin,xW,hw,aF]) (.inl rfl) ⟨ai,_,β,eB h,?_⟩;refine aj.put (hs.adM hp hk (w':=w.freeze ⟨k0.b,oo,none⟩ l.length) ?_ ?_ fun b hb=>?_) (by rw[hB.1];exact hd) (.d _ _ (.str l))
 .unfold World.freeze;split<;>rfl
 .unfold World.freeze;split<;>simp
 .unfold World.freeze;split
  .rfl
  .simp only[al7];rw[if_neg (fun e=>hb e.symm)]
section
variable {ops:Array Oper}{K:St->Ns->Prop}{r:List Oper}{ns:Ns}
theorem fO(E:nN P cf ops K){d:Nat}{x:Operand}{ty:TypeId}{pos:String}{af:Array Edge}(p:Name)(c:Nat)(ty':Option Nat)(cs:List AV)(hd:d<cf.n)(hx:ev s x=.bx p c)(hp:s.hp p=some (.bt ty' cs))(h:E.run r (s.put d (.bx p c)) (ns++[([p],[],[])])) :
  E.bc { dst:=some d,op:=.nilCheck x,type:=ty,pos:=pos,after:=af,guard:=none } r s ns .no:=by
 refine xL E (x:=.bx p c) [p] (fun t ht=>by rw[Option.mem_def,alE]at ht;rw[<-ht];exact hd) (fun s' hh he=>?_) h;have h1:ev s' x=.bx p c:=(he x (by simp[Op.operands])).trans hx;have h2:s'.hp p=some (.bt ty' cs):=(hh p (by simp)).trans hp;refine xF (o:={ dst:=some d,op:=.nilCheck x,type:=ty,pos:=pos,after:=af,guard:=none }) rfl ?_
 have h3:cV P.ti cf.n (.nilCheck x) (some d) s'=.ok (s'.put d (.bx p c)):=by
  unfold cV AW;simp only[h1,h2];simp[R.bind,dp,hd]
 unfold bc;simp only[h3,R.run];rw[pM];rfl
theorem ad1(E:nN P cf ops K){d:Nat}{x:Operand}{at':Array TypeId}{ty:TypeId}{pos:String}{af:Array Edge}{g:Option (Nat×Bool)}(p:Name)(tg:Option Nat)(w0:W)(xs:List D)(l:Nat)(hd:d<cf.n)(hx:ev s x=.vw p 0 l)(hp:s.hp p=some (.bB tg w0 xs))(hl:0<l)
  (h:E.run r (s.put d (.el p 0 0)) (ns++[([p],[],[])])) :
  E.bc { dst:=some d,op:=.call { callee:=.builtin .unsafeSliceData,args:=#[x],argTypes:=at' },type:=ty,pos:=pos,after:=af,guard:=g } r s ns .no:=by
 refine xL E (x:=.el p 0 0) [p] (fun t ht=>by rw[Option.mem_def,alE]at ht;rw[<-ht];exact hd) (fun s' hh he=>?_) h;exact adZ p tg w0 xs l hd ((he x (by simp[Op.operands,Call.operands])).trans hx) ((hh p (by simp)).trans hp) hl (by rw[pM];rfl)
end
end
theorem ad2(tf:Nat->TI)(dd:Option Nat)(s:St)(x:Operand):cZ tf (.nilCheck x) dd s=.no:=rfl
attribute [go_sem] ad2
end Go.Ab

namespace Go.Ab
end Go.Ab

namespace Go.Ab
theorem Ra(p:Name):∀(a b:List (Name×Option Ob)),wl (a++b) p=match wl b p with|some v=>some v|none=>wl a p
 |[],b=>by cases h:wl b p<;>simp[wl,h]
 |q::r,b=>by
   rw[List.cons_append,wl,Ra p r b];cases wl b p<;>simp[wl]
theorem Rb(p:Name)(z:Option Ob):∀l:List (Name×Option Ob),(wl l.reverse p).getD z=aw z l p
 |[]=>rfl
 |q::r=>by
   rw[List.reverse_cons,Ra,kD];by_cases h:p=q.1
   .simp[wl,h]
   .simp only[wl,if_neg h];exact Rb p z r
attribute [go_sem] List.reverse_cons List.reverse_nil
theorem FL{α β:Type}[DecidableEq α](z:β)(i:α):∀a b:List (α×β),aw z (a++b) i=aw (aw z b i) a i
 |[],_=>rfl
 |q::r,b=>by rw[List.cons_append,kD,kD,FL z i r b]
section
variable {P:Program}{cf:Cf}{ops:Array Oper}{K:St->Ns->Prop}{r:List Oper}{s:St}{ns:Ns}
theorem ad3{H:Array Obj}{own:Nat->Prop}{v:Value}{wf:W}{l:List D}(h:au H own v (.sl wf l)):v.oneCell'=true:=by
 generalize hz:D.sl wf l=d at h;cases h<;>first|rfl|cases hz
theorem ad4{H:Array Obj}{own:Nat->Prop}{us:List Nat}{hp:Name->Option Ob}{β:Name->Option a8}{v:Value}{wf:W}{l:List D}(h:VR H own us hp β v (.d (.sl wf l))):v.oneCell'=true:=by
 cases h with
 |d _ _ h=>exact ad3 h
theorem uI(E:nN P cf ops K){t:Nat}(u:Nat)(p:Name)(wf:W)(xs:List D){off len:Nat}{fv:Operand}{args:Array Operand}{at':Array TypeId}{ty:TypeId}{pos:String}{af:Array Edge}{gg:Option (Nat×Bool)}
  {f:FuncId} {aG:List AV} {ds:List D} {x:AV} (hc:HP P cf.G f ds (fun r=>r=x)) (nF:∀s,ev s fv=.aH f aG) (hp:s.hp p=some (.arr wf xs)) (bp:s.fr u=.vw p off len) (hu:(t == u)=false) (aU:Operand.tmp u∈args)
  (dE:args.toList.map (ev (s.put u (.d (.sl wf ((xs.drop off).take len)))))++aG=ds.map .d) (cY:t<cf.n) (hk:E.run r ((s.set p none).put t x) (ns++[([p],[p],[])])) :
  E.bc { dst:=some t,op:=.call { callee:=.value fv,args:=args,argTypes:=at' },type:=ty,pos:=pos,after:=af,guard:=gg } r s ns .no:=by
 have xU:¬t=u:=by simpa using hu
 have gG:∀s:St,(s.set p none).put t x=s.go (some t) x ⟨[(p,none)],[]⟩:=fun s=>by unfold St.go;rw[zo];rfl
 rw[E.fk];refine⟨x,([p],⟨[(p,none)],[]⟩),fun s' _ hh he=>?_,fun y hy=>(by cases hy),cY,?_⟩
 .have hm:∀y,y∈args->ev s' y=ev s y:=fun y hy=>he y (by
   simp only[Op.operands,Call.operands]
   simp_all)
  have ae:s'.hp p=some (.arr wf xs):=(hh p (by simp)).trans hp;have vZ:s'.fr u=.vw p off len:=(hm (.tmp u) aU).trans bp;obtain⟨y,hy⟩:∃y,y=AV.d (.sl wf ((xs.drop off).take len)):=⟨_,rfl⟩
  rw[<-hy]at dE
  have Kn:args.toList.map (ev ((s'.set p none).put u y))++aG=ds.map .d:=by
   rw[<-dE];congr 1;refine alI fun z hz=>?_;have h0:=hm z (by simpa using hz)
   cases z with
   |tmp i =>
     by_cases e:i=u
     .subst e;show((s'.set p none).put i _).fr i=(s.put i _).fr i;simp[St.put,dV]
     .have rL:s'.fr i=s.fr i:=h0;show((s'.set p none).put u _).fr i=(s.put u _).fr i;simp[St.put,St.set,dV,e,rL]
   |_=>rfl
  have h1:=BF (k:=[]) (Q:=fun _ s2=>s2=((s'.set p none).put u y).put t x) (dst:=some t) (fv:=fv) (args:=args) (at':=at') (ty:=ty) (pos:=pos) (af:=af) (g:=gg) hc
   (nF _) Kn (fun y hy=>by rw[Option.mem_def,alE]at hy;rw[<-hy];exact cY) (fun r hr=>by subst hr;rw[pM];rfl)
  intro B hB gF β a w ai hs Q';have nW:=hs.drop p
  have mr:aj B β ((s'.set p none).put u y) a.tmps w:=nW.sP (by
   have:=(hs.dq ae).slots u;rw[show(s'.dq p wf xs).fr u=(s'.fr u).dq p wf xs from rfl,vZ,AV.dq,if_pos rfl,<-hy]at this
   exact this)
  refine Oper.wpIn_mono ?_ (h1 B hB gF β a w ai mr Q');rintro a' w' ⟨dP,s2,β',aF,br⟩;obtain⟨_,s3,β3,rfl,iI⟩:=aF B hB gF β' a' w' dP br;refine⟨dP,β3,?_⟩;rw[<-gG];have hv:=iI.slots u;have e1:(((s'.set p none).put u y).put t x).fr u=y:=by simp[St.put,dV,Ne.symm xU,fun h:u=t=>xU h.symm]
  rw[e1,hy]at hv;have eO:=(hs.aJ p _ ae).1
  have e2:((s'.set p none).put t x)=(((s'.set p none).put u y).put t x).put u (.vw p off len):=by
   refine Cb (fun _=>rfl) rfl fun i=>?_;simp only[St.put,St.set,dV];by_cases h1:i=u
   .subst h1;have h3:¬i=t:=fun h=>xU h.symm;simp[h3,vZ]
   .simp[h1]
  have h5:=iI.sP (t:=u) (x:=.vw p off len) (.vw _ _ _ _ eO (by
   exact ad4 hv) (fun ty w xs h=>by
    have h:aA s'.hp p none p=some _:=h
    simp[aA]at h))
  rw[e2];exact h5
 .rw[<-E.run_eq,<-gG];exact hk
end
end Go.Ab

namespace Go.Ab
section
variable {P:Program}{cf:Cf}{ops:Array Oper}{K:St->Ns->Prop}{r:List Oper}{s:St}{ns:Ns}
theorem FN(E:nN P cf ops K){d t e n:Nat}{x y:Operand}{ty:TypeId}{pos:String}{af:Array Edge}{z:D}(ht:(P.ti t).k=.slice e)(hz:(P.ti e).zero=some z)(hw:((P.ti e).gD (P.ti e).w&&rF (P.ti e).w z)=true)
  (hx:ev s x=.d (.int .i64 n)) (hy:ev s y=.d (.int .i64 n)) (hb:(n:Int)*(P.ti e).by'<=140737488355328∧(n:Int)<=140737488355328) (hd:d<cf.n∧d∉s.used)
  (hk:E.run r ((s.add d (.arr (P.ti e).w (List.replicate n z))).put d (.vw [d] 0 n)) (ns++[([],[[d]],[d])])) :
  E.bc { dst:=some d,op:=.makeSlice t x y,type:=ty,pos:=pos,after:=af,guard:=none } r s ns .no:=by
 have gG:∀s':St,(s'.add d (.arr (P.ti e).w (List.replicate n z))).put d (.vw [d] 0 n)=s'.go (some d) (.vw [d] 0 n) ⟨[([d],some (.arr (P.ti e).w (List.replicate n z)))],[d]⟩:=fun s'=>by unfold St.go;rw[xI];rfl
 rw[E.fk];refine⟨.vw [d] 0 n,([],⟨[([d],some (.arr (P.ti e).w (List.replicate n z)))],[d]⟩),fun s' hu hh he B hB gF β a w ai hs Q'=>?_,fun q hq=>?_,hd.1,?_⟩
 .have h1:ev s' x=.d (.int .i64 n):=(he x (by simp[Op.operands])).trans hx;have h2:ev s' y=.d (.int .i64 n):=(he y (by simp[Op.operands])).trans hy
  have aW:ia P cf { dst:=some d,op:=.makeSlice t x y,type:=ty,pos:=pos,after:=af,guard:=none } s' [] (fun _ s2=>s2=(s'.add d (.arr (P.ti e).w (List.replicate n z))).put d (.vw [d] 0 n)):=by
   refine xF (o:={ dst:=some d,op:=.makeSlice t x y,type:=ty,pos:=pos,after:=af,guard:=none }) rfl ?_
   have h3:cV P.ti cf.n (.makeSlice t x y) (some d) s'=.need (0<=(n:Int)∧(n:Int)<=n∧(n:Int)*(P.ti e).by'<=140737488355328∧(n:Int)<=140737488355328) (.ok ((s'.add d (.arr (P.ti e).w (List.replicate n z))).put d (.vw [d] 0 n))):=by
    unfold cV A6 gN;simp only[h1,h2,ht,hz,hw];have xu:d<cf.n∧d∉s'.used:=⟨hd.1,hu d (by simp)⟩
    simp[xu.1,xu.2]
   show bc P cf (cV P.ti cf.n (.makeSlice t x y) (some d) s') _ s' [] _;rw[h3,HX,Ep,pM];exact⟨⟨by omega,Int.le_refl _,hb⟩,rfl⟩
  refine Oper.wpIn_mono ?_ (aW B hB gF β a w ai hs Q');rintro a' w' ⟨dP,s2,β',aF,br⟩;obtain⟨_,s3,β3,rfl,iI⟩:=aF B hB gF β' a' w' dP br;exact⟨dP,β3,by rw[<-gG];exact iI⟩
 .obtain rfl:=ak3.1 hq;exact hd.2
 .rw[<-E.run_eq,<-gG];exact hk
end
end Go.Ab

namespace Go.Ab
end Go.Ab

namespace Go.Ab
end Go.Ab

namespace Go.Ab
section
variable {P:Program}{cf:Cf}{Q:Exit->St->Prop}{s:St}{k:List It}
theorem Rc(E:bu P cf Q){d:Nat}{x:Operand}{ty:TypeId}{pos:String}{af:Array Edge}{v:D}(hd:d<cf.n)(hx:ev s x=.d (.ptr v))(h:E.run k (s.put d (.d (.ptr v)))) :
  E.bc { dst:=some d,op:=.nilCheck x,type:=ty,pos:=pos,after:=af,guard:=none } s k .no:=by
 refine zK E (x:=.d (.ptr v)) rfl hd (by simp) (fun B β a w hs=>⟨a.eval x,?_,hx▸hs.ev x⟩) h;have hv:=hs.ev x;rw[hx]at hv;have hr:=hv.cA
 have he:∀y,a.eval x=y->(∃ad,y=.pointer (some ad))->(execOp a.eval { dst:=some d,op:=.nilCheck x,type:=ty,pos:=pos,after:=af,guard:=none }).run P w=.ok (.value y) w:=by
  rintro y hy ⟨ad,rfl⟩;simp[execOp,hy]
 refine he _ rfl ?_;generalize a.eval x=y at hr;cases hr;exact⟨_,rfl⟩
end
end Go.Ab

namespace Go.Ab
inductive Fz where
 |A (p:Name) (w:W) (xs:List D)
 |B (p:Name) (d:D)
def St.fz(s:St):Fz->St
 |.A p w xs=>s.gR p w xs
 |.B p d=>s.cB p d
def Fz.ok(s:St):Fz->Prop
 |.A p w xs=>s.hp p=some (.arr w xs)
 |.B p d=>s.hp p=some (.box (d.cells.map .d))∧(d.cells.all D.bR)=true
def St.zL(s:St):List Fz->St
 |[]=>s
 |q::L=>(s.fz q).zL L
def zM(s:St):List Fz->Prop
 |[]=>True
 |q::L=>q.ok s∧zM (s.fz q) L
theorem ad5(s:St):s.zL []=s:=rfl
theorem ad6(s:St)(p:Name)(w:W)(xs:List D)(L:List Fz):s.zL (.A p w xs::L)=(s.gR p w xs).zL L:=rfl
theorem ad7(s:St)(p:Name)(d:D)(L:List Fz):s.zL (.B p d::L)=(s.cB p d).zL L:=rfl
theorem ad8(s:St):zM s []=True:=rfl
theorem ad9(s:St)(p:Name)(w:W)(xs:List D)(L:List Fz):zM s (.A p w xs::L)=(s.hp p=some (.arr w xs)∧zM (s.gR p w xs) L):=rfl
theorem aea(s:St)(p:Name)(d:D)(L:List Fz):zM s (.B p d::L)=((s.hp p=some (.box (d.cells.map .d))∧(d.cells.all D.bR)=true)∧zM (s.cB p d) L):=rfl
def St.xX(s:St):St:={ s with hp:=fun _=>none }
theorem Re(s:St)(x:Operand):ev s.xX x=ev s x:=by cases x<;>rfl
theorem aj.xX{B:Base}{β:Name->Option a8}{s:St}{tm:Array Value}{w:World}(h:aj B β s tm w):aj B β s.xX tm w:=by
 have hr:∀v d,au w.heap (s.own B.A β) v d->au w.heap (s.xX.own B.A β) v d:=fun v d hd=>hd.mono (fun _ _ _=>rfl) (by
  rintro b _ (hA|⟨q,k,hq,_⟩)
  .exact .inl hA
  .exact absurd rfl hq)
 exact { bG:=h.bG,io:=h.io,size:=h.size,frame:=h.frame,slots:=fun i=>VR.mono hr (fun _ h=>h) (fun q _ o' aV=>(by cases aV)) (h.slots i),aJ:=fun q o' aV=>(by cases aV),blocks:=fun q k hq _=>absurd rfl hq,inj:=fun q q' k k' hq _=>absurd rfl hq,us:=h.us,stay:=h.stay }
attribute [go_sem] ad5 ad6 ad7 ad8 ad9 aea
end Go.Ab
namespace Go.Ab
variable {P:Program}{cf:Cf}{Φ:Exit->Act->World->Prop}{I:Base->List Deferred->Prop}{k:List It}{s:St}
def FP(P:Program)(cf:Cf)(Φ:Exit->Act->World->Prop)(I:Base->List Deferred->Prop)(k:List It){X:Type}(S:X->St)(e:Exit)(s:St):Prop :=
 match e with
 |.normal=>∃x τ,Le cf.U τ s (S x)
 |e=>yq P cf Φ I k e s
theorem aeb{X:Type}(S:X->St):FP P cf Φ I k S .ret s=q5 cf Φ I .ret s:=rfl
theorem aec{X:Type}(S:X->St){c:Code}(h1:∀E:bu P cf (FP P cf Φ I k S),E.run [.code c] s)(h2:∀x,dW P cf Φ I k (S x)):dW P cf Φ I (.code c::k) s :=
 fun B hB ds β a w ai hI hs=>wpIn_mono (eB (aS h1) B hB ds β a w ai hs) fun e a' w' hq=>by
  obtain⟨hd,s',β',hq,bm⟩:=hq
  cases e with
  |normal =>
    obtain⟨x,τ,hle⟩:=hq;obtain⟨β2,br,_⟩:=bm.le (τ:=τ) (by rw[hB.2.1];exact hle);exact xP (s:=S x) (e:=.normal) hB hI hd (h2 x) br
  |ret=>exact xP (e:=.ret) hB hI hd hq bm
  |exit i=>exact xP (e:=.exit i) hB hI hd hq bm
  |goto l=>exact hq.elim
  |panic c=>exact hq.elim
  |outgrown=>exact hq.elim
theorem xY(fr:List (Nat×AV))(hp:List (Name×Ob))(u:List Nat){c:Code}(h1:∀E:bu P cf (FP P cf Φ I k fun _:Unit=>mk fr hp u),E.run [.code c] s)(h2:dW P cf Φ I k (mk fr hp u)):dW P cf Φ I (.code c::k) s:=aec _ h1 fun _=>h2
theorem oU{fr:List (Nat×AV)}{hp:List (Name×Ob)}{u:List Nat}(τ:Name->Name)(h:cw cf.U τ s fr hp u):FP P cf Φ I k (fun _:Unit=>mk fr hp u) .normal s:=⟨(),τ,h.le⟩
attribute [go_sem] aeb
end Go.Ab

namespace Go.Ab
section
variable {P:Program}{cf:Cf}{ops:Array Oper}{K:St->Ns->Prop}{r:List Oper}{s:St}{ns:Ns}
theorem Rf(E:nN P cf ops K){d t:Nat}{x:Operand}{ty:TypeId}{pos:String}{af:Array Edge}{cs:List AV}(hx:jE (ev s x)=some cs)(hd:d<cf.n∧d∉s.used)
  (hk:E.run r ((s.add d (.box cs)).put d (.bx [d] 0)) (ns++[([],[[d]],[d])])) :
  E.bc { dst:=some d,op:=.box t x,type:=ty,pos:=pos,after:=af,guard:=none } r s ns .no:=by
 have gG:∀s':St,(s'.add d (.box cs)).put d (.bx [d] 0)=s'.go (some d) (.bx [d] 0) ⟨[([d],some (.box cs))],[d]⟩:=fun s'=>by unfold St.go;rw[xI];rfl
 rw[E.fk];refine⟨.bx [d] 0,([],⟨[([d],some (.box cs))],[d]⟩),fun s' hu hh he B hB gF β a w ai hs Q'=>?_,fun q hq=>?_,hd.1,?_⟩
 .have h1:jE (ev s' x)=some cs:=by rw[he x (by simp[Op.operands])];exact hx
  have aW:ia P cf { dst:=some d,op:=.box t x,type:=ty,pos:=pos,after:=af,guard:=none } s' [] (fun _ s2=>s2=(s'.add d (.box cs)).put d (.bx [d] 0)):=by
   refine xF (o:={ dst:=some d,op:=.box t x,type:=ty,pos:=pos,after:=af,guard:=none }) rfl ?_
   have h3:cV P.ti cf.n (.box t x) (some d) s'=.ok ((s'.add d (.box cs)).put d (.bx [d] 0)):=by
    unfold cV gN;simp only[h1];have xu:d<cf.n∧d∉s'.used:=⟨hd.1,hu d (by simp)⟩
    simp[xu.1,xu.2]
   show bc P cf (cV P.ti cf.n (.box t x) (some d) s') _ s' [] _;rw[h3,Ep,pM]
  refine Oper.wpIn_mono ?_ (aW B hB gF β a w ai hs Q');rintro a' w' ⟨dP,s2,β',aF,br⟩;obtain⟨_,s3,β3,rfl,iI⟩:=aF B hB gF β' a' w' dP br;exact⟨dP,β3,by rw[<-gG];exact iI⟩
 .obtain rfl:=ak3.1 hq;exact hd.2
 .rw[<-E.run_eq,<-gG];exact hk
end
end Go.Ab

namespace Go.Ab
def xZ(σ:Name->Name)(d:Nat)(chp ae:List (Name×Ob)):List (Name×Option Ob):=((ae.map fun x:Name×Ob=>(dc σ d chp x.1,some (x.2.ren (dc σ d chp))))++chp.map fun x:Name×Ob=>(σ x.1,none)).reverse
theorem aed(σ:Name->Name)(d:Nat)(chp ae:List (Name×Ob)):(xZ σ d chp ae).map (fun x=>x.1)=((ae.map fun x:Name×Ob=>dc σ d chp x.1)++chp.map fun x:Name×Ob=>σ x.1).reverse:=by
 unfold xZ;rw[List.map_reverse,alh,alD,alD];rfl
attribute [go_sem] aed
theorem Rg(s:St)(σ:Name->Name)(d:Nat)(chp ae:List (Name×Ob))(r:AV):iX s σ d chp ae r=s.go (some d) (r.ren (dc σ d chp)) ⟨xZ σ d chp ae,[d]⟩:=by
 refine I1 (funext fun q=>?_) rfl fun t=>rfl;show aw (aw (s.hp q) (chp.map fun x=>(σ x.1,none)) q) _ q=(wl (xZ σ d chp ae) q).getD (s.hp q);unfold xZ;rw[Rb,FL]
section
variable {P:Program}{cf:Cf}{ops:Array Oper}{K:St->Ns->Prop}{r:List Oper}{s:St}{ns:Ns}
theorem Rh(E:nN P cf ops K){d:Nat}{fv:Operand}{args:Array Operand}{at':Array TypeId}{ty:TypeId}{pos:String}{af:Array Edge}{g:Option (Nat×Bool)}
  {f:FuncId} {aG:List AV} (σ:Name->Name) (cD:List AV) (chp:List (Name×Ob)) (cu:List Nat) (x:AV) (ae:List (Name×Ob)) (hc:bZ P cf.G f cD chp cu (fun y h=>y=x∧h=ae))
  (bp:ev s fv=.aH f aG) (dE:args.toList.map (ev s)++aG=cg σ cD) (hd:d<cf.n∧d∉s.used) (oJ:dz cu cD=true) (kH:mB σ cu s chp) (mC:kh σ chp)
  (hl:lg chp ae) (hk:E.run r (iX s σ d chp ae x) (ns++[(chp.map (fun q=>σ q.1),(xZ σ d chp ae).map (·.1),[d])])) :
  E.bc { dst:=some d,op:=.call { callee:=.value fv,args:=args,argTypes:=at' },type:=ty,pos:=pos,after:=af,guard:=g } r s ns .no:=by
 rw[E.fk];refine⟨x.ren (dc σ d chp),(chp.map (fun q=>σ q.1),⟨xZ σ d chp ae,[d]⟩),fun s' hu hh he B hB gF β a w ai hs Q'=>?_,fun y hy=>?_,hd.1,?_⟩
 .have hm:∀y,y=fv∨y∈args->ev s' y=ev s y:=fun y hy=>he y (by
   simp only[Op.operands,Call.operands]
   rcases hy with rfl|hy<;>simp_all)
  have aee:mB σ cu s' chp:=by
   have:∀l:List (Name×Ob),(∀q∈l,σ q.1∈chp.map (fun q=>σ q.1))->mB σ cu s l->mB σ cu s' l:=by
    intro l
    induction l with
    |nil=>intros;trivial
    |cons q r ih =>
      intro hq h;refine⟨⟨?_,h.1.2⟩,ih (fun x hx=>hq x (ald _ hx)) h.2⟩;rw[show s'.hp (σ q.1)=s.hp (σ q.1)from hh _ (hq q alb)];exact h.1.1
   exact this chp (fun q hq=>ak6.2 ⟨q,hq,rfl⟩) kH
  have aW:ia P cf { dst:=some d,op:=.call { callee:=.value fv,args:=args,argTypes:=at' },type:=ty,pos:=pos,after:=af,guard:=g } s' [] (fun _ s2=>s2=iX s' σ d chp ae x):=by
   refine Iy d σ cD chp cu _ ((hm fv (.inl rfl)).trans bp) ?_ oJ (hu d (by simp)) (fun t ht=>?_) aee mC hc fun y h hr=>?_
   .rw[ET (s:=s) (s':=s') fun y hy=>hm y (.inr (by simpa using hy)),dE]
   .obtain rfl:=alo ht;exact⟨hd.1,rfl⟩
   .obtain⟨rfl,rfl⟩:=hr;exact⟨hl,by rw[pM];rfl⟩
  refine Oper.wpIn_mono ?_ (aW B hB gF β a w ai hs Q');rintro a' w' ⟨dP,s2,β',aF,br⟩;obtain⟨_,s3,β3,rfl,iI⟩:=aF B hB gF β' a' w' dP br;exact⟨dP,β3,by rw[<-Rg];exact iI⟩
 .obtain rfl:=ak3.1 hy;exact hd.2
 .rw[<-E.run_eq,<-Rg];exact hk
end
end Go.Ab

namespace Go.Ab
section
variable {P:Program}{cf:Cf}{ops:Array Oper}{K:St->Ns->Prop}{r:List Oper}{s:St}{ns:Ns}
theorem zN(E:nN P cf ops K){d:Nat}{x:Operand}{ty:TypeId}{pos:String}{af:Array Edge}{g:Option (Nat×Bool)}{v:D}(hd:d<cf.n)(hx:ev s x=.d (.ptr v))(h:E.run r (s.put d (.d (.ptr v))) (ns++[([],[],[])])) :
  E.bc { dst:=some d,op:=.nilCheck x,type:=ty,pos:=pos,after:=af,guard:=g } r s ns .no:=by
 refine xL E (x:=.d (.ptr v)) [] (fun t ht=>by rw[Option.mem_def,alE]at ht;rw[<-ht];exact hd) (fun s' _ he=>?_) h;have aR:ev s' x=.d (.ptr v):=(he x (by simp[Op.operands])).trans hx;refine Kq rfl hd (by simp) (fun B β a w hs=>⟨a.eval x,?_,aR▸hs.ev x⟩) (by rw[pM];rfl);have hv:=hs.ev x;rw[aR]at hv;have hr:=hv.cA
 have he:∀y,a.eval x=y->(∃ad,y=.pointer (some ad))->(execOp a.eval { dst:=some d,op:=.nilCheck x,type:=ty,pos:=pos,after:=af,guard:=g }).run P w=.ok (.value y) w:=by
  rintro y hy ⟨ad,rfl⟩;simp[execOp,hy]
 refine he _ rfl ?_;generalize a.eval x=y at hr;cases hr;exact⟨_,rfl⟩
end
end Go.Ab

namespace Go.Ab
section
variable {P:Program}{B:Base}{β:Name->Option a8}{s:St}{tm:Array Value}{w:World}{t:Nat}
theorem aj.FQ(h:aj B β s tm w)(ht:t∉s.used){p:Name}{ob:Ob}{k:a8}(hp:s.hp p=some ob)(hk:β p=some k)(nb:Ob)(o':Nat){w':World}(eP:dH w'=dH w)(bj:w'.heap.size=w.heap.size)
  (hw:∀b,b≠k.b->w'.heap[b]?=w.heap[b]?)
  (hO:∀β':Name->Option a8,β' [t]=some ⟨k.b,o',k.z⟩->(∀v x,VR w.heap (s.own B.A β) s.used s.hp β v x->VR w'.heap (s.own B.A β) (t::s.used) ((s.set p none).add t nb).hp β' v x) ->
   OR w'.heap (s.own B.A β) (t::s.used) ((s.set p none).add t nb).hp β' [t] nb) :
  aj B (aA β [t] (some ⟨k.b,o',k.z⟩)) ((s.set p none).add t nb) tm w':=by
 obtain⟨β',hβ'⟩:∃β',aA β [t] (some ⟨k.b,o',k.z⟩)=β':=⟨_,rfl⟩
 obtain⟨s',bm⟩:∃s',(s.set p none).add t nb=s':=⟨_,rfl⟩
 have fC:β' [t]=some ⟨k.b,o',k.z⟩:=by rw[<-hβ'];simp[aA]
 have hold:∀q,q≠[t]->β' q=β q:=fun q hq=>by rw[<-hβ'];simp[aA,hq]
 have ib:=iU (h.aJ p ob hp).1 ht;have Bh:s'.hp [t]=some nb:=by rw[<-bm];simp[St.add,aA]
 have dJ:s'.hp p=none:=by rw[<-bm];simp[St.add,St.set,aA,ib]
 have gl:∀q,q≠[t]->q≠p->s'.hp q=s.hp q:=fun q h1 h2=>by rw[<-bm];simp[St.add,St.set,aA,h1,h2]
 have rO:s'.used=t::s.used:=by rw[<-bm];rfl
 have oD:s'.fr=s.fr:=by rw[<-bm];rfl
 have pN:s.hp p≠none:=by rw[hp];simp
 have eH:s'.own B.A β'=s.own B.A β:=by
  funext b;refine propext (or_congr_right ⟨?_,?_⟩)
  .rintro⟨q,l,hq,hl,rfl⟩;by_cases e1:q=[t]
   .subst e1;rw[fC]at hl;cases hl;exact⟨p,k,pN,hk,rfl⟩
   .by_cases e2:q=p
    .subst e2;exact absurd dJ hq
    .rw[hold q e1]at hl;rw[gl q e1 e2]at hq;exact⟨q,l,hq,hl,rfl⟩
  .rintro⟨q,l,hq,hl,rfl⟩;by_cases e2:q=p
   .subst e2;rw[hk]at hl;cases hl;exact⟨[t],_,by rw[Bh];simp,fC,rfl⟩
   .cases ho:s.hp q with
    |none=>exact absurd ho hq
    |some o =>
      have e1:=iU (h.aJ q o ho).1 ht;exact⟨q,l,by rw[gl q e1 e2];exact hq,by rw[hold q e1];exact hl,rfl⟩
 have hr:∀v d,au w.heap (s.own B.A β) v d->au w'.heap (s.own B.A β) v d:=fun v d hd=>hd.mono (fun b hb _=>hw b fun e=>hb (.inr ⟨p,k,pN,hk,e.symm⟩)) (fun _ _ h=>h)
 have ag:∀q,nm s.used q->iQ s.hp s'.hp β β' q:=by
  intro q hq o ho;have e1:=iU hq ht;have e2:q≠p:=by rintro rfl;rw[dJ]at ho;cases ho
  exact⟨o,by rwa [gl q e1 e2]at ho,Ob.k4 _,hold q e1⟩
 have hu:∀x∈s.used,x∈s'.used:=fun x hx=>by rw[rO];exact ald _ hx
 have Ri:=hO β' fC (fun v x hx=>by rw[bm,<-rO];exact hx.mono hr hu ag);rw[bm,<-rO]at Ri;rw[hβ',bm];refine { bG:=h.bG,io:=eP.trans h.io,size:=by rw[bj];exact h.size,frame:=?_,slots:=fun i=>?_,aJ:=?_,blocks:=?_,inj:=?_,us:=fun x hx=>hu x (h.us x hx), stay:=fun p hp=>(hold p (iU (hp.mono h.us) ht)).trans (h.stay p hp) }
 .intro b hb hn;rw[hw b ?_]
  .exact h.frame b hb hn
  .rintro rfl;rcases(h.blocks p k pN hk).2.2 with h3|h3
   .omega
   .exact hn h3
 .rw[eH,oD];exact(h.slots i).mono hr hu ag
 .intro q o ho;rw[eH];by_cases e1:q=[t]
  .subst e1;rw[Bh]at ho;cases ho;exact⟨⟨t,[],rfl,by rw[rO];exact alb⟩,Ri⟩
  .have e2:q≠p:=by rintro rfl;rw[dJ]at ho;cases ho
   rw[gl q e1 e2]at ho;obtain⟨h1,h2⟩:=h.aJ q o ho;refine⟨h1.mono hu,h2.mono hr hu ag (hold q e1) fun l hl=>hw l.b fun e=>?_⟩;exact e2 (h.inj q p l k (by rw[ho];simp) pN hl hk e)
 .intro q l hq hl;rw[bj];by_cases e1:q=[t]
  .subst e1;rw[fC]at hl;cases hl;exact h.blocks p k pN hk
  .have e2:q≠p:=by rintro rfl;exact hq dJ
   rw[hold q e1]at hl;rw[gl q e1 e2]at hq;exact h.blocks q l hq hl
 .intro q q' l l' hq bX hl jO e
  have key:∀q l,s'.hp q≠none->β' q=some l->∃r,(q=[t]∧r=p∨q≠[t]∧r=q∧q≠p)∧s.hp r≠none∧∃m,β r=some m∧m.b=l.b:=by
   intro q l hq hl;by_cases e1:q=[t]
   .subst e1;rw[fC]at hl;cases hl;exact⟨p,.inl ⟨rfl,rfl⟩,pN,k,hk,rfl⟩
   .have e2:q≠p:=by rintro rfl;exact hq dJ
    rw[hold q e1]at hl;rw[gl q e1 e2]at hq;exact⟨q,.inr ⟨e1,rfl,e2⟩,hq,l,hl,rfl⟩
  obtain⟨r,h1,h2,m,h3,h4⟩:=key q l hq hl;obtain⟨r',g1,g2,m',g3,g4⟩:=key q' l' bX jO;have:r=r':=h.inj r r' m m' h2 g2 h3 g3 (by rw[h4,g4,e]);rcases h1 with⟨rfl,rfl⟩|⟨h1,rfl,h5⟩<;>obtain⟨rfl,rfl⟩|⟨g1,rfl,g5⟩:=g1
  .rfl
  .exact absurd this.symm g5
  .exact absurd this h5
  .exact this
theorem FR{hp:Name->Option Ob}{β:Name->Option a8}{p:Name}{off len:Nat}{v:Value}{xs:List AV}
  (h:∀w xs,hp p=some (.ez w xs)->(off+len)*w<=xs.length∧∃a cap,v=.slice a len cap∧(len=0∧cap=0∨∃k,β p=some k∧a=some ⟨k.b,k.o+off*w,none⟩∧len<=cap∧k.o+(off+cap)*w<=k.z))
  (ae:hp p=some (.eA xs)):off+len<=xs.length∧∃a cap,v=.slice a len cap∧(len=0∧cap=0∨∃k,β p=some k∧a=some ⟨k.b,k.o+off,none⟩∧len<=cap∧k.o+(off+cap)<=k.z):=by
 have:=h 1 xs ae;simpa only[ann]using this
theorem aj.aef(h:aj B β s tm w)(ht:t∉s.used):aj B (aA β [t] none) (s.add t (.eA [])) tm w:=by
 have h0:=h.sM ht none none
 have ag:∀q,nm (s.add t (.bB none none [])).used q->iQ (s.add t (.bB none none [])).hp (s.add t (.eA [])).hp (aA β [t] none) (aA β [t] none) q∨q=[t]:=by
  intro q hq;by_cases e:q=[t]
  .exact .inr e
  .refine .inl fun o ho=>⟨o,?_,Ob.k4 _,rfl⟩
   simpa[St.add,aA,e]using ho
 have bY:∀(v:Value) (x:AV),VR w.heap (s.own B.A β) s.used s.hp β v x->VR w.heap ((s.add t (.eA [])).own B.A (aA β [t] none)) (t::s.used) (s.add t (.eA [])).hp (aA β [t] none) v x:=by
  intro v x hx;refine hx.mono (fun v d hd=>hd.mono (fun _ _ _=>rfl) ?_) (fun y hy=>ald _ hy) fun q hq o ho=>?_
  .rintro b _ (hA|⟨q,k,hq,hk,rfl⟩)
   .exact .inl hA
   .by_cases e:q=[t]
    .subst e;simp[aA]at hk
    .simp only[aA,if_neg e]at hk;simp only[St.add,aA,if_neg e]at hq;exact .inr ⟨q,k,hq,hk,rfl⟩
  .have e:=iU hq ht;exact⟨o,by simpa[St.add,aA,e]using ho,Ob.k4 _,by simp[aA,e]⟩
 have aB:∀q,(s.add t (.eA [])).hp q≠none->q=[t]∨s.hp q≠none:=by
  intro q hq;by_cases e:q=[t]
  .exact .inl e
  .exact .inr (by simpa[St.add,aA,e]using hq)
 refine { bG:=h.bG,io:=h.io,size:=h.size,frame:=h.frame,slots:=fun i=>bY _ _ (h.slots i),aJ:=?_,blocks:=?_,inj:=?_,us:=fun x hx=>ald _ (h.us x hx),stay:=h0.stay }
 .intro q o ho;by_cases e:q=[t]
  .subst e;have:o=.eA []:=by simpa[St.add,aA]using ho.symm
   subst this;exact⟨⟨t,[],rfl,alb⟩,.inl ⟨by simp[aA],rfl⟩⟩
  .have aV:s.hp q=some o:=by simpa[St.add,aA,e]using ho
   obtain⟨g1,g2⟩:=h.aJ q o aV;refine⟨g1.mono fun y hy=>ald _ hy,g2.mono (fun v d hd=>?_) (fun y hy=>ald _ hy) (fun q hq o ho=>?_) (by simp[aA,e]) fun _ _=>rfl⟩
   .exact(bY v (.d d) (.d v d hd)).cA
   .have e:=iU hq ht;exact⟨o,by simpa[St.add,aA,e]using ho,Ob.k4 _,by simp[aA,e]⟩
 .intro q k hq hk;by_cases e:q=[t]
  .subst e;simp[aA]at hk
  .exact h0.blocks q k (by have:=aB q hq;simpa[St.add,aA,e]using this) hk
 .intro q q' k l hq bX hk hl e;by_cases e1:q=[t]
  .subst e1;simp[aA]at hk
  .by_cases e2:q'=[t]
   .subst e2;simp[aA]at hl
   .exact h0.inj q q' k l (by have:=aB q hq;simpa[St.add,aA,e1]using this) (by have:=aB q' bX;simpa[St.add,aA,e2]using this) hk hl e
end
section
variable {P:Program}{cf:Cf}{Q:Exit->St->Prop}{s:St}{k:List It}
theorem wz(E:bu P cf Q){d:Option Nat}{op:Op}{ty:TypeId}{ps:String}{af:Array Edge}(x:AV)(f:Fp)(hq:QE P cf { dst:=d,op:=op,type:=ty,pos:=ps,after:=af,guard:=none } s x f)(hu:∀y∈f.2.nu,y∉s.used)(hk:E.run k (s.go d x f.2)) :
  E.bc { dst:=d,op:=op,type:=ty,pos:=ps,after:=af,guard:=none } s k .no:=by
 rw[ie];rw[E.run_eq]at hk;intro B hB ds β a w ai hs Q';refine Oper.wpIn_mono ?_ (hq s hu (fun _ _=>rfl) (fun _ _=>rfl) B hB ds β a w ai hs Q');rintro a' w' ⟨dP,β',bm⟩;exact⟨dP,_,β',eB hk,bm⟩
theorem lP{ops:Array Oper}{K:St->Ns->Prop}{r:List Oper}{ns:Ns}(E:nN P cf ops K){d:Option Nat}{op:Op}{ty:TypeId}{ps:String}{af:Array Edge}(x:AV)(f:Fp)
  (hq:QE P cf { dst:=d,op:=op,type:=ty,pos:=ps,after:=af,guard:=none } s x f) (hu:∀y∈f.2.nu,y∉s.used) (hk:E.pt d x r f.2 s (ns++[ju f])) :
  E.bc { dst:=d,op:=op,type:=ty,pos:=ps,after:=af,guard:=none } r s ns .no:=by
 rw[E.fk];rw[E.nH]at hk;exact⟨x,f,hq,hu,hk.1,hk.2⟩
theorem CY{d:Option Nat}{op:Op}{ty:TypeId}{ps:String}{af:Array Edge}{x:AV}{rd:List Name}(hnd:∀c,op≠.defer c)(hd:∀t∈d,t<cf.n)
  (h:∀(B:Base) (s':St) (β:Name->Option a8) (a:Act) (w:World),(∀p∈rd,s'.hp p=s.hp p)->(∀y∈op.operands,ev s' y=ev s y)->aj B β s' a.tmps w ->
   ∃v,(execOp a.eval { dst:=d,op:=op,type:=ty,pos:=ps,after:=af,guard:=none }).run P w=.ok (.value v) w∧VR w.heap (s'.own B.A β) s'.used s'.hp β v x) :
  QE P cf { dst:=d,op:=op,type:=ty,pos:=ps,after:=af,guard:=none } s x (rd,bT):=by
 intro s' _ hh he B hB ds β a w ai hs Q';obtain⟨v,aF,hv⟩:=h B s' β a w hh he hs;refine fR hnd aF (.inl rfl) ⟨by cases d<;>exact ai,β,?_⟩;rw[Jr];exact hs.cU (fun t ht=>by rw[hB.1];exact hd t ht) hv
theorem aeg(s:St)(d:Option Nat)(x:AV):s.go d x bT=s.iZ d x:=JF s d x
theorem Ks(s:St)(x:AV)(p:Name)(q:Option Ob):s.go none x ⟨[(p,q)],[]⟩=s.set p q:=by unfold St.go;rw[zo];rfl
theorem Kt(s:St)(t:Nat)(x:AV)(p:Name)(q:Option Ob):s.go (some t) x ⟨[(p,q)],[]⟩=(s.set p q).put t x:=by unfold St.go;rw[zo];rfl
theorem Rj(s:St)(t:Nat)(x:AV)(p:Name)(u:Nat)(ob:Ob):s.go (some t) x ⟨[(p,none),([u],some ob)],[u]⟩=((s.set p none).add u ob).put t x:=by unfold St.go;rw[Jo];rfl
theorem aeh{t:TypeId}{e:Nat}{x:Operand}{d:Nat}{ty:TypeId}{ps:String}{af:Array Edge}(p:Name)(o l:Nat)(xs:List AV)(hk:(P.ti t).k=.slice e)(hd:d<cf.n)(hx:ev s x=.va p o l)(hp:s.hp p=some (.eA xs)) :
  QE P cf { dst:=some d,op:=.call { callee:=.builtin .len,args:=#[x],argTypes:=#[t] },type:=ty,pos:=ps,after:=af,guard:=none } s (.d (.int .i64 l)) ([p],bT):=by
 refine CY (by simp) (fun t' ht=>by cases ht;exact hd) fun B s' β a w hh he hs=>?_;have hv:=hs.ev x;rw[he x (by simp[Op.operands,Call.operands]),hx]at hv;generalize hval:a.eval x=v at hv
 cases hv with
 |va _ _ _ _ hn h1 h =>
   obtain⟨hle,b,cap,rfl,_⟩:=FR h ((hh p (by simp)).trans hp);refine⟨.int .i64 l,?_,.d _ _ (.int _ _)⟩;have hr:(Builtin.len_ #[t] ty #[.slice b l cap]).run P w=.ok (.int .i64 l) w:=by simp[Builtin.len_,run_underlying (k5 hk),goInt]
   simp[execOp,resolve,invoke,builtin,hval,hr]
theorem zO{t e:Nat}{x y:Operand}{d:Nat}{ty:TypeId}{ps:String}{af:Array Edge}(p:Name)(o l:Nat)(kd:IntKind)(j:Nat)(xs:List AV)(hk:(P.ti t).k=.slice e)(he:(P.ti e).sz=1)(hd:d<cf.n)(hx:ev s x=.va p o l)(hy:ev s y=.d (.int kd j))(hp:s.hp p=some (.eA xs))(hj:j<l) :
  QE P cf { dst:=some d,op:=.indexAddr t x y,type:=ty,pos:=ps,after:=af,guard:=none } s (.ea p (o+j)) ([p],bT):=by
 refine CY (by simp) (fun t' ht=>by cases ht;exact hd) fun B s' β a w hh df hs=>?_;have hv:=hs.ev x;rw[df x (by simp[Op.operands]),hx]at hv;have hw:=hs.ev y;rw[df y (by simp[Op.operands]),hy]at hw;have hw:=hw.int;have ae:=(hh p (by simp)).trans hp;generalize hval:a.eval x=v at hv
 cases hv with
 |va _ _ _ _ hn h1 h =>
   obtain⟨hle,b,cap,rfl,hc⟩:=FR h ae;obtain⟨h0,_⟩|⟨k,aC,rfl,h2,h3⟩:=hc
   .omega
   .refine⟨.pointer (some ⟨k.b,k.o+(o+j),none⟩),?_,.ea _ _ _ hn rfl fun w' ys qe=>?_⟩
    .have hr:=H5 (P:=P) hk (Nt (by omega)) k.b (k.o+o) l cap kd j (by omega) (by omega) w;rw[he,Int.toNat_natCast,ann,amF]at hr;simp[execOp,hval,hw,hr]
    .rw[ae]at qe;cases qe;exact⟨by omega,k,aC,rfl⟩
theorem FT{t:Nat}{x:Operand}{d:Nat}{ty:TypeId}{ps:String}{af:Array Edge}(p:Name)(i:Nat)(xs:List AV)(y:AV)(hg:(P.ti t).k.dM=false)(ha:(P.ti t).k.agg=false)(hd:d<cf.n)(hx:ev s x=.ea p i){m:Nat}(hp:s.hp p=some (.ez m xs))(hy:xs[i]?=some y) :
  QE P cf { dst:=some d,op:=.load t x,type:=ty,pos:=ps,after:=af,guard:=none } s y ([p],bT):=by
 refine CY (by simp) (fun t' ht=>by cases ht;exact hd) fun B s' β a w hh df hs=>?_;have hv:=hs.ev x;rw[df x (by simp[Op.operands]),hx]at hv;have ae:=(hh p (by simp)).trans hp;generalize hval:a.eval x=v at hv
 cases hv with
 |ea _ _ _ hn h1 h =>
   obtain⟨hlt,k,hk,rfl⟩:=h m xs ae;rcases(hs.aJ p _ ae).2 with⟨_,rfl⟩|⟨k',c,e,aC,hb,hz,hl,wB,hc⟩
   .simp at hlt
   .obtain rfl:=alo (hk.symm.trans aC);have hr:=HZ (P:=P) hg ha hb (vv (z:=undef) (i:=k.o+i) (by omega));exact⟨_,by simp[execOp,hval,Instr.loadAt,Instr.sureAddr,hr],hc i y hy⟩
theorem FU(c:Array Value)(o:Nat)(v:Value)(ho:o<c.size)(m:Nat):((splice c.toList o [v]).toArray).getD m undef=if m=o then v else c.getD m undef:=by
 have:=uo c.toList o [v] (by simp;omega) m;simp only[alM,List.length_singleton]at this;simp only[akZ,amm,this];by_cases h:m=o
 .subst h;simp
 .rw[if_neg (by omega),if_neg h]
theorem Rk{t:Nat}{x y:Operand}{ty:TypeId}{ps:String}{af:Array Edge}(p:Name)(i:Nat)(xs:List AV)(z:AV)(hg:(P.ti t).k.dM=false)(bj:(P.ti t).sz=1)(hx:ev s x=.ea p i)(hy:ev s y=z)(hz:jE z=some [z]){m:Nat}(hp:s.hp p=some (.ez m xs)) :
  QE P cf { dst:=none,op:=.store t x y,type:=ty,pos:=ps,after:=af,guard:=none } s .un ([p],⟨[(p,some (.ez m (xs.set i z)))],[]⟩):=by
 intro s' _ hh df B hB ds β a w ai hs Q';have hv:=hs.ev x;rw[df x (by simp[Op.operands]),hx]at hv;have hw:=hs.ev y;rw[df y (by simp[Op.operands]),hy]at hw;have ae:=(hh p (by simp)).trans hp;generalize hval:a.eval x=v at hv
 cases hv with
 |ea _ _ _ hn h1 h =>
   obtain⟨hlt,k,hk,rfl⟩:=h m xs ae;rcases(hs.aJ p _ ae).2 with⟨_,rfl⟩|⟨k',c,e,aC,hb,lI,hl,wB,hc⟩
   .simp at hlt
   .obtain rfl:=alo (hk.symm.trans aC);obtain⟨g1,g2,g3⟩:=HY hz hw
    have g0:(a.eval y).cells=#[(a.eval y).cells.getD 0 undef]:=by
     generalize (a.eval y).cells=cc at g1;obtain⟨cc⟩:=cc
     match cc,g1 with
     |[u],_=>rfl
    have g3:=g3 0 z rfl;have g2:=g2 ((a.eval y).cells.getD 0 undef) (by rw[g0];simp);generalize hu:(a.eval y).cells.getD 0 undef=u at g0 g2 g3;have hr:=Ie (P:=P) (t:=t) hg hb (o:=k.o+i) (v:=a.eval y) (by rw[g0,bj];rfl) (by rw[g0];simp;omega) (by rw[g0];simpa using g2);rw[g0]at hr
    have aF:(execOp a.eval { dst:=none,op:=.store t x y,type:=ty,pos:=ps,after:=af,guard:=none }).run P w=.ok .skip (w.setRow k.b (splice c.toList (k.o+i) [u]).toArray):=by
     simp[execOp,hval,Instr.storeAt,Instr.sureAddr,hr]
    have bh:aj B β (s'.set p (some (.ez m (xs.set i z)))) a.tmps (w.setRow k.b (splice c.toList (k.o+i) [u]).toArray):=by
     refine(hs.modify (p:=p) (ob':=.ez m (xs.set i z)) ae (by simp[Ob.like]) (w':=w.setRow k.b (splice c.toList (k.o+i) [u]).toArray) rfl (by simp) (fun b hb=>setRow_other w k.b b _ (hb k hk)) (fun hv _=>?_)).1;refine .inr ⟨k,_,e,hk,setRow_heap w k.b c _ e (0,0) hb,?_,by simpa using hl,fun j hj=>?_,fun j x' hj=>?_⟩
     .simp;rw[um _ _ _ (by simp;omega)];simpa using lI
     .rw[alX]at hj;rw[FU c (k.o+i) u (by omega)];split
      .exact g2
      .exact wB j hj
     .rw[FU c (k.o+i) u (by omega)];by_cases e':i=j
      .subst e';rw[alA hlt]at hj;cases hj;rw[if_pos rfl];exact hv _ _ g3
      .rw[alu e']at hj;rw[if_neg (by omega)];exact hv _ _ (hc j x' hj)
    refine fR (by simp) aF (.inr ⟨rfl,rfl⟩) ⟨ai,β,?_⟩;rw[Ks];exact bh
theorem aei{H:Array Obj}{own:Nat->Prop}{w:World}{b o cap l:Nat}{c:Array Value}{e:TypeId}{fz:Nat×Nat}(hw:w.heap=H)(hb:H[b]?=some (.cells c e fz))(hz:o+l<=c.size)(h1:∀i,i<l->(c.getD (o+i) undef).oneCell'=true) :
  mA P H own none (.slice (some ⟨b,o,none⟩) l cap) (List.replicate l .unk) ((c.toList.drop o).take l):=by
 subst hw
 have:=Ii (P:=P) (w:=w) (own:=own) (cap:=cap) (wf:=none) (xs:=List.replicate l .unk) hb (by simpa[wd]using hz) (fun x hx=>by rw[(List.mem_replicate.1 hx).2];rfl) (fun i x j d hi hj=>by
  rw[amv]at hi;split at hi
  .rename_i hlt;cases hi
   cases j with
   |zero=>simp[D.cells]at hj;subst hj;simpa[wd]using au.unk _ (h1 i hlt)
   |succ j=>simp[D.cells]at hj
  .cases hi)
 simpa[wd]using this
theorem aej(c:Array Value)(o l i:Nat)(h:i<l):((c.toList.drop o).take l).getD i undef=c.getD (o+i) undef:=by
 simp[akX,akZ,h]
theorem aek{t e:Nat}{x y:Operand}{d:Nat}{ty:TypeId}{ps:String}{af:Array Edge}(p:Name)(l:Nat)(xs:List AV)(u:D)(Rl:List Name)(hk:(P.ti t).k=.slice e)(FV:(P.ti e).oB=true)(hw:(P.ti e).gD none=true)(hd:d<cf.n∧d∉s.used)
  (hx:ev s x=.va p 0 l) (hp:s.hp p=some (.eA xs)) (hl:l=xs.length) (hy:∀s',(∀q∈Rl,s'.hp q=s.hp q)->ev s' y=ev s y->jl none s'.hp (ev s' y)=some [u]) (hb:(l+1)*(P.ti e).iT<=140737488355328) :
  QE P cf { dst:=some d,op:=.call { callee:=.builtin .append,args:=#[x,y],argTypes:=#[t,t] },type:=ty,pos:=ps,after:=af,guard:=none } s (.va [d] 0 (l+1)) (p::Rl,⟨[(p,none),([d],some (.eA (xs++[.d u])))],[d]⟩):=by
 subst hl;intro s' qD hh df B hB ds β a w ai hs Q';have iW:d∉s'.used:=qD d (by simp);have iV:=hs.ev x;rw[df x (by simp[Op.operands,Call.operands]),hx]at iV;have ae:=(hh p (by simp)).trans hp;have wC:=hy s' (fun q hq=>hh q (ald _ hq)) (df y (by simp[Op.operands,Call.operands]));obtain⟨news,fE⟩:=Bm (P:=P) hs (hs.ev y) wC;obtain⟨hg,cW,jq⟩:=oC hw
 obtain⟨z,hz,uu⟩:∃z,(P.ti e).z=some z∧z.length=(P.ti e).sz:=by
  unfold TI.oB at FV;split at FV
  .rename_i z h1;exact⟨z,h1,by simpa using FV⟩
  .cases FV
 obtain⟨zv,wE,hm,it,hi,ny,jF,jo⟩:=rP hz;have x4:=k5 hk
 have eQ:(xs.length+1)*it.bytes<=140737488355328∧xs.length+1<=140737488355328:=by
  unfold TI.iT at hb;rw[jo];split at hb
  .rename_i h0;rw[h0];simp at hb ⊢;omega
  .exact⟨hb,alU (am7 _ (by omega)) hb⟩
 have r8:news.length=1:=by have:=fE.size;simpa[wd]using this
 have CZ:au w.heap (s'.own B.A β) (news.getD 0 undef) u:=by
  have hou:=fE.ok u (by simp);have:=fE.rep 0 u 0 u rfl (by cases u<;>first|rfl|simp[okW,D.bR]at hou);simpa[wd]using this
 have wu:(news.getD 0 undef).oneCell'=true:=fE.one _ (by
  match news,r8 with
  |[v],_=>simp)
 have pS:∀v w',(Builtin.append_ #[t,t] ty #[a.eval x,a.eval y]).run P w=.ok v w'->(execOp a.eval { dst:=some d,op:=.call { callee:=.builtin .append,args:=#[x,y],argTypes:=#[t,t] },type:=ty,pos:=ps,after:=af,guard:=none }).run P w=.ok (.value v) w':=by
  intro v w' hr;simp[execOp,resolve,invoke,builtin,hr]
 have x5:∀v w' β',(Builtin.append_ #[t,t] ty #[a.eval x,a.eval y]).run P w=.ok v w'->aj B β' ((s'.set p none).add d (.eA (xs++[.d u]))) a.tmps w'->VR w'.heap (((s'.set p none).add d (.eA (xs++[.d u]))).own B.A β') (d::s'.used) ((s'.set p none).add d (.eA (xs++[.d u]))).hp β' v (.va [d] 0 (xs.length+1)) ->
   Oper.wpIn (Fw cf.ro) 0 P { dst:=some d,op:=.call { callee:=.builtin .append,args:=#[x,y],argTypes:=#[t,t] },type:=ty,pos:=ps,after:=af,guard:=none } a w (fun a' w'=>a'.defers=ds∧∃β',aj B β' (s'.go (some d) (.va [d] 0 (xs.length+1)) ⟨[(p,none),([d],some (.eA (xs++[.d u])))],[d]⟩) a'.tmps w') Q':=by
  intro v w' β' hr bh hv;refine fR (by simp) (pS v w' hr) (.inl rfl) ⟨ai,β',?_⟩;rw[Rj];exact bh.put (by rw[hB.1];exact hd.1) hv
 have ib:=iU (hs.aJ p _ ae).1 iW
 have uv:(s'.set p none).add d (.eA (xs++[.d u]))=(s'.add d (.eA (xs++[.d u]))).set p none:=by
  unfold St.add St.set;simp only[St.mk.injEq,true_and,and_true];funext q;simp only[aA];by_cases h1:q=[d]
  .subst h1;simp[Ne.symm ib]
  .simp[h1]
 generalize hval:a.eval x=xv at iV pS x5
 cases iV with
 |va _ _ _ _ hn h1 h =>
   obtain⟨hle,b,cap,rfl,hc⟩:=FR h ae
   obtain⟨olds,dk,hold⟩:∃olds,mA P w.heap (s'.own B.A β) none (.slice b xs.length cap) (List.replicate xs.length .unk) olds∧∀i x',xs[i]?=some x'->VR w.heap (s'.own B.A β) s'.used s'.hp β (olds.getD i undef) x':=by
    by_cases h0:xs.length=0
    .have:xs=[]:=amE.1 h0;subst this;exact⟨[],y0,fun i x' hi=>by simp at hi⟩
    .rcases hc with⟨h3,_⟩|⟨k,aC,rfl,h2,h3⟩
     .omega
     .rcases(hs.aJ p _ ae).2 with⟨_,h4⟩|⟨k',c,e',qC,kl,xr,wF,wB,uJ⟩
      .rw[h4]at h0;simp at h0
      .obtain rfl:=alo (aC.symm.trans qC);refine⟨(c.toList.drop (k.o+0)).take xs.length,aei rfl kl (by omega) (fun i hi=>by rw[Nat.add_zero];exact wB i hi),fun i x' hi=>?_⟩;rw[aej _ _ _ _ (akY.1 hi).1,Nat.add_zero];exact uJ i x' hi
   have qg:olds.length=xs.length:=by have:=dk.size;simpa[wd]using this
   by_cases cX:cap<xs.length+1
   ·-- it grows
    obtain⟨nc,pP,aF⟩:=Ij (P:=P) (t:=t) x4 hi ny ty (wf:=none) (by rw[jF,cW]) dk fE (a:=b) (cap:=cap) (by simp) (by simpa using cX) (by simpa using eQ.1) (by simpa using eQ.2);simp only[amc,List.length_singleton]at aF pP
    have mq:zv.cells.size=1:=by
     have:=(sL (H:=w.heap) (own:=s'.own B.A β) hm).1;simp at this;rw[uu,<-cW]at this;exact this.symm
    obtain⟨cc,uJ⟩:∃cc,olds.toArray++news.toArray++Builtin.zeroCells zv.cells (nc-(xs.length+1))=cc:=⟨_,rfl⟩
    have ael:cc.size=nc:=by
     rw[<-uJ];simp only[amS,amI,qg,r8,size_zeroCells,mq];omega
    have Rm:∀i,i<xs.length+1->cc.getD i undef=if i<xs.length then olds.getD i undef else news.getD 0 undef:=by
     intro i aq;rw[<-uJ];simp only[akZ,akX,alO,amI,amS,amm,qg,r8];by_cases h5:i<xs.length
     .simp[h5,show i<xs.length+1 by omega]
     .have:i=xs.length:=by omega
      subst this;simp
    rw[uJ]at aF;have nW:aj B β s' a.tmps w.drew:=hs.xe rfl rfl
    have km:=nW.alloc iW (.cells cc e) (.eA (xs++[.d u])) nc (by
     intro β' hβ hmono;refine .inr ⟨_,cc,e,hβ,heap_alloc_new w.drew _,ael,by simp;omega,fun i aq=>?_,fun i x' aq=>?_⟩
     .rw[ak4,List.length_singleton]at aq;dsimp only;rw[alC,Rm i aq];split
      .exact dk.one _ (by
        have:i<olds.length:=by omega
        rw[akX,ak0 this,Option.getD_some]
        exact ak2 this)
      .exact wu
     .have hlt:=(akY.1 aq).1;rw[ak4,List.length_singleton]at hlt;dsimp only;rw[alC,Rm i hlt];split
      .rename_i h5;rw[alj h5]at aq;exact hmono _ _ (hold i x' aq)
      .rename_i h5;rw[aln (by omega),show i-xs.length=0 by omega]at aq;cases aq
       exact hmono _ _ (.d _ _ CZ))
    have br:=km.1.drop p;rw[<-uv]at br;refine x5 _ _ _ aF br (.va _ _ _ _ ⟨d,[],rfl,alb⟩ rfl fun w1 ys qe=>?_);obtain⟨rfl,rfl⟩:w1=1∧ys=xs++[.d u]:=by simpa[St.add,aA,eq_comm]using qe
    exact⟨by simp,_,nc,rfl,.inr ⟨⟨w.drew.heap.size,0,nc⟩,by simp[aA],by simp,by omega,by simp⟩⟩
   ·-- there is room
    obtain⟨h3,h4⟩|⟨k,aC,rfl,h2,h3⟩:=hc
    .omega
    .rcases(hs.aJ p _ ae).2 with⟨h4,_⟩|⟨k',c,e',qC,kl,xr,wF,wB,uJ⟩
     .rw[aC]at h4;cases h4
     .obtain rfl:=alo (aC.symm.trans qC);have kE:k.o+0+xs.length*wd none+news.length<=c.size:=by rw[r8];simp[wd];omega
      have aF:=NG (P:=P) (t:=t) x4 hi ty (wf:=none) (by rw[jF,cW]) fE kl (o:=k.o+0) (n:=xs.length) (cap:=cap) (by simp;omega) kE;simp only[List.length_singleton,wd,ann,Nat.add_zero]at aF kE
      obtain⟨v0,rfl⟩:∃v0,news=[v0]:=by
       match news,r8 with
       |[v],_=>exact⟨v,rfl⟩
      have mI:au w.heap (s'.own B.A β) v0 u:=CZ;have x6:v0.oneCell'=true:=wu
      have bh:aj B (aA β [d] (some ⟨k.b,k.o,k.z⟩)) ((s'.set p none).add d (.eA (xs++[.d u]))) a.tmps (w.setRow k.b (splice c.toList (k.o+xs.length) [v0]).toArray):=by
       refine hs.FQ iW ae aC (.eA (xs++[.d u])) k.o (w':=w.setRow k.b (splice c.toList (k.o+xs.length) [v0]).toArray) rfl (by simp) (fun b hb=>setRow_other w k.b b _ hb) (fun β' hβ hmono=>?_);refine .inr ⟨_,_,e',hβ,setRow_heap w k.b c _ e' (0,0) kl,?_,by simp;omega,fun j hj=>?_,fun j x' hj=>?_⟩
       .simp;rw[um _ _ _ (by simp;omega)];simpa using xr
       .rw[ak4,List.length_singleton]at hj;dsimp only;rw[FU c _ v0 (by omega)];split
        .exact x6
        .exact wB j (by omega)
       .have hlt:=(akY.1 hj).1;rw[ak4,List.length_singleton]at hlt;dsimp only;rw[FU c _ v0 (by omega)];split
        .have:j=xs.length:=by omega
         subst this;rw[aln (by omega),am5]at hj;cases hj;exact hmono _ _ (.d _ _ mI)
        .rw[alj (by omega)]at hj;exact hmono _ _ (uJ j x' hj)
      refine x5 _ _ _ aF bh (.va _ _ _ _ ⟨d,[],rfl,alb⟩ rfl fun w1 ys qe=>?_);obtain⟨rfl,rfl⟩:w1=1∧ys=xs++[.d u]:=by simpa[St.add,aA,eq_comm]using qe
      exact⟨by simp,_,cap,rfl,.inr ⟨⟨k.b,k.o,k.z⟩,by simp[aA],rfl,by omega,by simpa using h3⟩⟩
variable {κ:Type}[DecidableEq κ]{ke:κ->D}{kv:κ->Value}
theorem Rn{kt:TypeId}(K:jS P kt ke kv){H:Array Obj}{own:Nat->Prop}{used:List Nat}{hp:Name->Option Ob}{β:Name->Option a8}{ks:List κ}{es:List (D×AV)}{aE:Array MapEntry}(hk:es.map (·.1)=ks.map ke)(bj:aE.size=es.length)
  (h:∀(i:Nat) (x:D×AV),es[i]?=some x->∃en:MapEntry,aE[i]?=some en∧au H own en.key x.1∧VR H own used hp β en.val x.2):aE.toList.map (·.key)=ks.map kv:=by
 have hl:es.length=ks.length:=by simpa using congrArg List.length hk
 apply al9 (by simp[bj,hl]);intro i h1 h2;have hi:i<ks.length:=by simpa using h2
 obtain⟨en,he,hr,_⟩:=h i (es[i]'(by omega)) (ak0 (by omega))
 have nK:(es[i]'(by omega)).1=ke ks[i]:=by
  have:=congrArg (·[i]?) hk;simp only[ala,ak0 (show i<es.length by omega),ak0 hi,Option.map_some,alE]at this;exact this
 rw[nK]at hr;have de:i<aE.size:=by omega
 simp[de]at he;simp[he,K.val hr]
theorem Ro{aE:Array MapEntry}(i:Nat)(f:MapEntry->MapEntry)(hf:∀e,(f e).born=e.born):(aE.modify i f).toList.map (·.born)=aE.toList.map (·.born):=by
 refine amg fun j=>?_;rw[ala,ala,alM,alM,al7];split
 .cases aE[j]? with
  |none=>rfl
  |some x=>simp[hf]
 .rfl
theorem aem{mt kt et:Nat}{x y:Operand}{d:Nat}{ty:TypeId}{ps:String}{af:Array Edge}(p:Name)(ay:Nat)(bs:List Nat)(es:List (D×AV))(ks:List κ)(key:κ)(i:Nat)(v:AV)(hm:(P.ti mt).k=.map kt et)(K:jS P kt ke kv)(hd:d<cf.n)
  (hx:ev s x=.ma p) (hy:ev s y=.d (ke key)) (hp:s.hp p=some (.mapA ay bs es)) (jT:es.map (·.1)=ks.map ke) (hi:eT ks key=some i) (hv:es[i]?=some (ke key,v)) :
  QE P cf { dst:=some d,op:=.mapEntry mt x y,type:=ty,pos:=ps,after:=af,guard:=none } s (.az [v,.d (.int .i64 (bs.getD i 0))]) ([p],⟨[(p,some (.mapA ay bs es))],[]⟩):=by
 intro s' _ hh df B hB ds β a w ai hs Q';have iV:=hs.ev x;rw[df x (by simp[Op.operands]),hx]at iV;have jZ:=hs.ev y;rw[df y (by simp[Op.operands]),hy]at jZ;have jZ:=K.val jZ.cA;have ae:=(hh p (by simp)).trans hp;generalize hval:a.eval x=xv at iV
 cases iV with
 |ma _ _ hn h1 h =>
   obtain⟨k,hk,rfl⟩:=h _ _ _ ae;obtain⟨k',aE,aC,hb,⟨bj,pX,iD⟩,fF⟩:=(hs.aJ p _ ae).2;obtain rfl:=alo (hk.symm.trans aC);have C4:=Rn K jT bj fF;have hf:=K.find key aE.toList ks w C4;rw[hi]at hf;obtain⟨en,h2,h3,h4⟩:=fF i _ hv;have nK:=K.val h3;have mM:aE.toList[i]?=some en:=by simpa using h2
   have FW:bs.getD i 0=en.born:=by
    rw[<-iD,akX,ala,mM];rfl
   have aF:(execOp a.eval { dst:=some d,op:=.mapEntry mt x y,type:=ty,pos:=ps,after:=af,guard:=none }).run P w=.ok (.value (.tuple #[en.val,goInt en.born])) { w with heap:=w.heap.setIfInBounds k.b (.map (aE.modify i fun e=>{ e with key:=kv key }) ay) }:=by
    simp only[execOp,hval,jZ,Instr.mapEntry,Sem.run_bind,run_underlying (mg hm),Result.andThen_ok,MapKept.run_getObj_map hb,K.fc,Sem.run_pure];rw[hf];simp[setObj,Sem.run,Instr.keyThatStays,h2,nK,K.same,hb]
   have bh:aj B β (s'.set p (some (.mapA ay bs es))) a.tmps { w with heap:=w.heap.setIfInBounds k.b (.map (aE.modify i fun e=>{ e with key:=kv key }) ay) }∧VR { w with heap:=w.heap.setIfInBounds k.b (.map (aE.modify i fun e=>{ e with key:=kv key }) ay) }.heap ((s'.set p (some (.mapA ay bs es))).own B.A β) s'.used (s'.set p (some (.mapA ay bs es))).hp β en.val v:=by
    have:=hs.modify (p:=p) (ob':=.mapA ay bs es) ae trivial (w':={ w with heap:=w.heap.setIfInBounds k.b (.map (aE.modify i fun e=>{ e with key:=kv key }) ay) }) rfl (by simp)
     (fun b' eI=>by
      have:b'≠k.b:=eI k hk
      simp[Ne.symm this]) (fun qE qG=>by
      refine⟨k,aE.modify i fun e=>{ e with key:=kv key },hk,by simp[dI hb],⟨by simpa using bj,Jd pX _ _ fun _=>rfl,(Ro i (fun e=>{ e with key:=kv key }) fun _=>rfl).trans iD⟩,fun j x' hj=>?_⟩;obtain⟨rU,g1,g2,g3⟩:=fF j x' hj;by_cases cx:i=j
      .subst cx;rw[hv]at hj;cases hj;rw[h2]at g1;cases g1;exact⟨{ en with key:=kv key },by rw[al7,if_pos rfl,h2];rfl,K.rep _ _ _,qE _ _ h4⟩
      .exact⟨rU,by rw[al7,if_neg cx];exact g1,qG _ _ g2,qE _ _ g3⟩)
    exact⟨this.1,this.2 _ _ h4⟩
   refine fR (by simp) aF (.inl rfl) ⟨ai,β,?_⟩;rw[Kt];refine bh.1.put (by rw[hB.1];exact hd) (.az _ _ rfl fun j z hj=>?_)
   match j,hj with
   |0,hj=>obtain rfl:=alo hj;exact bh.2
   |1,hj=>obtain rfl:=alo hj;rw[FW];exact .d _ _ (.int _ _)
theorem aen{mt kt et:Nat}{x y:Operand}{d:Nat}{ty:TypeId}{ps:String}{af:Array Edge}(p:Name)(ay:Nat)(bs:List Nat)(es:List (D×AV))(ks:List κ)(key:κ)(z:D)(hm:(P.ti mt).k=.map kt et)(K:jS P kt ke kv)(hz:rT P et=some z)(hd:d<cf.n)
  (hx:ev s x=.ma p) (hy:ev s y=.d (ke key)) (hp:s.hp p=some (.mapA ay bs es)) (jT:es.map (·.1)=ks.map ke) (hi:eT ks key=none) :
  QE P cf { dst:=some d,op:=.mapEntry mt x y,type:=ty,pos:=ps,after:=af,guard:=none } s (.az [.d z,.d (.int .i64 ay)]) ([p],⟨[(p,some (.mapA (ay+1) (bs++[ay]) (es++[(ke key,.d z)])))],[]⟩):=by
 intro s' _ hh df B hB ds β a w ai hs Q';have iV:=hs.ev x;rw[df x (by simp[Op.operands]),hx]at iV;have jZ:=hs.ev y;rw[df y (by simp[Op.operands]),hy]at jZ;have jZ:=K.val jZ.cA;have ae:=(hh p (by simp)).trans hp;generalize hval:a.eval x=xv at iV
 cases iV with
 |ma _ _ hn h1 h =>
   obtain⟨k,hk,rfl⟩:=h _ _ _ ae;obtain⟨k',aE,aC,hb,⟨bj,pX,iD⟩,fF⟩:=(hs.aJ p _ ae).2;obtain rfl:=alo (hk.symm.trans aC);have C4:=Rn K jT bj fF;have hf:=K.find key aE.toList ks w C4;rw[hi]at hf;obtain⟨zv,xG,lM⟩:=EY hz
   have aF:(execOp a.eval { dst:=some d,op:=.mapEntry mt x y,type:=ty,pos:=ps,after:=af,guard:=none }).run P w=.ok (.value (.tuple #[zv,goInt ay])) { w with heap:=w.heap.setIfInBounds k.b (.map (aE.push { key:=kv key,val:=zv,born:=ay }) (ay+1)) }:=by
    simp only[execOp,hval,jZ,Instr.mapEntry,Sem.run_bind,run_underlying (mg hm),Result.andThen_ok,MapKept.run_getObj_map hb,K.fc,Sem.run_pure];rw[hf];simp[setObj,Sem.run,xG,hb]
   have bh:=(hs.modify (p:=p) (ob':=.mapA (ay+1) (bs++[ay]) (es++[(ke key,.d z)])) ae trivial (w':={ w with heap:=w.heap.setIfInBounds k.b (.map (aE.push { key:=kv key,val:=zv,born:=ay }) (ay+1)) }) rfl (by simp)
    (fun b' eI=>by
     have:b'≠k.b:=eI k hk
     simp[Ne.symm this]) (fun qE qG=>by
     refine⟨k,aE.push { key:=kv key,val:=zv,born:=ay },hk,by simp[dI hb],⟨by simp[bj],OM pX _ _,by simp[iD]⟩,fun j x' hj=>?_⟩;by_cases hlt:j<es.length
     .rw[alj hlt]at hj;obtain⟨rU,g1,g2,g3⟩:=fF j x' hj;exact⟨rU,by rw[ano,if_neg (by omega)];exact g1,qG _ _ g2,qE _ _ g3⟩
     .have kJ:=(akY.1 hj).1;rw[ak4,List.length_singleton]at kJ;have:j=es.length:=by omega
      subst this;rw[aln (by omega),am5]at hj;cases hj
      exact⟨_,by rw[ano,if_pos bj.symm],K.rep _ _ _,.d _ _ (lM _ _)⟩)).1
   refine fR (by simp) aF (.inl rfl) ⟨ai,β,?_⟩;rw[Kt];refine bh.put (by rw[hB.1];exact hd) (.az _ _ rfl fun j u hj=>?_)
   match j,hj with
   |0,hj=>obtain rfl:=alo hj;exact .d _ _ (lM _ _)
   |1,hj=>obtain rfl:=alo hj;exact .d _ _ (.int _ _)
theorem Rp{mt:Nat}{x y z:Operand}{ty:TypeId}{ps:String}{af:Array Edge}(p:Name)(ay:Nat)(bs:List Nat)(es:List (D×AV))(i b:Nat)(kd:D)(v0 v:AV)(hx:ev s x=.ma p)(hy:ev s y=.d (.int .i64 b))(hz:ev s z=v)(hp:s.hp p=some (.mapA ay bs es))(hi:es[i]?=some (kd,v0))(hb:bs[i]?=some b) :
  QE P cf { dst:=none,op:=.entryStore mt x y z,type:=ty,pos:=ps,after:=af,guard:=none } s .un ([p],⟨[(p,some (.mapA ay bs (es.set i (kd,v))))],[]⟩):=by
 intro s' _ hh df B hB ds β a w ai hs Q';have iV:=hs.ev x;rw[df x (by simp[Op.operands]),hx]at iV;have jZ:=hs.ev y;rw[df y (by simp[Op.operands]),hy]at jZ;have jZ:=jZ.int;have vX:=hs.ev z;rw[df z (by simp[Op.operands]),hz]at vX;have ae:=(hh p (by simp)).trans hp;generalize hval:a.eval x=xv at iV
 cases iV with
 |ma _ _ hn h1 h =>
   obtain⟨k,hk,rfl⟩:=h _ _ _ ae;obtain⟨k',aE,aC,kl,⟨bj,pX,iD⟩,fF⟩:=(hs.aJ p _ ae).2;obtain rfl:=alo (hk.symm.trans aC);obtain⟨en,h2,h3,h4⟩:=fF i _ hi;have bF:i<aE.size:=(amw.1 h2).1
   have aeo:aE.findIdx? (fun e=>(e.born:Int) == (b:Int))=some i:=by
    rw[Array.findIdx?_eq_some_iff_getElem]
    have FW:∀j (hj:j<aE.size),bs[j]?=some aE[j].born:=fun j hj=>by
     rw[<-iD,ala,alM,al6 hj];rfl
    refine⟨bF,?_,fun j hj=>?_⟩
    .have:=FW i bF;rw[hb]at this;simp[alo this]
    .have aX:j<aE.size:=by omega
     intro e;have e:(aE[j].born:Int)=(b:Int):=by simpa using e
     have e:aE[j].born=b:=by omega
     have h5:=FW j aX;have hnd:bs.Nodup:=by rw[<-iD];exact pX.1
     have e6:=(akY.1 h5).1;have akG:=(akY.1 hb).1
     have h6:bs[j]=bs[i]:=by
      rw[(akY.1 h5).2,(akY.1 hb).2,e]
     have:=(List.getElem_inj hnd).1 h6;omega
   have aF:(execOp a.eval { dst:=none,op:=.entryStore mt x y z,type:=ty,pos:=ps,after:=af,guard:=none }).run P w=.ok .skip { w with heap:=w.heap.setIfInBounds k.b (.map (aE.modify i fun e=>{ e with val:=a.eval z }) ay) }:=by
    simp only[execOp,hval,jZ,Instr.entryStore,Sem.run_bind,Result.andThen_ok,MapKept.run_getObj_map kl,Sem.run_pure,asInt,asIntOf];rw[aeo];simp[setObj,Sem.run,kl]
   have bh:=(hs.modify (p:=p) (ob':=.mapA ay bs (es.set i (kd,v))) ae trivial (w':={ w with heap:=w.heap.setIfInBounds k.b (.map (aE.modify i fun e=>{ e with val:=a.eval z }) ay) }) rfl (by simp)
    (fun b' eI=>by
     have:b'≠k.b:=eI k hk
     simp[Ne.symm this]) (fun qE qG=>by
     refine⟨k,aE.modify i fun e=>{ e with val:=a.eval z },hk,by simp[dI kl],⟨by simpa using bj,Jd pX _ _ fun _=>rfl,(Ro i (fun e=>{ e with val:=a.eval z }) fun _=>rfl).trans iD⟩,fun j x' hj=>?_⟩;by_cases cx:i=j
     .subst cx;rw[alA (akY.1 hi).1]at hj;cases hj;exact⟨{ en with val:=a.eval z },by rw[al7,if_pos rfl,h2];rfl,qG _ _ h3,qE _ _ vX⟩
     .rw[alu cx]at hj;obtain⟨rU,g1,g2,g3⟩:=fF j x' hj
      exact⟨rU,by rw[al7,if_neg cx];exact g1,qG _ _ g2,qE _ _ g3⟩)).1
   refine fR (by simp) aF (.inr ⟨rfl,rfl⟩) ⟨ai,β,?_⟩;rw[Ks];exact bh
end
end Go.Ab

namespace Go.Ab
def fG(h:Nat):Nat->List (Option (List D))->List (Name×Ob)
 |_,[]=>[]
 |i,none::r=>fG h (i+1) r
 |i,some ys::r=>([h,i],.arr none ys)::fG h (i+1) r
def cm(h:Nat)(xs:List (Option (List D)))(r:List (Name×Ob)):List (Name×Ob):=fG h 0 xs++r
def bA(h:Nat):Nat->List (Option (List D))->List AV
 |_,[]=>[]
 |i,none::r=>.un::bA h (i+1) r
 |i,some ys::r=>.vw [h,i] 0 ys.length::bA h (i+1) r
def aep(h:Nat)(xs:List (Option (List D))):Name->Option (List D)
 |[a,i]=>if a=h then(xs.getD i none)else none
 |_=>none
theorem aeq(h:Nat)(xs:List (Option (List D)))(a:Nat):aep h xs [a]=none:=rfl
theorem n3(h:Nat):∀(xs:List (Option (List D))) (i:Nat) (q:Name×Ob),q∈fG h i xs↔∃j ys,xs[j]?=some (some ys)∧q=([h,i+j],.arr none ys)
 |[],i,q=>by simp[fG]
 |none::r,i,q=>by
   rw[fG,n3 h r];constructor
   .rintro⟨j,ys,h1,rfl⟩;exact⟨j+1,ys,by simpa using h1,by rw[show i+1+j=i+(j+1) by omega]⟩
   .rintro⟨j,ys,h1,rfl⟩
    cases j with
    |zero=>simp at h1
    |succ j=>exact⟨j,ys,by simpa using h1,by rw[show i+1+j=i+(j+1) by omega]⟩
 |some zs::r,i,q=>by
   rw[fG,alc,n3 h r];constructor
   .rintro(rfl|⟨j,ys,h1,rfl⟩)
    .exact⟨0,zs,rfl,rfl⟩
    .exact⟨j+1,ys,by simpa using h1,by rw[show i+1+j=i+(j+1) by omega]⟩
   .rintro⟨j,ys,h1,rfl⟩
    cases j with
    |zero=>simp at h1;subst h1;exact .inl rfl
    |succ j=>exact .inr ⟨j,ys,by simpa using h1,by rw[show i+1+j=i+(j+1) by omega]⟩
theorem oV(h:Nat):∀(xs:List (Option (List D))) (i:Nat),(bA h i xs).length=xs.length
 |[],_=>rfl
 |none::r,i=>by simp[bA,oV h r]
 |some _::r,i=>by simp[bA,oV h r]
theorem r9(h:Nat):∀(xs:List (Option (List D))) (i j:Nat),(bA h i xs)[j]?=(xs[j]?).map fun o=>match o with
  |some ys=>.vw [h,i+j] 0 ys.length
  |none=>.un
 |[],i,j=>by simp[bA]
 |none::r,i,0=>by simp[bA]
 |some _::r,i,0=>by simp[bA]
 |none::r,i,j+1=>by
   rw[bA,List.getElem?_cons_succ,List.getElem?_cons_succ,r9 h r,show i+1+j=i+(j+1) by omega]
 |some _::r,i,j+1=>by
   rw[bA,List.getElem?_cons_succ,List.getElem?_cons_succ,r9 h r,show i+1+j=i+(j+1) by omega]
theorem Ku(h a:Nat)(t:Name)(hn:(a == h)=false):∀(xs:List (Option (List D))) (i:Nat) (r:List (Name×Ob)),aw none ((fG h i xs++r).map fun q=>(q.1,some q.2)) (a::t)=aw none (r.map fun q=>(q.1,some q.2)) (a::t)
 |[],i,r=>rfl
 |none::xs,i,r=>by rw[fG,Ku h a t hn xs]
 |some _::xs,i,r=>by
   have:a≠h:=by simpa using hn
   rw[fG,List.cons_append,alf,aw,if_neg (by simp[this]),Ku h a t hn xs]
theorem Kv(h a:Nat)(t:Name)(o:Ob)(hn:(a == h)=false):∀(xs:List (Option (List D))) (i:Nat) (r:List (Name×Ob)),js (fG h i xs++r) (a::t) o=fG h i xs++js r (a::t) o
 |[],i,r=>rfl
 |none::xs,i,r=>by rw[fG,Kv h a t o hn xs]
 |some _::xs,i,r=>by
   have:a≠h:=by simpa using hn
   rw[fG,List.cons_append,js,if_neg (by simp[this]),Kv h a t o hn xs,List.cons_append]
theorem Kw(h a:Nat)(t:Name)(hn:(a == h)=false):∀(xs:List (Option (List D))) (i:Nat) (r:List (Name×Ob)),jR (fG h i xs++r) (a::t)=fG h i xs++jR r (a::t)
 |[],i,r=>rfl
 |none::xs,i,r=>by rw[fG,Kw h a t hn xs]
 |some _::xs,i,r=>by
   have:a≠h:=by simpa using hn
   rw[fG,List.cons_append,jR,if_neg (by simp[this]),Kw h a t hn xs,List.cons_append]
theorem Rq(h a:Nat)(t:Name)(xs:List (Option (List D)))(r:List (Name×Ob))(hn:(a == h)=false):aw none ((cm h xs r).map fun q=>(q.1,some q.2)) (a::t)=aw none (r.map fun q=>(q.1,some q.2)) (a::t):=Ku h a t hn xs 0 r
theorem aer(h a:Nat)(t:Name)(o:Ob)(xs:List (Option (List D)))(r:List (Name×Ob))(hn:(a == h)=false):js (cm h xs r) (a::t) o=cm h xs (js r (a::t) o):=Kv h a t o hn xs 0 r
theorem aes(h a:Nat)(t:Name)(xs:List (Option (List D)))(r:List (Name×Ob))(hn:(a == h)=false):jR (cm h xs r) (a::t)=cm h xs (jR r (a::t)):=Kw h a t hn xs 0 r
attribute [go_sem] Rq aer aes Ks Kt Rj aeg Nat.reduceBEq Nat.beq_eq_true_eq aeq
section
variable {U:List Nat}{τ:Name->Name}{s:St}{u:List Nat}{h:Nat}{xs:List (Option (List D))}{r:List (Name×Ob)}
theorem FX:∀{a b:List (Name×Ob)},oH τ u s a->oH τ u s b->oH τ u s (a++b)
 |[],_,_,hb=>hb
 |_::_,_,ha,hb=>⟨ha.1,FX ha.2 hb⟩
theorem uK:∀{a:List (Name×Ob)},(∀q∈a,s.hp (τ q.1)=some (q.2.ren τ)∧q.2.bn u=true∧b9 u q.1=true)->oH τ u s a
 |[],_=>trivial
 |q::_,h=>⟨h q alb,uK fun x hx=>h x (ald _ hx)⟩
theorem Rr:∀{a b:List (Name×Ob)},kh τ a->kh τ b->(∀q∈a,∀x∈b,τ q.1≠τ x.1)->kh τ (a++b)
 |[],_,_,hb,_=>hb
 |q::_,_,ha,hb,hc=>⟨fun x hx=>(ak1.1 hx).elim (ha.1 x) (hc q alb x),Rr ha.2 hb fun x hx=>hc x (ald _ hx)⟩
theorem tv:∀{a:List (Name×Ob)},(∀q∈a,b9 U q.1=true->τ q.1=q.1)->Bv U τ a
 |[],_=>trivial
 |q::_,h=>⟨h q alb,tv fun x hx=>h x (ald _ hx)⟩
theorem FY(hu:u.contains h=true)(hf:∀i ys,xs[i]?=some (some ys)->s.hp (τ [h,i])=some (.arr none ys))(hr:oH τ u s r):oH τ u s (cm h xs r):=by
 refine FX (uK fun q hq=>?_) hr;obtain⟨j,ys,h1,rfl⟩:=(n3 h xs 0 q).1 hq;rw[alC];exact⟨hf j ys h1,rfl,hu⟩
theorem aeu(hi:∀i j ys zs,xs[i]?=some (some ys)->xs[j]?=some (some zs)->τ [h,i]=τ [h,j]->i=j):kh τ (fG h 0 xs):=by
 have go:∀(m:Nat) (ys:List (Option (List D))),xs.drop m=ys->kh τ (fG h m ys):=by
  intro m ys
  induction ys generalizing m with
  |nil=>exact fun _=>trivial
  |cons o r ih =>
    intro e;have e2:xs.drop (m+1)=r:=by rw[<-anf,e];rfl
    have dj:∀j,xs[m+j]?=(o::r)[j]?:=fun j=>by rw[<-alY,e]
    cases o with
    |none=>exact ih (m+1) e2
    |some zs =>
      refine⟨fun x hx=>?_,ih (m+1) e2⟩;obtain⟨j,ws,h1,rfl⟩:=(n3 h r (m+1) x).1 hx;intro e';have h2:=dj 0;have h3:=dj (j+1);rw[List.getElem?_cons_succ,h1]at h3;have:=hi m (m+1+j) zs ws (by simpa using h2) (by rw[show m+1+j=m+(j+1) by omega];exact h3) e';omega
 exact go 0 xs rfl
theorem Rs(hi:∀i j ys zs,xs[i]?=some (some ys)->xs[j]?=some (some zs)->τ [h,i]=τ [h,j]->i=j)(hc:∀i ys,xs[i]?=some (some ys)->∀q∈r,τ [h,i]≠τ q.1)(hr:kh τ r):kh τ (cm h xs r):=by
 refine Rr (aeu hi) hr fun q hq x hx=>?_;obtain⟨j,ys,h1,rfl⟩:=(n3 h xs 0 q).1 hq;rw[alC];exact hc j ys h1 x hx
theorem fH{fr:List (Nat×AV)}{i:Nat}{ys:List D}(hi:xs[i]?=some (some ys)):(mk fr (cm h xs r) u).hp [h,i]=some (.arr none ys):=by
 rw[vu]
 have go:∀(xs:List (Option (List D))) (m i:Nat),xs[i]?=some (some ys)->aw none ((fG h m xs++r).map fun q=>(q.1,some q.2)) [h,m+i]=some (.arr none ys):=by
  intro xs
  induction xs with
  |nil=>intro m i hi;simp at hi
  |cons o xs ih =>
    intro m i hi
    cases i with
    |zero =>
      simp at hi;subst hi;rw[fG,List.cons_append,alf,aw,if_pos (by simp)]
    |succ i =>
      have aq:xs[i]?=some (some ys):=by simpa using hi
      have:=ih (m+1) i aq;rw[show m+1+i=m+(i+1) by omega]at this
      cases o with
      |none=>exact this
      |some zs =>
        rw[fG,List.cons_append,alf,aw,if_neg (by simp),this]
 have:=go xs 0 i hi
 rwa [alC]at this
theorem aev{fr:List (Nat×AV)}{g:Nat}{ws:List (Option (List D))}{i:Nat}{ys:List D}(hg:g≠h)(hi:xs[i]?=some (some ys)):(mk fr (cm g ws (cm h xs r)) u).hp [h,i]=some (.arr none ys):=by
 rw[vu,Rq g h [i] ws _ (by simpa using Ne.symm hg)];exact fH (fr:=fr) (u:=u) hi
end
section
variable {P:Program}{cf:Cf}{Q:Exit->St->Prop}{s:St}{k:List It}
theorem wG(E:bu P cf Q){c:Code}{τ:Name->Name}{s2:St}(hle:Le cf.U τ s s2)(h:e8 E c s2 k):e8 E c s k:=by
 intro B hB ds β a w ai hs;obtain⟨β2,br,_⟩:=hs.le (τ:=τ) (by rw[hB.2.1];exact hle);exact h B hB ds β2 a w ai br
theorem aew{H:Array Obj}{own:Nat->Prop}{used:List Nat}{hp:Name->Option Ob}{β:Name->Option a8}{v:Value}{p:Name}(hu:nm used p)(ho:hp p=some (.eA []))(h:VR H own used hp β v (.d .ao)):VR H own used hp β v (.va p 0 0):=by
 have:=h.cA;cases this
 exact .va _ _ _ _ hu rfl fun w1 xs hx=>by
  rw[ho]at hx;cases hx;exact⟨ali _,none,0,rfl,.inl ⟨rfl,rfl⟩⟩
theorem aex(E:bu P cf Q){c:Code}(p:Name)(j n:Nat)(ty:Option Nat)(cs:List AV)(hp:s.hp p=some (.bt ty cs))(hj:cs[j]?=some (.d .ao))(hn:n∉s.used)(h:e8 E c ((s.add n (.eA [])).set p (some (.bt ty (cs.set j (.va [n] 0 0))))) k):e8 E c s k:=by
 intro B hB ds β a w' ai hs;have h1:=hs.aef hn;have ib:p≠[n]:=iU (hs.aJ p _ hp).1 hn;refine h B hB ds _ a w' ai (h1.Cp (cs:=cs) (by simpa[St.add,aA,ib]using hp) (by simp) fun v i x x' hx aR hv=>?_);by_cases e:j=i
 .subst e;rw[hj]at hx;cases hx;rw[alA (akY.1 hj).1]at aR;cases aR;exact aew ⟨n,[],rfl,alb⟩ (by simp[St.add,aA]) hv
 .rw[alu e,hx]at aR;cases aR;exact hv
theorem Rt(E:bu P cf Q){c:Code}(p:Name)(j n:Nat)(w:W){m:Nat}(xs:List AV)(hp:s.hp p=some (.ez m xs))(hj:xs[j]?=some (.d .ao))(hn:n∉s.used)(h:e8 E c ((s.add n (.arr w [])).set p (some (.ez m (xs.set j (.vw [n] 0 0))))) k):e8 E c s k:=by
 intro B hB ds β a w' ai hs;have h1:=hs.sM hn none w;have ib:p≠[n]:=iU (hs.aJ p _ hp).1 hn;have Ru:(s.add n (.arr w [])).hp p=some (.ez m xs):=by simpa[St.add,aA,ib]using hp
 refine h B hB ds _ a w' ai (h1.modify (p:=p) (ob':=.ez m (xs.set j (.vw [n] 0 0))) Ru (by simp[Ob.like]) (w':=w') rfl rfl (fun _ _=>rfl) (fun hv _=>?_)).1;rcases(h1.aJ p _ Ru).2 with⟨h2,h3⟩|⟨k,c,e,hk,hb,hz,hl,wB,hc⟩
 .rw[h3]at hj;simp at hj
 .refine .inr ⟨k,c,e,hk,hb,hz,by simpa using hl,by simpa using wB,fun i x hi=>?_⟩;by_cases e:j=i
  .subst e;rw[alA (akY.1 hj).1]at hi;cases hi;exact hv _ _ (Cq (w:=w) ⟨n,[],rfl,alb⟩ (by simp[St.add,aA]) (hc j _ hj))
  .rw[alu e]at hi;exact hv _ _ (hc i x hi)
theorem aey{B:Base}{β:Name->Option a8}{s:St}{tm:Array Value}{w:World}(h:aj B β s tm w){t:Nat}(ht:t∉s.used):∃β',aj B β' (s.add t (.mapA 0 [] [])) tm (w.alloc (.map #[] 0))∧β' [t]=some ⟨w.heap.size,0,0⟩:=by
 obtain⟨bh,_⟩:=h.alloc ht (.map #[] 0) (.mapA 0 [] []) 0 (fun β' hβ _=>⟨_,#[],hβ,by show(w.heap.push _)[w.heap.size]?=_;rw[am6],⟨rfl,by simp[pK],rfl⟩,fun i x hi=>by simp at hi⟩);exact⟨_,bh,by simp[aA]⟩
theorem aez{t0 d:Nat}{ty:TypeId}{ps:String}{af:Array Edge}(hd:d<cf.n∧d∉s.used) :
  QE P cf { dst:=some d,op:=.makeMap t0 none,type:=ty,pos:=ps,after:=af,guard:=none } s (.ma [d]) ([],⟨[([d],some (.mapA 0 [] []))],[d]⟩):=by
 intro s' hu _ _ B hB ds β a w ai hs Q'
 have aF:(execOp a.eval { dst:=some d,op:=.makeMap t0 none,type:=ty,pos:=ps,after:=af,guard:=none }).run P w=.ok (.value (.map (some w.heap.size))) (w.alloc (.map #[] 0)):=by
  simp only[execOp,Instr.makeMap];rfl
 obtain⟨β',bh,hb⟩:=aey hs (t:=d) (hu d (by simp));refine fR (by simp) aF (.inl rfl) ⟨ai,β',?_⟩;have e:s'.go (some d) (.ma [d]) ⟨[([d],some (.mapA 0 [] []))],[d]⟩=(s'.add d (.mapA 0 [] [])).put d (.ma [d]):=by unfold St.go;rw[xI];rfl
 rw[e];exact bh.put (by rw[hB.1];exact hd.1) (.ma _ _ ⟨d,[],rfl,alb⟩ rfl fun _ _ _ _=>⟨_,hb,rfl⟩)
theorem Rv(s:St)(t:Nat)(x:AV)(u:Nat)(ob:Ob):s.go (some t) x ⟨[([u],some ob)],[u]⟩=(s.add u ob).put t x:=by unfold St.go;rw[xI];rfl
attribute [go_sem] Rv
end
end Go.Ab

namespace Go.Ab
end Go.Ab

namespace Go.Ab
structure FZ(H:Array Obj)(own:Nat->Prop)(wf:W)(xs:List D)(news:List Value):Prop where
 size:news.length=xs.length*wd wf
 ok:∀x∈xs,okW wf x
 rep:∀i x j d,xs[i]?=some x->x.cells[j]?=some d->au H own (news.getD (i*wd wf+j) undef) d
theorem aeA{H:Array Obj}{own:Nat->Prop}(l:List UInt8):FZ H own none (l.map fV) (byteCells ⟨l.toArray⟩):=by
 have hb:byteCells ⟨l.toArray⟩=l.map fun b=>Value.int .u8 b.toNat:=by unfold byteCells;simp
 refine⟨by rw[hb];simp[wd],fun x hx=>?_,fun i x j d hi hj=>?_⟩
 .obtain⟨c,_,rfl⟩:=ak6.1 hx;rfl
 .rw[ala]at hi
  cases hc:l[i]? with
  |none=>rw[hc]at hi;cases hi
  |some c =>
    rw[hc]at hi;obtain rfl:fV c=x:=by simpa using hi
    have qM:j=0∧d=fV c:=by
     obtain _|j:=j
     .refine⟨rfl,?_⟩;have:some (fV c)=some d:=hj;exact(alo this).symm
     .have:([fV c]:List D)[j+1]?=some d:=hj;simp at this
    obtain⟨rfl,rfl⟩:=qM;rw[hb,show i*wd none+0=i by simp[wd],akX,ala,hc];exact .int _ _
section
variable {P:Program}{B:Base}{β:Name->Option a8}{s:St}{tm:Array Value}{w:World}{t u:TypeId}
section
variable {e:Nat}{i:TypeInfo}{z:Value}
theorem aeB(hk:P.underlying t=some (.slice e))(hi:P.info? e=some i)(hz:i.zero=some z)(ty:TypeId){own:Nat->Prop}{wf:W}{xv yv:Value}{xs ys:List D}{olds news:List Value}(hs:i.size=wd wf)
  (hx:mA P w.heap own wf xv xs olds) (hy:Src P i.size u yv ys.length news w) {a:Option Addr} {cap:Nat} (iV:xv=.slice a xs.length cap) (cX:cap<xs.length+ys.length) (hb:(xs.length+ys.length)*i.bytes<=140737488355328) (eI:xs.length+ys.length<=140737488355328) :
  ∃nc,xs.length+ys.length<=nc∧(Builtin.append_ #[t,u] ty #[xv,yv]).run P w =
   .ok (.slice (some ⟨w.heap.size,0,none⟩) (xs.length+ys.length) nc) (w.drew.alloc (.cells (olds.toArray++news.toArray++Builtin.zeroCells z.cells (nc-(xs.length+ys.length))) e)):=by
 subst iV;refine⟨grownCap w (xs.length+ys.length) cap e,grownCap_ge _ _ _ _,?_⟩;have h:=run_append_grow_src w t u ty e i z hk hi hz a xs.length cap olds (by rw[hs];exact hx.run w.drew rfl) yv ys.length news hy cX (by omega) (by have:=growslice_fits cX hb;omega);rw[h];simp
theorem aeC(hk:P.underlying t=some (.slice e))(hi:P.info? e=some i)(ty:TypeId){wf:W}{yv:Value}{ys:List D}{news:List Value}(hs:i.size=wd wf)
  (hy:Src P i.size u yv ys.length news w) {b o n cap:Nat} {c:Array Value} {e':TypeId} (hb:w.heap[b]?=some (.cells c e' (0,0))) (hr:n+ys.length<=cap) (kE:o+n*wd wf+news.length<=c.size) :
  (Builtin.append_ #[t,u] ty #[.slice (some ⟨b,o,none⟩) n cap,yv]).run P w =
   .ok (.slice (some ⟨b,o,none⟩) (n+ys.length) cap) (w.setRow b (splice c.toList (o+n*wd wf) news).toArray):=by
 have ag:=run_storeCells_at (P:=P) b (o+n*wd wf) e' news 0 c w hb (by simpa using kE) hy.one;simp only[Nat.add_zero]at ag;have hc:=hy.cells;rw[hs]at hc;rcases hy.kind with⟨e2,hu⟩|hu<;>simp[Builtin.append_,run_underlying hk,run_underlying hu,sizeOf,typeInfo,hi,hy.len,hr,hs,hc,nr,ag,splice,alK]
end
theorem aeD{H:Array Obj}{own:Nat->Prop}{wf:W}{xs ys:List D}{olds news:List Value}{xv:Value}(hx:mA P H own wf xv xs olds)(hy:FZ H own wf ys news)(rest:Array Value) :
  (∀x∈xs++ys,okW wf x)∧∀i x j d,(xs++ys)[i]?=some x->x.cells[j]?=some d->au H own ((olds.toArray++news.toArray++rest).getD (i*wd wf+j) undef) d:=by
 refine⟨fun x h=>(ak1.1 h).elim (hx.ok x) (hy.ok x),fun i x j d hi hj=>?_⟩
 have dj:∀m,(olds.toArray++news.toArray++rest).getD m undef=if m<olds.length then olds.getD m undef else if m<olds.length+news.length then news.getD (m-olds.length) undef else rest.getD (m-(olds.length+news.length)) undef:=by
  intro m;simp only[akZ,akX,alO,amI,amS,amm];by_cases h1:m<olds.length
  .simp[h1,show m<olds.length+news.length by omega]
  .by_cases h2:m<olds.length+news.length
   .simp[h1,h2]
   .simp[h1,h2]
 rw[dj];rcases alP i xs.length with hlt|cK
 .rw[alj hlt]at hi;have jm:=hx.ok x (alp hi);have e6:j<wd wf:=by rw[<-iE jm];exact(akY.1 hj).1
  have:i*wd wf+wd wf<=xs.length*wd wf:=by rw[<-al8];exact alz _ hlt
  rw[if_pos (by rw[hx.size];omega)];exact hx.rep i x j d hi hj
 .rw[aln cK]at hi;have jm:=hy.ok x (alp hi);have bF:=(akY.1 hi).1;have e6:j<wd wf:=by rw[<-iE jm];exact(akY.1 hj).1
  have h1:xs.length*wd wf<=i*wd wf:=alz _ cK;have h2:(i-xs.length)*wd wf+wd wf<=ys.length*wd wf:=by rw[<-al8];exact alz _ bF
  have h3:i*wd wf=(i-xs.length)*wd wf+xs.length*wd wf:=by rw[<-amf];congr 1;omega
  rw[if_neg (by rw[hx.size];omega),if_pos (by rw[hx.size,hy.size];omega),hx.size,show i*wd wf+j-xs.length*wd wf=(i-xs.length)*wd wf+j by omega];exact hy.rep _ x j d hi hj
theorem aeE(h:aj B β s tm w){xv yv:Value}{p:Name}{o l:Nat}{tg:Option Nat}{wf:W}{xs ys:List D}{news:List Value}(hx:VR w.heap (s.own B.A β) s.used s.hp β xv (.vw p o l))(hp:s.hp p=some (.bB tg wf xs)){e:Nat}(hk:(P.ti t).k=.slice e)
  (hz:(P.ti e).oB=true) (hw:(P.ti e).gD (P.ti e).w=true) (jq:wf=(P.ti e).w) (ty:TypeId) (ur:tg.getD e=e) {dd:Nat} (lJ:dd<B.n) (iW:dd∉s.used) (hb:(l+ys.length)*(P.ti e).iT<=140737488355328)
  (fE:FZ w.heap (s.own B.A β) (P.ti e).w ys news) (C5:∀it,P.info? e=some it->Src P it.size u yv ys.length news w) :
  ∃v w' β',(Builtin.append_ #[t,u] ty #[xv,yv]).run P w=.ok v w'∧aj B β' (((s.set p none).add dd (.bB tg wf ((xs.drop o).take l++ys))).put dd (.vw [dd] 0 (l+ys.length))) (tm.setIfInBounds dd v) w':=by
 obtain⟨hg,cW,_⟩:=oC hw
 obtain⟨z,hz,uu⟩:∃z,(P.ti e).z=some z∧z.length=(P.ti e).sz:=by
  unfold TI.oB at hz;split at hz
  .rename_i z h1;exact⟨z,h1,by simpa using hz⟩
  .cases hz
 obtain⟨zv,hr,hm,it,hi,ny,jF,jo⟩:=rP hz;have hu:=k5 hk
 have Ex:∀m:Nat,m*(P.ti e).iT<=140737488355328->m*it.bytes<=140737488355328∧m<=140737488355328:=by
  intro m kF;unfold TI.iT at kF;rw[jo];split at kF
  .rename_i h0;rw[h0];simp at kF ⊢;exact kF
  .exact⟨kF,alU (am7 m (by omega)) kF⟩
 have fresh:∀(s1:St) (β1:Name->Option a8) (xs ys:List D) (olds news:List Value) (Bn:Value) (dd nc:Nat),aj B β1 s1 tm w->mA P w.heap (s1.own B.A β1) (P.ti e).w Bn xs olds->FZ w.heap (s1.own B.A β1) (P.ti e).w ys news->dd<B.n->dd∉s1.used ->
   xs.length+ys.length<=nc->∃β',aj B β' ((s1.add dd (.bB tg (P.ti e).w (xs++ys))).put dd (.vw [dd] 0 (xs.length+ys.length))) (tm.setIfInBounds dd (.slice (some ⟨w.heap.size,0,none⟩) (xs.length+ys.length) nc))
    (w.drew.alloc (.cells (olds.toArray++news.toArray++Builtin.zeroCells zv.cells (nc-(xs.length+ys.length))) e)):=by
  intro s1 β1 xs ys olds news Bn dd nc h1 dk fE lJ iW pP;obtain⟨r1,r2⟩:=aeD dk fE (Builtin.zeroCells zv.cells (nc-(xs.length+ys.length)))
  have mq:zv.cells.size=wd (P.ti e).w:=by
   have:=(sL (H:=w.heap) (own:=s.own B.A β) hm).1;simp at this;omega
  have bj:(olds.toArray++news.toArray++Builtin.zeroCells zv.cells (nc-(xs.length+ys.length))).size=nc*wd (P.ti e).w:=by
   simp only[amS,amI,dk.size,fE.size,size_zeroCells,mq,<-amf];congr 1;omega
  have:=Bi (h1.xe (w':=w.drew) rfl rfl) lJ iW (c:=olds.toArray++news.toArray++Builtin.zeroCells zv.cells (nc-(xs.length+ys.length))) (wf:=(P.ti e).w) (xs:=xs++ys) (cap:=nc) (by simpa using pP)
   (by rw[bj];exact ali _) r1 (fun i x j d hi hj=>r2 i x j d hi hj) e tg ur
  simpa using this
 have C5:=C5 it hi;obtain⟨rR,eQ⟩:=Ex _ hb;have nE:jl (P.ti e).w s.hp (.vw p o l)=some ((xs.drop o).take l):=by simp[jl,hp,jq]
 obtain⟨olds,dk⟩:=Bm (P:=P) h hx nE;have ib:=iU (h.aJ p _ hp).1 iW
 have uv:∀ob,(s.set p none).add dd ob=(s.add dd ob).set p none:=by
  intro ob;unfold St.add St.set;simp only[St.mk.injEq,true_and,and_true];funext q;simp only[aA];by_cases h1:q=[dd]
  .subst h1;simp[Ne.symm ib]
  .simp[h1]
 cases hx with
 |vw _ _ _ _ hn h1 hx =>
   obtain⟨hle,a,cap,rfl,aR⟩:=hx _ _ _ hp;have hlen:((xs.drop o).take l).length=l:=by simp;omega
   by_cases cX:cap<l+ys.length
   ·-- it grows
    have Il:cap<((xs.drop o).take l).length+ys.length:=by rw[hlen];exact cX
    obtain⟨nc,pP,aF⟩:=aeB (P:=P) (t:=t) hu hi ny ty (by rw[jF,cW]) dk C5 (a:=a) (cap:=cap) (by rw[hlen]) Il (by rw[hlen];exact rR) (by rw[hlen];exact eQ);obtain⟨β',hs⟩:=fresh s β _ ys olds news _ dd nc h dk fE lJ iW pP;rw[hlen]at hs aF;refine⟨_,_,β',aF,?_⟩;rw[uv,jq];have:=hs.drop p;have e2:((s.add dd (.bB tg (P.ti e).w ((xs.drop o).take l++ys))).put dd (.vw [dd] 0 (l+ys.length))).set p none=((s.add dd (.bB tg (P.ti e).w ((xs.drop o).take l++ys))).set p none).put dd (.vw [dd] 0 (l+ys.length)):=rfl
    rwa [e2]at this
   ·-- there is room
    obtain⟨rfl,rfl⟩|⟨k,aC,rfl,eY,lI⟩:=aR
    .have:ys=[]:=amE.1 (by omega);subst this;have CZ:news=[]:=amE.1 (by rw[fE.size];simp);subst CZ;have aeF:=C5;have aF:=run_append_nothing w t u ty e it hu hi a 0 0 (ali 0) yv aeF;refine⟨_,_,aA β [dd] none,aF,?_⟩;rw[uv];have e3:((xs.drop o).take 0++([]:List D))=[]:=by simp
     rw[e3]
     have:=((h.sM iW tg wf).put lJ (v:=.slice a 0 0) (x:=.vw [dd] 0 0) (.vw _ _ _ _ ⟨dd,[],rfl,alb⟩ rfl fun ty' w' xs' ae=>by
      have:w'=wf∧xs'=[]:=an3 (a:=ty'=tg) (by simpa[St.add,aA,eq_comm]using ae);obtain⟨rfl,rfl⟩:=this
      exact⟨by simp,a,0,rfl,.inl ⟨rfl,rfl⟩⟩)).drop p
     exact this
    .have dx:=(h.aJ p _ hp).2;obtain⟨h0,rL⟩|⟨k',c',e',qC,hc,xr,jO,Bo,hcs⟩:=dx
     .rw[h0]at aC;cases aC
     .rw[aC]at qC;cases qC;have hmul:(o+cap)*wd wf=o*wd wf+cap*wd wf:=amf _ _ _;have NF:(l+ys.length)*wd wf<=cap*wd wf:=alz _ (by omega);have XW:(l+ys.length)*wd wf=l*wd wf+ys.length*wd wf:=amf _ _ _;have jG:=fE.size;rw[<-jq]at jG;have kE:k.o+o*wd wf+l*wd wf+news.length<=c'.size:=by omega
      have aF:=aeC (P:=P) (t:=t) hu hi ty (wf:=wf) (by rw[jF,jq,cW]) C5 hc (o:=k.o+o*wd wf) (n:=l) (cap:=cap) (by omega) kE;refine⟨_,_,aA β [dd] (some ⟨k.b,k.o+o*wd wf,k.z⟩),aF,?_⟩
      have bh:=h.renew iW hp aC tg wf ((xs.drop o).take l++ys) (k.o+o*wd wf) (w':=w.setRow k.b (splice c'.toList (k.o+o*wd wf+l*wd wf) news).toArray) rfl (by simp)
       (fun b hb=>setRow_other w k.b b _ hb) (fun hr=>?_)
      .refine bh.put lJ (.vw _ _ _ _ ⟨dd,[],rfl,alb⟩ rfl fun ty' w' xs' ae=>?_);have:w'=wf∧xs'=(xs.drop o).take l++ys:=an3 (a:=ty'=tg) (by simpa[St.add,aA,eq_comm]using ae);obtain⟨rfl,rfl⟩:=this;refine⟨by simp;omega,_,cap,rfl,.inr ⟨_,by simp[aA];rfl,by simp,by omega,?_⟩⟩;simp only[alC];omega
      .have iF:=um c'.toList (k.o+o*wd wf+l*wd wf) news (by simpa using kE);refine⟨_,e',setRow_heap w k.b c' _ _ (0,0) hc,by simp;rw[iF];simpa using xr,?_,fun x hx=>?_,fun i x j d hi hj=>?_⟩
       .rw[ak4,hlen];omega
       .rcases ak1.1 hx with hx|hx
        .exact Bo x (al5 (alL hx))
        .rw[jq];exact fE.ok x hx
       .have Bk:((splice c'.toList (k.o+o*wd wf+l*wd wf) news).toArray).getD (k.o+o*wd wf+i*wd wf+j) undef =
          if k.o+o*wd wf+l*wd wf<=k.o+o*wd wf+i*wd wf+j∧k.o+o*wd wf+i*wd wf+j<k.o+o*wd wf+l*wd wf+news.length then news.getD (k.o+o*wd wf+i*wd wf+j-(k.o+o*wd wf+l*wd wf)) undef else c'.getD (k.o+o*wd wf+i*wd wf+j) undef:=by
         have:=uo c'.toList (k.o+o*wd wf+l*wd wf) news (by simpa using kE) (k.o+o*wd wf+i*wd wf+j);simp only[alM]at this;simp only[akZ,amm,this,akX];split<;>rfl
        rw[Bk];rcases alP i l with hlt|cK
        .rw[alj (by rw[hlen];exact hlt),amb,if_pos hlt,alY]at hi;have jm:=Bo x (alp hi);have e6:j<wd wf:=by rw[<-iE jm];exact(akY.1 hj).1
         have:i*wd wf+wd wf<=l*wd wf:=by rw[<-al8];exact alz _ hlt
         rw[if_neg (by omega)];have:=hr _ _ (hcs _ x j d hi hj)
         rwa [show k.o+o*wd wf+i*wd wf+j=k.o+(o+i)*wd wf+j by rw[amf];omega]
        .rw[aln (by rw[hlen];exact cK),hlen]at hi;have jm:=fE.ok x (alp hi);rw[<-jq]at jm;have bF:=(akY.1 hi).1;have e6:j<wd wf:=by rw[<-iE jm];exact(akY.1 hj).1
         have g1:l*wd wf<=i*wd wf:=alz _ cK;have g2:(i-l)*wd wf+wd wf<=ys.length*wd wf:=by rw[<-al8];exact alz _ bF
         have g3:i*wd wf=(i-l)*wd wf+l*wd wf:=by rw[<-amf];congr 1;omega
         rw[if_pos (by omega),show k.o+o*wd wf+i*wd wf+j-(k.o+o*wd wf+l*wd wf)=(i-l)*wd wf+j by omega];have:=fE.rep _ x j d hi hj;rw[<-jq]at this;exact hr _ _ this
end
section
variable {P:Program}{cf:Cf}{Q:Exit->St->Prop}{s:St}{k:List It}
theorem aeG(E:bu P cf Q){d t u e:Nat}{x y:Operand}{ty:TypeId}{pos:String}{af:Array Edge}(tg:Option Nat)(p:Name)(xs:List D)(l:List UInt8)(hk:(P.ti t).k=.slice e)(hu:(P.ti u).k=.str)(hz:(P.ti e).oB=true)(hw:(P.ti e).gD (P.ti e).w=true)(zJ:(P.ti e).w=none)
  (ur:tg.getD e=e) (hd:d<cf.n∧d∉s.used) (hx:ev s x=.vw p 0 xs.length) (hp:s.hp p=some (.bB tg none xs)) (hy:ev s y=.d (.str l)) (hl:(xs.length+l.length)*(P.ti e).iT<=140737488355328)
  (h:E.run k (((s.set p none).add d (.bB tg none (xs++l.map fV))).put d (.vw [d] 0 (xs.length+l.length)))) :
  E.bc { dst:=some d,op:=.call { callee:=.builtin .append,args:=#[x,y],argTypes:=#[t,u] },type:=ty,pos:=pos,after:=af,guard:=none } s k .no:=by
 rw[ie];rw[E.run_eq]at h;intro B hB ds β a w ai hs Q';have uH:=hs.ev x;have CT:=hs.ev y;rw[hx]at uH;rw[hy]at CT
 have jZ:a.eval y=.string ⟨l.toArray⟩:=by
  have g:∀v,au w.heap (s.own B.A β) v (.str l)->v=.string ⟨l.toArray⟩:=fun v hv=>by
   cases hv with
   |str l=>rfl
  exact g _ CT.cA
 obtain⟨hg,cW,_⟩:=oC hw;have rO:P.underlying u=some .string:=rJ hu
 have key:=aeE (P:=P) (t:=t) (u:=u) (ys:=l.map fV) (news:=byteCells ⟨l.toArray⟩) hs uH hp hk hz hw zJ.symm ty ur (by rw[hB.1];exact hd.1) hd.2 (by rw[alg];exact hl) (by rw[zJ];exact aeA l) (yv:=.string ⟨l.toArray⟩) (fun it hi=>by
  have h1:=Src.ofString (P:=P) w rO ⟨l.toArray⟩
  have h2:it.size=1:=by
   have lI:=hz;unfold TI.oB at lI;split at lI
   .rename_i z qF;obtain⟨_,_,_,it',aq,_,jF,_⟩:=rP qF;rw[hi]at aq;cases aq;rw[jF,<-cW,zJ];rfl
   .cases lI
  rw[h2,alg]
  exact h1)
 obtain⟨v,w',β',aF,bh⟩:=key;rw[anO,alk,alg]at bh;refine fR (v:=v) (by simp) (by simp[execOp,resolve,invoke,builtin,jZ,aF]) (.inl rfl) ⟨ai,_,β',eB h,bh⟩
end
end Go.Ab

namespace Go.Ab
end Go.Ab

namespace Go.Ab
end Go.Ab

namespace Go.Proofs.YtpmniabdmbmafaaGreatDoor
open Go.Ab Tryz
def aO(s:EA):D:=.agg [.bool s.plus,.bool s.al,.bool s.int,.bool s.bool,.bool s.str,.bool s.arr,.bool s.rc,.bool s.tg,aL s.vars,i64 s.bD,i64 s.bE,eo s.fl,eo s.tl]
def ct(l:List EA)(start:Int):D:=.agg [.sl (some 13) (l.map aO),i64 start]
theorem tw{l:List EA}{i:Nat}(h:i<l.length):(l.map aO).getD i .aY=aO l[i]:=by simp[h]
def jd(l:List EA)(k:Int)(p:Bool):Bool:=(decide (0<=k)&&decide (k<l.length))&&((l.getD k.toNat default).plus == p)
theorem F0{G}(l:List EA)(st k:Int)(p:Bool):HP prog G 87 [ct l st,i64 k,.bool p] (fun r=>r=.d (.bool (jd l k p))):=by
 unfold ct;refine cj func87 rfl (by decide +kernel) (by simp[ntmps87]) (aS fun E=>?_);simp only[go_sem];refine bH E ?_ ?_<;>intro h1<;>simp only[go_sem]
 .refine bH E ?_ ?_<;>intro h2<;>simp only[go_sem]
  .refine⟨⟨h1,h2⟩,?_⟩;have hk:k.toNat<l.length:=by omega
   rw[tw hk,aO];simp only[go_sem];simp[jd,h1,h2,hk]
  .simp[jd,h2]
 .simp[jd,h1]
def tA(s:EA):Bool :=
 !(s.al&&(s.int||s.bool||s.str||s.arr||s.rc||s.tg||!s.vars.isEmpty))&&!(!s.arr&&(!decide (s.bD=0)||!decide (s.bE=0)))&&((s.rc||s.fl.isEmpty)&&(s.tg||s.tl.isEmpty))
theorem aeH{α:Type}(l:List α):decide ((0:Int)<(l.length:Int))=!l.isEmpty:=by cases l<;>simp
theorem Rw{α:Type}(l:List α):decide ((l.length:Int)=0)=l.isEmpty:=by cases l<;>simp;omega
theorem aeI{G}(s:EA):HP prog G 130 [aO s] (fun r=>r=.d (.bool (tA s))):=by
 unfold aO aL eo;refine cj func130 rfl (by decide +kernel) (by simp[ntmps130]) (aS fun E=>?_);simp only[go_sem]
 repeat (first
  |(apply fm E;(· simp only[go_sem]);(· intro h;(try simp only[bq]at h);simp only[↓h,go_sem];rfl);simp only[go_sem])
  |(apply xN E;(· simp only[go_sem]);(· intro h;(try simp only[bq]at h);simp only[↓h,go_sem];rfl);(· intro h;(try simp only[bq]at h);simp only[↓h,go_sem];rfl);simp only[go_sem])
  |(apply uA E;(· simp only[go_sem]);(· rfl);(· intro h h';(try simp only[bq]at h h');simp only[↓h,↓h',go_sem];rfl);simp only[go_sem])
  |(apply gm E;(· decide);simp only[go_sem]))
 have h0:=aeH s.vars;have h1:=Rw s.fl;have h2:=Rw s.tl;refine ck E ?_ ?_<;>intro h<;>simp only[go_sem]
 .unfold tA;rw[h0]at h;rw[h];rfl
 rw[h0]at h
 repeat (first
  |(apply fm E;(· simp only[go_sem]);(· intro h;(try simp only[bq]at h);simp only[↓h,go_sem];rfl);simp only[go_sem])
  |(apply xN E;(· simp only[go_sem]);(· intro h;(try simp only[bq]at h);simp only[↓h,go_sem];rfl);(· intro h;(try simp only[bq]at h);simp only[↓h,go_sem];rfl);simp only[go_sem])
  |(apply uA E;(· simp only[go_sem]);(· rfl);(· intro h h';(try simp only[bq]at h h');simp only[↓h,↓h',go_sem];rfl);simp only[go_sem])
  |(apply gm E;(· decide);simp only[go_sem]))
 refine ck E ?_ ?_<;>intro h3<;>simp only[go_sem]
 .unfold tA;rw[h]
  revert h3
  cases s.arr<;>by_cases g1:s.bD=0<;>by_cases g2:s.bE=0<;>simp[g1,g2]
 repeat (first
  |(apply fm E;(· simp only[go_sem]);(· intro h;(try simp only[bq]at h);simp only[↓h,go_sem];rfl);simp only[go_sem])
  |(apply xN E;(· simp only[go_sem]);(· intro h;(try simp only[bq]at h);simp only[↓h,go_sem];rfl);(· intro h;(try simp only[bq]at h);simp only[↓h,go_sem];rfl);simp only[go_sem])
  |(apply uA E;(· simp only[go_sem]);(· rfl);(· intro h h';(try simp only[bq]at h h');simp only[↓h,↓h',go_sem];rfl);simp only[go_sem])
  |(apply gm E;(· decide);simp only[go_sem]))
 unfold tA;rw[h,h1,h2]
 revert h3
 cases s.arr<;>by_cases g1:s.bD=0<;>by_cases g2:s.bE=0<;>simp[g1,g2]
theorem F1{p:Nat->Bool}{i:Nat}(h:(List.range i).all p=true)(hp:p i=true):(List.range (i+1)).all p=true:=by
 rw[anI,anJ,h];simp[hp]
theorem C6{p:Nat->Bool}{i n:Nat}(hi:i<n)(hp:p i=false):(List.range n).all p=false:=by
 rw[anz];exact⟨i,alw.2 hi,by simp[hp]⟩
def tC(l:List Int)(i:Nat):Bool:=(decide (0<=l.getD i 0)&&decide (l.getD i 0<=999))&&(decide (i=0)||decide (l.getD (i-1) 0<l.getD i 0))
def tD(l:List Int):Bool:=(List.range l.length).all (tC l)
theorem wH{l:List Int}{i:Nat}(h:i<l.length):(l.map i64).getD i .aY=i64 (l.getD i 0):=by simp[h]
theorem aeJ{G}(l:List Int)(hl:l.length<=1000000):HP prog G 131 [aL l] (fun r=>r=.d (.bool (tD l))):=by
 unfold aL;refine cj func131 rfl (by decide +kernel) (by simp[ntmps131]) (aS fun E=>?_);simp only[go_sem];refine pU E (X:={ i:Nat // i<=l.length∧(List.range i).all (tC l)=true }) (fun x=>[(0,.d (.sl none (l.map i64))),(5,.d (.sl none (l.map i64))),(6,.d (i64 l.length)),(7,.d (i64 x.1))]) (fun x=>l.length-x.1) rfl ⟨0,ale _,by simp⟩ ?_ ?_
 .simp only[go_sem]
  all_goals rfl
 rintro⟨i,hi,eC⟩ E';simp only[go_sem];refine aI E' ?_ ?_<;>intro h1<;>simp only[go_sem]
 .have bf:i<l.length:=by omega
  refine⟨by omega,?_⟩;rw[wH bf];simp only[go_sem];refine bH E' ?_ ?_<;>intro h2<;>simp only[go_sem]
  .rw[show tD l=false from C6 bf (by simp only[tC,amQ,decide_eq_false_iff_not];exact .inl (.inl (by omega)))]
  refine bH E' ?_ ?_<;>intro h3<;>simp only[go_sem]
  .rw[show tD l=false from C6 bf (by simp only[tC,amQ,decide_eq_false_iff_not];exact .inl (.inr (by omega)))]
  refine bH E' ?_ ?_<;>intro h4<;>simp only[go_sem]
  .have hw:lL ((i:Int)-1)=((i-1:Nat):Int):=by rw[aD ⟨by omega,by omega⟩];omega
   rw[hw];refine⟨by omega,?_⟩;rw[Int.toNat_natCast,wH (show i-1<l.length by omega)];simp only[go_sem];refine aI E' ?_ ?_<;>intro h5<;>simp only[go_sem]
   .rw[show tD l=false from C6 bf (by simp only[tC,amQ,al0,decide_eq_false_iff_not];exact .inr ⟨by omega,by omega⟩)]
   .refine⟨⟨i+1,by omega,F1 eC ?_⟩,by show l.length-(i+1)<_;omega,?_⟩
    .simp only[tC,ak7,alF,decide_eq_true_eq];exact⟨⟨by omega,by omega⟩,.inr (by omega)⟩
    .rw[aD ⟨by omega,by omega⟩];rfl
  .refine⟨⟨i+1,by omega,F1 eC ?_⟩,by show l.length-(i+1)<_;omega,?_⟩
   .simp only[tC,ak7,alF,decide_eq_true_eq];exact⟨⟨by omega,by omega⟩,.inl (by omega)⟩
   .rw[aD ⟨by omega,by omega⟩];rfl
 .have h3:i=l.length:=by omega
  subst h3;rw[show tD l=true from eC]
def lQ(is:List UInt8->Bool)(l:List da):Bool:=(List.range l.length).all fun i=>is (dF l i)&&!jI l i
theorem Rx{G}(l:List da)(is:List UInt8->Bool)(f:Nat)(hl:l.length<=1000000)(hs:∀x∈l,x.1.length<=9223372036854775807)(hf:∀s:List UInt8,s.length<=9223372036854775807->HP prog G f [.str s] (fun r=>r=.d (.bool (is s)))) :
  HP prog G 132 [eo l,.aH f []] (fun r=>r=.d (.bool (lQ is l&&decide (l.length<=30)))):=by
 unfold eo;refine cj func132 rfl (by decide +kernel) (by simp[ntmps132]) (aS fun E=>?_);simp only[go_sem];refine pU E (X:={ i:Nat // i<=l.length∧((List.range i).all fun i=>is (dF l i)&&!jI l i)=true }) (fun x=>[(0,.d (.sl (some 2) (l.map aP))),(1,.d (.aH f [])),(7,.d (.sl (some 2) (l.map aP))),(8,.d (i64 l.length)),(9,.d (i64 x.1))]) (fun x=>l.length-x.1) rfl ⟨0,ale _,by simp⟩ ?_ ?_
 .simp only[go_sem]
  all_goals rfl
 rintro⟨i,hi,eC⟩ E';simp only[go_sem];refine aI E' ?_ ?_<;>intro h1<;>simp only[go_sem]
 .have bf:i<l.length:=by omega
  have hlen:(dF l i).length<=9223372036854775807:=by
   have:=hs l[i] (ak2 bf);simp only[dF,akX,ak0 bf,Option.getD_some];omega
  refine⟨by omega,?_⟩;rw[Fo bf];simp only[go_sem];refine bz mixed E' fun X=>?_;simp only[go_sem];refine adu X (ds:=[.str (dF l i)]) (hf _ hlen) rfl rfl (by simp) rfl (by simp) ?_;simp only[go_sem];refine JE X ?_ ?_<;>intro h2<;>simp only[go_sem]
  ·(try refine⟨by decide +kernel,?_⟩);have h2:is (dF l i)=false:=by simpa using h2
   rw[show lQ is l=false from C6 bf (by simp only[h2,alQ]),alQ]
  .have h2:is (dF l i)=true:=by simpa using h2
   refine zx X ?_ ?_<;>intro h3<;>simp only[go_sem]
   .have hw:lL ((i:Int)-1)=((i-1:Nat):Int):=by rw[aD ⟨by omega,by omega⟩];omega
    have h4:i-1<l.length:=by omega
    rw[hw];refine⟨by omega,?_⟩;rw[Int.toNat_natCast,Fo h4];simp only[go_sem];(try refine⟨by decide +kernel,?_⟩);refine ck E' ?_ ?_<;>intro h5<;>simp only[go_sem]
    .have h5:Op.bytesLess (dF l (i-1)) (dF l i)=false:=by simpa using h5
     rw[show lQ is l=false from C6 bf (by simp only[jI,h5,amV,ana,decide_eq_true h3,amA,amC,show 0<i by omega,decide_true]),alQ]
    .have h5:Op.bytesLess (dF l (i-1)) (dF l i)=true:=by simpa using h5
     refine⟨⟨i+1,by omega,F1 eC (by simp only[jI,h5,h2,amA,amC,amV,ana])⟩,by show l.length-(i+1)<_;omega,?_⟩;rw[aD ⟨by omega,by omega⟩];rfl
   ·(try refine⟨by decide +kernel,?_⟩);refine⟨⟨i+1,by omega,F1 eC (by simp only[jI,h2,show¬0<i by omega,decide_false,alQ,amV,ana])⟩,by show l.length-(i+1)<_;omega,?_⟩;rw[aD ⟨by omega,by omega⟩];rfl
 .have h3:i=l.length:=by omega
  subst h3;have:lQ is l=true:=eC;rw[this,ame];exact congrArg (fun b=>AV.d (.bool b)) (by simp[decide_eq_decide];omega)
theorem F3{G}(l:List da)(hl:l.length<=1000000):HP prog G 134 [eo l] (fun r=>r=.d (aL (l.map (·.2)))):=by
 refine p9 ?_;unfold eo;refine fK func134 rfl (by decide +kernel) (by simp[ntmps134]) (aS fun E=>?_);simp only[go_sem];refine wa E 3 99 none rfl (by rw[aT];decide) ?_;simp only[go_sem];refine bC E (X:={ i:Nat // i<=l.length }) (fun x=>[(3,.vw [99] 0 x.1),(6,.d (.sl (some 2) (l.map aP))),(7,.d (i64 l.length)),(8,.d (i64 x.1))]) (fun x=>[([99],.arr none ((l.take x.1).map fun f=>i64 f.2))]) [99] (fun x=>l.length-x.1) ⟨0,ale _⟩ id ?_ ?_
 .simp only[go_sem]
  all_goals rfl
 rintro⟨i,hi⟩ E';simp only[go_sem];refine aI E' ?_ ?_<;>intro h1<;>simp only[go_sem]
 .have bf:i<l.length:=by omega
  have hx:(l.map aP).getD i .aY=.agg [.str l[i].1,i64 l[i].2]:=by simp[bf,aP]
  refine⟨by omega,?_⟩;rw[hx];simp only[go_sem];refine⟨by omega,⟨i+1,by omega⟩,by show l.length-(i+1)<_;omega,ak [([99],[16])],?_⟩;simp only[go_sem];refine⟨by rw[aD ⟨by omega,by omega⟩];rfl,?_⟩;rw[ak5 (by simp;omega),<-PL bf]
 .refine⟨[([99],none,(l.take i).map fun f=>i64 f.2)],?_⟩;simp only[go_sem];refine⟨_,rfl,?_⟩;have:i=l.length:=by omega
  subst this;simp only[aL,alk,alD];rw[ak5 (by simp)];exact .refl _
theorem aeK{G}(k:Int)(l:List EA)(st:Int)(s:EA):HP prog G 135 [i64 k,.ptr (ct l st),.ptr (aO s)] (fun r=>r=.d (.bool (!jd l k s.plus))):=by
 refine cj func135 rfl (by decide +kernel) (by simp[ntmps135]) (aS fun E=>?_);unfold ct aO;simp only[go_sem];refine bd E (F0 l st k s.plus) rfl rfl (by simp) ?_;rintro _ rfl;simp only[go_sem]
end Go.Proofs.YtpmniabdmbmafaaGreatDoor

