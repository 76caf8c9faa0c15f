/-
  Builders of texts: a byte more, the text, its length. (with the parts that follow it)
-/
import Derived.Test.YtpmniabdmbmafaaGreatDoorPTF
import Derived.Test.YtpmniabdmbmafaaGreatDoorPTH
import Derived.Test.YtpmniabdmbmafaaGreatDoorPTI
import Derived.Test.YtpmniabdmbmafaaGreatDoorPTK
import Derived.Test.YtpmniabdmbmafaaGreatDoorPTJ
import Derived.Test.YtpmniabdmbmafaaGreatDoorPTG
import Derived.Test.YtpmniabdmbmafaaGreatDoorPTE
import Derived.Lib.ItoaLen
import Derived.Shelf.SlSortCmp.WholeK
import Derived.Shelf.Sort.Plain
import Derived.Shelf.Slices.In.SortNone
import Derived.Shelf.LaysM
import Derived.Shelf.Sort.AssemblyIn
import Derived.Shelf.SlLaysF0
import Derived.Ground.NamesProg
set_option linter.all false
set_option maxHeartbeats 16000000
namespace Go.Proofs.YtpmniabdmbmafaaGreatDoor
open Go.Ab Tryz
def qm:List (Name×Ob):=[([0],.bt (some 167) [.d .aY,.d .ao])]
def qn(l:List UInt8):List (Name×Ob):=[([0],.bt (some 167) [.bx [0] 0,.vw [2] 0 l.length]),([2],.bB (some 5) none (l.map fV))]
def db(l:List UInt8):List (Name×Ob):=[([0],.bt (some 167) [.bx [0] 0,.vw [1] 0 l.length]),([1],.bB (some 5) none (l.map fV))]
theorem agn(v:Value)(w:World):(callFunc 168 #[v]).run prog w=.ok (.value v) w:=by
 rw[run_callFunc_extern func168 (by kernel_rfl) (by kernel_rfl) (by kernel_rfl) (e:=Extern.AbiNoEscape.same) (by kernel_rfl)];rw[Lib.run_noEscape];rfl
theorem agp:(prog.ti 222).k=.M9:=by kernel_rfl
theorem SR:prog.underlying 222=some .unsafePointer:=by kernel_rfl
theorem agq{G}:bZ prog G 145 [.bx [0] 0] [([0],.bt (some 167) [.d .aY,.vw [1] 0 0]),([1],.bB (some 5) none [])] [0,1] (fun r ae=>r=.az []∧ae=[([0],.bt (some 167) [.bx [0] 0,.vw [1] 0 0]),([1],.bB (some 5) none [])]):=by
 refine jc func145 rfl (by decide +kernel) (by simp[ntmps145]) (aS fun E=>?_);simp only[go_sem];refine Q7 E (e:=167) true (by rw[zn]) (by simp only[go_sem]) rfl ?_;simp only[go_sem];refine adQ E (e:=167) [0] 0 167 [.d .aY,.vw [1] 0 0] (by rw[zn]) SR (by kernel_rfl) (by simp only[go_sem]) rfl rfl (by decide) ?_;simp only[go_sem];refine adS E 168 (.bx [0] 0) agn (by simp only[go_sem]) rfl rfl ?_;simp only[go_sem];simp only[agp];simp only[go_sem];refine adR E (e:=167) [0] 0 167 [.d .aY,.vw [1] 0 0] (by rw[zn]) SR (by kernel_rfl) (by simp only[go_sem]) rfl rfl 2 rfl (by kernel_rfl) ?_;simp only[go_sem];refine⟨_,_,[0,1],id,⟨rfl,rfl⟩,?_⟩;simp only[go_sem]
theorem SU{G}(l:List UInt8):bZ prog G 145 [.bx [0] 0] (db l) [0,1] (fun r ae=>r=.az []∧ae=db l):=by
 unfold db;refine jc func145 rfl (by decide +kernel) (by simp[ntmps145]) (aS fun E=>?_);simp only[go_sem];refine Q7 E (e:=167) false (by rw[zn]) (by simp only[go_sem]) rfl ?_;simp only[go_sem];refine adP E (e:=167) [0] 0 (by rw[zn]) (by kernel_rfl) (by simp only[go_sem]) rfl rfl rfl ?_;simp only[go_sem];refine⟨_,_,[0,1],id,⟨rfl,rfl⟩,?_⟩;simp only[go_sem]
theorem SV{G}(c:UInt8):bZ prog G 138 [.bx [0] 0,.d (fV c)] qm [0] (fun r ae=>r=.d .lF∧ae=qn [c]):=by
 have h0:=agq (G:=G);unfold qm qn fV;refine jc func138 rfl (by decide +kernel) (by simp[ntmps138]) (aS fun E=>?_);simp only[go_sem];refine adN E [0] 1 1 (some 167) (some 5) none [.d .aY,.d .ao] rfl rfl (by rw[aT];decide) ?_;refine iJ E [.bx [0] 0] [([0],.bt (some 167) [.d .aY,.vw [1] 0 0]),([1],.bB (some 5) none [])] [0,1] h0 rfl rfl ⟨by simp only[go_sem],by show¬_∈[1,0];decide⟩ rfl (by simp only[go_sem]) (by simp only[go_sem]) ?_;rintro _ _ ⟨rfl,rfl⟩;simp only[go_sem];refine QZ E (e:=5) (some 5) [1] [13] [] [.int .u8 (c.toNat:Nat)] (by rw[Fb]) (by rw[p4];rfl) (by rw[p4];rfl) (by rw[p4];rfl) rfl ⟨by simp only[go_sem],by rw[aT];decide⟩ rfl rfl rfl rfl (by rw[p4];simp[TI.iT]) ?_;simp only[go_sem];refine⟨_,_,[0,1,2],ak [([2],[14])],⟨rfl,rfl⟩,?_⟩;simp only[go_sem]
theorem SX{G}(l:List UInt8)(c:UInt8)(hl:l.length<=1000000):bZ prog G 138 [.bx [0] 0,.d (fV c)] (db l) [0,1] (fun r ae=>r=.d .lF∧ae=qn (l++[c])):=by
 have h0:=SU (G:=G) l;unfold db at *
 unfold qn;refine jc func138 rfl (by decide +kernel) (by simp[ntmps138]) (aS fun E=>?_);simp only[go_sem];refine iJ E [.bx [0] 0] [([0],.bt (some 167) [.bx [0] 0,.vw [1] 0 l.length]),([1],.bB (some 5) none (l.map fV))] [0,1] h0 rfl rfl ⟨by simp only[go_sem],by rw[aT];decide⟩ rfl (by simp only[go_sem]) (by simp only[go_sem]) ?_;rintro _ _ ⟨rfl,rfl⟩;simp only[go_sem];rw[show fV c=.int .u8 (c.toNat:Nat)from rfl];simp only[go_sem];refine⟨ali _,?_⟩;have lW:(l.map fV).length=l.length:=by simp
 refine QZ E (d:=14) (e:=5) (some 5) [1] [13] (l.map fV) [.int .u8 (c.toNat:Nat)] (by rw[Fb]) (by rw[p4];rfl) (by rw[p4];rfl) (by rw[p4];rfl) rfl ⟨by simp only[go_sem],by rw[aT];decide⟩ (by rw[lW];rfl) rfl rfl rfl (by rw[p4,lW];simp[TI.iT];omega) ?_;rw[lW,show l.map fV++[.int .u8 (c.toNat:Nat)]=(l++[c]).map fV by simp[fV]];simp only[go_sem];refine⟨_,_,[0,1,2],ak [([2],[14])],⟨rfl,rfl⟩,?_⟩;rw[show(l++[c]).length=l.length+1 by simp];simp only[go_sem]
theorem ags:prog.cellsOf 5=1:=by kernel_rfl
theorem agt:prog.underlying 204=some (.pointer 5):=by kernel_rfl
theorem agu{G}(l:List UInt8)(h0:l≠[])(hl:l.length<=1000000000):bZ prog G 104 [.bx [0] 0] (db l) [0,1] (fun r ae=>r=.d (.str l)∧ae=[]):=by
 unfold db;refine jc func104 rfl (by decide +kernel) (by simp[ntmps104]) (aS fun E=>?_);simp only[go_sem];refine adK 10 mixed E (by simp only[List.take_succ_cons,List.take_zero];exact rfl) (by simp only[List.drop_succ_cons,anO];exact rfl) rfl rfl (by decide +kernel) fun X=>?_;simp only[go_sem];refine fO X (d:=4) [0] 0 (some 167) [.bx [0] 0,.vw [1] 0 l.length] (by simp only[go_sem]) rfl rfl ?_;simp only[go_sem];refine ad1 X (d:=7) [1] (some 5) none (l.map fV) l.length (by simp only[go_sem]) rfl rfl (amJ.2 h0) ?_;simp only[go_sem];refine fO X (d:=9) [0] 0 (some 167) [.bx [0] 0,.vw [1] 0 l.length] (by simp only[go_sem]) rfl rfl ?_;simp only[go_sem];(try refine⟨by decide +kernel,?_⟩);refine ad0 E (e:=5) [1] l (by simp only[go_sem]) agt ags h0 (by omega) rfl rfl rfl ?_;simp only[go_sem];refine⟨_,_,[0,1],id,⟨rfl,rfl⟩,?_⟩;simp only[go_sem]
end Go.Proofs.YtpmniabdmbmafaaGreatDoor

namespace Go.Proofs.YtpmniabdmbmafaaGreatDoor
open Go.Ab Tryz
theorem K0{G}(l s:List UInt8)(hl:l.length+s.length<=1000000000):bZ prog G 103 [.bx [0] 0,.d (.str s)] (db l) [0,1] (fun r ae=>r=.az [.d (i64 (s.length:Nat)),.d .lF]∧ae=qn (l++s)):=by
 have h0:=SU (G:=G) l;unfold db at *
 unfold qn;refine jc func103 rfl (by decide +kernel) (by simp[ntmps103]) (aS fun E=>?_);simp only[go_sem];refine iJ E [.bx [0] 0] [([0],.bt (some 167) [.bx [0] 0,.vw [1] 0 l.length]),([1],.bB (some 5) none (l.map fV))] [0,1] h0 rfl rfl ⟨by simp only[go_sem],by rw[aT];decide⟩ rfl (by simp only[go_sem]) (by simp only[go_sem]) ?_;rintro _ _ ⟨rfl,rfl⟩;simp only[go_sem];refine⟨ali _,?_⟩;have lW:(l.map fV).length=l.length:=by simp
 refine aeG E (d:=14) (e:=5) (some 5) [1] (l.map fV) s (by rw[Fb]) (by rw[B6]) (by rw[p4];rfl) (by rw[p4];rfl) (by rw[p4];rfl) rfl ⟨by simp only[go_sem],by rw[aT];decide⟩ (by rw[lW];rfl) rfl rfl (by rw[p4,lW];simp[TI.iT];omega) ?_;rw[lW,<-alh];simp only[go_sem];refine⟨_,_,[0,1,2],ak [([2],[14])],⟨rfl,rfl⟩,?_⟩;rw[show(l++s).length=l.length+s.length by simp];simp only[go_sem]
end Go.Proofs.YtpmniabdmbmafaaGreatDoor

namespace Go.Proofs.YtpmniabdmbmafaaGreatDoor
open Go.Ab Tryz
variable {t:TypeId}{fz:Nat×Nat}
theorem agv(n:Int)(hn:zf n):HP prog (GT t fz) 101 [i64 n] (fun r=>r=.d (.str (Lib.itoa n))):=by
 refine cj func101 rfl (by decide +kernel) (by simp[ntmps101]) (aS fun E=>?_);simp only[go_sem];refine bd E (aae n hn) rfl rfl (by simp) ?_;rintro _ rfl;simp only[go_sem]
theorem agw(n:Int)(hn:zf n):HP prog (GT t fz) 58 [i64 n] (fun r=>r=.d (.str (Lib.itoa n))):=by
 refine cj func58 rfl (by decide +kernel) (by simp[ntmps58]) (aS fun E=>?_);simp only[go_sem];refine bd E (agv n hn) rfl rfl (by simp) ?_;rintro _ rfl;simp only[go_sem]
def Gm:List UInt8->List (Name×Ob)
 |[]=>qm
 |c::r=>db (c::r)
theorem Dy{l:List UInt8}(h:l≠[]):Gm l=db l:=by
 cases l with
 |nil=>exact absurd rfl h
 |cons c r=>rfl
def j1(l:List rh):List UInt8:=eM ((l.filter fun q=>decide (q.1.1=2)||decide (q.1.1=3)).map (·.1.2))
theorem agx{l:List rh}{i:Nat}(h:i<l.length):j1 (l.take (i+1))=j1 (l.take i)++(if decide (l[i].1.1=2)||decide (l[i].1.1=3)then 32::l[i].1.2 else[]):=by
 unfold j1;rw[ak9 h,amx,alh,KY];congr 1
 cases hb:decide (l[i].1.1=2)||decide (l[i].1.1=3)with
 |true=>simp[an0,hb,eM]
 |false=>simp[an0,hb,eM]
theorem agy(s:EA):j1 (dX s)=eM (wN s.fl++wN s.tl):=by
 unfold j1 dX
 have h0:(fP s).filter (fun q=>decide (q.1.1=2)||decide (q.1.1=3))=[]:=by
  unfold fP;split<;>simp
 have h2:(fX 2 s.fl).filter (fun q=>decide (q.1.1=2)||decide (q.1.1=3))=fX 2 s.fl:=amU.2 fun q hq=>by
  obtain⟨x,hx,rfl⟩:=ak6.1 hq;rfl
 have h3:(fX 3 s.tl).filter (fun q=>decide (q.1.1=2)||decide (q.1.1=3))=fX 3 s.tl:=amU.2 fun q hq=>by
  obtain⟨x,hx,rfl⟩:=ak6.1 hq;rfl
 rw[amx,amx,h0,h2,h3,List.nil_append,alh];simp[fX,wN,Function.comp_def]
theorem agz{l:List (List UInt8)}{i:Nat}(h:i<l.length):eM (l.take (i+1))=eM (l.take i)++32::l[i]:=by
 rw[ak9 h,KY,agi]
def tK(s:EA):List Bool:=[s.plus,s.al,s.int,s.bool,s.str,s.arr,s.rc,s.tg]
structure Fit(s:EA):Prop where
 v:s.vars.length<=1000000
 r:∀n∈s.vars,zf n
 f:s.fl.length<=400
 t:s.tl.length<=400
 fs:∀q∈s.fl,q.1.length<=20
 ts:∀q∈s.tl,q.1.length<=20
theorem agA(s:EA)(hs:iL s)(hf:Fit s):HP prog (GT t fz) 93 [aO s] (fun r=>r=.d (.str (jz s))):=by
 have c1:=Sx (G:=GT t fz) s hs;rw[dK]at c1 ⊢;refine fK func93 rfl (by decide +kernel) (by simp[ntmps93]) (aS fun E=>?_);simp only[go_sem];refine rZ E [26] none ((tK s).map D.bool) rfl ?_;simp only[go_sem];refine eU E [1] (aO s) rfl rfl ?_;simp only[dK];simp only[go_sem]
 have CF:∀i,i<8->((tK s).map D.bool).getD i .aY=.bool ((tK s).getD i false):=by
  intro i hi;have:i<(tK s).length:=hi;simp[this]
 have Gn:∀i,i<8->(jy s).take (i+1)=(jy s).take i++[Dw ((tK s).getD i false)]:=by
  intro i hi;have h1:i<(jy s).length:=by simpa[jy]using hi
  have h2:i<(tK s).length:=hi;rw[ak9 h1];congr 2;have e:jy s=(tK s).map Dw:=rfl;simp only[e,amn];rw[akX,ak0 h2];rfl
 refine bC E (X:={ i:Nat // i<=8 }) (fun x=>[(1,.d (.ptr (aO s))),(3,.bx [0] 0),(26,.d (.sl none ((tK s).map D.bool))),(27,.d (i64 8)),(28,.d (i64 x.1))]) (fun x=>Gm ((jy s).take x.1)) [0,1] (fun x=>8-x.1) ⟨0,ale _⟩ (ak [([0],[3])]) ?_ ?_
 .unfold Gm qm;simp only[dK,List.take_zero];simp only[go_sem]
  all_goals first|rfl|(and_intros<;>first|rfl|trivial)
 rintro⟨i,hi⟩ E0;refine bK E0 fun Q' hQ E'=>?_;simp only at hi ⊢;by_cases h0:i=0
 .subst h0;simp only[List.take_zero,Gm,dK];unfold qm;simp only[go_sem];rw[CF 0 (by omega)];simp only[go_sem];refine⟨by simp[tK],?_⟩;refine ck E' ?_ ?_<;>intro h1<;>simp only[go_sem]
  .refine iJ E' [.bx [0] 0,.d (fV 49)] qm [0] (SV 49) rfl rfl ⟨by simp only[go_sem],by rw[aT];decide⟩ rfl (by(unfold qm);simp only[go_sem]) (by(unfold qm);simp only[go_sem]) ?_;rintro _ _ ⟨rfl,rfl⟩;unfold qn
   (unfold qm)
   simp only[go_sem];rw[hQ];simp only[go_sem];refine⟨⟨0+1,by omega⟩,by show 8-(0+1)<8-0;omega,ak [([1],[33,2])],?_⟩;rw[show(⟨0+1,by omega⟩:{ i:Nat // i<=8 }).1=0+1 from rfl,Gn 0 (by omega),h1,Dy (by simp)];unfold db;simp only[dK];simp only[go_sem]
   (exact⟨by rw[show lL 1=1 from by decide],rfl⟩)
  .refine iJ E' [.bx [0] 0,.d (fV 48)] qm [0] (SV 48) rfl rfl ⟨by simp only[go_sem],by rw[aT];decide⟩ rfl (by(unfold qm);simp only[go_sem]) (by(unfold qm);simp only[go_sem]) ?_;rintro _ _ ⟨rfl,rfl⟩;unfold qn
   (unfold qm)
   simp only[go_sem];rw[hQ];simp only[go_sem];refine⟨⟨0+1,by omega⟩,by show 8-(0+1)<8-0;omega,ak [([1],[34,2])],?_⟩;rw[show(⟨0+1,by omega⟩:{ i:Nat // i<=8 }).1=0+1 from rfl,Gn 0 (by omega),h1,Dy (by simp)];unfold db;simp only[dK];simp only[go_sem]
   (exact⟨by rw[show lL 1=1 from by decide],rfl⟩)
 .have aB:(jy s).take i≠[]:=by
   intro h;have:=congrArg List.length h;simp[jy]at this;omega
  rw[Dy aB];obtain⟨acc,qo⟩:∃acc,(jy s).take i=acc:=⟨_,rfl⟩
  have km:acc.length<=8:=by rw[<-qo,alq];omega
  rw[qo];simp only[dK];unfold db;simp only[go_sem];refine aI E' ?_ ?_<;>intro h2<;>simp only[go_sem]
  .have aq:i<8:=by omega
   refine⟨⟨by omega,by simp[tK];omega⟩,?_⟩;rw[CF i aq];simp only[go_sem];refine ck E' ?_ ?_<;>intro h1<;>simp only[go_sem]
   .refine iJ E' [.bx [0] 0,.d (fV 49)] (db acc) [0,1] (SX acc 49 (by omega)) rfl rfl ⟨by simp only[go_sem],by rw[aT];decide⟩ rfl (by(unfold db);simp only[go_sem]) (by(unfold db);simp only[go_sem]) ?_;rintro _ _ ⟨rfl,rfl⟩;unfold qn
    (unfold db)
    simp only[go_sem];rw[hQ];simp only[go_sem];refine⟨⟨i+1,by omega⟩,by show 8-(i+1)<8-i;omega,ak [([1],[33,2])],?_⟩;rw[show(⟨i+1,by omega⟩:{ i:Nat // i<=8 }).1=i+1 from rfl,Gn i (by omega),h1,Dy (by simp)];unfold db;simp only[dK];simp only[go_sem]
    (rw[qo,aD ⟨by omega,by omega⟩];exact⟨rfl,rfl,rfl⟩)
   .refine iJ E' [.bx [0] 0,.d (fV 48)] (db acc) [0,1] (SX acc 48 (by omega)) rfl rfl ⟨by simp only[go_sem],by rw[aT];decide⟩ rfl (by(unfold db);simp only[go_sem]) (by(unfold db);simp only[go_sem]) ?_;rintro _ _ ⟨rfl,rfl⟩;unfold qn
    (unfold db)
    simp only[go_sem];rw[hQ];simp only[go_sem];refine⟨⟨i+1,by omega⟩,by show 8-(i+1)<8-i;omega,ak [([1],[34,2])],?_⟩;rw[show(⟨i+1,by omega⟩:{ i:Nat // i<=8 }).1=i+1 from rfl,Gn i (by omega),h1,Dy (by simp)];unfold db;simp only[dK];simp only[go_sem]
    (rw[qo,aD ⟨by omega,by omega⟩];exact⟨rfl,rfl,rfl⟩)
  .have de:i=8:=by omega
   subst de;rw[hQ];simp only[go_sem];clear hQ E' E0 Q';rw[show(jy s).take 8=jy s from rfl]at qo;subst qo;have kI:=hf.r;have Ac:=hf.v;refine bC E (X:={ k:Nat // k<=s.vars.length∧(eM ((s.vars.map Lib.itoa).take k)).length<=22*k }) (fun x=>[(1,.d (.ptr (aO s))),(3,.bx [0] 0),(37,.d (.sl none (s.vars.map i64))),(38,.d (i64 s.vars.length)),(39,.d (i64 x.1))]) (fun x=>db (jy s++eM ((s.vars.map Lib.itoa).take x.1))) [0,1] (fun x=>s.vars.length-x.1) ⟨0,ale _,by simp[eM]⟩ id ?_ ?_
   .unfold db;simp only[dK,List.take_zero,eM,List.flatMap_nil,alS];simp only[go_sem]
    all_goals first|rfl|(and_intros<;>first|rfl|trivial)
   rintro⟨k,hk,fb⟩ E0;refine bK E0 fun Q' hQ E'=>?_;simp only at hk fb ⊢;obtain⟨acc,qo⟩:∃acc,jy s++eM ((s.vars.map Lib.itoa).take k)=acc:=⟨_,rfl⟩
   have km:acc.length<=8+22*k:=by rw[<-qo,ak4];simp[jy];omega
   rw[qo];simp only[dK];unfold db;simp only[go_sem];refine aI E' ?_ ?_<;>intro h2<;>simp only[go_sem]
   .have aC:k<s.vars.length:=by omega
    have K1:=kI _ (ak2 aC);have c2:=agw (t:=t) (fz:=fz) s.vars[k] K1;have bF:=Lib.itoa_length_le s.vars[k] K1.1 K1.2;refine⟨by omega,?_⟩;rw[fe aC];simp only[go_sem];refine bd E' (c2) rfl rfl (by simp) ?_;rintro _ rfl;simp only[go_sem];refine⟨by omega,?_⟩
    have k7:jy s++eM ((s.vars.map Lib.itoa).take (k+1))=acc++(32::Lib.itoa s.vars[k]):=by
     rw[agz (by simpa using aC),<-alK,qo];simp
    refine iJ E' [.bx [0] 0,.d (.str (32::Lib.itoa s.vars[k]))] (db acc) [0,1] (K0 acc (32::Lib.itoa s.vars[k]) (by simp only[List.length_cons];omega)) rfl rfl ⟨by simp only[go_sem],by rw[aT];decide⟩ rfl (by unfold db;simp only[go_sem]) (by unfold db;simp only[go_sem]) ?_;rintro _ _ ⟨rfl,rfl⟩;unfold qn db;simp only[go_sem];rw[hQ];simp only[go_sem];refine⟨⟨k+1,aC,?_⟩,by show s.vars.length-(k+1)<s.vars.length-k;omega,ak [([1],[46,2])],?_⟩
    .have:=congrArg List.length k7;have h3:=congrArg List.length qo;have hb8:(jy s).length=8:=rfl;simp only[ak4,List.length_cons]at this h3;show(eM ((s.vars.map Lib.itoa).take (k+1))).length<=22*(k+1)
     omega
    .rw[show(⟨k+1,_⟩:{ k:Nat // k<=s.vars.length∧(eM ((s.vars.map Lib.itoa).take k)).length<=22*k }).1=k+1 from rfl,k7];unfold db;simp only[dK];simp only[go_sem];rw[aD ⟨by omega,by omega⟩]
     and_intros<;>first|rfl|trivial
   .have nK:k=s.vars.length:=by omega
    subst nK;rw[hQ];simp only[go_sem];clear hQ E' E0 Q';rw[ak5 (by simp)]at qo;refine bd E (c1) rfl rfl (by simp) ?_;rintro _ rfl;simp only[go_sem];have fW:=hf.f;have q7:=hf.t
    have oQ:(dX s).length<=802:=by
     unfold dX fP;rw[ak4,ak4,yd,yd];split<;>simp<;>omega
    have tL:∀q∈dX s,q.1.2.length<=20:=by
     intro q hq;unfold dX at hq;rcases ak1.1 hq with hq|hq
     .rcases ak1.1 hq with hq|hq
      .unfold fP at hq;split at hq
       .simp only[alc,alv,or_false]at hq;rcases hq with rfl|rfl<;>simp
       .simp at hq
      .obtain⟨x,hx,rfl⟩:=ak6.1 hq;exact hf.fs x hx
     .obtain⟨x,hx,rfl⟩:=ak6.1 hq;exact hf.ts x hx
    have ag:=agy s;obtain⟨ST,hST⟩:∃ST,dX s=ST:=⟨_,rfl⟩
    rw[hST]at oQ tL ag ⊢;refine bC E (X:={ j:Nat // j<=ST.length∧(j1 (ST.take j)).length<=21*j }) (fun x=>[(3,.bx [0] 0),(49,.d (.sl (some 3) (ST.map pg))),(50,.d (i64 ST.length)),(51,.d (i64 x.1))]) (fun x=>db (acc++j1 (ST.take x.1))) [0,1] (fun x=>ST.length-x.1) ⟨0,ale _,by simp[j1,eM]⟩ id ?_ ?_
    .unfold db;simp only[List.take_zero,show j1 []=[]from rfl,alS];simp only[go_sem]
     all_goals first|rfl|(and_intros<;>first|rfl|trivial)
    rintro⟨j,hj,e6⟩ E0;refine bK E0 fun Q' hQ E'=>?_;simp only at hj e6 ⊢;obtain⟨qp,yi⟩:∃qp,acc++j1 (ST.take j)=qp:=⟨_,rfl⟩
    have akJ:qp.length<=22000008+21*j:=by rw[<-yi,ak4];omega
    rw[yi];unfold db;simp only[go_sem];refine aI E' ?_ ?_<;>intro h4<;>simp only[go_sem]
    .have aX:j<ST.length:=by omega
     have r8:=tL _ (ak2 aX);have k7:=agx aX;refine⟨by omega,?_⟩;rw[Sv aX];generalize ST[j]=q at *
     obtain⟨⟨kd,nm⟩,to⟩:=q;rw[show pg ((kd,nm),to)=.agg [i64 kd,.str nm,i64 to]from rfl];simp only at r8 k7;simp only[go_sem];refine bH E' ?_ ?_<;>intro h5<;>simp only[go_sem]
     .have hc:(decide (kd=2)||decide (kd=3))=true:=by simp[h5]
      rw[hc]at k7;have wT:j1 (ST.take (j+1))=j1 (ST.take j)++32::nm:=k7;have K2:acc++j1 (ST.take (j+1))=qp++32::nm:=by rw[wT,<-alK,yi]
      refine⟨by omega,?_⟩;refine iJ E' [.bx [0] 0,.d (.str (32::nm))] (db qp) [0,1] (K0 qp (32::nm) (by simp only[List.length_cons];omega)) rfl rfl ⟨by simp only[go_sem],by rw[aT];decide⟩ rfl (by unfold db;simp only[go_sem]) (by unfold db;simp only[go_sem]) ?_;rintro _ _ ⟨rfl,rfl⟩;unfold qn db;simp only[go_sem];rw[hQ];simp only[go_sem];refine⟨⟨j+1,aX,by rw[wT,ak4,List.length_cons];omega⟩,by show ST.length-(j+1)<ST.length-j;omega,ak [([1],[69,2])],?_⟩;rw[show(⟨j+1,_⟩:{ j:Nat // j<=ST.length∧(j1 (ST.take j)).length<=21*j }).1=j+1 from rfl,K2];unfold db;simp only[go_sem];rw[aD ⟨by omega,by omega⟩]
      and_intros<;>first|rfl|trivial
     .refine aI E' ?_ ?_<;>intro h6<;>simp only[go_sem]
      .have hc:(decide (kd=2)||decide (kd=3))=true:=by simp[h6]
       rw[hc]at k7;have wT:j1 (ST.take (j+1))=j1 (ST.take j)++32::nm:=k7;have K2:acc++j1 (ST.take (j+1))=qp++32::nm:=by rw[wT,<-alK,yi]
       refine⟨by omega,?_⟩;refine iJ E' [.bx [0] 0,.d (.str (32::nm))] (db qp) [0,1] (K0 qp (32::nm) (by simp only[List.length_cons];omega)) rfl rfl ⟨by simp only[go_sem],by rw[aT];decide⟩ rfl (by unfold db;simp only[go_sem]) (by unfold db;simp only[go_sem]) ?_;rintro _ _ ⟨rfl,rfl⟩;unfold qn db;simp only[go_sem];rw[hQ];simp only[go_sem];refine⟨⟨j+1,aX,by rw[wT,ak4,List.length_cons];omega⟩,by show ST.length-(j+1)<ST.length-j;omega,ak [([1],[69,2])],?_⟩;rw[show(⟨j+1,_⟩:{ j:Nat // j<=ST.length∧(j1 (ST.take j)).length<=21*j }).1=j+1 from rfl,K2];unfold db;simp only[go_sem];rw[aD ⟨by omega,by omega⟩]
       and_intros<;>first|rfl|trivial
      .have hc:(decide (kd=2)||decide (kd=3))=false:=by simp[h5,h6]
       rw[hc]at k7;have wT:j1 (ST.take (j+1))=j1 (ST.take j):=by rw[k7];simp
       rw[hQ];simp only[go_sem];refine⟨⟨j+1,aX,by rw[wT];omega⟩,by show ST.length-(j+1)<ST.length-j;omega,id,?_⟩;rw[show(⟨j+1,_⟩:{ j:Nat // j<=ST.length∧(j1 (ST.take j)).length<=21*j }).1=j+1 from rfl,wT,yi];unfold db;simp only[go_sem];rw[aD ⟨by omega,by omega⟩]
       and_intros<;>first|rfl|trivial
    .have gT:j=ST.length:=by omega
     subst gT;rw[hQ];simp only[go_sem];rw[alk,ag]at yi
     have SY:qp=jz s:=by
      rw[<-yi,<-qo,jz,Dx,KY (s.vars.map _),alK]
     have sS:qp≠[]:=by rw[SY];simp[jz,jy]
     refine iJ E [.bx [0] 0] (db qp) [0,1] (agu qp sS (by omega)) rfl rfl ⟨by simp only[go_sem],by rw[aT];decide⟩ rfl (by unfold db;simp only[go_sem]) (by unfold db;simp only[go_sem]) ?_;rintro _ _ ⟨rfl,rfl⟩;unfold db;simp only[go_sem];refine⟨[],?_⟩;simp only[go_sem];rw[SY]
end Go.Proofs.YtpmniabdmbmafaaGreatDoor

namespace Go.Proofs.YtpmniabdmbmafaaGreatDoor
open Go.Ab Tryz
theorem tM:jS prog 3 (fun n:Int=>i64 n) (fun n=>.int .i64 n):=Zx (by rw[p3])
theorem Gp:rT prog 4=some (.bool false):=by kernel_rfl
theorem agB:rT prog 3=some (i64 0):=by kernel_rfl
theorem SZ:rT prog 48=some .ao:=by kernel_rfl
theorem yj{κ:Type}[DecidableEq κ](a b:κ)(d:D):∀ms:List (κ×D),cJ (ek ms a d) b=if b=a then some d else cJ ms b
 |[]=>by
   simp only[ek,cJ];by_cases e:a=b
   .rw[if_pos e,if_pos e.symm]
   .rw[if_neg e,if_neg (fun h=>e h.symm)]
 |q::r=>by
   simp only[ek];split
   .rename_i e;simp only[cJ];by_cases e2:a=b
    .rw[if_pos e2,if_pos e2.symm]
    .rw[if_neg e2,if_neg (fun h=>e2 h.symm),if_neg (fun h=>e2 (e.symm.trans h))]
   .rename_i e;simp only[cJ,yj a b d r];by_cases e2:q.1=b
    .rw[if_pos e2,if_neg (fun h=>e (e2.trans h)),if_pos e2]
    .rw[if_neg e2,if_neg e2]
theorem Gq{κ:Type}[DecidableEq κ]:∀(m:List (κ×D)) (a:κ) (d:D),(∀b,b∈(ek m a d).map (·.1)↔b=a∨b∈m.map (·.1))∧((m.map (·.1)).Nodup->((ek m a d).map (·.1)).Nodup)
 |[],a,d=>by simp[ek]
 |q::r,a,d=>by
   obtain⟨h1,h2⟩:=Gq r a d;by_cases e:q.1=a
   .refine⟨fun b=>?_,fun hn=>?_⟩
    .simp only[ek,if_pos e,alf,alc];rw[e];constructor
     .rintro(h|h)
      .exact .inl h
      .exact .inr (.inr h)
     .rintro(h|h|h)
      .exact .inl h
      .exact .inl h
      .exact .inr h
    .simp only[ek,if_pos e,alf];rw[alf,e]at hn;exact hn
   .refine⟨fun b=>?_,fun hn=>?_⟩
    .simp only[ek,if_neg e,alf,alc,h1];constructor
     .rintro(h|h|h)
      .exact .inr (.inl h)
      .exact .inl h
      .exact .inr (.inr h)
     .rintro(h|h|h)
      .exact .inr (.inl h)
      .exact .inl h
      .exact .inr (.inr h)
    .simp only[ek,if_neg e,alf];rw[alf,alW]at hn;rw[alW];refine⟨fun hm=>?_,h2 hn.2⟩;rcases(h1 q.1).1 hm with h|h
     .exact e h
     .exact hn.1 h
def ko(es:List (Int×D))(wait:List Nat):Prop:=(∀k:Nat,cJ es (k:Int)=if k∈wait then some (.bool true)else none)∧(es.map (·.1)).Nodup
def dT(x:List Nat):D:=.sl none (x.map nD)
def gU(l:List EA)(st:Int)(F:D)(s:PS)(a b o:Nat):List AV:=[.d (.sl (some 13) (l.map aO)),.d (i64 st),.d F,.vw [1] 0 s.cls.length,.vw [a] 0 s.sets.length,.vw [b] o s.wait.length,.mp [100]]
def dm(l:List EA)(st:Int)(F:D)(s:PS)(a b o:Nat)(c:List D)(es:List (Int×D)):List (Name×Ob) :=
 [([0],.box (gU l st F s a b o)),([1],.arr none (s.cls.map nD)),([a],.arr none (s.sets.map dT)),([b],.arr none c),([100],.map (aM (fun n:Int=>i64 n) es))]
theorem S0{G}(l:List EA)(st:Int)(F:D)(s:PS)(o:Nat)(c:List D)(es:List (Int×D))(k:Nat)(hq:Queue c o 0 s.wait)(aU:ko es s.wait)(hk:k∉s.wait)(hl:s.wait.length<=1000000) :
  bZ prog G 94 [.bx [0] 0,.d (i64 k)] (dm l st F s 2 3 o c es) [0,1,2,3,100] (fun r ae=>r=.az []∧∃c' kN,ae=dm l st F { s with wait:=s.wait++[k] } 2 5 0 c' kN∧Queue c' 0 0 (s.wait++[k])∧ko kN (s.wait++[k])):=by
 unfold dm gU;refine jc func94 rfl (by decide +kernel) (by simp[ntmps94]) (aS fun E=>?_);simp only[go_sem];refine Jf E [100] es (k:Int) (.bool false) (by rw[qQ]) tM Gp rfl rfl rfl (by simp) ?_;rw[aU.1 k,if_neg hk];simp only[go_sem];refine vW E [100] es (k:Int) (.bool true) (by rw[qQ]) tM rfl rfl rfl rfl rfl ?_;simp only[go_sem];have Dz:=hq.push k;rw[Nat.sub_zero]at Dz;refine⟨by omega,.az [],_,[0,1,2,3,100,5],ak [([5],[23])],⟨rfl,_,ek es (k:Int) (.bool true),rfl,Dz,fun x=>?_,(Gq _ _ _).2 aU.2⟩,?_⟩
 .rw[yj];by_cases e:x=k
  .subst e;simp
  .have e':¬((x:Int)=(k:Int)):=by omega
   rw[if_neg e',aU.1 x];simp[e]
 .rw[show(s.wait++[k]).length=s.wait.length+1 by simp];simp only[go_sem];rfl
end Go.Proofs.YtpmniabdmbmafaaGreatDoor

namespace Go.Proofs.YtpmniabdmbmafaaGreatDoor
open Go.Ab Tryz
def S1(N:Nat)(hs:List (Int×D))(hit:Nat->Bool):Prop:=∀x:Nat,x<N->(cJ hs (x:Int)).getD (.bool false)=.bool (hit x)
theorem S3{p:Nat->Bool}{L:List Nat}{j:Nat}(h:j<L.length):(L.take (j+1)).filter p=(L.take j).filter p++(if p L[j]then[L[j]]else[]):=by
 rw[ak9 h,amx];congr 1;cases hp:p L[j]<;>simp[hp]
theorem S4{cls L:List Nat}{j n:Nat}(h:j<L.length):lr cls (L.take (j+1)) n=(lr cls (L.take j) n).set L[j] n:=by
 rw[ak9 h,lr,amN];rfl
theorem agC{G}(l:List EA)(st:Int)(F:D)(s:PS)(o:Nat)(c:List D)(es:List (Int×D))(i ay:Nat)(bs:List Nat)(hs:List (Int×D))(hit:Nat->Bool)(hN:l.length<=4000)(w:Wf l.length s)(hi:i<s.sets.length)(hh:S1 l.length hs hit)(hq:Queue c o 0 s.wait)(aU:ko es s.wait) :
  bZ prog G 142 [.bx [0] 0,.d (i64 i),.d (fo ay bs (aM (fun n:Int=>i64 n) hs))] (dm l st F s 2 3 o c es) [0,1,2,3,100] (fun r ae=>r=.az []∧((eL hit s i=s∧ae=dm l st F s 2 3 o c es) ∨
   ∃c' kN,ae=dm l st F (eL hit s i) 6 7 0 c' kN∧Queue c' 0 0 (eL hit s i).wait∧ko kN (eL hit s i).wait)):=by
 have K3:=mO (n:=s.sets.length) w.wn w.wt;have oQ:=w.le;obtain⟨tL,dk⟩:=w.iN i hi;obtain⟨L,hL⟩:∃L,s.sets.getD i []=L:=⟨_,rfl⟩
 have lh:(s.sets.map dT).getD i .aY=.sl none (L.map nD):=by rw[<-hL];simp[hi,dT]
 rw[hL]at dk tL
 have hLN:L.length<=l.length:=by
  have hd:=w.dn i hi;rw[hL]at hd;exact mO hd fun x hx=>(dk x hx).1
 unfold dm gU;refine jc func142 rfl (by decide +kernel) (by simp[ntmps142]) (aS fun E=>?_);simp only[go_sem];refine⟨by omega,?_⟩;rw[lh];simp only[go_sem];refine wa E 6 98 none rfl (by rw[aT];decide) ?_;simp only[go_sem];refine wa E 7 97 none rfl (by rw[aT];decide) ?_;simp only[go_sem];have K4:L.length<=L.length:=ali _
 refine bC E (X:={ j:Nat // j<=L.length }) (fun x=>[(0,.bx [0] 0),(1,.d (i64 i)),(2,.d (fo ay bs (aM (fun n:Int=>i64 n) hs))),(6,.vw [98] 0 ((L.take x.1).filter hit).length),(7,.vw [97] 0 ((L.take x.1).filter fun y=>!hit y).length),(21,.d (.sl none (L.map nD))),(22,.d (i64 L.length)),(23,.d (i64 x.1))])
  (fun x=>[([0],.box [.d (.sl (some 13) (l.map aO)),.d (i64 st),.d F,.vw [1] 0 s.cls.length,.vw [2] 0 s.sets.length,.vw [3] o s.wait.length,.mp [100]]),([1],.arr none (s.cls.map nD)),([2],.arr none (s.sets.map dT)),([3],.arr none c),([100],.map (aM (fun n:Int=>i64 n) es)),([98],.arr none (((L.take x.1).filter hit).map nD)),([97],.arr none (((L.take x.1).filter fun y=>!hit y).map nD))])
  [0,1,2,3,100,98,97] (fun x=>L.length-x.1) ⟨0,ale _⟩ id ?_ ?_
 .simp only[go_sem]
  all_goals first|rfl|(and_intros<;>first|rfl|trivial)
 rintro⟨j,hj⟩ E0;refine bK E0 fun Q' hQ E'=>?_;simp only at hj ⊢;simp only[go_sem];refine aI E' ?_ ?_<;>intro h1<;>simp only[go_sem]
 .have aX:j<L.length:=by omega
  have bS:(L.map nD).getD j .aY=i64 (L[j]:Nat):=by simp[aX,nD]
  have jt:=(dk _ (ak2 aX)).1;have hhx:=hh _ jt;refine⟨by omega,?_⟩;rw[bS];simp only[go_sem];refine adp E' ay bs hs (L[j]:Int) (.bool false) (by rw[qQ]) tM Gp rfl rfl (by simp) ?_;simp only[sU,hhx];simp only[go_sem];have ph:=S3 (p:=hit) aX;have pj:=S3 (p:=fun y=>!hit y) aX;have rR:=al4 hit (L.take j);have eQ:=al4 (fun y=>!hit y) (L.take j);rw[alq]at rR eQ;refine ck E' ?_ ?_<;>intro h2<;>simp only[go_sem]
  .rw[if_pos h2]at ph;rw[h2,if_neg (by decide),alS]at pj;refine⟨by omega,?_⟩;rw[hQ];simp only[go_sem];refine⟨⟨j+1,aX⟩,by show L.length-(j+1)<L.length-j;omega,ak [([98],[33])],?_⟩;simp only[go_sem];rw[ph,pj,aD ⟨by omega,by omega⟩,ak4,alh]
   and_intros<;>first|rfl|trivial
  .rw[if_neg (by rw[h2];decide),alS]at ph;rw[h2,if_pos (by decide)]at pj;refine⟨by omega,?_⟩;rw[hQ];simp only[go_sem];refine⟨⟨j+1,aX⟩,by show L.length-(j+1)<L.length-j;omega,ak [([97],[37])],?_⟩;simp only[go_sem];rw[ph,pj,aD ⟨by omega,by omega⟩,ak4,alh]
   and_intros<;>first|rfl|trivial
 .have gT:j=L.length:=by omega
  subst gT;rw[alk,hQ];simp only[go_sem];clear hQ E' E0 Q';have hlA:=al4 hit L;have hlB:=al4 (fun y=>!hit y) L;obtain⟨A,sQ⟩:∃A,L.filter hit=A:=⟨_,rfl⟩
  obtain⟨B,CH⟩:∃B,(L.filter fun y=>!hit y)=B:=⟨_,rfl⟩
  rw[sQ]at hlA ⊢;rw[CH]at hlB ⊢;have Ad:gu hit s i=A:=by rw[gu,hL];exact sQ
  have Ae:gw hit s i=B:=by rw[gw,hL];exact CH
  have nU:A=[]∨B=[]->eL hit s i=s:=fun h=>uQ (by rw[Ad,Ae];exact h);refine bH E ?_ ?_<;>intro h3<;>simp only[go_sem]
  .refine⟨.az [],_,[0,1,2,3,100],id,⟨rfl,.inl ⟨nU (.inl (amh (by omega))),rfl⟩⟩,?_⟩;simp only[go_sem]
  .refine aI E ?_ ?_<;>intro h4<;>simp only[go_sem]
   .refine⟨.az [],_,[0,1,2,3,100],id,⟨rfl,.inl ⟨nU (.inr (amh (by omega))),rfl⟩⟩,?_⟩;simp only[go_sem]
   .have aB:¬(gu hit s i=[]∨gw hit s i=[]):=by
     rw[Ad,Ae];rintro(h|h)
     .rw[h]at h3;simp at h3
     .rw[h]at h4;simp at h4
    have fC:=sj aB;refine aI E ?_ ?_<;>intro h5<;>simp only[go_sem]
    .have K5:ft hit s i=B:=by rw[ft,Ad,Ae,if_pos (by omega)]
     have K6:lu hit s i=A:=by rw[lu,Ad,Ae,if_pos (by omega)]
     rw[K5,K6]at fC;refine⟨by omega,?_⟩;refine qZ E [98] none ((A).map nD) rfl rfl ?_;simp only[go_sem];refine qZ E [97] none ((B).map nD) rfl rfl ?_;simp only[go_sem];refine⟨by omega,?_⟩;obtain⟨n,hn⟩:∃n,s.sets.length=n:=⟨_,rfl⟩
     obtain⟨S2,qq⟩:∃S2,s.sets.set i (A)++[B]=S2:=⟨_,rfl⟩
     have yk:S2.length=n+1:=by rw[<-qq];simp[hn]
     have K7:(s.sets.map dT).set i (.sl none ((A).map nD))++[.sl none ((B).map nD)]=S2.map dT:=by
      rw[<-qq,alh,amr];rfl
     have Gr:∀x∈(B),x<l.length:=fun x hx=>(dk x (by(rw[<-CH]at hx;exact(aly.1 hx).1))).1
     refine bC E (X:={ j:Nat // j<=(B).length }) (fun x=>[(0,.bx [0] 0),(12,.d (i64 n)),(78,.d (.sl none ((B).map nD))),(79,.d (i64 (B).length)),(80,.d (i64 x.1))])
      (fun x=>[([0],.box [.d (.sl (some 13) (l.map aO)),.d (i64 st),.d F,.vw [1] 0 s.cls.length,.vw [96] 0 (n+1),.vw [3] o s.wait.length,.mp [100]]),([1],.arr none ((lr s.cls ((B).take x.1) n).map nD)),([96],.arr none (S2.map dT)),([3],.arr none c),([100],.map (aM (fun n:Int=>i64 n) es))])
      [0,1,2,3,100,96] (fun x=>(B).length-x.1) ⟨0,ale _⟩ (ak [([96],[75])]) ?_ ?_
     .rw[<-K7,hn];simp only[go_sem];rw[ak5 (by simp[hn])];exact⟨rfl,rfl⟩
     rintro⟨j,hj⟩ E0;refine bK E0 fun Q' hQ E'=>?_;simp only at hj ⊢;simp only[go_sem];refine aI E' ?_ ?_<;>intro h6<;>simp only[go_sem]
     .have aX:j<(B).length:=by omega
      have bS:((B).map nD).getD j .aY=i64 ((B)[j]:Nat):=by simp[aX,nD]
      have jt:=Gr _ (ak2 aX);have cF:=w.len;refine⟨by omega,?_⟩;rw[bS];simp only[go_sem];refine⟨by omega,?_⟩;rw[hQ];simp only[go_sem];refine⟨⟨j+1,aX⟩,by show(B).length-(j+1)<(B).length-j;omega,id,?_⟩;simp only[go_sem];rw[S4 aX,amr,aD ⟨by omega,by omega⟩]
      (try simp only[alX,alg,tI])
      and_intros<;>first|rfl|trivial
     .have gT:j=(B).length:=by omega
      subst gT;rw[alk,hQ];simp only[go_sem];clear hQ E' E0 Q';have xy:n∉s.wait:=fun h=>by have:=w.wt n h;omega
      have kn:=S0 (G:=G) l st F ⟨lr s.cls (B) n,S2,s.wait⟩ o c es n hq aU xy (by show s.wait.length<=_;omega);have iF:eL hit s i=⟨lr s.cls (B) n,S2,s.wait++[n]⟩:=by rw[fC,qq,hn]
      refine uG E (ak [([2],[96])]) [.bx [0] 0,.d (i64 n)] (dm l st F ⟨lr s.cls (B) n,S2,s.wait⟩ 2 3 o c es) [0,1,2,3,100] kn rfl (by simp only[go_sem]) ⟨by simp only[go_sem],by rw[aT];decide⟩ rfl (by unfold dm gU;simp only[tI,yk];simp only[go_sem]) (by unfold dm gU;simp only[go_sem]) ?_;rintro _ _ ⟨rfl,c',kN,rfl,bX,wU⟩;unfold dm gU;simp only[tI,yk];simp only[go_sem];refine⟨⟨ali _,ali _⟩,.az [],_,[0,1,2,3,100,6,7],ak [([6],[96]),([7],[94,5])],⟨rfl,.inr ⟨c',kN,rfl,by rw[iF];exact bX,by rw[iF];exact wU⟩⟩,?_⟩;rw[iF];simp only[tI,yk];simp only[go_sem]
    .have K5:ft hit s i=A:=by rw[ft,Ad,Ae,if_neg (by omega)]
     have K6:lu hit s i=B:=by rw[lu,Ad,Ae,if_neg (by omega)]
     rw[K5,K6]at fC;refine⟨by omega,?_⟩;refine qZ E [97] none ((B).map nD) rfl rfl ?_;simp only[go_sem];refine qZ E [98] none ((A).map nD) rfl rfl ?_;simp only[go_sem];refine⟨by omega,?_⟩;obtain⟨n,hn⟩:∃n,s.sets.length=n:=⟨_,rfl⟩
     obtain⟨S2,qq⟩:∃S2,s.sets.set i (B)++[A]=S2:=⟨_,rfl⟩
     have yk:S2.length=n+1:=by rw[<-qq];simp[hn]
     have K7:(s.sets.map dT).set i (.sl none ((B).map nD))++[.sl none ((A).map nD)]=S2.map dT:=by
      rw[<-qq,alh,amr];rfl
     have Gr:∀x∈(A),x<l.length:=fun x hx=>(dk x (by(rw[<-sQ]at hx;exact(aly.1 hx).1))).1
     refine bC E (X:={ j:Nat // j<=(A).length }) (fun x=>[(0,.bx [0] 0),(12,.d (i64 n)),(78,.d (.sl none ((A).map nD))),(79,.d (i64 (A).length)),(80,.d (i64 x.1))])
      (fun x=>[([0],.box [.d (.sl (some 13) (l.map aO)),.d (i64 st),.d F,.vw [1] 0 s.cls.length,.vw [96] 0 (n+1),.vw [3] o s.wait.length,.mp [100]]),([1],.arr none ((lr s.cls ((A).take x.1) n).map nD)),([96],.arr none (S2.map dT)),([3],.arr none c),([100],.map (aM (fun n:Int=>i64 n) es))])
      [0,1,2,3,100,96] (fun x=>(A).length-x.1) ⟨0,ale _⟩ (ak [([96],[75])]) ?_ ?_
     .rw[<-K7,hn];simp only[go_sem];rw[ak5 (by simp[hn])];exact⟨rfl,rfl⟩
     rintro⟨j,hj⟩ E0;refine bK E0 fun Q' hQ E'=>?_;simp only at hj ⊢;simp only[go_sem];refine aI E' ?_ ?_<;>intro h6<;>simp only[go_sem]
     .have aX:j<(A).length:=by omega
      have bS:((A).map nD).getD j .aY=i64 ((A)[j]:Nat):=by simp[aX,nD]
      have jt:=Gr _ (ak2 aX);have cF:=w.len;refine⟨by omega,?_⟩;rw[bS];simp only[go_sem];refine⟨by omega,?_⟩;rw[hQ];simp only[go_sem];refine⟨⟨j+1,aX⟩,by show(A).length-(j+1)<(A).length-j;omega,id,?_⟩;simp only[go_sem];rw[S4 aX,amr,aD ⟨by omega,by omega⟩]
      (try simp only[alX,alg,tI])
      and_intros<;>first|rfl|trivial
     .have gT:j=(A).length:=by omega
      subst gT;rw[alk,hQ];simp only[go_sem];clear hQ E' E0 Q';have xy:n∉s.wait:=fun h=>by have:=w.wt n h;omega
      have kn:=S0 (G:=G) l st F ⟨lr s.cls (A) n,S2,s.wait⟩ o c es n hq aU xy (by show s.wait.length<=_;omega);have iF:eL hit s i=⟨lr s.cls (A) n,S2,s.wait++[n]⟩:=by rw[fC,qq,hn]
      refine uG E (ak [([2],[96])]) [.bx [0] 0,.d (i64 n)] (dm l st F ⟨lr s.cls (A) n,S2,s.wait⟩ 2 3 o c es) [0,1,2,3,100] kn rfl (by simp only[go_sem]) ⟨by simp only[go_sem],by rw[aT];decide⟩ rfl (by unfold dm gU;simp only[tI,yk];simp only[go_sem]) (by unfold dm gU;simp only[go_sem]) ?_;rintro _ _ ⟨rfl,c',kN,rfl,bX,wU⟩;unfold dm gU;simp only[tI,yk];simp only[go_sem];refine⟨⟨ali _,ali _⟩,.az [],_,[0,1,2,3,100,6,7],ak [([6],[96]),([7],[94,5])],⟨rfl,.inr ⟨c',kN,rfl,by rw[iF];exact bX,by rw[iF];exact wU⟩⟩,?_⟩;rw[iF];simp only[tI,yk];simp only[go_sem]
end Go.Proofs.YtpmniabdmbmafaaGreatDoor

namespace Go.Ab
open Go.Sort Go.Lib Go.Proofs Go.Shelf Go.RowKit
theorem aj.grown{B:Base}{β:Name->Option a8}{s:St}{tm:Array Value}{w w':World}(h:aj B β s tm w)(hs:w.heap.size<=w'.heap.size)(ho:∀b,b<w.heap.size->w'.heap[b]?=w.heap[b]?)(eP:dH w'=dH w):aj B β s tm w':=by
 have hr:∀v d,au w.heap (s.own B.A β) v d->au w'.heap (s.own B.A β) v d:=fun v d hd=>hd.mono (fun b _ hb=>ho b hb) (fun _ _ h=>h);have ag:∀p,nm s.used p->iQ s.hp s.hp β β p:=fun p _ o' aV=>⟨o',aV,Ob.k4 _,rfl⟩
 refine { bG:=h.bG,io:=eP.trans h.io,size:=alU h.size hs,frame:=fun b hb hn=>(ho b (alV hb h.size)).trans (h.frame b hb hn),slots:=fun t=>(h.slots t).mono hr (fun _ h=>h) ag,aJ:=fun p o aV=>?_,blocks:=fun p k hp hk=>?_,inj:=h.inj,us:=h.us,stay:=h.stay }
 .obtain⟨h1,h2⟩:=h.aJ p o aV;exact⟨h1,h2.mono hr (fun _ h=>h) ag rfl fun k hk=>ho k.b (h.blocks p k (by rw[aV];simp) hk).1⟩
 .obtain⟨h1,h2⟩:=h.blocks p k hp hk;exact⟨alV h1 hs,h2⟩
theorem S5:∀{l:List D} {vs:List Value},vI l=some vs->∀d∈l,d.bR=true
 |[],_,_,d,hd=>by cases hd
 |x::r,vs,h,d,hd=>by
   simp only[vI]at h;split at h
   .rename_i v N3 h1 h2;rcases alc.1 hd with rfl|hd
    .cases d<;>simp[D.val]at h1<;>rfl
    .exact S5 h2 d hd
   .cases h
section
variable {P:Program}{α:Type}[Inhabited α]
theorem agD{G:List (Nat×Obj)}{f g k:Nat}(k6:0<k)(enc:α->List Value)(lY:α->List D)(lt:α->α->Bool)(hlen:∀x,(lY x).length=k)(hval:∀x,vI (lY x)=some (enc x))
  (he:∀vs w,(callFunc f vs).run P w=.ok (.enter f vs) w)
  (K8:∀(ef off cap:Nat) (d:Array α) (w:World),HoldsK enc k w ef off d->ef<w.heap.size->d.size<4611686018427387904->Calls P f #[.slice (some ⟨ef,off,none⟩) d.size cap,.func (.func g) #[] #[]] w fun e w' =>
   e=.returned (.tuple #[])∧∃d' n os,PermIn 0 d.size d d'∧SortedIn lt 0 d.size d'∧w'=sortWorldK enc k w ef off n d' os)
  (EN:∀(p:Option Addr) (cap:Nat) (w:World),Calls P f #[.slice p 0 cap,.func (.func g) #[] #[]] w fun e w'=>e=.returned (.tuple #[])∧w'=w)
  (a:Nat) (l:List α) (hl:l.length<4611686018427387904) :
  bZ P G f [.vw [a] 0 l.length,.aH g []] [([a],.arr (some k) (l.map fun x=>.agg (lY x)))] [a] (fun r ae=>r=.az []∧∃l':List α,l'.Perm l∧l'.Pairwise (fun x y=>lt y x=false)∧ae=[([a],.arr (some k) (l'.map fun x=>.agg (lY x)))]):=by
 refine⟨he,fun B β vs w h1 h2 h3 h4 hs=>?_⟩;have bj:vs.size=2:=by rw[hs.bG,h1];rfl
 obtain⟨v0,v1,rfl⟩:∃v0 v1,vs=#[v0,v1]:=by
  rcases vs with⟨_|⟨x,_|⟨y,_|⟨z,r⟩⟩⟩⟩<;>simp at bj;exact⟨x,y,rfl⟩
 have nW:=hs.slots 0;have mr:=hs.slots 1;have dJ:(mk (dQ 0 [.vw [a] 0 l.length,.aH g []]) [([a],.arr (some k) (l.map fun x=>.agg (lY x)))] [a]).hp [a]=some (.arr (some k) (l.map fun x=>.agg (lY x))):=by simp[mk,aw]
 have e0:(#[v0,v1]:Array Value).getD 0 undef=v0:=rfl;have e1:(#[v0,v1]:Array Value).getD 1 undef=v1:=rfl;rw[e0]at nW;rw[e1]at mr
 have x6:v1=.func (.func g) #[] #[]:=by
  have Kb:VR w.heap _ _ _ β v1 (.aH g []):=mr
  cases Kb with
  |aH _ vs _ hz _ =>
    have:vs=#[]:=amK (by simpa using hz);rw[this]
 obtain⟨av,cap,mI,K9⟩:∃av cap,v0=.slice av l.length cap∧(l.length=0∧cap=0∨∃kk,β [a]=some kk∧av=some ⟨kk.b,kk.o+0*wd (some k),none⟩∧l.length<=cap∧kk.o+(0+cap)*wd (some k)<=kk.z):=by
  have La:VR w.heap _ _ _ β v0 (.vw [a] 0 l.length):=nW
  cases La with
  |vw _ _ _ _ _ _ h=>exact(h _ _ _ dJ).2
 subst x6 mI;by_cases rN:l=[]
 .subst rN;refine((callsIn_wide (n:=0)).2 (EN av cap w)).mono ?_;rintro e w' ⟨rfl,rfl⟩;refine⟨_,.az [],_,[a],β,rfl,⟨rfl,[],.refl _,.nil,rfl⟩,?_⟩;refine { bG:=rfl,io:=hs.io,size:=hs.size,frame:=hs.frame,slots:=fun t=>?_,aJ:=hs.aJ,blocks:=hs.blocks,inj:=hs.inj,us:=hs.us,stay:=hs.stay };rw[kC,kD,xh];by_cases ht:t=0
  .subst ht;rw[if_pos rfl];exact .az _ _ rfl fun i x hi=>by simp at hi
  .rw[if_neg ht];exact .un _
 have xA:0<l.length:=amJ.2 rN;obtain⟨kk,ik,rfl,eY,hz⟩:=K9.resolve_left (by omega);obtain⟨k',c,e,aC,hc,BT,DA,hw,cd⟩:=((hs.aJ [a] _ dJ).2).resolve_left (fun h=>by rw[ik]at h;cases h.1);obtain rfl:=alo (ik.symm.trans aC);have hblk:=dI hc;have cW:wd (some k)=k:=rfl;rw[cW]at DA cd hz;rw[alg]at DA
 have hcell:∀i j,i<l.length->j<k->c.getD (kk.o+i*k+j) undef=(enc l.toArray[i]!)[j]!:=by
  intro i j hi hj;have h1:(l.map fun x=>D.agg (lY x))[i]?=some (.agg (lY l[i])):=by simp[hi]
  have aX:j<(lY l[i]).length:=by rw[hlen];exact hj
  have h2:=cd i _ j (lY l[i])[j] h1 (ak0 aX);obtain⟨g1,g2⟩:=EM (hval l[i]);have g3:=g2 j _ (ak0 aX);have kJ:j<(enc l[i]).length:=by rw[g1];exact aX
  rw[ak0 kJ]at g3;have:=h2.val g3;rw[this];simp[hi,kJ]
 have hH:HoldsK enc k w kk.b kk.o l.toArray:=by
  intro t ht;rw[size_flatK]at ht;have ht:t<l.length*k:=by simpa using ht
  rw[get_flatK enc k l.toArray t (by simpa using ht)];have hi:t / k<l.length:=Nat.div_lt_of_lt_mul (by rw[anY];exact ht);have hj:t % k<k:=Nat.mod_lt _ k6;have uS:t / k*k+t % k=t:=by rw[anY];exact Nat.div_add_mod t k
  have:=hcell (t / k) (t % k) hi hj;rw[amF,uS]at this;have hlt:kk.o+t<c.size:=by omega
  refine⟨?_,?_⟩
  .simp only[World.cell?,hc];rw[<-this];simp[akZ,hlt]
  .simp[World.frozen?,hc]
 have DB:(l.toArray).size=l.length:=by simp
 have cF:=(callsIn_wide (n:=0)).2 (K8 kk.b kk.o cap l.toArray w hH hblk (by rw[DB];exact hl));rw[DB]at cF;have e3:(⟨kk.b,kk.o+0*wd (some k),none⟩:Addr)=⟨kk.b,kk.o,none⟩:=by rw[aoc,Nat.add_zero]
 rw[e3];refine cF.mono ?_;rintro _ w' ⟨rfl,d',n,os,hp,rM,rfl⟩;obtain⟨nV,CU,Kg⟩:=hp;rw[DB]at nV
 have kP:d'.toList.Perm l:=by
  have e4:(d'.extract 0 l.length).toList=d'.toList:=by rw[<-nV];simp
  have e5:(l.toArray.extract 0 l.length).toList=l:=by simp
  rw[e4,e5]at Kg;exact Kg
 have agF:d'.toList.Pairwise (fun x y=>lt y x=false):=by
  rw[amk];intro i j hi hj cx;have:=rM i j (ale _) cx (by simpa[nV]using hj);have aq:i<d'.size:=by simpa using hi
  have aX:j<d'.size:=by simpa using hj
  rw[getElem!_pos d' i aq,getElem!_pos d' j aX]at this;simpa using this
 refine⟨_,.az [],_,[a],β,rfl,⟨rfl,d'.toList,kP,agF,rfl⟩,?_⟩;have BZ:d'.toList.length=l.length:=by simp[nV]
 have By:(Ob.arr (some k) (l.map fun x=>D.agg (lY x))).like (.arr (some k) (d'.toList.map fun x=>D.agg (lY x))):=by
  refine⟨⟨rfl,rfl⟩,?_⟩;simp only[alg,BZ];exact ali _
 have jn:(putRow id (Go.Sort.ahead w n) kk.b kk.o (flatK enc k d')).heap=w.heap.modify kk.b (onCells (putCells id kk.o (flatK enc k d'))):=rfl
 obtain⟨bh,_⟩:=hs.modify (p:=[a]) (ob':=.arr (some k) (d'.toList.map fun x=>.agg (lY x))) dJ By (w':=putRow id (Go.Sort.ahead w n) kk.b kk.o (flatK enc k d')) rfl (by rw[jn];simp)
  (fun b hb=>by
   have:=hb kk ik
   rw[jn,al7,if_neg (Ne.symm this)])
  (fun _ _=>by
   refine .inr ⟨kk,putCells id kk.o (flatK enc k d') c,e,ik,?_,?_,?_,?_,?_⟩
   .rw[jn,al7,if_pos rfl,hc];rfl
   .simp[putCells,BT]
   .simp only[alg,BZ,cW];omega
   .intro x hx;obtain⟨y,_,rfl⟩:=ak6.1 hx;exact⟨hlen y,S5 (hval y)⟩
   .intro i x j dd hi hj;rw[ala,ak8]at hi;obtain⟨y,hy,rfl⟩:=hi
    have bF:i<l.length:=by
     have:=(akY.1 hy).1;omega
    have hj:(lY y)[j]?=some dd:=hj;have e6:j<k:=by rw[<-hlen y];exact(akY.1 hj).1
    obtain⟨g1,g2⟩:=EM (hval y);have g3:=g2 j dd hj
    have DC:i*k+j<l.length*k:=by
     have:(i+1)*k<=l.length*k:=alz k bF;rw[amf,Nat.one_mul]at this;omega
    have hlt:kk.o+i*k+j<c.size:=by omega
    have dj:(putCells id kk.o (flatK enc k d') c).getD (kk.o+i*wd (some k)+j) undef=(enc y)[j]!:=by
     rw[cW]
     have h5:(flatK enc k d')[i*k+j]! = (enc d'[i]!)[j]!:=by
      rw[get_flatK enc k d' _ (by rw[nV];exact DC)];have h6:(i*k+j) / k=i:=by rw[anH,Nat.add_mul_div_right _ _ k6,Nat.div_eq_of_lt e6,alC]
      have h7:(i*k+j) % k=j:=by rw[anH,Nat.add_mul_mod_self_right,Nat.mod_eq_of_lt e6]
      rw[h6,h7]
     have h8:d'[i]! = y:=by
      have h9:i<d'.size:=by rw[nV];exact bF
      rw[getElem!_pos d' i h9];have:d'.toList[i]?=some d'[i]:=by simp[h9]
      rw[this]at hy;exact alo hy
     simp only[putCells,akZ,an9,al6 hlt,Option.map_some,Option.getD_some];rw[if_pos ⟨by omega,by rw[size_flatK,nV];omega⟩,show kk.o+i*k+j-kk.o=i*k+j by omega,h5,h8];rfl
    rw[dj];have kJ:j<(enc y).length:=by rw[g1,hlen];exact e6
    rw[ak0 kJ]at g3;rw[getElem!_pos (enc y) j kJ]
    exact D.N2 g3)
 have cX:=bh.grown (w':=grow (putRow id (Go.Sort.ahead w n) kk.b kk.o (flatK enc k d')) os) (by simp) (fun b hb=>heap_grow_old _ _ hb) rfl
 have ag:(mk (dQ 0 [.vw [a] 0 l.length,.aH g []]) [([a],.arr (some k) (l.map fun x=>.agg (lY x)))] [a]).set [a] (some (.arr (some k) (d'.toList.map fun x=>.agg (lY x))))=mk (dQ 0 [.vw [a] 0 l.length,.aH g []]) [([a],.arr (some k) (d'.toList.map fun x=>.agg (lY x)))] [a]:=by
  rw[IB];simp[js]
 rw[ag]at cX;refine { bG:=rfl,io:=cX.io,size:=cX.size,frame:=cX.frame,slots:=fun t=>?_,aJ:=cX.aJ,blocks:=cX.blocks,inj:=cX.inj,us:=cX.us,stay:=cX.stay };rw[kC,kD,xh];by_cases ht:t=0
 .subst ht;rw[if_pos rfl];exact .az _ _ rfl fun i x hi=>by simp at hi
 .rw[if_neg ht];exact .un _
end
end Go.Ab

namespace Go.Ab
open Go.Sort Go.Lib Go.Proofs Go.Shelf Go.RowKit
section
variable {P:Program}
theorem agG{G:List (Nat×Obj)}{f:Nat}(he:∀vs w,(callFunc f vs).run P w=.ok (.enter f vs) w)
  (K8:∀(ef off cap:Nat) (zs:List Int) (w:World),Holds (Value.int .i64) w ef off zs.toArray->ef<w.heap.size->zs.length<4611686018427387904->Calls P f #[.slice (some ⟨ef,off,none⟩) zs.length cap] w fun e w' =>
   e=.returned (.tuple #[])∧∃n os,w'=grow (putRow (Value.int .i64) (Go.Sort.ahead w n) ef off (zs.mergeSort fun x y=>decide (x<=y)).toArray) os)
  (EN:∀(p:Option Addr) (cap:Nat) (w:World),Calls P f #[.slice p 0 cap] w fun e w'=>e=.returned (.tuple #[])∧w'=w)
  (a:Nat) (l:List Int) (hl:l.length<4611686018427387904) :
  bZ P G f [.vw [a] 0 l.length] [([a],.arr none (l.map fun z=>D.int .i64 z))] [a] (fun r ae=>r=.az []∧ae=[([a],.arr none ((l.mergeSort fun x y=>decide (x<=y)).map fun z=>D.int .i64 z))]):=by
 refine⟨he,fun B β vs w h1 h2 h3 h4 hs=>?_⟩;have bj:vs.size=1:=by rw[hs.bG,h1];rfl
 obtain⟨v0,rfl⟩:∃v0,vs=#[v0]:=by
  rcases vs with⟨_|⟨x,_|⟨y,r⟩⟩⟩<;>simp at bj;exact⟨x,rfl⟩
 have nW:=hs.slots 0;have dJ:(mk (dQ 0 [.vw [a] 0 l.length]) [([a],.arr none (l.map fun z=>D.int .i64 z))] [a]).hp [a]=some (.arr none (l.map fun z=>D.int .i64 z)):=by simp[mk,aw]
 have e0:(#[v0]:Array Value).getD 0 undef=v0:=rfl;rw[e0]at nW;have lW:(l.mergeSort fun x y=>decide (x<=y)).length=l.length:=an8 _
 obtain⟨av,cap,mI,K9⟩:∃av cap,v0=.slice av l.length cap∧(l.length=0∧cap=0∨∃kk,β [a]=some kk∧av=some ⟨kk.b,kk.o+0*wd none,none⟩∧l.length<=cap∧kk.o+(0+cap)*wd none<=kk.z):=by
  have La:VR w.heap _ _ _ β v0 (.vw [a] 0 l.length):=nW
  cases La with
  |vw _ _ _ _ _ _ h=>exact(h _ _ _ dJ).2
 subst mI;by_cases rN:l=[]
 .subst rN;have hn:(([]:List Int).mergeSort fun x y=>decide (x<=y))=[]:=List.mergeSort_nil;rw[hn];refine((callsIn_wide (n:=0)).2 (EN av cap w)).mono ?_;rintro e w' ⟨rfl,rfl⟩;refine⟨_,.az [],_,[a],β,rfl,⟨rfl,rfl⟩,?_⟩;refine { bG:=rfl,io:=hs.io,size:=hs.size,frame:=hs.frame,slots:=fun t=>?_,aJ:=hs.aJ,blocks:=hs.blocks,inj:=hs.inj,us:=hs.us,stay:=hs.stay };rw[kC,kD,xh];by_cases ht:t=0
  .subst ht;rw[if_pos rfl];exact .az _ _ rfl fun i x hi=>by simp at hi
  .rw[if_neg ht];exact .un _
 have xA:0<l.length:=amJ.2 rN;obtain⟨kk,ik,rfl,eY,hz⟩:=K9.resolve_left (by omega);obtain⟨k',c,e,aC,hc,BT,DA,hw,cd⟩:=((hs.aJ [a] _ dJ).2).resolve_left (fun h=>by rw[ik]at h;cases h.1);obtain rfl:=alo (ik.symm.trans aC);have hblk:=dI hc;have cW:wd none=1:=rfl;rw[cW]at DA hz;rw[alg]at DA
 have hcell:∀i,(hi:i<l.length)->c.getD (kk.o+i) undef=.int .i64 l[i]:=by
  intro i hi;have h1:(l.map fun z=>D.int .i64 z)[i]?=some (.int .i64 l[i]):=by simp[hi]
  have h2:=cd i _ 0 (.int .i64 l[i]) h1 rfl;rw[cW,ann,Nat.add_zero]at h2;cases hv:c.getD (kk.o+i) undef<;>rw[hv]at h2<;>cases h2;rfl
 have hH:Holds (Value.int .i64) w kk.b kk.o l.toArray:=by
  intro t ht;have k8:t<l.length:=by simpa using ht
  have:=hcell t k8;have hlt:kk.o+t<c.size:=by omega
  refine⟨?_,?_⟩
  .simp only[World.cell?,hc];rw[akZ,al6 hlt,Option.getD_some]at this;rw[al6 hlt,this];simp[k8]
  .simp[World.frozen?,hc]
 have cF:=(callsIn_wide (n:=0)).2 (K8 kk.b kk.o cap l w hH hblk hl);have e3:(⟨kk.b,kk.o+0*wd none,none⟩:Addr)=⟨kk.b,kk.o,none⟩:=by rw[aoc,Nat.add_zero]
 rw[e3];refine cF.mono ?_;rintro _ w' ⟨rfl,n,os,rfl⟩;obtain⟨m,hm⟩:∃m,(l.mergeSort fun x y=>decide (x<=y))=m:=⟨_,rfl⟩
 rw[hm]at lW ⊢;refine⟨_,.az [],_,[a],β,rfl,⟨rfl,rfl⟩,?_⟩
 have By:(Ob.arr none (l.map fun z=>D.int .i64 z)).like (.arr none (m.map fun z=>D.int .i64 z)):=by
  refine⟨⟨rfl,rfl⟩,?_⟩;simp only[alg,lW];exact ali _
 have jn:(putRow (Value.int .i64) (Go.Sort.ahead w n) kk.b kk.o m.toArray).heap=w.heap.modify kk.b (onCells (putCells (Value.int .i64) kk.o m.toArray)):=rfl
 obtain⟨bh,_⟩:=hs.modify (p:=[a]) (ob':=.arr none (m.map fun z=>D.int .i64 z)) dJ By (w':=putRow (Value.int .i64) (Go.Sort.ahead w n) kk.b kk.o m.toArray) rfl (by rw[jn];simp)
  (fun b hb=>by
   have:=hb kk ik
   rw[jn,al7,if_neg (Ne.symm this)])
  (fun _ _=>by
   refine .inr ⟨kk,putCells (Value.int .i64) kk.o m.toArray c,e,ik,?_,?_,?_,?_,?_⟩
   .rw[jn,al7,if_pos rfl,hc];rfl
   .simp[putCells,BT]
   .simp only[alg,lW,cW];omega
   .intro x hx;obtain⟨y,_,rfl⟩:=ak6.1 hx;rfl
   .intro i x j dd hi hj;rw[ala,ak8]at hi;obtain⟨y,hy,rfl⟩:=hi;have bF:i<m.length:=(akY.1 hy).1;have hj:[D.int .i64 y][j]?=some dd:=hj
    have qM:j=0:=by
     have:=(akY.1 hj).1;simpa using this
    subst qM;obtain rfl:=alo hj;have hlt:kk.o+i<c.size:=by omega
    have dj:(putCells (Value.int .i64) kk.o m.toArray c).getD (kk.o+i*wd none+0) undef=.int .i64 y:=by
     rw[cW,ann,Nat.add_zero];simp only[putCells,akZ,an9,al6 hlt,Option.map_some,Option.getD_some];rw[if_pos ⟨by omega,by simp;omega⟩,show kk.o+i-kk.o=i by omega];have:=(akY.1 hy).2;simp[bF,this]
    rw[dj]
    exact .int _ _)
 have cX:=bh.grown (w':=grow (putRow (Value.int .i64) (Go.Sort.ahead w n) kk.b kk.o m.toArray) os) (by simp) (fun b hb=>heap_grow_old _ _ hb) rfl
 have ag:(mk (dQ 0 [.vw [a] 0 l.length]) [([a],.arr none (l.map fun z=>D.int .i64 z))] [a]).set [a] (some (.arr none (m.map fun z=>D.int .i64 z)))=mk (dQ 0 [.vw [a] 0 l.length]) [([a],.arr none (m.map fun z=>D.int .i64 z))] [a]:=by
  rw[IB];simp[js]
 rw[ag]at cX;refine { bG:=rfl,io:=cX.io,size:=cX.size,frame:=cX.frame,slots:=fun t=>?_,aJ:=cX.aJ,blocks:=cX.blocks,inj:=cX.inj,us:=cX.us,stay:=cX.stay };rw[kC,kD,xh];by_cases ht:t=0
 .subst ht;rw[if_pos rfl];exact .az _ _ rfl fun i x hi=>by simp at hi
 .rw[if_neg ht];exact .un _
end
end Go.Ab

namespace Go.Proofs
open Go.Shelf
def Tryz.agH:Go.Shelf.Ren:=⟨fun|189=>44|125=>78|257=>77|128=>120|129=>121|294=>111|295=>112|296=>113|297=>114|298=>115|299=>116|216=>117|300=>118|301=>119|328=>153|329=>154|330=>155|331=>156|332=>157|215=>158|343=>182|n=>n,fun|28=>48|3=>3|46=>137|0=>0|51=>184|53=>186|4=>4|183=>177|182=>176|131=>86|5=>5|9=>9|218=>208|222=>212|228=>234|229=>88|n=>n,fun|n=>n⟩
theorem Tryz.S6:Go.Proofs.Lays.n189 Tryz.prog Tryz.agH:={
 mixed:=by kernel_rfl
 f125:=Tryz.func78.trans (congrArg some (by kernel_rfl))
 f128:=Tryz.func120.trans (congrArg some (by kernel_rfl))
 f129:=Tryz.func121.trans (congrArg some (by kernel_rfl))
 f189:=Tryz.func44.trans (congrArg some (by kernel_rfl))
 f215:=Tryz.func158.trans (congrArg some (by kernel_rfl))
 f216:=Tryz.func117.trans (congrArg some (by kernel_rfl))
 f257:=Tryz.func77.trans (congrArg some (by kernel_rfl))
 f294:=Tryz.func111.trans (congrArg some (by kernel_rfl))
 f295:=Tryz.func112.trans (congrArg some (by kernel_rfl))
 f296:=Tryz.func113.trans (congrArg some (by kernel_rfl))
 f297:=Tryz.func114.trans (congrArg some (by kernel_rfl))
 f298:=Tryz.func115.trans (congrArg some (by kernel_rfl))
 f299:=Tryz.func116.trans (congrArg some (by kernel_rfl))
 f300:=Tryz.func118.trans (congrArg some (by kernel_rfl))
 f301:=Tryz.func119.trans (congrArg some (by kernel_rfl))
 f328:=Tryz.func153.trans (congrArg some (by kernel_rfl))
 f329:=Tryz.func154.trans (congrArg some (by kernel_rfl))
 f330:=Tryz.func155.trans (congrArg some (by kernel_rfl))
 f331:=Tryz.func156.trans (congrArg some (by kernel_rfl))
 f332:=Tryz.func157.trans (congrArg some (by kernel_rfl))
 f343:=Tryz.func182.trans (congrArg some (by kernel_rfl))
 t0:=Tryz.underlying0
 a0:=Tryz.isAgg0
 z0:=Tryz.sizeOf0
 v0:=Tryz.zeroValue0
 t3:=Tryz.underlying3
 a3:=Tryz.isAgg3
 z3:=Tryz.sizeOf3
 v3:=Tryz.zeroValue3
 t4:=Tryz.underlying4
 a4:=Tryz.isAgg4
 z4:=Tryz.sizeOf4
 v4:=Tryz.zeroValue4
 t5:=Tryz.underlying5
 a5:=Tryz.isAgg5
 z5:=Tryz.sizeOf5
 v5:=Tryz.zeroValue5
 t9:=Tryz.underlying9
 a9:=Tryz.isAgg9
 z9:=Tryz.sizeOf9
 v9:=Tryz.zeroValue9
 t28:=Tryz.underlying48
 a28:=Tryz.isAgg48
 z28:=Tryz.sizeOf48
 v28:=Tryz.zeroValue48
 t46:=Tryz.underlying137
 a46:=Tryz.isAgg137
 z46:=Tryz.sizeOf137
 v46:=Tryz.zeroValue137
 t51:=Tryz.underlying184
 a51:=Tryz.isAgg184
 z51:=Tryz.sizeOf184
 v51:=Tryz.zeroValue184
 t53:=Tryz.underlying186
 a53:=Tryz.isAgg186
 z53:=Tryz.sizeOf186
 v53:=Tryz.zeroValue186
 t131:=Tryz.underlying86
 a131:=Tryz.isAgg86
 z131:=Tryz.sizeOf86
 v131:=Tryz.zeroValue86
 t182:=Tryz.underlying176
 a182:=Tryz.isAgg176
 z182:=Tryz.sizeOf176
 v182:=Tryz.zeroValue176
 t183:=Tryz.underlying177
 a183:=Tryz.isAgg177
 z183:=Tryz.sizeOf177
 v183:=Tryz.zeroValue177
 t218:=Tryz.underlying208
 a218:=Tryz.isAgg208
 z218:=Tryz.sizeOf208
 v218:=Tryz.zeroValue208
 t222:=Tryz.underlying212
 a222:=Tryz.isAgg212
 z222:=Tryz.sizeOf212
 v222:=Tryz.zeroValue212
 t228:=Tryz.underlying234
 a228:=Tryz.isAgg234
 z228:=Tryz.sizeOf234
 v228:=Tryz.zeroValue234
 t229:=Tryz.underlying88
 a229:=Tryz.isAgg88
 z229:=Tryz.sizeOf88
 v229:=Tryz.zeroValue88 }
def Tryz.agI:Go.Shelf.Ren:=⟨fun|6=>139|15=>78|14=>162|28=>120|29=>121|20=>186|21=>187|22=>188|23=>189|24=>190|25=>191|26=>192|27=>193|46=>205|47=>154|48=>155|49=>206|50=>207|57=>211|n=>n,fun|22=>158|24=>154|25=>200|3=>3|39=>137|0=>0|53=>184|55=>186|4=>4|46=>177|45=>176|50=>86|5=>5|9=>9|66=>208|70=>212|76=>234|77=>88|n=>n,fun|n=>n⟩
theorem Tryz.S7:Go.Proofs.SlLaysF0.n6 Tryz.prog Tryz.agI:={
 mixed:=by kernel_rfl
 f6:=⟨Tryz.f139.name,by decide,Tryz.func139.trans (congrArg some (by kernel_rfl))⟩
 f14:=⟨Tryz.f162.name,by decide,Tryz.func162.trans (congrArg some (by kernel_rfl))⟩
 f15:=Tryz.func78.trans (congrArg some (by kernel_rfl))
 f20:=⟨Tryz.f186.name,by decide,Tryz.func186.trans (congrArg some (by kernel_rfl))⟩
 f21:=⟨Tryz.f187.name,by decide,Tryz.func187.trans (congrArg some (by kernel_rfl))⟩
 f22:=⟨Tryz.f188.name,by decide,Tryz.func188.trans (congrArg some (by kernel_rfl))⟩
 f23:=⟨Tryz.f189.name,by decide,Tryz.func189.trans (congrArg some (by kernel_rfl))⟩
 f24:=⟨Tryz.f190.name,by decide,Tryz.func190.trans (congrArg some (by kernel_rfl))⟩
 f25:=⟨Tryz.f191.name,by decide,Tryz.func191.trans (congrArg some (by kernel_rfl))⟩
 f26:=⟨Tryz.f192.name,by decide,Tryz.func192.trans (congrArg some (by kernel_rfl))⟩
 f27:=⟨Tryz.f193.name,by decide,Tryz.func193.trans (congrArg some (by kernel_rfl))⟩
 f28:=Tryz.func120.trans (congrArg some (by kernel_rfl))
 f29:=Tryz.func121.trans (congrArg some (by kernel_rfl))
 f46:=⟨Tryz.f205.name,by decide,Tryz.func205.trans (congrArg some (by kernel_rfl))⟩
 f47:=Tryz.func154.trans (congrArg some (by kernel_rfl))
 f48:=Tryz.func155.trans (congrArg some (by kernel_rfl))
 f49:=⟨Tryz.f206.name,by decide,Tryz.func206.trans (congrArg some (by kernel_rfl))⟩
 f50:=⟨Tryz.f207.name,by decide,Tryz.func207.trans (congrArg some (by kernel_rfl))⟩
 f57:=⟨Tryz.f211.name,by decide,Tryz.func211.trans (congrArg some (by kernel_rfl))⟩
 t0:=Tryz.underlying0
 a0:=Tryz.isAgg0
 z0:=Tryz.sizeOf0
 v0:=Tryz.zeroValue0
 t3:=Tryz.underlying3
 a3:=Tryz.isAgg3
 z3:=Tryz.sizeOf3
 v3:=Tryz.zeroValue3
 t4:=Tryz.underlying4
 a4:=Tryz.isAgg4
 z4:=Tryz.sizeOf4
 v4:=Tryz.zeroValue4
 t5:=Tryz.underlying5
 a5:=Tryz.isAgg5
 z5:=Tryz.sizeOf5
 v5:=Tryz.zeroValue5
 t9:=Tryz.underlying9
 a9:=Tryz.isAgg9
 z9:=Tryz.sizeOf9
 v9:=Tryz.zeroValue9
 t22:=Tryz.underlying158
 a22:=Tryz.isAgg158
 z22:=Tryz.sizeOf158
 v22:=Tryz.zeroValue158
 t25:=Tryz.underlying200
 a25:=Tryz.isAgg200
 z25:=Tryz.sizeOf200
 v25:=Tryz.zeroValue200
 t39:=Tryz.underlying137
 a39:=Tryz.isAgg137
 z39:=Tryz.sizeOf137
 v39:=Tryz.zeroValue137
 t45:=Tryz.underlying176
 a45:=Tryz.isAgg176
 z45:=Tryz.sizeOf176
 v45:=Tryz.zeroValue176
 t46:=Tryz.underlying177
 a46:=Tryz.isAgg177
 z46:=Tryz.sizeOf177
 v46:=Tryz.zeroValue177
 t50:=Tryz.underlying86
 a50:=Tryz.isAgg86
 z50:=Tryz.sizeOf86
 v50:=Tryz.zeroValue86
 t53:=Tryz.underlying184
 a53:=Tryz.isAgg184
 z53:=Tryz.sizeOf184
 v53:=Tryz.zeroValue184
 t55:=Tryz.underlying186
 a55:=Tryz.isAgg186
 z55:=Tryz.sizeOf186
 v55:=Tryz.zeroValue186
 t66:=Tryz.underlying208
 a66:=Tryz.isAgg208
 z66:=Tryz.sizeOf208
 v66:=Tryz.zeroValue208
 t70:=Tryz.underlying212
 a70:=Tryz.isAgg212
 z70:=Tryz.sizeOf212
 v70:=Tryz.zeroValue212
 t76:=Tryz.underlying234
 a76:=Tryz.isAgg234
 z76:=Tryz.sizeOf234
 v76:=Tryz.zeroValue234
 t77:=Tryz.underlying88
 a77:=Tryz.isAgg88
 z77:=Tryz.sizeOf88
 v77:=Tryz.zeroValue88 }
end Go.Proofs

namespace Go.Proofs.YtpmniabdmbmafaaGreatDoor
open Go.Ab Tryz
theorem agJ{P:Program}{cf:Cf}{Q:Exit->St->Prop}{s:St}{k:List It}(E:bu P cf Q){c:Code}(p:Name)(es:List (D×D))(hp:s.hp p=some (.map es))(h:∀ay bs,wi ay bs es->e8 E c (s.dN p (fo ay bs es)) k):e8 E c s k:=by
 intro B hB ds β a w' ai hs;obtain⟨ay,bs,ag,bm⟩:=hs.dN hp;exact h ay bs ag B hB ds β a w' ai bm
theorem agK:∀args w,(callFunc 44 args).run prog w=.ok (.enter 44 args) w:=fun args w=>vH func44 rfl (by decide +kernel) args w
theorem S8{G}(a:Nat)(l:List Int)(hl:l.length<=1000000):bZ prog G 44 [.vw [a] 0 l.length] [([a],.arr none (l.map i64))] [a] (fun r ae=>r=.az []∧ae=[([a],.arr none ((l.mergeSort fun x y=>decide (x<=y)).map i64))]) :=
 agG (P:=prog) agK (fun ef off cap zs w h1 h2 h3=>Any.slices_Sort_int Tryz.S6 ef off cap zs w h1 h2 h3) (fun p cap w=>Any.slices_Sort_int_none Tryz.S6 p cap w) a l (by omega)
def fj(HL:List Nat):List (Int×D):=HL.foldl (fun(m:List (Int×D)) (x:Nat)=>ek m (x:Int) (.bool true)) []
theorem Gs(HL:List Nat)(x:Nat):fj (HL++[x])=ek (fj HL) (x:Int) (.bool true):=by simp[fj,amN]
theorem agL(HL:List Nat)(x:Nat):cJ (fj HL) (x:Int)=if x∈HL then some (.bool true)else none:=by
 have key:∀(R:List Nat) (m:List (Int×D)),cJ (R.foldl (fun(m:List (Int×D)) (x:Nat)=>ek m (x:Int) (.bool true)) m) (x:Int)=if x∈R then some (.bool true)else cJ m (x:Int):=by
  intro R
  induction R with
  |nil=>intro m;simp
  |cons y R ih =>
    intro m;rw[List.foldl_cons,ih,yj];by_cases h:x∈R
    .simp[h]
    .rw[if_neg h];by_cases e:x=y
     .subst e;simp
     .have:¬((x:Int)=(y:Int)):=by omega
      simp[h,e,this]
 rw[fj,key];simp[cJ]
theorem S9(HL:List Nat):(∀b:Int,b∈(fj HL).map (·.1)↔∃x∈HL,(x:Int)=b)∧((fj HL).map (·.1)).Nodup:=by
 have key:∀(R:List Nat) (m:List (Int×D)),(m.map (·.1)).Nodup->(∀b:Int,b∈(R.foldl (fun(m:List (Int×D)) (x:Nat)=>ek m (x:Int) (.bool true)) m).map (·.1)↔b∈m.map (·.1)∨∃x∈R,(x:Int)=b)∧((R.foldl (fun(m:List (Int×D)) (x:Nat)=>ek m (x:Int) (.bool true)) m).map (·.1)).Nodup:=by
  intro R
  induction R with
  |nil=>intro m hm;exact⟨fun b=>by simp,hm⟩
  |cons y R ih =>
    intro m hm;obtain⟨k1,k2⟩:=Gq m (y:Int) (.bool true);obtain⟨i1,i2⟩:=ih (ek m (y:Int) (.bool true)) (k2 hm);rw[List.foldl_cons];refine⟨fun b=>?_,i2⟩;rw[i1,k1];constructor
    .rintro((h|h)|⟨x,hx,h⟩)
     .exact .inr ⟨y,by simp,h.symm⟩
     .exact .inl h
     .exact .inr ⟨x,by simp[hx],h⟩
    .rintro(h|⟨x,hx,h⟩)
     .exact .inl (.inr h)
     .rcases alc.1 hx with rfl|hx
      .exact .inl (.inl h.symm)
      .exact .inr ⟨x,hx,h⟩
 obtain⟨h1,h2⟩:=key HL [] (by simp);exact⟨fun b=>by rw[fj,h1];simp,h2⟩
structure Af(l:List EA)(FM:List (ch×D)):Prop where
 val:∀key v,(key,v)∈FM->∃L:List Nat,v=dT L∧L.length<=l.length∧0<=key.2∧key.2<l.length∧∀x,x∈L↔x<l.length∧(key.1,key.2.toNat)∈gL l x
 all:∀x,x<l.length->∀(a:eu) k,(a,k)∈gL l x->∃v,((a,(k:Int)),v)∈FM
 nd:(FM.map (·.1)).Nodup
theorem Ta{κ:Type}[DecidableEq κ]:∀{m:List (κ×D)} {a:κ} {d:D},cJ m a=some d->(a,d)∈m
 |[],_,_,h=>by simp[cJ]at h
 |q::r,a,d,h=>by
   rw[cJ]at h;split at h
   .rename_i e;obtain rfl:=alo h;subst e;exact alb
   .exact ald _ (Ta h)
theorem Tb{κ:Type}[DecidableEq κ]:∀{m:List (κ×D)} {a:κ} {d:D},(a,d)∈m->∃d',cJ m a=some d'
 |q::r,a,d,h=>by
   rw[cJ];by_cases e:q.1=a
   .exact⟨_,by rw[if_pos e]⟩
   .rw[if_neg e];rcases alc.1 h with rfl|h
    .exact absurd rfl e
    .exact Tb h
theorem agM{l:List EA}{FM:List (ch×D)}(h:Af l FM)(a:eu)(k:Nat)(_hk:k<l.length) :
  (cJ FM (a,(k:Int))=none∧∀x,x<l.length->(a,k)∉gL l x)∨∃L:List Nat,cJ FM (a,(k:Int))=some (dT L)∧L.length<=l.length∧∀x,x∈L↔x<l.length∧(a,k)∈gL l x:=by
 cases hm:cJ FM (a,(k:Int))with
 |none =>
   refine .inl ⟨rfl,fun x hx hs=>?_⟩;obtain⟨v,hv⟩:=h.all x hx a k hs;obtain⟨d,hd⟩:=Tb hv;rw[hm]at hd;cases hd
 |some v =>
   obtain⟨L,rfl,h1,h2,mM,h3⟩:=h.val _ _ (Ta hm);exact .inr ⟨L,rfl,h1,fun x=>by rw[h3];rfl⟩
end Go.Proofs.YtpmniabdmbmafaaGreatDoor

namespace Go.Proofs.YtpmniabdmbmafaaGreatDoor
open Go.Ab
end Go.Proofs.YtpmniabdmbmafaaGreatDoor

namespace Go.Ab
end Go.Ab

namespace Go.Proofs.YtpmniabdmbmafaaGreatDoor
open Go.Ab
abbrev Clu:=Bool×Bool×List Int
def ah(ns:List TN)(i:Int):Int:=(nd ns i.toNat).k
theorem kp{ns:List TN}{i:Int}(hi:bI ns i):(ns.map aK).getD i.toNat .aY=.agg [i64 (nd ns i.toNat).k,i64 (nd ns i.toNat).a,i64 (nd ns i.toNat).b,.sl (some 2) ((nd ns i.toNat).l.map aP)] :=
 C9 (by have:=hi.1;have:=hi.2;omega)
def bP(ns:List TN)(k:Int)(l:List Int):List Int:=l.filter fun x=>decide (ah ns x=k)
end Go.Proofs.YtpmniabdmbmafaaGreatDoor

namespace Go.Proofs.YtpmniabdmbmafaaGreatDoor
open Go.Ab
theorem DE{α:Type}{p:α->Bool}{l:List α}{i:Nat}(h:i<l.length):(l.take (i+1)).filter p=(l.take i).filter p++(if p l[i]then[l[i]]else[]):=by
 rw[ak9 h,amx];cases hp:p l[i]<;>simp[hp]
end Go.Proofs.YtpmniabdmbmafaaGreatDoor

namespace Go.Proofs.YtpmniabdmbmafaaGreatDoor
open Go.Ab
end Go.Proofs.YtpmniabdmbmafaaGreatDoor

namespace Go.Proofs.YtpmniabdmbmafaaGreatDoor
open Go.Ab
end Go.Proofs.YtpmniabdmbmafaaGreatDoor

namespace Go.Proofs.YtpmniabdmbmafaaGreatDoor
open Go.Ab Tryz
theorem Tc{xs ys:List (Option (List D))}{q:Name×Ob}(h:q∈cm 202 xs (cm 203 ys [])):∃i,q.1=[202,i]∨q.1=[203,i]:=by
 rcases ak1.1 h with h|h
 .obtain⟨j,_,_,rfl⟩:=(n3 202 xs 0 q).1 h;exact⟨_,.inl rfl⟩
 .rcases ak1.1 h with h|h
  .obtain⟨j,_,_,rfl⟩:=(n3 203 ys 0 q).1 h;exact⟨_,.inr rfl⟩
  .cases h
theorem ym(a b:Nat):ak [([5],[23])] [a,b]=[a,b]:=by simp[ak,aw]
theorem agN{G}(s1 s2:D)(cl:List D)(n1 n2:Nat)(b2 b3:Ob)(xs ys:List (Option (List D)))(w:List Nat)(o:Nat)(c:List D)(es:List (Int×D))(k:Nat)(hq:Queue c o 0 w)(aU:ko es w)(hk:k∉w)(hl:w.length<=1000000)(h2:b2.ren (ak [([5],[23])])=b2)(h2u:b2.bn [0,1,3,55,200,201,202,203,5]=true)(h3:b3.ren (ak [([5],[23])])=b3)(h3u:b3.bn [0,1,3,55,200,201,202,203,5]=true) :
  bZ prog G 94 [.bx [0] 0,.d (i64 k)] (([0],.box [.d s1,.d s2,.ma [201],.vw [1] 0 n1,.va [55] 0 n2,.vw [3] o w.length,.mp [200]])::([3],.arr none c)::([200],.map (aM (fun n:Int=>i64 n) es))::([1],.arr none cl)::([55],b2)::([201],b3)::cm 202 xs (cm 203 ys [])) [0,1,3,55,200,201,202,203]
   (fun r ae=>r=.az []∧∃c' kN,ae=(([0],.box [.d s1,.d s2,.ma [201],.vw [1] 0 n1,.va [55] 0 n2,.vw [5] 0 (w.length+1),.mp [200]])::([5],.arr none c')::([200],.map (aM (fun n:Int=>i64 n) kN))::([1],.arr none cl)::([55],b2)::([201],b3)::cm 202 xs (cm 203 ys []))∧Queue c' 0 0 (w++[k])∧ko kN (w++[k])):=by
 refine jc func94 rfl (by decide +kernel) (by simp[ntmps94]) (aS fun E=>?_);simp only[go_sem];refine Jf E [200] es (k:Int) (.bool false) (by rw[qQ]) tM Gp rfl rfl rfl (by simp) ?_;rw[aU.1 k,if_neg hk];simp only[go_sem];refine vW E [200] es (k:Int) (.bool true) (by rw[qQ]) tM rfl rfl rfl rfl rfl ?_;simp only[go_sem];have Dz:=hq.push k;rw[Nat.sub_zero]at Dz;refine⟨by omega,.az [],_,[0,1,3,55,200,201,202,203,5],ak [([5],[23])],⟨rfl,_,ek es (k:Int) (.bool true),rfl,Dz,fun x=>?_,(Gq _ _ _).2 aU.2⟩,?_⟩
 .rw[yj];by_cases e:x=k
  .subst e;simp
  .have e':¬((x:Int)=(k:Int)):=by omega
   rw[if_neg e',aU.1 x];simp[e]
 .simp only[go_sem];refine⟨⟨rfl,⟨congrArg some h2.symm,h2u⟩,⟨congrArg some h3.symm,h3u⟩,FY rfl (fun i zs h=>?_) (FY rfl (fun i zs h=>?_) trivial)⟩,?_⟩
  .show(mk _ _ _).hp (ak [([5],[23])] [202,i])=_;simp only[go_sem];exact fH (fr:=[]) (u:=[]) h
  .show(mk _ _ _).hp (ak [([5],[23])] [203,i])=_;simp only[go_sem];exact fH (fr:=[]) (u:=[]) h
  .refine⟨⟨?_,?_,?_,?_,?_,?_,Rs (fun i j _ _ _ _ e=>?_) (fun i _ _ q hq=>?_) (Rs (fun i j _ _ _ _ e=>?_) (fun i _ _ q hq=>by cases hq) trivial)⟩,tv fun q hq _=>?_⟩
   iterate 6
    .intro q hq;obtain⟨i,e|e⟩:=Tc hq<;>rw[e]<;>simp
   .rw[ym,ym]at e;simpa using e
   .rcases ak1.1 hq with hq|hq
    .obtain⟨j,_,_,rfl⟩:=(n3 203 ys 0 q).1 hq;rw[ym,ym];simp
    .cases hq
   .rw[ym,ym]at e;simpa using e
   .obtain⟨i,e|e⟩:=Tc hq<;>rw[e,ym]
end Go.Proofs.YtpmniabdmbmafaaGreatDoor

namespace Go.Proofs.YtpmniabdmbmafaaGreatDoor
open Go.Ab
structure BS where
 cls:List Nat
 sets:List (List Nat)
 fu:List (List UInt8×D)
structure tN(l:List EA)(i:Nat)(b:BS):Prop where
 len:b.cls.length=i
 at':∀x,x<i->b.cls.getD x 0<b.sets.length∧x∈b.sets.getD (b.cls.getD x 0) []
 iN:∀c,c<b.sets.length->b.sets.getD c []≠[]∧∀x∈b.sets.getD c [],x<i∧b.cls.getD x 0=c
 dn:∀c,c<b.sets.length->(b.sets.getD c []).Nodup
 k1:∀x,x<i->cJ b.fu (jz (l.getD x default))=some (i64 (b.cls.getD x 0:Nat))
 k2:∀key d,cJ b.fu key=some d->∃x,x<i∧jz (l.getD x default)=key∧d=i64 (b.cls.getD x 0:Nat)
 sf:∀x y,x<i->y<i->b.cls.getD x 0=b.cls.getD y 0->jz (l.getD x default)=jz (l.getD y default)
 le:b.sets.length<=i
theorem agO{a b:Nat}(h:i64 (a:Int)=i64 (b:Int)):a=b:=by
 have:(a:Int)=b:=by simpa[i64]using h
 omega
theorem Ag{α:Type}{a:List α}{x d:α}{n:Nat}:(a++[x]).getD n d=if n<a.length then a.getD n d else if n=a.length then x else d:=by
 simp only[akX];by_cases h:n<a.length
 .rw[if_pos h,alj h]
 .rw[if_neg h,aln (by omega)];by_cases e:n=a.length
  .subst e;simp
  .rw[if_neg e,alN (by simp;omega)];rfl
theorem Td{α:Type}{a:List α}{x d:α}{m n:Nat}(hm:m<a.length):(a.set m x).getD n d=if n=m then x else a.getD n d:=by
 simp only[akX];by_cases e:n=m
 .subst e;simp[hm]
 .rw[if_neg e,alu (fun h=>e h.symm)]
theorem tN.init(l:List EA):tN l 0 ⟨[],[],[]⟩:=⟨rfl,fun x h=>by omega,fun c h=>by simp at h,fun c h=>by simp at h,fun x h=>by omega,fun k d h=>by simp[cJ]at h,fun x y h=>by omega,ali _⟩
section
variable {l:List EA}{i:Nat}{b:BS}
structure Gt(l:List EA)(i:Nat)(b:BS)(S:List (List Nat))(c:Nat)(fu:List (List UInt8×D)):Prop where
 lt:c<S.length
 le:S.length<=i+1
 lb:b.sets.length<=S.length
 nx:tN l (i+1) ⟨b.cls++[c],S.set c (S.getD c []++[i]),fu⟩
theorem Gt.tl{S:List (List Nat)}{c:Nat}{fu:List (List UInt8×D)}(h:Gt l i b S c fu):(S.getD c []).length<=i:=by
 have hc:c<(S.set c (S.getD c []++[i])).length:=by simpa using h.lt
 have h1:=h.nx.dn c hc;have h2:=(h.nx.iN c hc).2;have bf:((S.set c (S.getD c []++[i])).getD c []).Nodup:=h1;have mM:∀x∈(S.set c (S.getD c []++[i])).getD c [],x<i+1:=fun x hx=>(h2 x hx).1;rw[Td h.lt,if_pos rfl]at bf mM;have:=mO bf mM;rw[ak4,List.length_singleton]at this;omega
theorem tN.old(h:tN l i b){d:D}(hk:cJ b.fu (jz (l.getD i default))=some d):∃c,d=i64 (c:Nat)∧Gt l i b b.sets c b.fu:=by
 obtain⟨y,hy,wV,rfl⟩:=h.k2 _ _ hk;obtain⟨c,hc⟩:∃c,b.cls.getD y 0=c:=⟨_,rfl⟩
 have hlt:c<b.sets.length:=by rw[<-hc];exact(h.at' y hy).1
 refine⟨c,by rw[hc],hlt,by have:=h.le;omega,ali _,?_⟩;have hlen:=h.len;have cF:∀x,x<i->(b.cls++[c]).getD x 0=b.cls.getD x 0:=fun x hx=>by rw[Ag,if_pos (by omega)]
 have nL:(b.cls++[c]).getD i 0=c:=by rw[Ag,if_neg (by omega),if_pos hlen.symm]
 have qi:∀k,(b.sets.set c (b.sets.getD c []++[i])).getD k []=if k=c then b.sets.getD c []++[i]else b.sets.getD k []:=fun k=>Td hlt
 refine⟨by simp[hlen],fun x hx=>?_,fun k fb=>?_,fun k fb=>?_,fun x hx=>?_,fun key d sq=>?_,fun x y' hx qe he=>?_,by simpa using amz h.le⟩
 .show(b.cls++[c]).getD x 0<(b.sets.set c _).length∧x∈(b.sets.set c _).getD ((b.cls++[c]).getD x 0) [];rw[alX,qi];by_cases e:x=i
  .subst e;rw[nL,if_pos rfl];exact⟨hlt,by simp⟩
  .have aR:x<i:=by omega
   rw[cF x aR];obtain⟨a1,a2⟩:=h.at' x aR;refine⟨a1,?_⟩;by_cases e2:b.cls.getD x 0=c
   .rw[if_pos e2,<-e2];exact alm _ a2
   .rw[if_neg e2];exact a2
 .have DF:k<b.sets.length:=by simpa using fb
  show(b.sets.set c _).getD k []≠[]∧∀x∈(b.sets.set c _).getD k [],x<i+1∧(b.cls++[c]).getD x 0=k;rw[qi];obtain⟨a1,a2⟩:=h.iN k DF;by_cases e:k=c
  .subst e;rw[if_pos rfl];refine⟨by simp,fun x hx=>?_⟩;rcases ak1.1 hx with hx|hx
   .obtain⟨b1,b2⟩:=a2 x hx;exact⟨by omega,by rw[cF x b1,b2]⟩
   .rw[ak3.1 hx];exact⟨by omega,nL⟩
  .rw[if_neg e];refine⟨a1,fun x hx=>?_⟩;obtain⟨b1,b2⟩:=a2 x hx;exact⟨by omega,by rw[cF x b1,b2]⟩
 .have DF:k<b.sets.length:=by simpa using fb
  show((b.sets.set c _).getD k []).Nodup;rw[qi];split
  .rw[alZ];refine⟨h.dn c hlt,by simp,fun x hx y hy=>?_⟩;rw[ak3.1 hy];have:=((h.iN c hlt).2 x hx).1;omega
  .exact h.dn k DF
 .show cJ b.fu _=some (i64 ((b.cls++[c]).getD x 0:Nat));by_cases e:x=i
  .subst e;rw[nL,hk,hc]
  .rw[cF x (by omega)];exact h.k1 x (by omega)
 .obtain⟨x,hx,h1,h2⟩:=h.k2 key d sq;exact⟨x,by omega,h1,by show d=i64 ((b.cls++[c]).getD x 0:Nat);rw[cF x hx];exact h2⟩
 .have df:(b.cls++[c]).getD x 0=(b.cls++[c]).getD y' 0:=he;by_cases e1:x=i
  .by_cases e2:y'=i
   .rw[e1,e2]
   .rw[e1,nL,cF y' (by omega)]at df;rw[e1,<-wV];exact h.sf y y' hy (by omega) (by rw[hc];exact df)
  .by_cases e2:y'=i
   .rw[e2,nL,cF x (by omega)]at df;rw[e2,<-wV];exact h.sf x y (by omega) hy (by rw[hc];exact df)
   .rw[cF x (by omega),cF y' (by omega)]at df;exact h.sf x y' (by omega) (by omega) df
theorem tN.new(h:tN l i b)(hk:cJ b.fu (jz (l.getD i default))=none):Gt l i b (b.sets++[[]]) b.sets.length (ek b.fu (jz (l.getD i default)) (i64 (b.sets.length:Nat))):=by
 refine⟨by simp,by have:=h.le;simp;omega,by simp,?_⟩;obtain⟨c,hc⟩:∃c,b.sets.length=c:=⟨_,rfl⟩
 rw[hc];have hlen:=h.len;have cF:∀x,x<i->(b.cls++[c]).getD x 0=b.cls.getD x 0:=fun x hx=>by rw[Ag,if_pos (by omega)]
 have nL:(b.cls++[c]).getD i 0=c:=by rw[Ag,if_neg (by omega),if_pos hlen.symm]
 have yb:(b.sets++[[]]).set c ((b.sets++[[]]).getD c []++[i])=b.sets++[[i]]:=by
  rw[Ag,if_neg (by omega),if_pos hc.symm,<-hc,ang _ _ (ali _)];simp
 have qi:∀k,(b.sets++[[i]]).getD k []=if k<c then b.sets.getD k []else if k=c then[i]else[]:=fun k=>by rw[Ag,hc]
 rw[yb];have x7:∀x,x<i->b.cls.getD x 0<c:=fun x hx=>by rw[<-hc];exact(h.at' x hx).1
 refine⟨by simp[hlen],fun x hx=>?_,fun k fb=>?_,fun k fb=>?_,fun x hx=>?_,fun key d sq=>?_,fun x y' hx qe he=>?_,by have:=h.le;simp;omega⟩
 .show(b.cls++[c]).getD x 0<(b.sets++[[i]]).length∧x∈(b.sets++[[i]]).getD ((b.cls++[c]).getD x 0) [];rw[ak4,qi];by_cases e:x=i
  .subst e;rw[nL,if_neg (by omega),if_pos rfl];exact⟨by simp;omega,by simp⟩
  .have aR:x<i:=by omega
   rw[cF x aR,if_pos (x7 x aR)];obtain⟨a1,a2⟩:=h.at' x aR;exact⟨by omega,a2⟩
 .show(b.sets++[[i]]).getD k []≠[]∧∀x∈(b.sets++[[i]]).getD k [],x<i+1∧(b.cls++[c]).getD x 0=k;rw[qi];have DF:k<c+1:=by simpa[hc]using fb
  by_cases e:k=c
  .subst e;rw[if_neg (by omega),if_pos rfl];refine⟨by simp,fun x hx=>?_⟩;rw[ak3.1 hx];exact⟨by omega,nL⟩
  .rw[if_pos (by omega)];obtain⟨a1,a2⟩:=h.iN k (by omega);refine⟨a1,fun x hx=>?_⟩;obtain⟨b1,b2⟩:=a2 x hx;exact⟨by omega,by rw[cF x b1,b2]⟩
 .show((b.sets++[[i]]).getD k []).Nodup;rw[qi];have DF:k<c+1:=by simpa[hc]using fb
  split
  .exact h.dn k (by omega)
  .split<;>simp
 .show cJ (ek b.fu _ _) _=some (i64 ((b.cls++[c]).getD x 0:Nat));rw[yj];by_cases e:x=i
  .subst e;rw[if_pos rfl,nL]
  .rw[cF x (by omega),if_neg]
   .exact h.k1 x (by omega)
   .intro e2;have:=h.k1 x (by omega);rw[e2,hk]at this;cases this
 .have Gu:cJ (ek b.fu (jz (l.getD i default)) (i64 (c:Nat))) key=some d:=sq;rw[yj]at Gu;split at Gu
  .rename_i e;exact⟨i,by omega,e.symm,by show d=i64 ((b.cls++[c]).getD i 0:Nat);rw[nL];exact(alo Gu).symm⟩
  .obtain⟨x,hx,h1,h2⟩:=h.k2 key d Gu;exact⟨x,by omega,h1,by show d=i64 ((b.cls++[c]).getD x 0:Nat);rw[cF x hx];exact h2⟩
 .have df:(b.cls++[c]).getD x 0=(b.cls++[c]).getD y' 0:=he;by_cases e1:x=i
  .by_cases e2:y'=i
   .rw[e1,e2]
   .rw[e1,nL,cF y' (by omega)]at df;have:=x7 y' (by omega);omega
  .by_cases e2:y'=i
   .rw[e2,nL,cF x (by omega)]at df;have:=x7 x (by omega);omega
   .rw[cF x (by omega),cF y' (by omega)]at df;exact h.sf x y' (by omega) (by omega) df
end
structure rj(dn:List (Nat×ch))(F:List (ch×List Nat)):Prop where
 val:∀key L,(key,L)∈F->L≠[]∧L.Nodup∧∀x,x∈L↔(x,key)∈dn
 all:∀x key,(x,key)∈dn->∃L,(key,L)∈F
 nd:(F.map (·.1)).Nodup
 ln:F.length<=dn.length
theorem rj.init:rj [] []:=⟨fun _ _ h=>by simp at h,fun _ _ h=>by simp at h,by simp,by simp⟩
theorem rj.old{dn:List (Nat×ch)}{F:List (ch×List Nat)}(h:rj dn F){m x:Nat}{key:ch}{L:List Nat}(hm:F[m]?=some (key,L))(hx:(x,key)∉dn):rj (dn++[(x,key)]) (F.set m (key,L++[x])):=by
 have hlt:m<F.length:=(akY.1 hm).1;have dj:F[m]=(key,L):=(akY.1 hm).2;have gj:(key,L)∈F:=alp hm
 have C4:(F.set m (key,L++[x])).map (·.1)=F.map (·.1):=by
  rw[amr];apply al9 (by simp);intro n h1 h2;rw[amP];split
  .rename_i e;subst e;simp[dj]
  .rfl
 have agP:∀k M,(k,M)∈F.set m (key,L++[x])->(k=key∧M=L++[x])∨(k≠key∧(k,M)∈F):=by
  intro k M DG;obtain⟨n,hn,e⟩:=alx DG;rw[amP]at e;split at e
  .cases e;exact .inl ⟨rfl,rfl⟩
  .rename_i aB;have iH:n<F.length:=by simpa using hn
   refine .inr ⟨?_,e▸ak2 iH⟩;rintro rfl;have:=h.nd;rw[List.Nodup,amk]at this;rcases Nat.lt_or_gt_of_ne aB with g|g
   .exact this m n (by simpa using hlt) (by simpa using iH) g (by simp[dj,e])
   .exact this n m (by simpa using iH) (by simpa using hlt) g (by simp[dj,e])
 obtain⟨v1,v2,v3⟩:=h.val key L gj;refine⟨fun k M DG=>?_,fun y k wV=>?_,by rw[C4];exact h.nd,by simpa using amz h.ln⟩
 .rcases agP k M DG with⟨rfl,rfl⟩|⟨aB,hkF⟩
  .refine⟨by simp,?_,fun y=>?_⟩
   .rw[alZ];refine⟨v2,by simp,fun a ha b hb e=>?_⟩;rw[ak3.1 hb]at e;subst e;exact hx ((v3 _).1 ha)
   .rw[ak1,v3,ak1,ak3,ak3];simp
  .obtain⟨w1,w2,w3⟩:=h.val k M hkF;refine⟨w1,w2,fun y=>?_⟩;rw[w3,ak1,ak3];constructor
   .exact .inl
   .rintro(g|g)
    .exact g
    .cases g;exact absurd rfl aB
 .by_cases e:k=key
  .subst e;exact⟨_,amB.2 ⟨m,by rw[alA hlt]⟩⟩
  .rcases ak1.1 wV with g|g
   .obtain⟨M,hM⟩:=h.all y k g;obtain⟨n,hn⟩:=amB.1 hM
    have aB:m≠n:=by
     rintro rfl;rw[hm]at hn;cases hn;exact e rfl
    exact⟨M,amB.2 ⟨n,by rw[alu aB];exact hn⟩⟩
   .cases ak3.1 g;exact absurd rfl e
theorem rj.new{dn:List (Nat×ch)}{F:List (ch×List Nat)}(h:rj dn F){x:Nat}{key:ch}(hk:key∉F.map (·.1)):rj (dn++[(x,key)]) (F++[(key,[x])]):=by
 have bY:∀y,(y,key)∉dn:=fun y hy=>by
  obtain⟨M,hM⟩:=h.all y key hy;exact hk (ak6.2 ⟨_,hM,rfl⟩)
 refine⟨fun k M DG=>?_,fun y k wV=>?_,?_,by have:=h.ln;simp;omega⟩
 .rcases ak1.1 DG with g|g
  .obtain⟨w1,w2,w3⟩:=h.val k M g;refine⟨w1,w2,fun y=>?_⟩;rw[w3,ak1,ak3];constructor
   .exact .inl
   .rintro(g2|g2)
    .exact g2
    .cases g2;exact absurd (ak6.2 ⟨_,g,rfl⟩) hk
  .cases ak3.1 g;refine⟨by simp,by simp,fun y=>?_⟩;rw[ak1,ak3,ak3];constructor
   .rintro rfl;exact .inr rfl
   .rintro(g2|g2)
    .exact absurd g2 (bY y)
    .cases g2;rfl
 .rcases ak1.1 wV with g|g
  .obtain⟨M,hM⟩:=h.all y k g;exact⟨M,alm _ hM⟩
  .cases ak3.1 g;exact⟨[x],by simp⟩
 .rw[alh,alZ];refine⟨h.nd,by simp,fun a ha b hb e=>?_⟩;simp only[alf,alJ,ak3]at hb;subst hb;subst e;exact hk ha
def oe(l:List EA)(i:Nat):List (Nat×ch):=(List.range i).flatMap fun x=>(dX (l.getD x default)).map fun q=>(x,q)
theorem Te(l:List EA)(i:Nat):oe l (i+1)=oe l i++(dX (l.getD i default)).map fun q=>(i,q):=by
 unfold oe;rw[anI,List.flatMap_append];simp
theorem Ah{l:List EA}{i x:Nat}{key:ch}:(x,key)∈oe l i↔x<i∧key∈dX (l.getD x default):=by
 unfold oe;rw[anE];constructor
 .rintro⟨y,hy,h⟩;obtain⟨q,hq,e⟩:=ak6.1 h;cases e;exact⟨alw.1 hy,hq⟩
 .rintro⟨h1,h2⟩;exact⟨x,alw.2 h1,ak6.2 ⟨key,h2,rfl⟩⟩
theorem agQ{l:List EA}{i j:Nat}(hd:((dX (l.getD i default)).map (·.1)).Nodup)(hj:j<(dX (l.getD i default)).length):(i,(dX (l.getD i default))[j])∉oe l i++((dX (l.getD i default)).take j).map fun q=>(i,q):=by
 intro h;rcases ak1.1 h with h|h
 .have:=(Ah.1 h).1;omega
 .obtain⟨q,hq,e⟩:=ak6.1 h;obtain⟨n,hn,e2⟩:=alx hq;rw[am3]at e2;have Tf:n<j:=alV hn (List.length_take_le _ _);rw[List.Nodup,amk]at hd;refine hd n j (by rw[alg];exact Nat.lt_trans Tf hj) (by rw[alg];exact hj) Tf ?_;simp only[amn];rw[e2];cases e;rfl
theorem Tg{l:List EA}(hl:∀s∈l,(dX s).length<=802):∀i,i<=l.length->(oe l i).length<=i*802
 |0,_=>by simp[oe]
 |i+1,hi=>by
   rw[Te,ak4,alg];have h1:=Tg hl i (by omega);have h2:=hl _ (rY (l:=l) (i:=i) (by omega));omega
theorem agR{l:List EA}(hd:∀s∈l,((dX s).map (·.1)).Nodup):Du l:=by
 intro i hi a k m hk hm;obtain⟨q,hq,e⟩:=ak6.1 hk;obtain⟨r,hr,e2⟩:=ak6.1 hm;simp only[amd]at e e2;obtain⟨n1,h1,e1⟩:=alx hq;obtain⟨n2,h2,e3⟩:=alx hr;have:=hd _ (rY (l:=l) (i:=i) hi);rw[List.Nodup,amk]at this
 have hn:n1=n2:=by
  rcases anT n1 n2 with g|g|g
  .exact absurd (by rw[amn,amn,e1,e3,e.1,e2.1]) (this n1 n2 (by simpa using h1) (by simpa using h2) g)
  .exact g
  .exact absurd (by rw[amn,amn,e1,e3,e.1,e2.1]) (this n2 n1 (by simpa using h2) (by simpa using h1) g)
 subst hn;rw[<-e.2,<-e2.2,<-e1,<-e3]
theorem agS{s:EA}{q:rh}(h:q∈dX s):0<=q.1.1∧q.1.1<1000:=by
 unfold dX at h;rcases ak1.1 h with h|h
 .rcases ak1.1 h with h|h
  .unfold fP at h;split at h
   .rcases alc.1 h with rfl|h
    .constructor<;>simp
    .rw[ak3.1 h];constructor<;>simp
   .simp at h
  .obtain⟨x,_,rfl⟩:=ak6.1 h;constructor<;>simp
 .obtain⟨x,_,rfl⟩:=ak6.1 h;constructor<;>simp
def sr(F:List (ch×List Nat)):List (ch×D):=F.map fun q=>(q.1,dT q.2)
theorem Lb{l:List EA}(aU:gq l){x:Nat}(hx:x<l.length){q:rh}(h:q∈dX (l.getD x default)):0<=q.2∧q.2<l.length:=by
 refine aU _ (rY hx) q.2 ?_;rw[<-Ss];exact ak6.2 ⟨q,h,rfl⟩
theorem agT{l:List EA}{F:List (ch×List Nat)}(aU:gq l)(h:rj (oe l l.length) F):Af l (sr F)∧∀q∈sr F,0<=q.1.1.1∧q.1.1.1<1000:=by
 have hk:∀key L,(key,L)∈F->∃x,x<l.length∧key∈dX (l.getD x default):=by
  intro key L hL;obtain⟨v1,_,v3⟩:=h.val key L hL
  cases L with
  |nil=>exact absurd rfl v1
  |cons x r=>exact⟨x,Ah.1 ((v3 x).1 (by simp))⟩
 refine⟨⟨fun key v hv=>?_,fun x hx a k hs=>?_,?_⟩,fun q hq=>?_⟩
 .obtain⟨⟨k2,L⟩,hq,e⟩:=ak6.1 hv;simp only[amd]at e;obtain⟨rfl,rfl⟩:=e;obtain⟨v1,v2,v3⟩:=h.val k2 L hq;obtain⟨y,hy,wV⟩:=hk k2 L hq;obtain⟨r1,r2⟩:=Lb aU hy wV;refine⟨L,rfl,mO v2 fun x hx=>(Ah.1 ((v3 x).1 hx)).1,r1,r2,fun x=>?_⟩;rw[v3,Ah];refine and_congr_right fun hx=>?_;constructor
  .exact fun g=>ak6.2 ⟨k2,g,rfl⟩
  .intro g;obtain⟨q,hq,e⟩:=ak6.1 g;have:=(Lb aU hx hq).1;simp only[amd]at e;have e2:q=k2:=Prod.ext e.1 (by omega);exact e2▸hq
 .obtain⟨q,hq,e⟩:=ak6.1 hs;have h0:=(Lb aU hx hq).1;simp only[amd]at e;have e2:q=(a,(k:Int)):=Prod.ext e.1 (by rw[<-e.2];show q.2=(q.2.toNat:Int);omega);rw[e2]at hq;obtain⟨L,hL⟩:=h.all x _ (Ah.2 ⟨hx,hq⟩);exact⟨dT L,ak6.2 ⟨_,hL,rfl⟩⟩
 .have:(sr F).map (·.1)=F.map (·.1):=by simp[sr,Function.comp_def]
  rw[this];exact h.nd
 .obtain⟨⟨k2,L⟩,bX,e⟩:=ak6.1 hq;obtain⟨x,_,hx⟩:=hk k2 L bX;rw[<-e];exact agS hx
theorem agU{l:List EA}(aU:gq l)(hn:∀s∈l,sn s){b:BS}(h:tN l l.length b):jf l ⟨b.cls,b.sets,List.range b.sets.length⟩ [] []:=by
 have dy:∀x,x<l.length->sn (l.getD x default):=fun x hx=>hn _ (rY hx);refine⟨⟨h.len,h.at',h.iN,h.dn,fun c hc=>alw.1 hc,List.nodup_range⟩,fun p q hp hq ha=>?_,fun p q hp hq he=>?_,fun p q hp hq he a k m hk hm aB=>?_⟩
 .have e:=(zA _ _ _ ha).1;have e2:=(SM (dy p hp) (dy q hq)).2 e;have h1:=h.k1 p hp;have h2:=h.k1 q hq;rw[e2,h2]at h1;exact agO (alo h1).symm
 .exact(SM (dy p hp) (dy q hq)).1 (h.sf p q hp hq he)
 .exact .inl (alw.2 (h.at' k (uR aU hp hk)).1)
end Go.Proofs.YtpmniabdmbmafaaGreatDoor

