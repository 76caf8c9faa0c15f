/-
  The generic layer, part 108: room made for numbers; a nil slice's capacity. (with the parts that follow it)
-/
import Derived.Test.YtpmniabdmbmafaaGreatDoorPTI
import Derived.Test.YtpmniabdmbmafaaGreatDoorPTG
import Derived.Test.YtpmniabdmbmafaaGreatDoorPTH
import Derived.Laws.CopyRow
set_option linter.all false
set_option maxHeartbeats 16000000
namespace Go.Ab
section
variable {P:Program}{cf:Cf}{Q:Exit->St->Prop}{s:St}{k:List It}
theorem Kx{t e d:Nat}{x:Operand}{ty:TypeId}{ps:String}{af:Array Edge}(hk:(P.ti t).k=.slice e)(hd:d<cf.n)(hx:ev s x=.d .ao) :
  QE P cf { dst:=some d,op:=.call { callee:=.builtin .cap,args:=#[x],argTypes:=#[t] },type:=ty,pos:=ps,after:=af,guard:=none } s (.d (.int .i64 0)) ([],bT):=by
 refine CY (by simp) (fun t' ht=>by cases ht;exact hd) fun B s' β a w hh he hs=>?_;have hv:=hs.ev x;rw[he x (by simp[Op.operands,Call.operands]),hx]at hv;have hv:=hv.ao;exact⟨.int .i64 0,by simp[execOp,resolve,invoke,builtin,hv,Builtin.cap_,run_underlying (k5 hk),goInt],.d _ _ (.int _ _)⟩
set_option maxRecDepth 100000 in
theorem aeL{t ti e d n:Nat}{kk:IntKind}{x y:Operand}{ty:TypeId}{ps:String}{af:Array Edge}(z:D)(hk:(P.ti t).k=.slice e)(Ry:(P.ti ti).k=.int kk)(Ky:(P.ti e).z=some [z])(hw:(P.ti e).gD none=true)(hd:d<cf.n∧d∉s.used)
  (hx:ev s x=.d .ao) (hy:ev s y=.d (.int .i64 n)) (hn:0<n) (hb:n*(P.ti e).iT<=140737488355328) :
  QE P cf { dst:=some d,op:=.call { callee:=.builtin .append,args:=#[x,y],argTypes:=#[t,ti] },type:=ty,pos:=ps,after:=af,guard:=none } s (.vw [d] 0 n) ([],⟨[([d],some (.arr none (List.replicate n z)))],[d]⟩):=by
 intro s' qD hh df B hB ds β a w ai hs Q';have iW:d∉s'.used:=qD d (by simp);have iV:=hs.ev x;rw[df x (by simp[Op.operands,Call.operands]),hx]at iV;have iV:=iV.ao;have jZ:=hs.ev y;rw[df y (by simp[Op.operands,Call.operands]),hy]at jZ;have jZ:=jZ.int;obtain⟨hg,cW,jq⟩:=oC hw;obtain⟨zv,wE,hm,it,hi,ny,jF,jo⟩:=rP Ky;obtain⟨m1,m2,m3,m4⟩:=sL (H:=w.heap) (own:=s'.own B.A β) hm;have x4:=k5 hk
 have eQ:n*it.bytes<=140737488355328∧n<=140737488355328:=by
  unfold TI.iT at hb;rw[jo];split at hb
  .rename_i h0;rw[h0];simp at hb ⊢;omega
  .exact⟨hb,alU (am7 _ (by omega)) hb⟩
 have mr:it.size=1:=by rw[jF,<-cW];rfl
 have akH:Builtin.nextslicecap n 0*it.bytes<=281474976710656:=growslice_fits (old:=0) hn eQ.1
 have hwr:IntKind.i64.wrap (n:Int)=n:=by
  rw[show IntKind.i64.wrap (n:Int)=lL n from rfl,aD ⟨by omega,by omega⟩]
 obtain⟨zc,ml⟩:∃zc,Builtin.zeroCells zv.cells n++Builtin.zeroCells zv.cells (grownCap w n 0 e-n)=zc:=⟨_,rfl⟩
 have aF:(execOp a.eval { dst:=some d,op:=.call { callee:=.builtin .append,args:=#[x,y],argTypes:=#[t,ti] },type:=ty,pos:=ps,after:=af,guard:=none }).run P w=.ok (.value (.slice (some ⟨w.heap.size,0,none⟩) n (grownCap w n 0 e))) (w.drew.alloc (.cells zc e)):=by
  have h1:¬((n:Int)<0):=by omega
  have h2:¬(281474976710656<(n:Int)*(it.bytes:Int)):=by
   have:((n*it.bytes:Nat):Int)<=((140737488355328:Nat):Int):=Int.ofNat_le.2 eQ.1;rw[Int.natCast_mul]at this;omega
  have h3:¬n=0:=by omega
  have h4:¬((9223372036854775807:Int)<(n:Int)):=by omega
  have h5:¬(281474976710656<Builtin.nextslicecap n 0*it.bytes):=by omega
  have h6:¬n<=0:=by omega
  subst ml;have qF:(underlying ti).run P w=.ok (.int kk) w:=run_underlying (rK Ry) w
  have nP:(Builtin.append_ #[t,ti] ty #[.slice none 0 0,.int .i64 n]).run P w=.ok (.slice (some ⟨w.heap.size,0,none⟩) n (grownCap w n 0 e)) (w.drew.alloc (.cells (Builtin.zeroCells zv.cells n++Builtin.zeroCells zv.cells (grownCap w n 0 e-n)) e)):=by
   unfold Builtin.append_;simp[run_underlying x4,run_underlying (rK Ry),sizeOf,typeInfo,hi,mr,asInt,asIntOf,hwr,h1,h2,h3,h4,h5,h6,zeroValue,ny,Builtin.firstCells,Question.forced,newRow,grownCap]
  simp[execOp,resolve,invoke,builtin,iV,jZ,nP]
 have mq:zv.cells.size=1:=by simpa using m1.symm
 have eY:n<=grownCap w n 0 e:=by simpa using grownCap_ge w n 0 e
 have aeM:zc.size=grownCap w n 0 e:=by
  rw[<-ml];simp only[amS,size_zeroCells,mq];omega
 obtain⟨u,hu,cd⟩:=m4 0 z rfl
 have qH:∀i,i<n->zc.getD i undef=u:=by
  intro i aq;have F4:zv.cells[0]?=some u:=by simpa using hu
  have vE:zv.cells[0]'(by omega)=u:=(amw.1 F4).2;rw[<-ml];have h7:i<n*zv.cells.size:=by rw[mq];omega
  simp[akZ,alO,Builtin.zeroCells,mq,aq,Nat.mod_one,vE]
 have hrow:∀i x j d',(List.replicate n z)[i]?=some x->x.cells[j]?=some d'->au w.heap (s'.own B.A β) (zc.getD (i*wd none+j) undef) d':=by
  intro i x j d' aq hj;obtain rfl:x=z:=aml (alp aq);have bF:i<n:=by have:=(akY.1 aq).1;simpa using this
  have hc:x.cells=[x]:=by have:=m2 x (by simp);cases x<;>first|rfl|simp[D.bR]at this
  rw[hc]at hj
  cases j with
  |zero =>
    simp at hj;subst hj;rw[show i*wd none+0=i from by simp[wd],qH i bF];exact cd
  |succ j=>simp at hj
 obtain⟨β',br⟩:=Bi (hs.xe (w':=w.drew) rfl rfl) (by rw[hB.1];exact hd.1) iW (c:=zc) (wf:=none) (xs:=List.replicate n z) (cap:=grownCap w n 0 e) (by simpa using eY) (by rw[aeM];simp[wd])
  (fun x hx=>by rw[aml hx];exact m2 z (by simp)) hrow e none rfl
 refine fR (by simp) aF (.inl rfl) ⟨ai,β',?_⟩;rw[Rv];rw[amc]at br;exact br
def tE:List AV->Option (List D)
 |[]=>some []
 |.d x::r=>(tE r).map (x::·)
 |.aH g cs::r=>match j9 cs with
   |some ds=>(tE r).map (.aH g ds::·)
   |none=>none
 |_::_=>none
theorem Rz:∀{l:List AV} {ds:List D},tE l=some ds->l.length=ds.length∧∀(i:Nat) y,ds[i]?=some y->∃x,l[i]?=some x∧(x=.d y∨∃g cs es,x=.aH g cs∧j9 cs=some es∧y=.aH g es)
 |[],ds,h=>by
   simp only[tE,alE]at h;subst h;exact⟨rfl,fun i y hi=>by simp at hi⟩
 |x::r,ds,h=>by
   have key:∀z:D,(x=.d z∨∃g cs es,x=.aH g cs∧j9 cs=some es∧z=.aH g es)->(tE r).map (z::·)=some ds->(x::r).length=ds.length∧∀(i:Nat) y,ds[i]?=some y->∃u,(x::r)[i]?=some u∧(u=.d y∨∃g cs es,u=.aH g cs∧j9 cs=some es∧y=.aH g es):=by
    intro z hz h;obtain⟨es,h1,rfl⟩:=ak8.1 h;obtain⟨h2,h3⟩:=Rz h1;refine⟨by simp[h2],fun i y hi=>?_⟩
    cases i with
    |zero=>simp at hi;subst hi;exact⟨x,rfl,hz⟩
    |succ i=>simpa using h3 i y (by simpa using hi)
   cases x with
   |d z=>exact key z (.inl rfl) h
   |aH g cs =>
     unfold tE at h;split at h
     .rename_i es he;exact key _ (.inr ⟨g,cs,es,rfl,he,rfl⟩) h
     .cases h
   |_=>cases h
theorem RA{s:St}{k:List It}{Q:Exit->St->Prop}{dst:Option Nat}{fv:Operand}{args:Array Operand}{at':Array TypeId}{ty:TypeId}{pos:String}{af:Array Edge}{g:Option (Nat×Bool)}
  {f:FuncId} {aG:List AV} {ds:List D} {Q0:AV->Prop} (hc:HP P cf.G f ds Q0)
  (bp:ev s fv=.aH f aG) (dE:tE (args.toList.map (ev s)++aG)=some ds) (cY:∀t∈dst,t<cf.n) (hk:∀r,Q0 r->run P cf k Q (s.iZ dst r)) :
  ia P cf { dst:=dst,op:=.call { callee:=.value fv,args:=args,argTypes:=at' },type:=ty,pos:=pos,after:=af,guard:=g } s k Q:=by
 intro B hB gF β a w ai h Q';refine⟨fun _ _=>trivial,?_⟩;obtain⟨d,hd⟩:=Iz s.used;have hf:=h.ev fv;rw[bp]at hf;generalize nF:a.eval fv=BB at hf
 cases hf with
 |aH _ cvs _ hcs mh =>
 have aF:∀vs,vs=(args.toList.map a.eval).toArray++cvs->(execOp a.eval { dst:=dst,op:=.call { callee:=.value fv,args:=args,argTypes:=at' },type:=ty,pos:=pos,after:=af,guard:=g }).run P w=.ok (.enter f vs) w:=by
  intro vs eJ
  have e:(execOp a.eval { dst:=dst,op:=.call { callee:=.value fv,args:=args,argTypes:=at' },type:=ty,pos:=pos,after:=af,guard:=g }:Sem Next)=callFunc f (#[]++args.map a.eval++cvs):=by
   show(do let d <-(Deferred.ofValue (a.eval fv) (args.map a.eval));invoke d.target d.args:Sem Next)=_;rw[nF];rfl
  rw[e,<-hc.1 vs w,eJ];congr 2;apply ani;simp
 rw[Oper.semAt_eq _ _ _ (by simp),aF _ rfl,Oper.uponIn_enter];refine⟨fun pQ=>by simp[xw]at pQ,?_⟩;obtain⟨aeN,dj⟩:=Rz dE
 have hlen:(ds.map AV.d).length=args.size+aG.length:=by
  rw[alg,<-aeN];simp
 have eJ:((args.toList.map a.eval).toArray++cvs).size=(ds.map AV.d).length:=by simp[hcs]at hlen ⊢;omega
 have hv:∀(i:Nat) x,(ds.map AV.d)[i]?=some x->VR w.heap (s.own B.A β) s.used s.hp β (((args.toList.map a.eval).toArray++cvs).getD i undef) (x.ren id):=by
  intro i x hi;rw[AV.mE id (fun _=>rfl)];rw[ala,ak8]at hi;obtain⟨y,hy,rfl⟩:=hi;obtain⟨z,hz,hzy⟩:=dj i y hy
  have key:VR w.heap (s.own B.A β) s.used s.hp β (((args.toList.map a.eval).toArray++cvs).getD i undef) z:=by
   by_cases hlt:i<args.size
   .have aR:(args.toList.map (ev s))[i]?=some z:=by rw[<-hz,alj (by simpa using hlt)]
    have:=za h args.toList i _ aR;rw[show((args.toList.map a.eval).toArray++cvs).getD i undef=(args.toList.map a.eval).toArray.getD i undef by simp[akZ,alO,hlt]];exact this
   .have aR:aG[i-args.size]?=some z:=by rw[<-hz,aln (by simpa using amO hlt)];simp
    have:=mh _ _ aR;rw[show((args.toList.map a.eval).toArray++cvs).getD i undef=cvs.getD (i-args.size) undef by simp[akZ,alO,hlt]];exact this
  generalize ((args.toList.map a.eval).toArray++cvs).getD i undef=v at key;obtain rfl|⟨g,cs,es,rfl,he,rfl⟩:=hzy
  .exact key
  .have e:=Et he;subst e
   cases key with
   |aH _ N3 _ hs hc=>exact .d _ _ (.aH _ _ _ (by simpa using hs) (fun i d hd=>(hc i (.d d) (by simp[hd])).cA))
 have pR:=Ix (P:=P) h (σ:=id) (d:=d) hd (chp:=[]) (cu:=[]) trivial trivial (BD _ _) eJ hv (by rw[hB.2.2];exact hc);have rS:CallsIn (Fw cf.ro) (0-1) P f ((args.toList.map a.eval).toArray++cvs) w _:=pR;refine rS.mono ?_;rintro e w' ⟨v,rfl,r,ae,⟨hQ,vG,rfl⟩,hl⟩;obtain⟨β2,br,nG⟩:=hl trivial;rw[AV.EK _ r vG]at nG;have BG:=AV.EI s.used r vG;refine⟨by cases dst<;>exact ai,s.iZ dst r,?_⟩
 cases dst with
 |none =>
   obtain⟨β3,h3⟩:=h.ze br rfl (t0:=0) (x0:=s.fr 0) (fun _=>.inr rfl) rfl (h.slots 0).bn;exact⟨β3,eB (hk r hQ),h3⟩
 |some t =>
   have h2:=br.put (t:=t) (by rw[hB.1];exact cY t rfl) nG
   obtain⟨β3,h3⟩:=h.ze h2 rfl (t0:=t) (x0:=r) (fun u=>by
    by_cases e:u=t
    .exact .inl e
    .exact .inr (by show dV _ _ _ _=_;simp[dV,e])) (by show dV _ _ _ _=_;simp[dV]) BG
   exact⟨β3,eB (hk r hQ),h3⟩
theorem zP(E:bu P cf Q){dst:Option Nat}{fv:Operand}{args:Array Operand}{at':Array TypeId}{ty:TypeId}{pos:String}{af:Array Edge}
  {f:FuncId} {aG:List AV} {ds:List D} {Q0:AV->Prop} (hc:HP P cf.G f ds Q0)
  (bp:ev s fv=.aH f aG) (dE:tE (args.toList.map (ev s)++aG)=some ds) (cY:∀t∈dst,t<cf.n) (hk:∀r,Q0 r->E.run k (s.iZ dst r)) :
  E.bc { dst:=dst,op:=.call { callee:=.value fv,args:=args,argTypes:=at' },type:=ty,pos:=pos,after:=af,guard:=none } s k .no:=by
 rw[E.fk,Er];exact RA hc bp dE cY fun r hr=>by rw[<-E.run_eq];exact hk r hr
theorem aeO{ops:Array Oper}{K:St->Ns->Prop}{r:List Oper}{ns:Ns}(E:nN P cf ops K){dst:Option Nat}{fv:Operand}{args:Array Operand}{at':Array TypeId}{ty:TypeId}{pos:String}{af:Array Edge}{g:Option (Nat×Bool)}
  {f:FuncId} {aG:List AV} {ds:List D} {x:AV} (hc:HP P cf.G f ds (fun r=>r=x))
  (bp:ev s fv=.aH f aG) (dE:tE (args.toList.map (ev s)++aG)=some ds) (cY:∀t∈dst,t<cf.n) (hk:E.run r (s.iZ dst x) (ns++[([],[],[])])) :
  E.bc { dst:=dst,op:=.call { callee:=.value fv,args:=args,argTypes:=at' },type:=ty,pos:=pos,after:=af,guard:=g } r s ns .no:=by
 refine xL E [] cY (fun s' _ he=>?_) hk
 have hm:∀y,y=fv∨y∈args->ev s' y=ev s y:=fun y hy=>he y (by
  simp only[Op.operands,Call.operands]
  rcases hy with rfl|hy<;>simp_all)
 exact RA (k:=[]) (Q:=fun _ s2=>s2=s'.iZ dst x) hc ((hm fv (.inl rfl)).trans bp)
  (by rw[ET (s:=s) (s':=s') fun y hy=>hm y (.inr (by simpa using hy))];exact dE) cY (fun r hr=>by subst hr;rw[pM])
attribute [go_sem] tE
end
end Go.Ab

namespace Go.Proofs.YtpmniabdmbmafaaGreatDoor
open Go.Ab Tryz
theorem aeP{G}:HP prog G 161 [.ao,i64 0] (fun r=>r=.d .ao):=by
 refine cj func161 rfl (by decide +kernel) (by simp[ntmps161]) (aS fun E=>?_);simp only[go_sem];refine wz E _ _ (Kx (e:=3) (by rw[fM]) (by simp only[go_sem]) rfl) (by simp[bT]) ?_;simp only[go_sem];rw[show lL (0-lL 0)=0 from by decide];simp only[go_sem]
theorem aeQ{G}(n:Nat)(h0:0<n)(hn:n<=10000000):bZ prog G 161 [.d .ao,.d (i64 n)] [] [] (fun r ae=>r=.vw [22] 0 0∧ae=[([22],.arr none (List.replicate n (i64 0)))]):=by
 refine jc func161 rfl (by decide +kernel) (by simp[ntmps161]) (aS fun E=>?_);simp only[go_sem];refine aI E (fun h=>absurd h (by omega)) (fun _=>?_);simp only[go_sem];refine wz E _ _ (Kx (e:=3) (by rw[fM]) (by simp only[go_sem]) rfl) (by simp[bT]) ?_;simp only[go_sem];rw[show lL ((n:Int)-lL 0)=(n:Int)from by rw[show lL 0=0 from by decide,aD ⟨by omega,by omega⟩];omega];refine aI E (fun _=>?_) (fun h=>absurd h (by omega));simp only[go_sem];refine wz E _ _ (Kx (e:=3) (by rw[fM]) (by simp only[go_sem]) rfl) (by simp[bT]) ?_;simp only[go_sem];refine wz E _ _ (aeL (d:=22) (e:=3) (kk:=.i64) (n:=n) (i64 0) (by rw[fM]) (by rw[p3]) (by rw[p3]) (by rw[p3];rfl) ⟨by simp only[go_sem],by rw[aT];decide⟩ rfl rfl h0 (by rw[p3];simp[TI.iT];omega)) (by rw[aT];simp) ?_;simp only[go_sem];refine⟨by omega,_,_,[22],id,⟨rfl,rfl⟩,?_⟩;simp only[go_sem]
theorem C8{α:Type}{ls:List (List α)}{i:Nat}(h:i<ls.length):(ls.take (i+1)).flatten=(ls.take i).flatten++ls[i]:=by
 rw[ak9 h,List.flatten_append];simp
theorem zQ{α:Type}(ls:List (List α))(i:Nat):(ls.take i).flatten.length<=ls.flatten.length:=by
 have:=congrArg List.length (congrArg List.flatten (amY i ls));rw[List.flatten_append,ak4]at this;omega
theorem Kz{ls:List (List Int)}{i:Nat}(h:i<ls.length):(ls.map aL).getD i .aY=.sl none (ls[i].map i64):=by simp[h,aL]
theorem KA{G}(ls:List (List Int))(hn:ls.length<=100)(hl:ls.flatten.length<=10000000):HP prog G 133 [.sl none (ls.map aL)] (fun r=>r=.d (aL ls.flatten)):=by
 refine p9 ?_;refine fK func133 rfl (by decide +kernel) (by simp[ntmps133]) (aS fun E=>?_);simp only[go_sem];refine pU E (X:={ i:Nat // i<=ls.length }) (fun x=>[(0,.d (.sl none (ls.map aL))),(3,.d (i64 (ls.take x.1).flatten.length)),(9,.d (.sl none (ls.map aL))),(10,.d (i64 ls.length)),(11,.d (i64 x.1))]) (fun x=>ls.length-x.1) rfl ⟨0,ale _⟩ ?_ ?_
 .simp only[go_sem]
  all_goals rfl
 rintro⟨i,hi⟩ E';simp only[go_sem];refine aI E' ?_ ?_<;>intro h1<;>simp only[go_sem]
 .have bf:i<ls.length:=by omega
  refine⟨by omega,?_⟩;rw[Kz bf];simp only[go_sem];have h2:=zQ ls i;have h3:=zQ ls (i+1);have h4:=congrArg List.length (C8 bf);rw[ak4]at h4;rw[aD ⟨by omega,by omega⟩];refine aI E' (fun h=>absurd h (by omega)) (fun _=>?_);simp only[go_sem];refine⟨⟨i+1,by omega⟩,by show ls.length-(i+1)<_;omega,?_⟩;rw[aD ⟨by omega,by omega⟩];refine⟨?_,rfl⟩;show AV.d (i64 _)=AV.d (i64 _);refine congrArg (fun z=>AV.d (i64 z)) ?_;show _=(((ls.take (i+1)).flatten.length:Nat):Int)
  omega
 have h2:i=ls.length:=by omega
 subst h2;rw[alk];by_cases h0:ls.flatten.length=0
 .rw[h0];refine bd E aeP rfl rfl (by simp) ?_;rintro _ rfl;simp only[go_sem];refine wa E 6 99 none rfl (by rw[aT];decide) ?_;simp only[go_sem];refine bC E (X:={ x:Nat×List D // x.1<=ls.length∧(ls.take x.1).flatten.length<=x.2.length∧x.2.take (ls.take x.1).flatten.length=(ls.take x.1).flatten.map i64 }) (fun x=>[(0,.d (.sl none (ls.map aL))),(6,.vw [99] 0 (ls.take x.1.1).flatten.length),(25,.d (.sl none (ls.map aL))),(26,.d (i64 ls.length)),(27,.d (i64 x.1.1))]) (fun x=>[([99],.arr none x.1.2)]) [99] (fun x=>ls.length-x.1.1) ⟨(0,[]),ale _,by simp,by simp⟩ id ?_ ?_
  .simp only[go_sem]
   all_goals (first|rfl|(and_intros<;>first|rfl|trivial))
  rintro⟨⟨i,c⟩,hi,pO,fD⟩ E2;simp only at hi pO fD ⊢;simp only[go_sem];refine aI E2 ?_ ?_<;>intro h3<;>simp only[go_sem]
  .have uL:i<ls.length:=by omega
   refine⟨by omega,?_⟩;rw[Kz uL];simp only[go_sem];have h4:=zQ ls i;have h5:=zQ ls (i+1);have h6:=congrArg List.length (C8 uL);rw[ak4]at h6;have h7:List.take (ls.take i).flatten.length c++ls[i].map i64=(ls.take (i+1)).flatten.map i64:=by rw[fD,C8 uL,alh]
   refine⟨by omega,⟨(i+1,(ls.take (i+1)).flatten.map i64),by omega,by rw[alg];exact ali _,ak5 (by rw[alg];exact ali _)⟩,by show ls.length-(i+1)<_;omega,ak [([99],[33])],?_⟩;simp only[go_sem];rw[h7,h6,aD ⟨by omega,by omega⟩]
   and_intros<;>first|rfl|trivial
  .have h4:i=ls.length:=by omega
   subst h4;rw[alk]at pO fD ⊢;refine⟨[([99],none,c)],?_⟩;simp only[go_sem];refine⟨_,rfl,?_⟩;rw[fD];exact .refl _
 .refine iJ E [.d .ao,.d (i64 ls.flatten.length)] [] [] (aeQ ls.flatten.length (by omega) hl) rfl rfl ⟨by simp only[go_sem],by rw[aT];decide⟩ rfl (by simp only[go_sem]) (by simp only[go_sem]) ?_;rintro _ _ ⟨rfl,rfl⟩;simp only[go_sem];refine bC E (X:={ x:Nat×List D // x.1<=ls.length∧(ls.take x.1).flatten.length<=x.2.length∧x.2.take (ls.take x.1).flatten.length=(ls.take x.1).flatten.map i64 }) (fun x=>[(0,.d (.sl none (ls.map aL))),(6,.vw [99] 0 (ls.take x.1.1).flatten.length),(25,.d (.sl none (ls.map aL))),(26,.d (i64 ls.length)),(27,.d (i64 x.1.1))]) (fun x=>[([99],.arr none x.1.2)]) [99] (fun x=>ls.length-x.1.1) ⟨(0,List.replicate ls.flatten.length (i64 0)),ale _,by simp,by simp⟩ (ak [([99],[24,22])]) ?_ ?_
  .simp only[go_sem]
   all_goals (first|rfl|(and_intros<;>first|rfl|trivial))
  rintro⟨⟨i,c⟩,hi,pO,fD⟩ E2;simp only at hi pO fD ⊢;simp only[go_sem];refine aI E2 ?_ ?_<;>intro h3<;>simp only[go_sem]
  .have uL:i<ls.length:=by omega
   refine⟨by omega,?_⟩;rw[Kz uL];simp only[go_sem];have h4:=zQ ls i;have h5:=zQ ls (i+1);have h6:=congrArg List.length (C8 uL);rw[ak4]at h6;have h7:List.take (ls.take i).flatten.length c++ls[i].map i64=(ls.take (i+1)).flatten.map i64:=by rw[fD,C8 uL,alh]
   refine⟨by omega,⟨(i+1,(ls.take (i+1)).flatten.map i64),by omega,by rw[alg];exact ali _,ak5 (by rw[alg];exact ali _)⟩,by show ls.length-(i+1)<_;omega,ak [([99],[33])],?_⟩;simp only[go_sem];rw[h7,h6,aD ⟨by omega,by omega⟩]
   and_intros<;>first|rfl|trivial
  .have h4:i=ls.length:=by omega
   subst h4;rw[alk]at pO fD ⊢;refine⟨[([99],none,c)],?_⟩;simp only[go_sem];refine⟨_,rfl,?_⟩;rw[fD];exact .refl _
def oW(s:EA):List Int:=s.fl.map (·.2)++s.tl.map (·.2)
def kL(l:List EA)(s:EA):Bool :=
 (tA s&&tD s.vars&&(lQ lO s.fl&&decide (s.fl.length<=30))&&(lQ mL s.tl&&decide (s.tl.length<=30))) &&
 !(s.arr&&(!jd l s.bD (!s.plus)||!jd l s.bE s.plus))&&!(oW s).any fun k=>!jd l k s.plus
structure iL(s:EA):Prop where
 v:s.vars.length<=1000000
 f:s.fl.length<=400000
 t:s.tl.length<=400000
 fs:∀x∈s.fl,x.1.length<=9223372036854775807
 ts:∀x∈s.tl,x.1.length<=9223372036854775807
theorem aeR{G}(l:List EA)(st:Int)(s:EA)(hs:iL s):HP prog G 90 [ct l st,aO s] (fun r=>r=.d (.bool (kL l s))):=by
 obtain⟨hv,hf,ht,zS,vY⟩:=hs;have c1:=aeI (G:=G) s;have c2:=aeJ (G:=G) s.vars hv;have c3:=Rx (G:=G) s.fl lO 109 (by omega) zS fun x hx=>JN x hx;have c4:=Rx (G:=G) s.tl mL 110 (by omega) vY fun x hx=>JO x hx;have c5:=F3 (G:=G) s.fl (by omega);have c6:=F3 (G:=G) s.tl (by omega);have c7:=KA (G:=G) [s.fl.map (·.2),s.tl.map (·.2)] (by simp) (by simp;omega);rw[show[s.fl.map (·.2),s.tl.map (·.2)].flatten=oW s from by simp[oW]]at c7;have c8:=PN (G:=G) (oW s) (fun k=>!jd l k s.plus) 135 [.ptr (ct l st),.ptr (aO s)] (by simp[oW];omega) fun x _=>aeK x l st s;refine cj func90 rfl (by decide +kernel) (by simp[ntmps90]) (aS fun E=>?_);have c9:=F0 (G:=G) l st s.bD (!s.plus);have RC:=F0 (G:=G) l st s.bE s.plus;have es:aO s=.agg [.bool s.plus,.bool s.al,.bool s.int,.bool s.bool,.bool s.str,.bool s.arr,.bool s.rc,.bool s.tg,.sl none (s.vars.map i64),i64 s.bD,i64 s.bE,.sl (some 2) (s.fl.map aP),.sl (some 2) (s.tl.map aP)]:=rfl;rw[es]at c1 c8 ⊢;unfold ct aL eo at *
 simp only[go_sem];refine bd E (c1) rfl rfl (by simp) ?_;rintro _ rfl;simp only[go_sem]
 repeat (first
  |(apply fm E;(· simp only[go_sem]);(· intro h;(try simp only[bq]at h);simp only[↓h,go_sem];rfl);simp only[go_sem]))
 (first|(apply oO E;(· simp only[go_sem]);(· intro h hk;(try simp only[bq]at h);refine bd E (c2) rfl (by simp only[↓h,go_sem]<;>rfl) (by simp) ?_;rintro _ rfl;exact hk);simp only[go_sem])|(apply qX E;(· simp only[go_sem]);(· rfl);(· intro h h' hk;(try simp only[bq]at h h');refine bd E (c2) rfl (by simp only[↓h,↓h',go_sem]<;>rfl) (by simp) ?_;rintro _ rfl;exact hk);simp only[go_sem]))
 repeat (first
  |(apply fm E;(· simp only[go_sem]);(· intro h;(try simp only[bq]at h);simp only[↓h,go_sem];rfl);simp only[go_sem])
  |(apply gm E;(· decide);simp only[go_sem]))
 (first|(apply oO E;(· simp only[go_sem]);(· intro h hk;(try simp only[bq]at h);refine zP E (c3) rfl (by simp only[↓h,go_sem]<;>rfl) (by simp) ?_;rintro _ rfl;exact hk);simp only[go_sem])|(apply qX E;(· simp only[go_sem]);(· rfl);(· intro h h' hk;(try simp only[bq]at h h');refine zP E (c3) rfl (by simp only[↓h,↓h',go_sem]<;>rfl) (by simp) ?_;rintro _ rfl;exact hk);simp only[go_sem]))
 repeat (first
  |(apply fm E;(· simp only[go_sem]);(· intro h;(try simp only[bq]at h);simp only[↓h,go_sem];rfl);simp only[go_sem])
  |(apply gm E;(· decide);simp only[go_sem]))
 (first|(apply oO E;(· simp only[go_sem]);(· intro h hk;(try simp only[bq]at h);refine zP E (c4) rfl (by simp only[↓h,go_sem]<;>rfl) (by simp) ?_;rintro _ rfl;exact hk);simp only[go_sem])|(apply qX E;(· simp only[go_sem]);(· rfl);(· intro h h' hk;(try simp only[bq]at h h');refine zP E (c4) rfl (by simp only[↓h,↓h',go_sem]<;>rfl) (by simp) ?_;rintro _ rfl;exact hk);simp only[go_sem]))
 repeat (first
  |(apply fm E;(· simp only[go_sem]);(· intro h;(try simp only[bq]at h);simp only[↓h,go_sem];rfl);simp only[go_sem])
  |(apply gm E;(· decide);simp only[go_sem]))
 refine ck E ?_ ?_<;>intro h<;>simp only[go_sem]
 .have:(tA s&&tD s.vars&&(lQ lO s.fl&&decide (s.fl.length<=30))&&(lQ mL s.tl&&decide (s.tl.length<=30)))=false:=by
   rw[<-alH,<-h];simp only[Bool.not_and]
  rw[kL,this];rfl
 have h':(tA s&&tD s.vars&&(lQ lO s.fl&&decide (s.fl.length<=30))&&(lQ mL s.tl&&decide (s.tl.length<=30)))=true:=by
  rw[<-amD,<-h];simp only[Bool.not_and]
 repeat (first
  |(apply fm E;(· simp only[go_sem]);(· intro h;(try simp only[bq]at h);simp only[↓h,go_sem];rfl);simp only[go_sem]))
 (first|(apply oO E;(· simp only[go_sem]);(· intro h hk;(try simp only[bq]at h);refine bd E (c9) rfl (by simp only[↓h,go_sem]<;>rfl) (by simp) ?_;rintro _ rfl;exact hk);simp only[go_sem])|(apply qX E;(· simp only[go_sem]);(· rfl);(· intro h h' hk;(try simp only[bq]at h h');refine bd E (c9) rfl (by simp only[↓h,↓h',go_sem]<;>rfl) (by simp) ?_;rintro _ rfl;exact hk);simp only[go_sem]))
 repeat (first
  |(apply fm E;(· simp only[go_sem]);(· intro h;(try simp only[bq]at h);simp only[↓h,go_sem];rfl);simp only[go_sem])
  |(apply uA E;(· simp only[go_sem]);(· rfl);(· intro h h';(try simp only[bq]at h h');simp only[↓h,↓h',go_sem];rfl);simp only[go_sem]))
 (first|(apply oO E;(· simp only[go_sem]);(· intro h hk;(try simp only[bq]at h);refine bd E (RC) rfl (by simp only[↓h,go_sem]<;>rfl) (by simp) ?_;rintro _ rfl;exact hk);simp only[go_sem])|(apply qX E;(· simp only[go_sem]);(· rfl);(· intro h h' hk;(try simp only[bq]at h h');refine bd E (RC) rfl (by simp only[↓h,↓h',go_sem]<;>rfl) (by simp) ?_;rintro _ rfl;exact hk);simp only[go_sem]))
 repeat (first
  |(apply xN E;(· simp only[go_sem]);(· intro h;(try simp only[bq]at h);simp only[↓h,go_sem];rfl);(· intro h;(try simp only[bq]at h);simp only[↓h,go_sem];rfl);simp only[go_sem])
  |(apply uA E;(· simp only[go_sem]);(· rfl);(· intro h h';(try simp only[bq]at h h');simp only[↓h,↓h',go_sem];rfl);simp only[go_sem])
  |(apply gm E;(· decide);simp only[go_sem]))
 refine ck E ?_ ?_<;>intro g<;>simp only[go_sem]
 .rw[kL,h',g];rfl
 refine eU E [2] (.agg [.sl (some 13) (l.map aO),i64 st]) rfl rfl ?_;simp only[go_sem];refine eU E [3] (aO s) rfl rfl ?_;rw[es];simp only[go_sem];refine bz mixed E fun X=>?_;simp only[go_sem];refine dA X c5 rfl rfl (by simp) ?_;simp only[go_sem];refine dA X c6 rfl rfl (by simp) ?_;simp only[go_sem];refine uI X 53 [53] none [.sl none ((s.fl.map (·.2)).map i64),.sl none ((s.tl.map (·.2)).map i64)] c7 (fun _=>rfl) rfl rfl rfl (by simp) rfl (by simp only[go_sem]) ?_;simp only[go_sem];refine aeO X c8 rfl rfl (by simp) ?_;simp only[go_sem];(try refine⟨by decide +kernel,?_⟩);rw[kL,h',g];rfl
end Go.Proofs.YtpmniabdmbmafaaGreatDoor

namespace Go.Proofs.YtpmniabdmbmafaaGreatDoor
open Go.Ab Tryz
theorem dK(s:EA):aO s=.agg [.bool s.plus,.bool s.al,.bool s.int,.bool s.bool,.bool s.str,.bool s.arr,.bool s.rc,.bool s.tg,.sl none (s.vars.map i64),i64 s.bD,i64 s.bE,.sl (some 2) (s.fl.map aP),.sl (some 2) (s.tl.map aP)]:=rfl
theorem aeS{G}(l:List EA)(p:EA->Bool)(f:Nat)(aG:List D)(hl:l.length<=1000000)(hc:∀x∈l,HP prog G f (aO x::aG) (fun r=>r=.d (.bool (p x)))) :
  HP prog G 129 [.sl (some 13) (l.map aO),.aH f aG] (fun r=>∃z:Int,r=.d (i64 z)∧decide (0<=z)=l.any p):=by
 refine cj func129 rfl (by decide +kernel) (by simp[ntmps129]) (aS fun E=>?_);simp only[go_sem];refine pU E (X:={ i:Nat // i<=l.length∧(l.take i).any p=false }) (fun x=>[(0,.d (.sl (some 13) (l.map aO))),(1,.d (.aH f aG)),(6,.d (.sl (some 13) (l.map aO))),(7,.d (i64 l.length)),(8,.d (i64 x.1))]) (fun x=>l.length-x.1) rfl ⟨0,ale _,by simp⟩ ?_ ?_
 .simp only[go_sem]
  all_goals rfl
 rintro⟨i,hi,eC⟩ E';simp only[go_sem];refine aI E' ?_ ?_<;>intro h1<;>simp only[go_sem]
 .have bf:i<l.length:=by omega
  have x7:=hc l[i] (ak2 bf);refine⟨by omega,?_⟩;rw[tw bf];rw[dK]at x7 ⊢;simp only[go_sem];refine JH E' x7 rfl rfl (by simp) ?_;rintro _ rfl;simp only[go_sem];refine ck E' ?_ ?_<;>intro h2<;>simp only[go_sem]
  .refine⟨_,rfl,?_⟩;have:l.any p=true:=alG.2 ⟨l[i],ak2 bf,h2⟩;rw[this];exact decide_eq_true (anP _)
  .refine⟨⟨i+1,by omega,JU bf eC h2⟩,by show l.length-(i+1)<_;omega,?_⟩;rw[aD ⟨by omega,by omega⟩];rfl
 .have h3:i=l.length:=by omega
  subst h3;rw[alk]at eC;refine⟨_,rfl,?_⟩;rw[eC];decide
theorem aeT{G}(l:List EA)(p:EA->Bool)(f:Nat)(aG:List D)(hl:l.length<=1000000)(hc:∀x∈l,HP prog G f (aO x::aG) (fun r=>r=.d (.bool (p x)))) :
  HP prog G 88 [.sl (some 13) (l.map aO),.aH f aG] (fun r=>r=.d (.bool (l.any p))):=by
 refine cj func88 rfl (by decide +kernel) (by simp[ntmps88]) (aS fun E=>?_);simp only[go_sem];refine bd E (aeS l p f aG hl hc) rfl rfl (by simp) ?_;rintro _ ⟨z,rfl,hz⟩;simp only[go_sem];rw[hz]
theorem aeU{G}(s:EA)(l:List EA)(st:Int)(hs:iL s):HP prog G 89 [aO s,.ptr (ct l st)] (fun r=>r=.d (.bool (!kL l s))):=by
 have c:=aeR (G:=G) l st s hs;rw[dK]at c ⊢;unfold ct at *
 refine cj func89 rfl (by decide +kernel) (by simp[ntmps89]) (aS fun E=>?_);simp only[go_sem];refine bd E (c) rfl rfl (by simp) ?_;rintro _ rfl;simp only[go_sem]
def ff(l:List EA)(st:Int):Int:=if l.length=0∨2000<l.length then 8 else if !jd l st true||l.any (fun s=>!kL l s)then 4 else 0
theorem KB{G}(l:List EA)(st:Int)(hl:l.length<=1000000)(hs:∀s∈l,iL s):HP prog G 50 [ct l st] (fun r=>r=.d (i64 (ff l st))):=by
 have c1:=F0 (G:=G) l st st true;have c2:=aeT (G:=G) l (fun s=>!kL l s) 89 [.ptr (ct l st)] hl fun x hx=>aeU x l st (hs x hx);generalize hR:ff l st=R;unfold ff at hR;unfold ct at *
 refine cj func50 rfl (by decide +kernel) (by simp[ntmps50]) (aS fun E=>?_);simp only[go_sem]
 repeat (first
  |(apply fm E;(· simp only[go_sem]);(· intro h;(try simp only[bq]at h);simp only[↓h,go_sem];rfl);simp only[go_sem])
  |(apply gm E;(· decide);simp only[go_sem]))
 refine ck E ?_ ?_<;>intro h<;>simp only[go_sem]
 .simp only[alF,decide_eq_true_eq]at h;rw[if_pos (by omega)]at hR;rw[<-hR]
 have h':¬(l.length=0∨2000<l.length):=by
  simp only[al0,decide_eq_false_iff_not]at h;omega
 rw[if_neg h']at hR;refine JG E [1] (.agg [.sl (some 13) (l.map aO),i64 st]) rfl rfl ?_;simp only[go_sem];refine bd E (c1) rfl rfl (by simp) ?_;rintro _ rfl;simp only[go_sem]
 repeat (first
  |(apply fm E;(· simp only[go_sem]);(· intro h;(try simp only[bq]at h);simp only[↓h,go_sem];rfl);simp only[go_sem]))
 (first|(apply oO E;(· simp only[go_sem]);(· intro h hk;(try simp only[bq]at h);refine zP E (c2) rfl (by simp only[↓h,go_sem]<;>rfl) (by simp) ?_;rintro _ rfl;exact hk);simp only[go_sem])|(apply qX E;(· simp only[go_sem]);(· rfl);(· intro h h' hk;(try simp only[bq]at h h');refine zP E (c2) rfl (by simp only[↓h,↓h',go_sem]<;>rfl) (by simp) ?_;rintro _ rfl;exact hk);simp only[go_sem]))
 repeat (first
  |(apply gm E;(· decide);simp only[go_sem]))
 refine ck E ?_ ?_<;>intro g<;>simp only[go_sem]
 .rw[if_pos g]at hR;rw[<-hR]
 .rw[if_neg (by rw[g];decide)]at hR;rw[<-hR]
end Go.Proofs.YtpmniabdmbmafaaGreatDoor

namespace Go.Proofs.YtpmniabdmbmafaaGreatDoor
open Go.Ab Tryz
theorem F5(s:EA):s.next=(if s.arr then[s.bD,s.bE]else[])++oW s:=rfl
theorem aeV{G}(s:EA)(hs:iL s):HP prog G 137 [aO s] (fun r=>r=.d (aL s.next)):=by
 obtain⟨hv,hf,ht,zS,vY⟩:=hs;have c5:=F3 (G:=G) s.fl (by omega);have c6:=F3 (G:=G) s.tl (by omega);rw[dK];unfold aL eo at *
 by_cases ha:s.arr=true
 .have c7:=KA (G:=G) [[s.bD,s.bE],s.fl.map (·.2),s.tl.map (·.2)] (by simp) (by simp;omega);rw[show[[s.bD,s.bE],s.fl.map (·.2),s.tl.map (·.2)].flatten=s.next from by simp[EA.next,ha]]at c7;unfold aL at c7;rw[ha];refine cj func137 rfl (by decide +kernel) (by simp[ntmps137]) (aS fun E=>?_);simp only[go_sem];refine rZ E [12] none [i64 s.bD,i64 s.bE] rfl ?_;simp only[go_sem];refine eU E [1] (.agg [.bool s.plus,.bool s.al,.bool s.int,.bool s.bool,.bool s.str,.bool true,.bool s.rc,.bool s.tg,.sl none (s.vars.map i64),i64 s.bD,i64 s.bE,.sl (some 2) (s.fl.map aP),.sl (some 2) (s.tl.map aP)]) rfl rfl ?_;simp only[go_sem];refine bz mixed E fun X=>?_;simp only[go_sem];refine dA X c5 rfl rfl (by simp) ?_;simp only[go_sem];refine dA X c6 rfl rfl (by simp) ?_;simp only[go_sem];refine uI X 20 [20] none [.sl none [i64 s.bD,i64 s.bE],.sl none ((s.fl.map (·.2)).map i64),.sl none ((s.tl.map (·.2)).map i64)] c7 (fun _=>rfl) rfl rfl rfl (by simp) rfl (by simp only[go_sem]) ?_;simp only[go_sem];exact(by decide +kernel)
 .have ha:s.arr=false:=by simpa using ha
  have c7:=KA (G:=G) [[],s.fl.map (·.2),s.tl.map (·.2)] (by simp) (by simp;omega);rw[show[[],s.fl.map (·.2),s.tl.map (·.2)].flatten=s.next from by simp[EA.next,ha]]at c7;unfold aL at c7;rw[ha];refine cj func137 rfl (by decide +kernel) (by simp[ntmps137]) (aS fun E=>?_);simp only[go_sem];refine PE E 3 .ao (.sl none []) rfl (.ao _) ?_;simp only[go_sem];refine eU E [1] (.agg [.bool s.plus,.bool s.al,.bool s.int,.bool s.bool,.bool s.str,.bool false,.bool s.rc,.bool s.tg,.sl none (s.vars.map i64),i64 s.bD,i64 s.bE,.sl (some 2) (s.fl.map aP),.sl (some 2) (s.tl.map aP)]) rfl rfl ?_;simp only[go_sem];refine bz mixed E fun X=>?_;simp only[go_sem];refine dA X c5 rfl rfl (by simp) ?_;simp only[go_sem];refine dA X c6 rfl rfl (by simp) ?_;simp only[go_sem];refine uI X 20 [20] none [.sl none [],.sl none ((s.fl.map (·.2)).map i64),.sl none ((s.tl.map (·.2)).map i64)] c7 (fun _=>rfl) rfl rfl rfl (by simp) rfl (by simp only[go_sem]) ?_;simp only[go_sem];exact(by decide +kernel)
end Go.Proofs.YtpmniabdmbmafaaGreatDoor

namespace Go.Proofs.YtpmniabdmbmafaaGreatDoor
open Go.Ab
end Go.Proofs.YtpmniabdmbmafaaGreatDoor

namespace Go.Proofs.YtpmniabdmbmafaaGreatDoor
open Go.Ab Tryz
theorem RD{G}(l:List Int)(hl:l.length<=1000000):HP prog G 26 [aL l] (fun r=>r=.d (aL l)):=by
 refine p9 ?_;unfold aL;refine fK func26 rfl (by decide +kernel) (by simp[ntmps26]) (aS fun E=>?_);simp only[go_sem];refine⟨by omega,[([5],none,l.map i64)],?_⟩;simp only[go_sem];refine⟨_,rfl,?_⟩;exact .refl _
end Go.Proofs.YtpmniabdmbmafaaGreatDoor

namespace Go.Proofs.YtpmniabdmbmafaaGreatDoor
open Go.Ab Tryz
theorem tF{l:List da}{i:Nat}(h:i<l.length):(l.map aP).getD i .aY=.agg [.str l[i].1,i64 l[i].2]:=by simp[h,aP]
theorem tG{α:Type}{β:Type}{f:α->β}{l:List α}{i:Nat}(h:i<l.length):(l.take i).map f++[f l[i]]=(l.take (i+1)).map f:=by
 rw[ak9 h,alh];rfl
def gI(s:EA)(a b:AV):List AV:=[.d (.bool s.plus),.d (.bool s.al),.d (.bool s.int),.d (.bool s.bool),.d (.bool s.str),.d (.bool s.arr),.d (.bool s.rc),.d (.bool s.tg),.d (.sl none (s.vars.map i64)),.d (i64 s.bD),.d (i64 s.bE),a,b]
theorem RE{G}(l:List EA)(st:Int)(hl:l.length<=1000000)(hs:∀s∈l,iL s):HP prog G 11 [ct l st] (fun r=>r=.d (ct l st)):=by
 refine p9 ?_;unfold ct;refine fK func11 rfl (by decide +kernel) (by simp[ntmps11]) (aS fun E=>?_);simp only[go_sem];refine eU E [1] (.agg [.sl (some 13) (l.map aO),i64 st]) rfl rfl ?_;simp only[go_sem];refine nQ E [3] 0 99 (some 13) [.d .ao,.d (i64 st)] rfl rfl (by rw[aT];decide) ?_;simp only[go_sem]
 refine bC E (X:={ i:Nat // i<=l.length }) (fun x=>[(1,.d (.ptr (.agg [.sl (some 13) (l.map aO),i64 st]))),(2,.bx [2] 0),(3,.bx [3] 0),(4,.d (i64 x.1))])
  (fun x=>[([2],.box [.d .ao,.d (i64 0)]),([3],.box [.vw [99] 0 x.1,.d (i64 st)]),([99],.arr (some 13) ((l.take x.1).map aO))]) [99,3,2] (fun x=>l.length-x.1) ⟨0,ale _⟩ id ?_ ?_
 .simp only[go_sem]
  all_goals (and_intros<;>first|rfl|trivial)
 rintro⟨i,hi⟩ E0;refine bK E0 fun Q' hQ E'=>?_;simp only at hi ⊢;simp only[go_sem];refine aI E' ?_ ?_<;>intro h1<;>simp only[go_sem]
 .have bf:i<l.length:=by omega
  obtain⟨hv,hf,ht,zS,vY⟩:=hs _ (ak2 bf);have c1:=RD (G:=G) l[i].vars hv;unfold aL at c1;refine⟨by omega,?_⟩;rw[tw bf];simp only[dK];simp only[go_sem];refine eU E' [5] (aO l[i]) rfl rfl ?_;simp only[dK];simp only[go_sem];refine bz mixed E' fun X=>?_;simp only[go_sem];refine dA X c1 rfl rfl (by simp) ?_;simp only[go_sem];(try refine⟨by decide +kernel,?_⟩);generalize oY:l[i]=s at *
  refine nQ E' [6] 11 98 (some 2) (gI s (.d .ao) (.d .ao)) rfl rfl (by rw[aT];decide) ?_;simp only[gI];simp only[go_sem]
  refine bC E' (X:={ j:Nat // j<=(s.fl).length }) (fun x=>[(1,.d (.ptr (.agg [.sl (some 13) (l.map aO),i64 st]))),(2,.bx [2] 0),(3,.bx [3] 0),(4,.d (i64 i)),(5,.d (.ptr (aO s))),(6,.bx [6] 0)]++[(7,.d (i64 x.1))])
   (fun x=>[([2],.box [.d .ao,.d (i64 0)]),([3],.box [.vw [99] 0 i,.d (i64 st)]),([99],.arr (some 13) ((l.take i).map aO))]++[([6],.box (gI s (.vw [98] 0 x.1) (.d .ao))),([98],.arr (some 2) (((s.fl).take x.1).map aP))]) [98,6,99,3,2] (fun x=>(s.fl).length-x.1) ⟨0,ale _⟩ id ?_ ?_
  .simp only[gI,List.cons_append,List.nil_append];simp only[go_sem]
   all_goals (and_intros<;>first|rfl|trivial)
  rintro⟨j,hj⟩ E3;refine bK E3 fun Q3 lp E4=>?_;simp only[gI,List.cons_append,List.nil_append,dK]at hj ⊢;simp only[go_sem];refine aI E4 ?_ ?_<;>intro h4<;>simp only[go_sem]
  .have jw:j<(s.fl).length:=by omega
   refine bz mixed E4 fun X=>?_;simp only[go_sem];refine⟨by omega,?_⟩;rw[tF jw];simp only[go_sem];refine⟨by omega,?_⟩;rw[tF jw];simp only[go_sem];refine⟨by omega,?_⟩;(try refine⟨by decide +kernel,?_⟩);rw[lp];simp only[go_sem];refine⟨⟨j+1,by omega⟩,by show(s.fl).length-(j+1)<_;omega,ak [([98],[71])],?_⟩;simp only[gI,List.cons_append,List.nil_append];simp only[go_sem];rw[show List.take j (((s.fl).take j).map aP)=((s.fl).take j).map aP from ak5 (by simp;omega),<-tG jw,aD ⟨by omega,by omega⟩]
   and_intros<;>first|rfl|trivial
  have h5:j=(s.fl).length:=by omega
  subst h5;rw[alk,lp];simp only[go_sem];refine rZ E' [98] (some 2) (s.fl.map aP) rfl ?_;simp only[go_sem];refine nQ E' [6] 12 97 (some 2) (gI s (.d (.sl (some 2) (s.fl.map aP))) (.d .ao)) rfl rfl (by rw[aT];decide) ?_;simp only[gI];simp only[go_sem]
  refine bC E' (X:={ j:Nat // j<=(s.tl).length }) (fun x=>[(1,.d (.ptr (.agg [.sl (some 13) (l.map aO),i64 st]))),(2,.bx [2] 0),(3,.bx [3] 0),(4,.d (i64 i)),(5,.d (.ptr (aO s))),(6,.bx [6] 0)]++[(8,.d (i64 x.1))])
   (fun x=>[([2],.box [.d .ao,.d (i64 0)]),([3],.box [.vw [99] 0 i,.d (i64 st)]),([99],.arr (some 13) ((l.take i).map aO))]++[([6],.box (gI s (.d (.sl (some 2) (s.fl.map aP))) (.vw [97] 0 x.1))),([97],.arr (some 2) (((s.tl).take x.1).map aP))]) [97,6,99,3,2] (fun x=>(s.tl).length-x.1) ⟨0,ale _⟩ id ?_ ?_
  .simp only[gI,List.cons_append,List.nil_append];simp only[go_sem]
   all_goals (and_intros<;>first|rfl|trivial)
  rintro⟨j,hj⟩ E3;refine bK E3 fun Q3 lp E4=>?_;simp only[gI,List.cons_append,List.nil_append,dK]at hj ⊢;simp only[go_sem];refine aI E4 ?_ ?_<;>intro h4<;>simp only[go_sem]
  .have jw:j<(s.tl).length:=by omega
   refine bz mixed E4 fun X=>?_;simp only[go_sem];refine⟨by omega,?_⟩;rw[tF jw];simp only[go_sem];refine⟨by omega,?_⟩;rw[tF jw];simp only[go_sem];refine⟨by omega,?_⟩;(try refine⟨by decide +kernel,?_⟩);rw[lp];simp only[go_sem];refine⟨⟨j+1,by omega⟩,by show(s.tl).length-(j+1)<_;omega,ak [([97],[96])],?_⟩;simp only[gI,List.cons_append,List.nil_append];simp only[go_sem];rw[show List.take j (((s.tl).take j).map aP)=((s.tl).take j).map aP from ak5 (by simp;omega),<-tG jw,aD ⟨by omega,by omega⟩]
   and_intros<;>first|rfl|trivial
  have h5:j=(s.tl).length:=by omega
  subst h5;rw[alk,lp];simp only[go_sem];refine qZ E' [97] (some 2) (s.tl.map aP) rfl rfl ?_;simp only[go_sem];refine⟨by omega,?_⟩;rw[hQ];simp only[go_sem];refine⟨⟨i+1,by omega⟩,by show l.length-(i+1)<_;omega,ak [([99],[102])],?_⟩;simp only[go_sem];rw[show List.take i ((l.take i).map aO)=(l.take i).map aO from ak5 (by simp;omega),<-tG bf,oY,aD ⟨by omega,by omega⟩];exact⟨rfl,rfl⟩
 .rw[hQ];have h5:i=l.length:=by omega
  subst h5;simp only[go_sem];refine⟨[([99],some 13,l.map aO)],?_⟩;simp only[go_sem];exact⟨_,rfl,.refl _⟩
end Go.Proofs.YtpmniabdmbmafaaGreatDoor

namespace Go.Proofs.YtpmniabdmbmafaaGreatDoor
open Go.Ab
theorem aeW{P:Program}{cf:Cf}{Q:Exit->St->Prop}(E:bu P cf Q){rest:Prop}{c:Code}{k:List It}{S:St}(p:Prop)(h1:(p->e8 E c S k)->rest)(h2:p->e8 E c S k):rest:=h1 h2
structure x8(s:EA):Prop where
 v:s.vars.length<=9223372036854775807
 f:s.fl.length<=9223372036854775807
 t:s.tl.length<=9223372036854775807
 fs:∀x∈s.fl,x.1.length<=9223372036854775807
 ts:∀x∈s.tl,x.1.length<=9223372036854775807
def F6(s:EA):EA:={ s with vars:=s.vars.take 40 }
def q9(s:EA):EA:={ s with vars:=s.vars.take 40,fl:=s.fl.take 40,tl:=s.tl.take 40 }
end Go.Proofs.YtpmniabdmbmafaaGreatDoor

namespace Go.Proofs.YtpmniabdmbmafaaGreatDoor
open Go.Ab Tryz
def ra(n:Nat):Nat:=if 2000<n then 2001 else min 10 n
def lS(l:List EA):List EA:=(l.take (ra l.length)).map q9
theorem aeX{G}(l:List EA)(st:Int)(hl:l.length<=9223372036854775807)(hs:∀s∈l,x8 s):HP prog G 13 [ct l st,i64 10] (fun r=>r=.d (ct (lS l) st)):=by
 refine p9 ?_;unfold ct;refine fK func13 rfl (by decide +kernel) (by simp[ntmps13]) (aS fun E=>?_);simp only[go_sem];refine eU E [2] (.agg [.sl (some 13) (l.map aO),i64 st]) rfl rfl ?_;simp only[go_sem];refine nQ E [5] 0 134 (some 13) [.d .ao,.d (i64 st)] rfl rfl (by rw[aT];decide) ?_;simp only[go_sem]
 refine bC E (X:={ i:Nat // i<=ra l.length }) (fun x=>[(1,.d (i64 10)),(2,.d (.ptr (.agg [.sl (some 13) (l.map aO),i64 st]))),(4,.bx [4] 0),(5,.bx [5] 0),(6,.d (i64 x.1))])
  (fun x=>[([4],.box [.d .ao,.d (i64 0)]),([5],.box [.vw [134] 0 x.1,.d (i64 st)]),([134],.arr (some 13) (((l.take x.1).map q9).map aO))]) [134,5,4] (fun x=>l.length-x.1) ⟨0,ale _⟩ id ?_ ?_
 .simp only[go_sem]
  all_goals (and_intros<;>first|rfl|trivial)
 rintro⟨i,hi⟩ E0;refine bK E0 fun Q' hQ E'=>?_;simp only at hi ⊢;have eS:ra l.length=if 2000<l.length then 2001 else min 10 l.length:=rfl
 have bF:ra l.length<=l.length:=by rw[eS];split<;>omega
 have oM:i<=2001:=by
  have h:=hi;rw[eS]at h;split at h<;>omega
 obtain⟨s,oY⟩:∃s:EA,∀h:i<l.length,l[i]=s:=⟨l.getD i default,fun h=>by simp[h]⟩
 simp only[go_sem];apply aeW E' (i<ra l.length)
 .intro HB;refine bH E' ?_ ?_<;>intro h1<;>simp only[go_sem]
  .have bf:i<l.length:=by omega
   refine bH E' ?_ ?_<;>intro h2<;>simp only[go_sem]
   .refine⟨by omega,?_⟩;rw[tw bf,oY bf];simp only[dK];simp only[go_sem];refine wG E' (τ:=id) (cw.le (fr:=[(1,.d (i64 10)),(2,.d (.ptr (.agg [.sl (some 13) (l.map aO),i64 st]))),(4,.bx [4] 0),(5,.bx [5] 0),(6,.d (i64 i)),(7,.bx [7] 0)]) (hp:=[([4],.box [.d .ao,.d (i64 0)]),([5],.box [.vw [134] 0 i,.d (i64 st)]),([134],.arr (some 13) (((l.take i).map q9).map aO)),([7],.box (gI s (.d (eo s.fl)) (.d (eo s.tl))))]) (u:=[7,134,5,4]) ?_) (HB (by rw[eS];split<;>omega))
    .simp only[gI,dK,List.cons_append,List.nil_append];simp only[go_sem]
     all_goals (and_intros<;>first|rfl|trivial)
   .refine bH E' ?_ ?_<;>intro h3<;>simp only[go_sem]
    .refine aI E' ?_ ?_<;>intro h6<;>simp only[go_sem]
     .refine⟨by omega,?_⟩;rw[tw bf,oY bf];simp only[dK];simp only[go_sem];refine wG E' (τ:=id) (cw.le (fr:=[(1,.d (i64 10)),(2,.d (.ptr (.agg [.sl (some 13) (l.map aO),i64 st]))),(4,.bx [4] 0),(5,.bx [5] 0),(6,.d (i64 i)),(7,.bx [7] 0)]) (hp:=[([4],.box [.d .ao,.d (i64 0)]),([5],.box [.vw [134] 0 i,.d (i64 st)]),([134],.arr (some 13) (((l.take i).map q9).map aO)),([7],.box (gI s (.d (eo s.fl)) (.d (eo s.tl))))]) (u:=[7,134,5,4]) ?_) (HB (by rw[eS];split<;>omega))
      .simp only[gI,dK,List.cons_append,List.nil_append];simp only[go_sem]
       all_goals (and_intros<;>first|rfl|trivial)
     .rw[hQ];have h5:i=ra l.length:=by rw[eS];split<;>(rw[eS]at hi;revert hi;split<;>omega)
      simp only[go_sem];refine⟨[([134],some 13,(lS l).map aO)],?_⟩;simp only[go_sem];refine⟨by rw[h5];rfl,?_⟩;rw[ak5 (by rw[alg,lS,alg,alq];omega)];exact⟨_,rfl,.refl _⟩
    .rw[hQ];have h5:i=ra l.length:=by rw[eS];split<;>(rw[eS]at hi;revert hi;split<;>omega)
     simp only[go_sem];refine⟨[([134],some 13,(lS l).map aO)],?_⟩;simp only[go_sem];refine⟨by rw[h5];rfl,?_⟩;rw[ak5 (by rw[alg,lS,alg,alq];omega)];exact⟨_,rfl,.refl _⟩
  .rw[hQ];have h5:i=ra l.length:=by rw[eS];split<;>(rw[eS]at hi;revert hi;split<;>omega)
   simp only[go_sem];refine⟨[([134],some 13,(lS l).map aO)],?_⟩;simp only[go_sem];refine⟨by rw[h5];rfl,?_⟩;rw[ak5 (by rw[alg,lS,alg,alq];omega)];exact⟨_,rfl,.refl _⟩
 .intro jo;have bf:i<l.length:=by omega
  have aeY:=oY bf;obtain⟨hv,hf,ht,zS,vY⟩:=hs _ (ak2 bf);rw[aeY]at hv hf ht zS vY;have c1:=RD (G:=G) (s.vars.take 40) (by rw[alq];omega);unfold aL at c1;refine eU E' [7] (aO s) rfl rfl ?_;simp only[dK];simp only[go_sem];refine bz mixed E' fun X=>?_;simp only[go_sem];rw[Cm i64 40 (by decide)];rw[show Int.toNat 40=40 from rfl];refine⟨Cn 40 _ (by decide) (by omega),?_⟩;refine dA X c1 rfl rfl (by simp) ?_;simp only[go_sem];(try refine⟨by decide +kernel,?_⟩);refine nQ E' [8] 11 98 (some 2) (gI (F6 s) (.d .ao) (.d .ao)) rfl rfl (by rw[aT];decide) ?_;simp only[gI];simp only[go_sem]
  refine bC E' (X:={ j:Nat // j<=(s.fl).length∧j<=40 }) (fun x=>[(1,.d (i64 10)),(2,.d (.ptr (.agg [.sl (some 13) (l.map aO),i64 st]))),(4,.bx [4] 0),(5,.bx [5] 0),(6,.d (i64 i)),(7,.d (.ptr (aO s))),(8,.bx [8] 0)]++[(9,.d (i64 x.1))])
   (fun x=>[([4],.box [.d .ao,.d (i64 0)]),([5],.box [.vw [134] 0 i,.d (i64 st)]),([134],.arr (some 13) (((l.take i).map q9).map aO))]++[([8],.box (gI (F6 s) (.vw [98] 0 x.1) (.d .ao))),([98],.arr (some 2) (((s.fl).take x.1).map aP))]) [98,8,134,5,4] (fun x=>(s.fl).length-x.1) ⟨0,ale _,ale _⟩ id ?_ ?_
  .simp only[gI,List.cons_append,List.nil_append];simp only[go_sem]
   all_goals (and_intros<;>first|rfl|trivial)
  rintro⟨j,hj,KC⟩ E3;refine bK E3 fun Q3 lp E4=>?_;simp only[gI,List.cons_append,List.nil_append,dK]at hj KC ⊢;simp only[go_sem];refine bH E4 ?_ ?_<;>intro h4<;>simp only[go_sem];refine aI E4 ?_ ?_<;>intro KD<;>simp only[go_sem]
  .have jw:j<(s.fl).length:=by omega
   refine bz mixed E4 fun X=>?_;simp only[go_sem];refine⟨by omega,?_⟩;rw[tF jw];simp only[go_sem];refine⟨by omega,?_⟩;rw[tF jw];simp only[go_sem];refine⟨by omega,?_⟩;(try refine⟨by decide +kernel,?_⟩);rw[lp];simp only[go_sem];refine⟨⟨j+1,by omega,by omega⟩,by show(s.fl).length-(j+1)<_;omega,ak [([98],[97])],?_⟩;simp only[gI,List.cons_append,List.nil_append];simp only[go_sem];rw[show List.take j (((s.fl).take j).map aP)=((s.fl).take j).map aP from ak5 (by simp;omega),<-tG jw,aD ⟨by omega,by omega⟩]
   and_intros<;>first|rfl|trivial
  all_goals
   have h5:(s.fl).take j=(s.fl).take 40:=by
    first
    |rw[show j=40 by omega]
    |rw[ak5 (by omega),ak5 (by omega)]
   rw[h5,lp];simp only[go_sem];refine rZ E' [98] (some 2) ((s.fl.take 40).map aP) rfl ?_;simp only[go_sem];simp only[show List.take j ((s.fl.take 40).map aP)=(s.fl.take 40).map aP from ak5 (by rw[alg,alq];omega)];refine nQ E' [8] 12 97 (some 2) (gI (F6 s) (.d (.sl (some 2) ((s.fl.take 40).map aP))) (.d .ao)) rfl rfl (by rw[aT];decide) ?_;simp only[gI];simp only[go_sem]
   refine bC E' (X:={ j:Nat // j<=(s.tl).length∧j<=40 }) (fun x=>[(1,.d (i64 10)),(2,.d (.ptr (.agg [.sl (some 13) (l.map aO),i64 st]))),(4,.bx [4] 0),(5,.bx [5] 0),(6,.d (i64 i)),(7,.d (.ptr (aO s))),(8,.bx [8] 0)]++[(10,.d (i64 x.1))])
    (fun x=>[([4],.box [.d .ao,.d (i64 0)]),([5],.box [.vw [134] 0 i,.d (i64 st)]),([134],.arr (some 13) (((l.take i).map q9).map aO))]++[([8],.box (gI (F6 s) (.d (.sl (some 2) ((s.fl.take 40).map aP))) (.vw [97] 0 x.1))),([97],.arr (some 2) (((s.tl).take x.1).map aP))]) [97,8,134,5,4] (fun x=>(s.tl).length-x.1) ⟨0,ale _,ale _⟩ id ?_ ?_
   .simp only[gI,List.cons_append,List.nil_append];simp only[go_sem]
    all_goals (and_intros<;>first|rfl|trivial)
   rintro⟨j,hj,KC⟩ E3;refine bK E3 fun Q3 lp E4=>?_;simp only[gI,List.cons_append,List.nil_append,dK]at hj KC ⊢;simp only[go_sem];refine bH E4 ?_ ?_<;>intro h4<;>simp only[go_sem];refine aI E4 ?_ ?_<;>intro KD<;>simp only[go_sem]
   .have jw:j<(s.tl).length:=by omega
    refine bz mixed E4 fun X=>?_;simp only[go_sem];refine⟨by omega,?_⟩;rw[tF jw];simp only[go_sem];refine⟨by omega,?_⟩;rw[tF jw];simp only[go_sem];refine⟨by omega,?_⟩;(try refine⟨by decide +kernel,?_⟩);rw[lp];simp only[go_sem];refine⟨⟨j+1,by omega,by omega⟩,by show(s.tl).length-(j+1)<_;omega,ak [([97],[126])],?_⟩;simp only[gI,List.cons_append,List.nil_append];simp only[go_sem];rw[show List.take j (((s.tl).take j).map aP)=((s.tl).take j).map aP from ak5 (by simp;omega),<-tG jw,aD ⟨by omega,by omega⟩]
    and_intros<;>first|rfl|trivial
   all_goals
    have h5:(s.tl).take j=(s.tl).take 40:=by
     first
     |rw[show j=40 by omega]
     |rw[ak5 (by omega),ak5 (by omega)]
    rw[h5,lp];simp only[go_sem];refine qZ E' [97] (some 2) ((s.tl.take 40).map aP) rfl rfl ?_;simp only[go_sem];simp only[show List.take j ((s.tl.take 40).map aP)=(s.tl.take 40).map aP from ak5 (by rw[alg,alq];omega)];refine⟨by omega,?_⟩;rw[hQ];simp only[go_sem];refine⟨⟨i+1,by omega⟩,by show l.length-(i+1)<_;omega,ak [([134],[132])],?_⟩;simp only[go_sem];rw[show List.take i (((l.take i).map q9).map aO)=((l.take i).map q9).map aO from ak5 (by simp;omega),alD,alD,<-tG bf,oY,aD ⟨by omega,by omega⟩];exact⟨rfl,rfl⟩
end Go.Proofs.YtpmniabdmbmafaaGreatDoor

namespace Go.Proofs.YtpmniabdmbmafaaGreatDoor
open Go.Ab
end Go.Proofs.YtpmniabdmbmafaaGreatDoor

namespace Go.Proofs.YtpmniabdmbmafaaGreatDoor
open Go.Ab
def nd(ns:List TN)(i:Nat):TN:=ns.getD i ⟨0,0,0,[]⟩
theorem x9{ns:List TN}{i:Nat}(h:i<ns.length):nd ns i=ns[i]:=by simp[nd,h]
theorem C9{ns:List TN}{i:Nat}(h:i<ns.length):(ns.map aK).getD i .aY=.agg [i64 (nd ns i).k,i64 (nd ns i).a,i64 (nd ns i).b,.sl (some 2) ((nd ns i).l.map aP)]:=by
 rw[x9 h];exact JV h
def Da(ns:List TN)(i j:Nat):Prop:=fT (nd ns i).k=true∧(j=(nd ns i).a.toNat∨j=(nd ns i).b.toNat)
inductive qh(ns:List TN):Nat->Nat->Prop
 |one {i j:Nat} (h:Da ns i j):qh ns i j
 |cons {i j k:Nat} (h:Da ns i j) (t:qh ns j k):qh ns i k
theorem qh.snoc{ns:List TN}{i j k:Nat}(h:qh ns i j)(e:Da ns j k):qh ns i k:=by
 induction h with
 |one h=>exact .cons h (.one e)
 |cons h _ ih=>exact .cons h (ih e)
inductive Ends(ns:List TN):Nat->Prop
 |flat {i:Nat} (h:fT (nd ns i).k=false):Ends ns i
 |both {i:Nat} (ha:Ends ns (nd ns i).a.toNat) (hb:Ends ns (nd ns i).b.toNat):Ends ns i
theorem Ends.no{ns:List TN}{i:Nat}(h:Ends ns i):¬qh ns i i:=by
 induction h with
 |flat h =>
   intro p
   have:∀j k,qh ns j k->fT (nd ns j).k=true:=fun j k p=>by cases p with
    |one e=>exact e.1
    |cons e _=>exact e.1
   rw[this _ _ p]at h;cases h
 | @both i _ _ iha ihb =>
   have key:∀x,Da ns i x->(x=i∨qh ns x i)->False:=by
    intro x e hx
    have hp:qh ns x x:=by
     obtain rfl|hx:=hx
     .exact .one e
     .exact hx.snoc e
    obtain rfl|rfl:=e.2
    .exact iha hp
    .exact ihb hp
   intro p
   cases p with
   |one e=>exact key _ e (.inl rfl)
   |cons e t=>exact key _ e (.inr t)
def lT(C:List Int):Nat:=C.countP (· == 0)
structure uM(ns:List TN)(C:List Int):Prop where
 len:C.length=ns.length
 val:∀j,C.getD j 0=0∨C.getD j 0=1∨C.getD j 0=2
 black:∀j,C.getD j 0=2->Ends ns j
theorem Db{C:List Int}{i j:Nat}{x:Int}(h:i<C.length):(C.set i x).getD j 0=if j=i then x else C.getD j 0:=by
 simp only[akX,am1];by_cases e:i=j
 .subst e;simp[h]
 .simp[e,Ne.symm e]
theorem uM.set{ns:List TN}{C:List Int}(h:uM ns C){i:Nat}{x:Int}(hi:i<C.length)(hx:x=1∨(x=2∧Ends ns i)):uM ns (C.set i x):=by
 refine⟨by simpa using h.len,fun j=>?_,fun j=>?_⟩
 .rw[Db hi];split
  .rcases hx with rfl|⟨rfl,_⟩<;>simp
  .exact h.val j
 .rw[Db hi];split
  .rename_i e;subst e;obtain rfl|⟨rfl,he⟩:=hx
   .intro h;cases h
   .exact fun _=>he
  .exact h.black j
theorem aeZ{x:Int}(hx:x≠0):∀(C:List Int) (i:Nat),C.getD i 1=0->lT (C.set i x)<lT C:=by
 intro C
 induction C with
 |nil=>intro i h;simp at h
 |cons c r ih =>
   intro i h
   cases i with
   |zero =>
     have h:c=0:=by simpa using h
     subst h;simp[lT,anl,hx]
   |succ i =>
     have:=ih i (by simpa using h);simp only[lT,List.set_cons_succ,anl]at this ⊢;omega
theorem RF:∀(C C':List Int),C.length=C'.length->(∀j,C'.getD j 1=0->C.getD j 1=0)->lT C'<=lT C
 |[],[],_,_=>ali _
 |c::C,c'::C',hl,h=>by
   have ih:=RF C C' (by simpa using hl) (fun j hj=>by simpa using h (j+1) (by simpa using hj));have h0:=h 0;simp only[lT,anl]at ih ⊢;by_cases e:c'=0
   .have:c=0:=by simpa using h0 (by simpa using e)
    simp[e,this,ih]
   .have:(c' == 0)=false:=by simpa using e
    rw[this];simp only[als,if_false];split<;>omega
 |[],_::_,hl,_=>by simp at hl
 |_::_,[],hl,_=>by simp at hl
def ae0(ns:List TN)(C:List Int)(i:Nat)(b:Bool)(C':List Int):Prop :=
 C'.length=ns.length∧(b=true->uM ns C'∧Ends ns i∧(∀j,C'.getD j 0=1↔C.getD j 0=1)∧lT C'<=lT C)∧(b=false->∃j,qh ns j j∧j<ns.length)
end Go.Proofs.YtpmniabdmbmafaaGreatDoor

namespace Go.Proofs.YtpmniabdmbmafaaGreatDoor
open Go.Ab
def cR(p:Bool):Int:=if p then 1 else 2
def cQ(p:Bool):Int:=if p then 2 else 1
def cy(p:Bool):Int:=if p then 9 else 10
def oZ(k:Int):Bool:=decide (k=6)||decide (k=9)||decide (k=10)
def jx(d:Int)(n:TN):TN:=⟨n.k,if oZ n.k=true then n.a+d else n.a,if oZ n.k=true then n.b+d else n.b,n.l.map fun q=>(q.1,q.2+d)⟩
def ar(ns gs:List TN):List TN:=ns++gs.map (jx ns.length)
def dO(s:EA)(every:Int):List TN :=
 (if s.al=true then[⟨every,0,0,[]⟩]else[])++(if s.int=true then[⟨3,0,0,[]⟩]else[])++(if s.bool=true then[⟨4,0,0,[]⟩]else[])++(if s.str=true then[⟨5,0,0,[]⟩]else[])++s.vars.map (fun v=>⟨11,v,0,[]⟩) ++
  (if s.arr=true then[⟨6,s.bD,s.bE,[]⟩]else[])++(if s.rc=true then[⟨7,0,0,s.fl⟩]else[])++(if s.tg=true then[⟨8,0,0,s.tl⟩]else[])
def il(lk:Int)(s:List TN×Nat)(x:TN):List TN×Nat:=(s.1++[x,⟨lk,s.2,s.1.length,[]⟩],s.1.length+1)
def o5(p:Bool)(L:List TN)(P:List TN):List TN×Nat:=P.foldl (il (cy p)) (L++[⟨cQ p,0,0,[]⟩],L.length)
def kM(L:List TN)(i:Nat)(s:EA):List TN:=(o5 s.plus L (dO s (cR s.plus))).1.set i ⟨cy s.plus,(o5 s.plus L (dO s (cR s.plus))).2,(o5 s.plus L (dO s (cR s.plus))).2,[]⟩
def iM(R:List EA):Nat->List TN
 |0=>List.replicate R.length ⟨0,0,0,[]⟩
 |i+1=>kM (iM R i) i (R.getD i default)
def bw(R:List EA):List TN:=iM R R.length
end Go.Proofs.YtpmniabdmbmafaaGreatDoor

namespace Go.Ab
section
variable {P:Program}{κ:Type}[DecidableEq κ]
theorem RG{kt:TypeId}{fs:Array Field}(hu:P.underlying kt=some (.struct fs))(ke:κ->D)(kv:κ->Value)(ae1:∀a,∃cs,kv a=.agg cs)(hval:∀{H:Array Obj} {own:Nat->Prop} {v:Value} {a:κ},au H own v (ke a)->v=kv a)(cd:∀(H:Array Obj) (own:Nat->Prop) (a:κ),au H own (kv a) (ke a))
  (ae2:∀(b:Bool) (a:κ) (w:World),(Instr.checkKey b 10000 kt (kv a)).run P w=.ok () w) (nU:∀a:κ,Instr.sameBits 10000 (kv a) (kv a)=true) (heq:∀(a x:κ) (w:World),(Op.equal kt (kv a) (kv x)).run P w=.ok (decide (x=a)) w):jS P kt ke kv where
 val:=hval
 rep:=cd
 fc:=ae2
 same:=nU
 find:=fun a es ks w jT=>by
  have ask:∀(es:List MapEntry) (ks:List κ) (n:Nat),es.map (·.key)=ks.map kv->(Instr.findAsking kt (kv a) es n).run P w=.ok ((eT ks a).bind fun m=>(es[m]?).map fun e=>(n+m,e.val)) w:=by
   intro es
   induction es with
   |nil =>
     intro ks n h
     cases ks with
     |nil=>rfl
     |cons k r=>simp at h
   |cons e es ih =>
     intro ks n h
     cases ks with
     |nil=>simp at h
     |cons k r =>
       simp only[alf,al3]at h;simp only[Instr.findAsking,h.1,Sem.run_bind,heq,Result.andThen_ok,eT];by_cases zT:k=a
       .simp[zT]
       .simp only[zT,decide_false,als,if_false,ih r (n+1) h.2]
        cases eT r a with
        |none=>rfl
        |some m=>simp[amF,anH 1 m]
  cases es with
  |nil =>
    cases ks with
    |nil=>simp[Instr.findKey,run_underlying hu,Instr.findNow,eT]
    |cons k r=>simp at jT
  |cons e es =>
    have:=ask (e::es) ks 0 jT;simp only[alC]at this;obtain⟨cs,hcs⟩:=ae1 a;have ae3:Instr.findNow (.struct fs) (kv a) (e::es) 0=none:=by rw[hcs];simp[Instr.findNow,Instr.sameNow]
    simp only[Instr.findKey,Sem.run_bind,run_underlying hu,Result.andThen_ok,ae3];exact this
end
section
variable {P:Program}
abbrev sc:=Int×List UInt8
def zU(q:sc):D:=.agg [.int .i64 q.1,.str q.2]
def lU(q:sc):Value:=.agg #[.int .i64 q.1,.string ⟨q.2.toArray⟩]
theorem KE(H:Array Obj)(own:Nat->Prop)(q:sc):au H own (lU q) (zU q):=by
 refine .agg _ _ rfl (by simp[D.bR]) fun n d hd=>?_
 match n,hd with
 |0,hd=>obtain rfl:=alo hd;exact .int _ _
 |1,hd=>obtain rfl:=alo hd;exact .str _
theorem ae4{H:Array Obj}{own:Nat->Prop}{v:Value}{q:sc}(h:au H own v (zU q)):v=lU q:=by
 cases h with
 |agg xs _ hs _ hr =>
   have h0:=hr 0 (.int .i64 q.1) rfl;have h1:=hr 1 (.str q.2) rfl;have hs:xs.size=2:=hs;obtain⟨l⟩:=xs
   match l,hs with
   |[u,v],_ =>
     simp at h0 h1;cases h0;cases h1;rfl
theorem RI{kt:TypeId}{t0 t1:TypeId}(ag:P.uz kt=true)(hk:(P.ti kt).k=.struct [(0,t0),(1,t1)])(k0:(P.ti t0).k=.int .i64)(k1:(P.ti t1).k=.str)(a x:sc)(w:World)(d:Nat):(Op.equalIn (d+2) kt (lU a) (lU x)).run P w=.ok (decide (x=a)) w:=by
 have:=ab5 (w:=w) (H:=#[]) (own:=fun _=>False) (d:=d) ag hk (KE _ _ a) (KE _ _ x) (r:=decide (a.1=x.1)&&(decide (a.2=x.2)&&true)) (by simp[zy,k0,k1,uy,Fh])
 have e:decide (x=a)=(decide (a.1=x.1)&&(decide (a.2=x.2)&&true)):=by
  rw[amL];simp only[ak7,decide_eq_true_eq,and_true];exact⟨fun h=>by rw[h];exact⟨rfl,rfl⟩,fun h=>Prod.ext h.1.symm h.2.symm⟩
 rw[e];exact this
theorem RJ{kt:TypeId}{f0 f1:Field}(hu:P.underlying kt=some (.struct #[f0,f1]))(h0:f0.offset=0)(h1:f1.offset=1)(k0:(P.ti f0.type).k=.int .i64)(k1:(P.ti f1.type).k=.str)(b:Bool)(a:sc)(w:World)(d:Nat):(Instr.checkKey b (d+2) kt (lU a)).run P w=.ok () w:=by
 have e1:=uk (P:=P) (t:=f0.type) (w:=w) (by rw[k0];rfl) (by rw[k0];rfl) #[.int .i64 a.1,.string ⟨a.2.toArray⟩] 0 (.int .i64 a.1) rfl;have e2:=uk (P:=P) (t:=f1.type) (w:=w) (by rw[k1];rfl) (by rw[k1];rfl) #[.int .i64 a.1,.string ⟨a.2.toArray⟩] 1 (.string ⟨a.2.toArray⟩) rfl;have e3:=MapKept.run_checkKey (P:=P) (w:=w) (kt:=f0.type) (k:=.int .i64 a.1) (rK k0) (show IntKind.i64=.i64 from rfl) b d;have e4:=MapKept.run_checkKey (P:=P) (w:=w) (kt:=f1.type) (k:=.string ⟨a.2.toArray⟩) (rJ k1) trivial b d
 have:(Instr.checkKey b (d+1+1) kt (lU a)).run P w=.ok () w:=by
  unfold Instr.checkKey lU;simp only[Sem.run_bind,run_underlying hu,Result.andThen_ok];rw[<-Array.forIn_toList];simp only[List.forIn_cons,List.forIn_nil,h0,h1];by_cases n0:f0.name = "_" <;> by_cases n1:f1.name = "_" <;> simp[n0,n1,e1,e2,e3,e4]
 exact this
theorem ae5{kt:TypeId}{f0 f1:Field}(hu:P.underlying kt=some (.struct #[f0,f1]))(h0:f0.offset=0)(h1:f1.offset=1)(k0:(P.ti f0.type).k=.int .i64)(k1:(P.ti f1.type).k=.str)(ag:P.uz kt=true)(hk:(P.ti kt).k=.struct [(0,f0.type),(1,f1.type)]):jS P kt zU lU :=
 RG hu zU lU (fun _=>⟨_,rfl⟩) ae4 KE (fun b a w=>RJ hu h0 h1 k0 k1 b a w 9998) (fun a=>by
  have:Instr.sameBits (9998+2) (lU a) (lU a)=true:=by simp[Instr.sameBits,lU,MapKept.bytes_beq]
  exact this) fun a x w=>RI ag hk k0 k1 a x w 9998
abbrev ch:=sc×Int
def dt(q:ch):D:=.agg [.int .i64 q.1.1,.str q.1.2,.int .i64 q.2]
def mP(q:ch):Value:=.agg #[.int .i64 q.1.1,.string ⟨q.1.2.toArray⟩,.int .i64 q.2]
theorem ae6(H:Array Obj)(own:Nat->Prop)(q:ch):au H own (mP q) (dt q):=by
 refine .agg _ _ rfl (by simp[D.bR]) fun n d hd=>?_
 match n,hd with
 |0,hd=>obtain rfl:=alo hd;exact .int _ _
 |1,hd=>obtain rfl:=alo hd;exact .str _
 |2,hd=>obtain rfl:=alo hd;exact .int _ _
theorem ae7{H:Array Obj}{own:Nat->Prop}{v:Value}{q:ch}(h:au H own v (dt q)):v=mP q:=by
 cases h with
 |agg xs _ hs _ hr =>
   have h0:=hr 0 (.int .i64 q.1.1) rfl;have h1:=hr 1 (.str q.1.2) rfl;have h2:=hr 2 (.int .i64 q.2) rfl;have hs:xs.size=3:=hs;obtain⟨l⟩:=xs
   match l,hs with
   |[u,v,x],_ =>
     simp at h0 h1 h2;cases h0;cases h1;cases h2;rfl
theorem ae8{kt tk:TypeId}{f0 f1:Field}{g0 g1:TypeId}(hu:P.underlying kt=some (.struct #[f0,f1]))(o0:f0.offset=0)(o1:f1.offset=2)(ht:f0.type=tk)(ag:P.uz kt=true)(n4:P.uz tk=true)(hk:(P.ti tk).k=.struct [(0,g0),(1,g1)])(bj:(P.ti tk).sz=2)(k0:(P.ti g0).k=.int .i64)(k1:(P.ti g1).k=.str)(k2:(P.ti f1.type).k=.int .i64)
  (a x:ch) (w:World) (d:Nat):(Op.equalIn (d+3) kt (mP a) (mP x)).run P w=.ok (decide (x=a)) w:=by
 obtain⟨fl,h1,h2,h3,h4,_⟩:=Po ag;rw[hu]at h1;cases h1;simp only[List.all_cons,List.all_nil,ak7,bne_iff_ne,ne_eq,and_true]at h3
 have e:(Op.equalIn (d+2+1) kt (mP a) (mP x)).run P w=(Op.eqFields (d+2) #[.int .i64 a.1.1,.string ⟨a.1.2.toArray⟩,.int .i64 a.2] #[.int .i64 x.1.1,.string ⟨x.1.2.toArray⟩,.int .i64 x.2] [f0,f1]).run P w:=by
  have:=run_equalIn_agg w (d+2) kt #[.int .i64 a.1.1,.string ⟨a.1.2.toArray⟩,.int .i64 a.2] #[.int .i64 x.1.1,.string ⟨x.1.2.toArray⟩,.int .i64 x.2] (by rw[h2];exact hu) h4;rw[h2]at this;exact this
 have p1:=Bg (P:=P) (t:=f0.type) (w:=w) (by rw[ht,hk];rfl) (by rw[ht,hk];rfl) #[.int .i64 a.1.1,.string ⟨a.1.2.toArray⟩,.int .i64 a.2] 0;have p2:=Bg (P:=P) (t:=f0.type) (w:=w) (by rw[ht,hk];rfl) (by rw[ht,hk];rfl) #[.int .i64 x.1.1,.string ⟨x.1.2.toArray⟩,.int .i64 x.2] 0;rw[ht,bj]at p1 p2;have q1:=RI n4 hk k0 k1 a.1 x.1 w d;have r1:=uk (P:=P) (t:=f1.type) (w:=w) (by rw[k2];rfl) (by rw[k2];rfl) #[.int .i64 a.1.1,.string ⟨a.1.2.toArray⟩,.int .i64 a.2] 2 (.int .i64 a.2) rfl;have r2:=uk (P:=P) (t:=f1.type) (w:=w) (by rw[k2];rfl) (by rw[k2];rfl) #[.int .i64 x.1.1,.string ⟨x.1.2.toArray⟩,.int .i64 x.2] 2 (.int .i64 x.2) rfl;have q2:=run_equalIn_int w (d+1) f1.type .i64 .i64 a.2 x.2 (rK k2)
 have e2:decide (x=a)=(decide (x.1=a.1)&&decide (a.2=x.2)):=by
  rw[amL];simp only[ak7,decide_eq_true_eq];exact⟨fun h=>by rw[h];exact⟨rfl,rfl⟩,fun h=>Prod.ext h.1 h.2.symm⟩
 show(Op.equalIn (d+2+1) kt (mP a) (mP x)).run P w=_;rw[e,e2];have KF:(part tk #[.int .i64 a.1.1,.string ⟨a.1.2.toArray⟩,.int .i64 a.2] 0).run P w=.ok (lU a.1) w:=p1;have p2':(part tk #[.int .i64 x.1.1,.string ⟨x.1.2.toArray⟩,.int .i64 x.2] 0).run P w=.ok (lU x.1) w:=p2;simp only[Op.eqFields,Sem.run_ite,h3.1,h3.2,ne_eq,not_false_eq_true,if_true,Sem.run_bind,ht,o0,o1,KF,p2',q1,Result.andThen_ok];by_cases hx:x.1=a.1
 .rw[hx]at r2;have KG:(Op.equalIn (d+2) f1.type (.int .i64 a.2) (.int .i64 x.2)).run P w=.ok (a.2 == x.2) w:=q2;simp only[hx,r1,r2,KG,decide_true,amA,als,if_false,Result.andThen_ok,ame,IV];by_cases hy:a.2=x.2
  .simp only[hy,decide_true,amA,als,if_false];rfl
  .simp only[hy,decide_false,amV,if_true];rfl
 .simp[hx]
theorem ae9{kt tk:TypeId}{f0 f1 g0 g1:Field}(hu:P.underlying kt=some (.struct #[f0,f1]))(o0:f0.offset=0)(o1:f1.offset=2)(ht:f0.type=tk)(ag:P.uz kt=true)(hu2:P.underlying tk=some (.struct #[g0,g1]))(b0:g0.offset=0)(b1:g1.offset=1)(n4:P.uz tk=true)(hk:(P.ti tk).k=.struct [(0,g0.type),(1,g1.type)])(bj:(P.ti tk).sz=2)
  (k0:(P.ti g0.type).k=.int .i64) (k1:(P.ti g1.type).k=.str) (k2:(P.ti f1.type).k=.int .i64):jS P kt dt mP :=
 RG hu dt mP (fun _=>⟨_,rfl⟩) ae7 ae6 (fun b a w=>by
  have p1:=Bg (P:=P) (t:=f0.type) (w:=w) (by rw[ht,hk];rfl) (by rw[ht,hk];rfl) #[.int .i64 a.1.1,.string ⟨a.1.2.toArray⟩,.int .i64 a.2] 0;rw[ht,bj]at p1;have KF:(part tk #[.int .i64 a.1.1,.string ⟨a.1.2.toArray⟩,.int .i64 a.2] 0).run P w=.ok (lU a.1) w:=p1;have q1:=RJ hu2 b0 b1 k0 k1 b a.1 w 9997;have r1:=uk (P:=P) (t:=f1.type) (w:=w) (by rw[k2];rfl) (by rw[k2];rfl) #[.int .i64 a.1.1,.string ⟨a.1.2.toArray⟩,.int .i64 a.2] 2 (.int .i64 a.2) rfl;have q2:=MapKept.run_checkKey (P:=P) (w:=w) (kt:=f1.type) (k:=.int .i64 a.2) (rK k2) (show IntKind.i64=.i64 from rfl) b 9998;have q1':(Instr.checkKey b 9999 tk (lU a.1)).run P w=.ok () w:=q1;have KG:(Instr.checkKey b 9999 f1.type (.int .i64 a.2)).run P w=.ok () w:=q2
  have:(Instr.checkKey b (9999+1) kt (mP a)).run P w=.ok () w:=by
   unfold Instr.checkKey mP;simp only[Sem.run_bind,run_underlying hu,Result.andThen_ok];rw[<-Array.forIn_toList];simp only[List.forIn_cons,List.forIn_nil,o0,o1,ht];by_cases n0:f0.name = "_" <;> by_cases n1:f1.name = "_" <;> simp[n0,n1,KF,q1',r1,KG]
  exact this) (fun a=>by
  have:Instr.sameBits (9998+2) (mP a) (mP a)=true:=by simp[Instr.sameBits,mP,MapKept.bytes_beq]
  exact this) fun a x w=>ae8 hu o0 o1 ht ag n4 hk bj k0 k1 k2 a x w 9997
end
section
variable {P:Program}{cf:Cf}{s:St}{κ:Type}[DecidableEq κ]{ke:κ->D}{kv:κ->Value}
theorem afa{xt kt et:Nat}{x y:Operand}{co:Bool}{d:Option Nat}{ty:TypeId}{ps:String}{af:Array Edge}(ay:Nat)(bs:List Nat)(ms:List (κ×D))(key:κ)(z:D)(hm:(P.ti xt).k=.map kt et)(K:jS P kt ke kv)(hz:rT P et=some z)
  (hx:ev s x=.d (fo ay bs (aM ke ms))) (hy:ev s y=.d (ke key)) (hd:∀t∈d,t<cf.n) :
  QE P cf { dst:=d,op:=.lookup xt x y co,type:=ty,pos:=ps,after:=af,guard:=none } s (sU z co (cJ ms key)) ([],bT):=by
 refine CY (by simp) hd fun B s' β a w hh he h=>?_;have hv:=h.ev x;rw[he x (by simp[Op.operands]),hx]at hv;have hv:=hv.cA;have fL:=h.ev y;rw[he y (by simp[Op.operands]),hy]at fL;have fL:=K.val fL.cA;generalize hval:a.eval x=v at hv;unfold fo at hv
 cases hv with
 |lG b _ aE _ _ _ hh bY bj iD ik wm =>
 have fF:∀(i:Nat) (q:D×D),(aM ke ms)[i]?=some q->∃en:MapEntry,aE[i]?=some en∧au w.heap (s'.own B.A β) en.key q.1∧au w.heap (s'.own B.A β) en.val q.2:=by
  intro i q hi;have hlt:i<(aM ke ms).length:=(akY.1 hi).1;have sV:i<aE.size:=by have:=bj.1;simp at this;omega
  refine⟨aE[i],by simp[sV],?_,?_⟩
  .have:=ik i q.1 (by rw[ala,hi];rfl);simpa[akZ,sV]using this
  .have:=wm i q.2 (by rw[ala,hi];rfl);simpa[akZ,sV]using this
 obtain⟨zv,xG,lM⟩:=EY hz;have lM:=lM w.heap (s'.own B.A β);have jT:=BV K (by have:=bj.1;simpa using this) fF;have hf:=K.find key aE.toList _ w jT
 cases hi:eT (ms.map (·.1)) key with
 |none =>
   obtain⟨h1,_⟩:=BU (d:=z) hi;rw[hi]at hf;refine⟨if co then .tuple #[zv,.bool false]else zv,?_,?_⟩
   .simp only[execOp,hval,fL,Instr.lookup,Sem.run_bind,run_underlying (mg hm),Result.andThen_ok,MapKept.run_getObj_map hh,K.fc,Sem.run_pure];rw[hf];simp[xG]
   .rw[h1];cases co
    .exact .d _ _ lM
    .refine .az _ _ rfl fun i y hi=>?_
     match i,hi with
     |0,hi=>obtain rfl:=alo hi;exact .d _ _ lM
     |1,hi=>obtain rfl:=alo hi;exact .d _ _ (.bool _)
 |some i =>
   obtain⟨e,h0,h1,_⟩:=zl (d:=z) hi;rw[hi]at hf;obtain⟨en,df,_,cd⟩:=fF i (ke key,e) (by simp[aM,h0]);have CC:aE.toList[i]?=some en:=by simpa using df
   refine⟨if co then .tuple #[en.val,.bool true]else en.val,?_,?_⟩
   .simp only[execOp,hval,fL,Instr.lookup,Sem.run_bind,run_underlying (mg hm),Result.andThen_ok,MapKept.run_getObj_map hh,K.fc,Sem.run_pure];rw[hf];simp[df]
   .rw[h1];cases co
    .exact .d _ _ cd
    .refine .az _ _ rfl fun i y hi=>?_
     match i,hi with
     |0,hi=>obtain rfl:=alo hi;exact .d _ _ cd
     |1,hi=>obtain rfl:=alo hi;exact .d _ _ (.bool _)
end
end Go.Ab

namespace Go.Ab
def AV.eW(g:Name->Option (W×List D)):AV->AV
 |.vw q o l=>match g q with
   |some x=>.d (.sl x.1 ((x.2.drop o).take l))
   |none=>.vw q o l
 |x=>x
def Ob.eW(g:Name->Option (W×List D)):Ob->Ob
 |.ez w xs=>.ez w (xs.map (AV.eW g))
 |.mapA ay bs es=>.mapA ay bs (es.map fun x=>(x.1,x.2.eW g))
 |o=>o
def St.eW(s:St)(g:Name->Option (W×List D)):St:={ fr:=s.fr,hp:=fun q=>match g q with | some _=>none | none=>(s.hp q).map (Ob.eW g),used:=s.used }
theorem Ob.afb(g:Name->Option (W×List D))(o:Ob):o.like (o.eW g):=by
 cases o<;>simp[Ob.eW,Ob.like]
section
variable {B:Base}{β:Name->Option a8}{s:St}{tm:Array Value}{w:World}
theorem aj.eW(h:aj B β s tm w)(g:Name->Option (W×List D))(hg:∀q x,g q=some x->s.hp q=some (.arr x.1 x.2)):aj B β (s.eW g) tm w:=by
 have dL:∀q o',(s.eW g).hp q=some o'->g q=none∧∃o,s.hp q=some o∧o'=o.eW g:=by
  intro q o' ho;simp only[St.eW]at ho;split at ho
  .cases ho
  .rename_i e;obtain⟨o,h1,h2⟩:=ak8.1 ho;exact⟨e,o,h1,h2.symm⟩
 have aB:∀q,(s.eW g).hp q≠none->s.hp q≠none∧g q=none:=by
  intro q hq
  cases ho:(s.eW g).hp q with
  |none=>exact absurd ho hq
  |some o' =>
    obtain⟨e,o,h1,_⟩:=dL q o' ho;exact⟨by rw[h1];simp,e⟩
 have hr:∀v d',au w.heap (s.own B.A β) v d'->au w.heap ((s.eW g).own B.A β) v d':=fun v d' hd=>hd.mono (fun _ _ _=>rfl) (by
  rintro b _ (hA|⟨q,k,hq,hk,e⟩)
  .exact .inl hA
  .exact .inr ⟨q,k,(aB q hq).1,hk,e⟩)
 have ag:∀q,nm s.used q->iQ s.hp (s.eW g).hp β β q:=fun q _ o' aV=>by
  obtain⟨_,o,h1,rfl⟩:=dL q o' aV;exact⟨o,h1,Ob.afb g o,rfl⟩
 have bY:∀p x,g p=some x->∀k,β p=some k->¬(s.eW g).own B.A β k.b:=by
  intro p x RL k hk eH;have hp:=hg p x RL;obtain hA|⟨q,k',hq,aC,e⟩:=eH
  .exact(h.blocks p k (by rw[hp];simp) hk).2.1 hA
  .have e2:=h.inj q p k' k (aB q hq).1 (by rw[hp];simp) aC hk e;have:=(aB q hq).2;rw[e2,RL]at this;cases this
 have x6:∀{v:Value} {x:AV},VR w.heap (s.own B.A β) s.used s.hp β v x->VR w.heap ((s.eW g).own B.A β) s.used (s.eW g).hp β v x:=fun hv=>hv.mono hr (fun _ h=>h) ag
 have nG:∀{v:Value} {x:AV},VR w.heap (s.own B.A β) s.used s.hp β v x->VR w.heap ((s.eW g).own B.A β) s.used (s.eW g).hp β v (x.eW g):=by
  intro v x hv
  cases x with
  |vw q o l =>
    cases Dc:g q with
    |none=>simp only[AV.eW,Dc];exact x6 hv
    |some y =>
      have:=VR.dq (p:=q) (w:=y.1) (xs:=y.2) hr ag (hg q y Dc) (h.aJ q _ (hg q y Dc)).2 (bY q y Dc) hv;simpa[AV.eW,Dc,AV.dq]using this
  |_=>exact x6 hv
 refine { bG:=h.bG,io:=h.io,size:=h.size,frame:=h.frame,slots:=fun i=>x6 (h.slots i),aJ:=fun q o' aV=>?_,blocks:=fun q k hq hk=>h.blocks q k (aB q hq).1 hk,inj:=fun q q' k k' hq bX=>h.inj q q' k k' (aB q hq).1 (aB q' bX).1,us:=h.us,stay:=h.stay };obtain⟨_,o,h1,rfl⟩:=dL q o' aV;obtain⟨g1,g2⟩:=h.aJ q o h1;refine⟨g1,?_⟩
 cases o with
 |ez w1 xs =>
   obtain⟨a1,rfl⟩|⟨k,c,e,a1,a2,a3,a4,a5,a6⟩:=g2
   .exact .inl ⟨a1,rfl⟩
   .refine .inr ⟨k,c,e,a1,a2,a3,by simpa using a4,by simpa using a5,fun j x hj=>?_⟩;rw[ala,ak8]at hj;obtain⟨y,hy,rfl⟩:=hj;exact nG (a6 j y hy)
 |mapA ay bs es =>
   obtain⟨k,aE,a1,a2,a3,a4⟩:=g2;refine⟨k,aE,a1,a2,by simpa using a3,fun j x hj=>?_⟩;rw[ala,ak8]at hj;obtain⟨y,hy,rfl⟩:=hj;obtain⟨en,b1,b2,b3⟩:=a4 j y hy;exact⟨en,b1,hr _ _ b2,nG b3⟩
 |_=>exact g2.mono hr (fun _ h=>h) ag rfl fun _ _=>rfl
theorem aj.KH(h:aj B β s tm w){p:Name}{ty:Option Nat}{cs cs':List AV}(hp:s.hp p=some (.bt ty cs))(hl:cs'.length=cs.length)
  (hv:∀k c e,β p=some k->w.heap[k.b]?=some (.cells c e (0,0))->∀(j:Nat) x x',cs[j]?=some x->cs'[j]?=some x'->VR w.heap (s.own B.A β) s.used s.hp β (c.getD j undef) x->VR w.heap (s.own B.A β) s.used s.hp β (c.getD j undef) x'):aj B β (s.set p (some (.bt ty cs'))) tm w:=by
 have gl:∀q,q≠p->(s.set p (some (.bt ty cs'))).hp q=s.hp q:=fun q h1=>by simp[St.set,aA,h1]
 have dJ:(s.set p (some (.bt ty cs'))).hp p=some (.bt ty cs'):=by simp[St.set,aA]
 have rX:∀q,(s.set p (some (.bt ty cs'))).hp q≠none↔s.hp q≠none:=fun q=>by
  by_cases e:q=p
  .subst e;rw[dJ,hp];simp
  .rw[gl q e]
 have eH:(s.set p (some (.bt ty cs'))).own B.A β=s.own B.A β:=by
  funext b;refine propext (or_congr_right ⟨?_,?_⟩)
  .rintro⟨q,l,hq,hl,rfl⟩;exact⟨q,l,(rX q).1 hq,hl,rfl⟩
  .rintro⟨q,l,hq,hl,rfl⟩;exact⟨q,l,(rX q).2 hq,hl,rfl⟩
 have ag:∀q,nm s.used q->iQ s.hp (s.set p (some (.bt ty cs'))).hp β β q:=by
  intro q _ o ho;by_cases e:q=p
  .subst e;rw[dJ]at ho;cases ho;exact⟨_,hp,by simp[Ob.like],rfl⟩
  .exact⟨o,by rwa [gl q e]at ho,Ob.k4 _,rfl⟩
 refine { bG:=h.bG,io:=h.io,size:=h.size,frame:=h.frame,slots:=fun i=>?_,aJ:=?_,blocks:=fun q l hq hl=>h.blocks q l ((rX q).1 hq) hl,inj:=fun q q' l l' hq bX=>h.inj q q' l l' ((rX q).1 hq) ((rX q').1 bX),us:=h.us,stay:=h.stay }
 .rw[eH];exact(h.slots i).mono (fun _ _ h=>h) (fun _ h=>h) ag
 .intro q o ho;rw[eH];by_cases e:q=p
  .subst e;rw[dJ]at ho;cases ho;obtain⟨h1,k,c,e,g1,g2,g3,g4,g5,g6,g7⟩:=h.aJ q _ hp;refine⟨h1,k,c,e,g1,g2,g3,g4,by rw[g5,hl],g6,fun j x' aR=>?_⟩;have hlt:j<cs.length:=by rw[<-hl];exact(akY.1 aR).1
   exact(hv k c _ g1 g3 j _ x' (ak0 hlt) aR (g7 j _ (ak0 hlt))).mono (fun _ _ h=>h) (fun _ h=>h) ag
  .rw[gl q e]at ho;obtain⟨h1,h2⟩:=h.aJ q o ho;exact⟨h1,h2.mono (fun _ _ h=>h) (fun _ h=>h) ag rfl fun _ _=>rfl⟩
theorem aj.afc(h:aj B β s tm w){t:Nat}(ht:t∉s.used){q p:Name}{ty:Option Nat}{cs:List AV}{j n:Nat}{ds:List D}(hq:s.hp q=some (.bt ty cs))(hj:cs[j]?=some (.va p 0 n))(hp:s.hp p=some (.eA (ds.map .d)))
  (hn:n=ds.length) (h0:0<n) (dv:∀x∈ds,x.bR=true):∃β',aj B β' (((s.set p none).add t (.arr none ds)).set q (some (.bt ty (cs.set j (.vw [t] 0 n))))) tm w:=by
 obtain⟨Dd,kq,cq,eq,De,RM,kn,RN,RO,RP,Df⟩:=h.aJ q _ hq;have sX:=Df j _ hj;obtain⟨vj,wI⟩:∃vj,cq.getD j undef=vj:=⟨_,rfl⟩
 rw[wI]at sX
 obtain⟨k,cap,hk,hval,eY,hz⟩:∃k cap,β p=some k∧vj=.slice (some ⟨k.b,k.o,none⟩) n cap∧n<=cap∧k.o+cap<=k.z:=by
  cases sX with
  |va _ _ _ _ _ _ hx =>
    obtain⟨hle,a,cap,rfl,KI⟩:=FR hx hp;obtain⟨h1,_⟩|⟨k,hk,rfl,eY,hz⟩:=KI
    .omega
    .exact⟨k,cap,hk,rfl,eY,by omega⟩
 have Dg:q≠p:=by
  rintro rfl;rw[hq]at hp;cases hp
 have wJ:q≠[t]:=iU Dd ht
 have h1:=h.FQ ht hp hk (.arr none ds) k.o (w':=w) rfl rfl (fun _ _=>rfl) (fun β' hβ hv=>by
  rcases(h.aJ p _ hp).2 with⟨a1,_⟩|⟨k',c,e,a1,a2,a3,a4,a5,a6⟩
  .rw[hk]at a1;cases a1
  .rw[hk]at a1;cases a1;refine .inr ⟨_,c,e,hβ,a2,a3,by simpa[wd]using a4,fun x hx=>dv x hx,fun i x m y hi hm=>?_⟩;have hx:=dv x (alp hi)
   have zm:m=0∧y=x:=by
    cases x<;>simp[D.bR]at hx<;>(cases m<;>simp[D.cells]at hm<;>simp[hm])
   obtain⟨rfl,rfl⟩:=zm;have:=(hv _ _ (a6 i (.d y) (by rw[ala,hi];rfl))).cA
   simpa[wd]using this)
 refine⟨_,h1.KH (p:=q) (cs:=cs) (by simpa[St.add,St.set,aA,wJ,Dg]using hq) (by simp) fun k2 c2 e2 eZ fD i x x' hx aR hv=>?_⟩;have eQ:β q=some k2:=by simpa[aA,wJ]using eZ
 rw[De]at eQ;cases eQ;rw[kn]at fD;cases fD;by_cases e:j=i
 .subst e;rw[alA (akY.1 hj).1]at aR;cases aR;rw[wI,hval];refine .vw _ _ _ _ ⟨t,[],rfl,alb⟩ rfl fun ty' wf xs nM=>?_;have e3:(some (Ob.arr none ds))=some (.bB ty' wf xs):=by rw[<-nM];simp[St.add,St.set,aA]
  cases e3;refine⟨by omega,_,cap,rfl,.inr ⟨_,by simp[aA];rfl,by simp[wd],eY,by simpa[wd]using hz⟩⟩
 .rw[alu e,hx]at aR;cases aR;exact hv
theorem aj.afd(h:aj B β s tm w){t:Nat}(ht:t∉s.used){q p:Name}{ty:Option Nat}{cs:List AV}{j ay:Nat}{bs:List Nat}{es:List (D×D)}(hq:s.hp q=some (.bt ty cs))(hj:cs[j]?=some (.ma p))(hp:s.hp p=some (.mapA ay bs (es.map fun x=>(x.1,.d x.2)))) :
  ∃β',aj B β' (((s.set p none).add t (.map es)).set q (some (.bt ty (cs.set j (.mp [t]))))) tm w:=by
 obtain⟨Dd,kq,cq,eq,De,RM,kn,RN,RO,RP,Df⟩:=h.aJ q _ hq;have sX:=Df j _ hj;obtain⟨vj,wI⟩:∃vj,cq.getD j undef=vj:=⟨_,rfl⟩
 rw[wI]at sX
 obtain⟨k,hk,hval⟩:∃k,β p=some k∧vj=.map (some k.b):=by
  cases sX with
  |ma _ _ _ _ hx=>exact hx _ _ _ hp
 have Dg:q≠p:=by
  rintro rfl;rw[hq]at hp;cases hp
 have wJ:q≠[t]:=iU Dd ht
 have h1:=h.FQ ht hp hk (.map es) k.o (w':=w) rfl rfl (fun _ _=>rfl) (fun β' hβ hv=>by
  obtain⟨k',aE,a1,a2,⟨a3,a4,a5⟩,a6⟩:=(h.aJ p _ hp).2;rw[hk]at a1;cases a1;refine⟨_,aE,ay,hβ,a2,⟨by simpa using a3,a4⟩,fun i x hi=>?_⟩;obtain⟨en,b1,b2,b3⟩:=a6 i (x.1,.d x.2) (by rw[ala,hi];rfl)
  exact⟨en,b1,(hv _ _ (.d _ _ b2)).cA,(hv _ _ b3).cA⟩)
 refine⟨_,h1.KH (p:=q) (cs:=cs) (by simpa[St.add,St.set,aA,wJ,Dg]using hq) (by simp) fun k2 c2 e2 eZ fD i x x' hx aR hv=>?_⟩;have eQ:β q=some k2:=by simpa[aA,wJ]using eZ
 rw[De]at eQ;cases eQ;rw[kn]at fD;cases fD;by_cases e:j=i
 .subst e;rw[alA (akY.1 hj).1]at aR;cases aR;rw[wI,hval];refine .mp _ _ ⟨t,[],rfl,alb⟩ rfl fun kN nM=>?_;exact⟨_,by simp[aA],rfl⟩
 .rw[alu e,hx]at aR;cases aR;exact hv
end
section
variable {P:Program}{cf:Cf}{s:St}
theorem afe{t0 d:Nat}{ty:TypeId}{ps:String}{af:Array Edge}(hd:d<cf.n∧d∉s.used) :
  QE P cf { dst:=some d,op:=.makeMap t0 none,type:=ty,pos:=ps,after:=af,guard:=none } s (.mp [d]) ([],⟨[([d],some (.map []))],[d]⟩):=by
 intro s' hu _ _ B hB ds β a w ai hs Q'
 have aF:(execOp a.eval { dst:=some d,op:=.makeMap t0 none,type:=ty,pos:=ps,after:=af,guard:=none }).run P w=.ok (.value (.map (some w.heap.size))) (w.alloc (.map #[] 0)):=by
  simp only[execOp,Instr.makeMap];rfl
 have bh:=(hs.alloc (t:=d) (hu d (by simp)) (.map #[] 0) (.map []) 0 (fun β' hβ _=>⟨_,#[],0,hβ,by show(w.heap.push _)[w.heap.size]?=_;rw[am6],⟨rfl,by simp[pK]⟩,fun i x hi=>by simp at hi⟩)).1;refine fR (by simp) aF (.inl rfl) ⟨ai,aA β [d] (some ⟨w.heap.size,0,0⟩),?_⟩;have e:s'.go (some d) (.mp [d]) ⟨[([d],some (.map []))],[d]⟩=(s'.add d (.map [])).put d (.mp [d]):=by unfold St.go;rw[xI];rfl
 rw[e];exact bh.put (by rw[hB.1];exact hd.1) (.mp _ _ ⟨d,[],rfl,alb⟩ rfl fun _ _=>⟨_,by simp[aA];rfl,rfl⟩)
end
theorem bZ.aff{P:Program}{G:List (Nat×Obj)}{f:FuncId}{args:List AV}{hp:List (Name×Ob)}{u:List Nat}{Q Q':AV->List (Name×Ob)->Prop}(h:bZ P G f args hp u Q)
  (hQ:∀r ae,Q r ae->∀(B:Base) β u' tm w,B.U0=u->aj B β (mk [(0,r)] ae u') tm w->∃r2 mD u2 β2,Q' r2 mD∧aj B β2 (mk [(0,r2)] mD u2) tm w):bZ P G f args hp u Q':=by
 refine⟨h.1,fun B β vs W h1 h2 h3 h4 h5=>?_⟩;refine(h.2 B β vs W h1 h2 h3 h4 h5).mono ?_;rintro e w' ⟨v,r,ae,u',β',he,hq,hs⟩;obtain⟨r2,mD,u2,β2,q2,s2⟩:=hQ r ae hq { B with n:=1 } β' u' _ _ h3 hs;exact⟨v,r2,mD,u2,β2,he,q2,s2⟩
end Go.Ab

namespace Go.Ab
def mQ(zs:List D)(off len:Nat)(z:D):List D:=zs.take off++(List.replicate len z++zs.drop (off+len))
theorem KJ{zs:List D}{off len:Nat}{z:D}(h:off+len<=zs.length):(mQ zs off len z).length=zs.length:=by
 unfold mQ;simp only[ak4,alq,List.length_drop,amc];omega
theorem afg{zs:List D}{off len:Nat}{z:D}(h:off+len<=zs.length)(i:Nat):(mQ zs off len z)[i]?=if i<off then zs[i]? else if i<off+len then some z else zs[i]?:=by
 unfold mQ;by_cases c1:i<off
 .rw[if_pos c1,alj (by simp;omega),amR c1]
 rw[if_neg c1,aln (by simp;omega),alq,amZ (by omega)];by_cases c2:i<off+len
 .rw[if_pos c2,alj (by simp;omega),amv,if_pos (by omega)]
 .rw[if_neg c2,aln (by simp;omega),amc,alY];congr 1;omega
theorem afh{c1:Array Value}{q m:Nat}{u:Value}(hq:q+m<=c1.size)(i:Nat):(c1.toList.take q++List.replicate m u++c1.toList.drop (q+m)).toArray.getD i undef=if i<q then c1.getD i undef else if i<q+m then u else c1.getD i undef:=by
 rw[akZ,amm];by_cases h1:i<q
 .rw[if_pos h1,alK,alj (by simp;omega),amR h1];simp[akZ]
 rw[if_neg h1];by_cases h2:i<q+m
 .rw[if_pos h2,alj (by rw[ak4,amc,alq];simp;omega),aln (by simp;omega),alq,Array.length_toList,amZ (by omega),amv,if_pos (by omega)];rfl
 .rw[if_neg h2,aln (by rw[ak4,amc,alq];simp;omega),ak4,amc,alq,Array.length_toList,amZ (by omega),alY];rw[show q+m+(i-(q+m))=i by omega];simp[akZ]
section
variable {P:Program}{cf:Cf}{Q:Exit->St->Prop}{s:St}{k:List It}
theorem afi(E:bu P cf Q){x:Operand}{t e:Nat}{ty:TypeId}{pos:String}{af:Array Edge}{p:Name}{off len:Nat}{zs:List D}(z:D)(hk:(P.ti t).k=.slice e)(Ky:(P.ti e).z=some [z])
  (hx:ev s x=.vw p off len) (hp:s.hp p=some (.arr none zs)) (h:E.run k (s.set p (some (.arr none (mQ zs off len z))))) :
  E.bc { dst:=none,op:=.call { callee:=.builtin .clear,args:=#[x],argTypes:=#[t] },type:=ty,pos:=pos,after:=af,guard:=none } s k .no:=by
 rw[ie];rw[E.run_eq]at h;intro B hB ds β a w ai hs Q';have x4:=k5 hk;obtain⟨zv,wE,hm,it,hi,ny,jF,jo⟩:=rP Ky;have uH:=hs.ev x;rw[hx]at uH;generalize xW:a.eval x=vx at uH
 cases uH with
 |vw _ _ _ _ hn bf aR =>
 obtain⟨hle,a0,cap,rfl,afj⟩:=aR _ _ _ hp
 have RQ:∀v w',(Builtin.clear_ #[t] ty #[.slice a0 len cap]).run P w=.ok v w'->(execOp a.eval { dst:=none,op:=.call { callee:=.builtin .clear,args:=#[x],argTypes:=#[t] },type:=ty,pos:=pos,after:=af,guard:=none }).run P w=.ok (.value v) w':=by
  intro v w' hr;simp[execOp,resolve,invoke,builtin,xW,hr,Result.andThen]
 by_cases rN:len=0
 .subst rN
  have hr:(Builtin.clear_ #[t] ty #[.slice a0 0 cap]).run P w=.ok (.tuple #[]) w:=by
   cases a0<;>simp[Builtin.clear_,run_underlying x4]
  have mq:mQ zs off 0 z=zs:=by simp[mQ]
  have J2:s.set p (some (.arr none (mQ zs off 0 z)))=s:=by
   rw[mq];cases s;simp only[St.set,St.mk.injEq,true_and,and_true];funext q;by_cases e:q=p
   .subst e;simp[aA];exact hp.symm
   .simp[aA,e]
  rw[J2]at h;exact fR (v:=.tuple #[]) (by simp) (RQ _ _ hr) (.inl rfl) ⟨ai,_,β,eB h,hs⟩
 .rcases afj with⟨pZ,_⟩|⟨k0,k6,rfl,eY,uN⟩
  .exact absurd pZ rN
  rcases(hs.aJ p _ hp).2 with⟨hq,_⟩|⟨k1,c1,e1,nw,pO,qF,pZ,jn,Dh⟩
  .rw[k6]at hq;cases hq
  rw[k6]at nw;cases nw;simp only[wd,ann]at uN pZ;obtain⟨m1,m2,m3,m4⟩:=sL (H:=w.heap) (own:=s.own B.A β) hm;have mq:zv.cells.size=1:=by simpa using m1.symm
  obtain⟨u,hu,cd⟩:=m4 0 z rfl;have ml:z.bR=true:=m2 z (by simp);have F4:zv.cells[0]?=some u:=by simpa using hu
  have vE:u.oneCell'=true:=cd.yR ml
  have hze:(Builtin.zeroCells zv.cells len).toList=List.replicate len u:=by
   have hg:zv.cells=#[u]:=by
    generalize zv.cells=cc at mq F4;obtain⟨l⟩:=cc
    match l,mq,F4 with
    |[y],_,h=>simp at h;rw[h]
   rw[hg];apply al9
   .simp[Builtin.zeroCells]
   .intro i h1 h2;simp[Builtin.zeroCells,Nat.mod_one]
  have ag:=run_storeCells_at P k0.b (k0.o+off*wd none) e1 (List.replicate len u) 0 c1 w pO (by simp[wd];omega) (fun v hv=>by rw[aml hv];exact vE);simp only[Nat.add_zero,amc]at ag
  have hr:(Builtin.clear_ #[t] ty #[.slice (some ⟨k0.b,k0.o+off*wd none,none⟩) len cap]).run P w=.ok (.tuple #[]) (w.setRow k0.b (c1.toList.take (k0.o+off*wd none)++List.replicate len u++c1.toList.drop (k0.o+off*wd none+len)).toArray):=by
   obtain⟨n,rfl⟩:∃n,len=n+1:=⟨len-1,by omega⟩
   simp[Builtin.clear_,run_underlying x4,wE,hze,ag]
  have akI:off*wd none=off:=by simp[wd]
  obtain⟨bh,_⟩:=hs.modify (p:=p) (ob':=.arr none (mQ zs off len z)) hp ⟨⟨rfl,rfl⟩,by rw[KJ hle];exact ali _⟩ (w':=w.setRow k0.b (c1.toList.take (k0.o+off*wd none)++List.replicate len u++c1.toList.drop (k0.o+off*wd none+len)).toArray) rfl (by simp) (fun b hb=>setRow_other w k0.b b _ (hb k0 k6))
   (fun _ Ft=>.inr ⟨k0,_,e1,k6,setRow_heap w k0.b c1 _ e1 (0,0) pO,by simp;omega,by rw[KJ hle];simpa[wd]using pZ,fun x hx=>(by
    unfold mQ at hx;rcases ak1.1 hx with hx|hx
    .exact jn _ (alL hx)
    rcases ak1.1 hx with hx|hx
    .rw[aml hx];exact ml
    .exact jn _ (al5 hx)),fun i x j d hi hj=>by
    have dk:x.bR=true:=by
     unfold mQ at hi;have hx:=alp hi;rcases ak1.1 hx with hx|hx
     .exact jn _ (alL hx)
     rcases ak1.1 hx with hx|hx
     .rw[aml hx];exact ml
     .exact jn _ (al5 hx)
    have zm:j=0∧d=x:=by
     cases x<;>simp[D.bR]at dk<;>(cases j<;>simp[D.cells]at hj<;>simp[hj])
    obtain⟨rfl,rfl⟩:=zm;rw[show k0.o+i*wd none+0=k0.o+i by simp[wd],afh (by omega)];rw[afg hle]at hi
    have old:∀x,zs[i]?=some x->x.bR=true->au _ _ (c1.getD (k0.o+i) undef) x:=fun x hz dk=>by
     have:=Dh i x 0 x hz (by cases x<;>simp[D.bR]at dk<;>rfl);rw[show k0.o+i*wd none+0=k0.o+i by simp[wd]]at this;exact Ft _ _ this
    by_cases g1:i<off
    .rw[if_pos g1]at hi;rw[if_pos (by omega)];exact old _ hi dk
    rw[if_neg g1]at hi;rw[if_neg (by omega)];by_cases g2:i<off+len
    .rw[if_pos g2]at hi;rw[if_pos (by omega)];cases hi;exact Ft _ _ cd
    .rw[if_neg g2]at hi;rw[if_neg (by omega)]
     exact old _ hi dk⟩)
  exact fR (v:=.tuple #[]) (by simp) (RQ _ _ hr) (.inl rfl) ⟨ai,_,β,eB h,bh⟩
end
end Go.Ab

namespace Go.Ab
inductive Lz where
 |A (p:Name) (w:W) (xs:List D)
 |B (p:Name) (d:D)
 |U (p:Name) (ds:List D)
def AV.one:AV->Bool
 |.d x=>x.bR
 |.vw _ _ _=>true
 |.bx _ _=>true
 |.el _ _ _=>true
 |.mp _=>true
 |.it _=>true
 |.va _ _ _=>true
 |.ea _ _=>true
 |.ma _=>true
 |_=>false
def zV:List AV->List D->Prop
 |[],[]=>True
 |x::r,d::s=>(x=.d d∨(d=.unk∧x.one=true))∧zV r s
 |_,_=>False
theorem RR:∀{cs:List AV} {ds:List D},zV cs ds->ds.length=cs.length
 |[],[],_=>rfl
 |_::_,_::_,h=>by simp[RR h.2]
 |[],_::_,h=>h.elim
 |_::_,[],h=>h.elim
theorem RS:∀{cs:List AV} {ds:List D},zV cs ds->∀(i:Nat) x d,cs[i]?=some x->ds[i]?=some d->x=.d d∨(d=.unk∧x.one=true)
 |[],[],_,i,x,d,h,_=>by simp at h
 |_::_,_::_,h,0,x,d,h1,h2=>by simp at h1 h2;subst h1;subst h2;exact h.1
 |_::_,_::_,h,i+1,x,d,h1,h2=>RS h.2 i x d (by simpa using h1) (by simpa using h2)
 |[],_::_,h,_,_,_,_,_=>h.elim
 |_::_,[],h,_,_,_,_,_=>h.elim
def St.lz(s:St):Lz->St
 |.A p w xs=>s.gR p w xs
 |.B p d=>s.cB p d
 |.U p ds=>s.set p (some (.box (ds.map .d)))
def Lz.ok(s:St):Lz->Prop
 |.A p w xs=>s.hp p=some (.arr w xs)
 |.B p d=>s.hp p=some (.box (d.cells.map .d))∧(d.cells.all D.bR)=true
 |.U p ds=>∃cs,s.hp p=some (.box cs)∧zV cs ds
def St.mS(s:St):List Lz->St
 |[]=>s
 |q::L=>(s.lz q).mS L
def sd(s:St):List Lz->Prop
 |[]=>True
 |q::L=>q.ok s∧sd (s.lz q) L
theorem afk(s:St):s.mS []=s:=rfl
theorem afl(s:St)(p:Name)(w:W)(xs:List D)(L:List Lz):s.mS (.A p w xs::L)=(s.gR p w xs).mS L:=rfl
theorem afm(s:St)(p:Name)(d:D)(L:List Lz):s.mS (.B p d::L)=(s.cB p d).mS L:=rfl
theorem afn(s:St)(p:Name)(ds:List D)(L:List Lz):s.mS (.U p ds::L)=(s.set p (some (.box (ds.map .d)))).mS L:=rfl
theorem afo(s:St):sd s []=True:=rfl
theorem RT(s:St)(p:Name)(w:W)(xs:List D)(L:List Lz):sd s (.A p w xs::L)=(s.hp p=some (.arr w xs)∧sd (s.gR p w xs) L):=rfl
theorem RU(s:St)(p:Name)(d:D)(L:List Lz):sd s (.B p d::L)=((s.hp p=some (.box (d.cells.map .d))∧(d.cells.all D.bR)=true)∧sd (s.cB p d) L):=rfl
theorem RW(s:St)(p:Name)(ds:List D)(L:List Lz):sd s (.U p ds::L)=((∃cs,s.hp p=some (.box cs)∧zV cs ds)∧sd (s.set p (some (.box (ds.map .d)))) L):=rfl
theorem afp{H:Array Obj}{own:Nat->Prop}{used:List Nat}{hp:Name->Option Ob}{β:Name->Option a8}{v:Value}{x:AV}(h:VR H own used hp β v x)(h1:x.one=true):VR H own used hp β v (.d .unk):=by
 cases h with
 |d _ _ hd=>exact .d _ _ (.unk _ (hd.yR h1))
 |vw _ _ _ _ _ ho _=>exact .d _ _ (.unk _ ho)
 |bx _ _ _ _ ho _=>exact .d _ _ (.unk _ ho)
 |el _ _ _ _ _ ho _=>exact .d _ _ (.unk _ ho)
 |mp _ _ _ ho _=>exact .d _ _ (.unk _ ho)
 |its _ _ _ ho _ _=>exact .d _ _ (.unk _ ho)
 |va _ _ _ _ _ ho _=>exact .d _ _ (.unk _ ho)
 |ea _ _ _ _ ho _=>exact .d _ _ (.unk _ ho)
 |ma _ _ _ ho _=>exact .d _ _ (.unk _ ho)
 |un=>cases h1
 |agg=>cases h1
 |az=>cases h1
 |aH=>cases h1
theorem F7{B:Base}{β:Name->Option a8}{tm:Array Value}{w:World}:∀(L:List Lz) (s:St),aj B β s tm w->sd s L->aj B β (s.mS L) tm w
 |[],_,h,_=>h
 |.A p wf xs::L,s,h,hl=>by
   rw[RT]at hl;exact F7 L _ (h.gR hl.1) hl.2
 |.B p d::L,s,h,hl=>by
   rw[RU]at hl;exact F7 L _ (h.cB hl.1.1 fun x hx=>by simpa using alr.1 hl.1.2 x hx) hl.2
 |.U p ds::L,s,h,hl=>by
   rw[RW]at hl;obtain⟨⟨cs,hp,hw⟩,h2⟩:=hl;refine F7 L _ (h.Cp hp (by simp[RR hw]) fun v j x x' hx aR hv=>?_) h2;rw[ala,ak8]at aR;obtain⟨d,hd,rfl⟩:=aR;rcases RS hw j x d hx hd with rfl|⟨rfl,h1⟩
   .exact hv
   .exact afp hv h1
section
variable {P:Program}{cf:Cf}{Q:Exit->St->Prop}{s:St}{k:List It}
theorem RY:∀l:List (Name×Ob),lg [] l
 |[]=>trivial
 |_::r=>⟨trivial,RY r⟩
theorem afq{dst:Option Nat}{fv:Operand}{args:Array Operand}{at':Array TypeId}{ty:TypeId}{pos:String}{af:Array Edge}{g:Option (Nat×Bool)}
  (L:List Lz) (hL:sd s L) (d:Nat) (hd:d∉s.used) {f:FuncId} {aG:List AV} {ds:List D} {Q0:AV->List (Name×Ob)->Prop} (hc:bZ P cf.G f (ds.map .d) [] [] Q0) (uE:∀r ae,Q0 r ae->r.flat=true∧wh ae=true)
  (bp:ev (s.mS L) fv=.aH f aG) (dE:args.toList.map (ev (s.mS L))++aG=ds.map .d) (cY:∀t∈dst,t<cf.n∧t=d) (hk:∀r ae,Q0 r ae->run P cf k Q (EG s id d dst [] ae r)) :
  ia P cf { dst:=dst,op:=.call { callee:=.value fv,args:=args,argTypes:=at' },type:=ty,pos:=pos,after:=af,guard:=g } s k Q:=by
 intro B hB gF β a w ai h Q';refine⟨fun _ _=>trivial,?_⟩;have h':=(F7 L s h hL).xX;rw[<-Re]at bp;rw[show args.toList.map (ev (s.mS L))=args.toList.map (ev (s.mS L).xX)from alI fun y _=>(Re _ y).symm]at dE;obtain⟨s',bm⟩:∃s',s'=(s.mS L).xX:=⟨_,rfl⟩
 have bY:∀p,s'.hp p=none:=fun p=>by rw[bm];rfl
 rw[<-bm]at h' bp dE;have hf:=h'.ev fv;rw[bp]at hf;generalize nF:a.eval fv=BB at hf
 cases hf with
 |aH _ cvs _ hcs mh =>
 have aF:∀vs,vs=(args.toList.map a.eval).toArray++cvs->(execOp a.eval { dst:=dst,op:=.call { callee:=.value fv,args:=args,argTypes:=at' },type:=ty,pos:=pos,after:=af,guard:=g }).run P w=.ok (.enter f vs) w:=by
  intro vs eJ
  have e:(execOp a.eval { dst:=dst,op:=.call { callee:=.value fv,args:=args,argTypes:=at' },type:=ty,pos:=pos,after:=af,guard:=g }:Sem Next)=callFunc f (#[]++args.map a.eval++cvs):=by
   show(do let d <-(Deferred.ofValue (a.eval fv) (args.map a.eval));invoke d.target d.args:Sem Next)=_;rw[nF];rfl
  rw[e,<-hc.1 vs w,eJ];congr 2;apply ani;simp
 rw[Oper.semAt_eq _ _ _ (by simp),aF _ rfl,Oper.uponIn_enter];refine⟨fun pQ=>by simp[xw]at pQ,?_⟩
 have hlen:(ds.map AV.d).length=args.size+aG.length:=by
  have:=congrArg List.length dE;simpa using this.symm
 have eJ:((args.toList.map a.eval).toArray++cvs).size=(ds.map AV.d).length:=by simp[hcs]at hlen ⊢;omega
 have hv:∀(i:Nat) x,(ds.map AV.d)[i]?=some x->VR w.heap (s'.own B.A β) s'.used s'.hp β (((args.toList.map a.eval).toArray++cvs).getD i undef) (x.ren id):=by
  intro i x hi;rw[AV.mE id (fun _=>rfl)];have hx:=hi;rw[<-dE]at hx;by_cases hlt:i<args.size
  .have aR:(args.toList.map (ev s'))[i]?=some x:=by rw[<-hx,alj (by simpa using hlt)]
   have:=za h' args.toList i _ aR;rw[show((args.toList.map a.eval).toArray++cvs).getD i undef=(args.toList.map a.eval).toArray.getD i undef by simp[akZ,alO,hlt]];exact this
  .have aR:aG[i-args.size]?=some x:=by rw[<-hx,aln (by simpa using amO hlt)];simp
   have:=mh _ _ aR;rw[show((args.toList.map a.eval).toArray++cvs).getD i undef=cvs.getD (i-args.size) undef by simp[akZ,alO,hlt]];exact this
 have pR:=P8 (P:=P) h h' (fun p o ho=>by rw[bY p]at ho;cases ho) (σ:=id) (d:=d) hd (chp:=[]) (cu:=[]) trivial trivial (BD _ _) eJ hv (by rw[hB.2.2];exact hc) uE;have rS:CallsIn (Fw cf.ro) (0-1) P f ((args.toList.map a.eval).toArray++cvs) w _:=pR;refine rS.mono ?_;rintro e w' ⟨v,rfl,r,ae,hQ,hl⟩;obtain⟨β2,br,nG⟩:=hl (RY ae);refine⟨by cases dst<;>exact ai,EG s id d dst [] ae r,β2,eB (hk r ae hQ),?_⟩
 cases dst with
 |none=>exact br
 |some t =>
   obtain⟨ht,rfl⟩:=cY t rfl;exact br.put (by rw[hB.1];exact ht) nG
theorem lV(E:bu P cf Q){d:Nat}{fv:Operand}{args:Array Operand}{at':Array TypeId}{ty:TypeId}{pos:String}{af:Array Edge}
  (L:List Lz) {f:FuncId} {aG:List AV} (ds:List D) {Q0:AV->List (Name×Ob)->Prop} (hc:bZ P cf.G f (ds.map .d) [] [] Q0) (uE:∀r ae,Q0 r ae->r.flat=true∧wh ae=true) (hL:sd s L)
  (bp:ev (s.mS L) fv=.aH f aG) (dE:args.toList.map (ev (s.mS L))++aG=ds.map .d) (hd:d<cf.n∧d∉s.used) (hk:∀r ae,Q0 r ae->E.run k (iX s id d [] ae r)) :
  E.bc { dst:=some d,op:=.call { callee:=.value fv,args:=args,argTypes:=at' },type:=ty,pos:=pos,after:=af,guard:=none } s k .no:=by
 rw[ie];refine afq L hL d hd.2 hc uE bp dE (fun t ht=>?_) fun r ae hr=>by rw[<-E.run_eq];exact hk r ae hr
 obtain rfl:=alo ht;exact⟨hd.1,rfl⟩
attribute [go_sem] afk afl afm afn afo RT RU RW zV AV.one
end
end Go.Ab

