/-
  The generic layer, part 86: builders of texts: variables and arrays whose types are told; pointers compared, and turned; what is called in place. (with the parts that follow it)
-/
import Derived.Test.YtejpnabbmgpmaaaGreatSAF
import Derived.Test.YtejpnabbmgpmaaaGreatSAE
import Derived.Test.YtejpnabbmgpmaaaGreatSAD
import Derived.Test.YtejpnabbmgpmaaaGreatSAC
import Derived.Lib.Builder
import Derived.LaidEqlPtr
import Derived.Laws.Pointers
import Derived.Laws.Externs
import Derived.Lib.UnsafeStr
import Derived.Lib.ItoaLen
import Derived.Lib.Bytealg
set_option linter.unusedSimpArgs false
namespace Go.Ab
section
variable {P:Program} {cf:Cf} {Q:Exit→St→Prop} {s:St} {k:List It} {B:Base} {β:Name→Option Blk} {tm:Array Value} {w:World}
theorem Sim.JX (h:Sim B β s tm w) {p:Name} {ob:Ob} {k:Blk} (hp:s.hp p=some ob) (hk:β p=some k) {w':World} (hio:wio w'=wio w) (hsz:w'.heap.size=w.heap.size) (hw:∀ b,b≠k.b→w'.heap[b]?=w.heap[b]?):Sim B β (s.set p none) tm w':=by
 have hsub:∀ q o,(s.set p none).hp q=some o→q≠p∧s.hp q=some o:=by
  intro q o ho
  by_cases e:q=p
  ·subst e;simp [St.set,aO] at ho
  ·exact ⟨e,by simpa [St.set,aO,e] using ho⟩
 have hne:∀ q,(s.set p none).hp q≠none→s.hp q≠none:=by
  intro q hq e
  cases ho:(s.set p none).hp q with
  | none=>exact hq ho
  | some o=>rw [(hsub q o ho).2] at e;cases e
 have hr:∀ v d,Rep w.heap (s.own B.A β) v d→Rep w'.heap ((s.set p none).own B.A β) v d:=fun v d hd=>hd.mono (fun b hb _=>hw b fun e=>hb (.inr ⟨p,k,by rw [hp];simp,hk,e.symm⟩)) (by
  rintro b _ (hA | ⟨q,k,hq,hk,e⟩)
  ·exact .inl hA
  ·exact .inr ⟨q,k,hne q hq,hk,e⟩)
 have hst:∀ q,nm s.used q→Stays s.hp (s.set p none).hp β β q:=fun q _ o' ho'=>⟨o',(hsub q o' ho').2,Ob.bG _,rfl⟩
 refine { tms:=h.tms,io:=hio.trans h.io,size:=by rw [hsz];exact h.size,frame:=fun b hb hn=>?_,slots:=fun i=>(h.slots i).mono hr (fun _ h=>h) hst,objs:=?_,blocks:=fun q k hq hk=>(by rw [hsz];exact h.blocks q k (hne q hq) hk), inj:=fun q q' k l hq hq' hk hl e=>h.inj q q' k l (hne q hq) (hne q' hq') hk hl e,us:=h.us,stay:=h.stay }
 ·rw [hw b ?_]
  ·exact h.frame b hb hn
  ·intro e
   obtain ⟨_,_,h3⟩:=h.blocks p k (by rw [hp];simp) hk
   rcases h3 with h3 | h3
   ·omega
   ·exact hn (e ▸ h3)
 ·intro q o ho
  obtain ⟨hqp,ho'⟩:=hsub q o ho
  obtain ⟨h1,h2⟩:=h.objs q o ho'
  exact ⟨h1,h2.mono hr (fun _ h=>h) hst rfl fun l hl=>hw l.b fun e=>hqp (h.inj q p l k (by rw [ho'];simp) (by rw [hp];simp) hl hk e)⟩
theorem EL (E:Eng P cf Q) {o:Oper} (p:Name) (j n:Nat) (ty tg:Option Nat) (w:W) (cs:List AV) (hp:s.hp p=some (.boxT ty cs)) (hj:cs[j]?=some (.d .nils)) (hn:n ∉ s.used) (h:E.stp o ((s.add n (.arrT tg w [])).set p (some (.boxT ty (cs.set j (.vw [n] 0 0))))) k .no):E.stp o s k .no:=by
 rw [aY] at h ⊢
 intro B hB ds β a w' hds hs Q'
 have h1:=hs.eE hn tg w
 have hpn:p≠[n]:=iH (hs.objs p _ hp).1 hn
 refine h B hB ds (aO β [n] none) a w' hds (h1.rebox (cs:=cs) (by simpa [St.add,aO,hpn] using hp) (by simp) fun v i x x' hx hx' hv=>?_) Q'
 by_cases e:j=i
 ·subst e
  rw [hj] at hx
  cases hx
  rw [List.getElem?_set_self (List.getElem?_eq_some_iff.1 hj).1] at hx'
  cases hx'
  have:=hv.toD
  cases this
  exact .vw _ _ _ _ ⟨n,[],rfl,List.mem_cons_self⟩ rfl fun ty' w' xs hx=>by
   have:some (Ob.arrT tg w [])=some (.arrT ty' w' xs):=by rw [← hx];simp [St.add,aO]
   cases this
   exact ⟨Nat.le_refl _,none,0,rfl,.inl ⟨rfl,rfl⟩⟩
 ·rw [List.getElem?_set_ne e,hx] at hx'
  cases hx'
  exact hv
theorem pP (E:Eng P cf Q) {d t e:Nat} {x y:Operand} {ty:TypeId} {pos:String} {af:Array Edge} (tg:Option Nat) (p q:Name) (xs ys:List D) (hk:(P.ti t).k=.slice e) (hz:(P.ti e).zOk=true) (hw:(P.ti e).isW (P.ti e).w=true) (hew:(P.ti e).w=none)
  (htg:tg.getD e=e) (hd:d<cf.n∧d ∉ s.used) (hx:ev s x=.vw p 0 xs.length) (hp:s.hp p=some (.arrT tg none xs)) (hy:ev s y=.vw q 0 ys.length) (hq:s.hp q=some (.arr none ys)) (hl:(xs.length+ys.length)*(P.ti e).by1≤140737488355328)
  (h:E.run k (((s.set p none).add d (.arrT tg none (xs++ys))).put d (.vw [d] 0 (xs.length+ys.length)))) :
  E.stp { dst:=some d,op:=.call { callee:=.builtin .append,args:=#[x,y],argTypes:=#[t,t] },type:=ty,pos:=pos,after:=af,guard:=none } s k .no:=by
 rw [aY]
 rw [E.run_eq] at h
 intro B hB ds β a w hds hs Q'
 have hvx:=hs.ev x
 have hvy:=hs.ev y
 rw [hx] at hvx
 rw [hy] at hvy
 have key:=j5 (P:=P) (t:=t) hs hvx hvy hk hz hw ty (some d) tg htg
 have e1:jN tg B.n (P.ti e) (some d) s (.vw p 0 xs.length) (.vw q 0 ys.length)=.need ((xs.length+ys.length)*(P.ti e).by1≤140737488355328) (.ok (((s.set p none).add d (.arrT tg none (xs++ys))).put d (.vw [d] 0 (xs.length+ys.length)))):=by
  unfold jN
  have hlo:cA (P.ti e).w s.hp (.vw q 0 ys.length)=some ys:=by simp [cA,hq,hew]
  rw [hlo]
  simp only [hp]
  rw [if_pos ⟨trivial,hew.symm⟩]
  have hd2:d<B.n∧d ∉ (s.set p none).used:=⟨by rw [hB.1];exact hd.1,hd.2⟩
  unfold ic
  simp only
  rw [if_pos hd2]
  simp
 rw [e1] at key
 obtain ⟨dd,v,w',β',hdd,hrun,hsim⟩:=key hl
 cases hdd
 exact aU (v:=v) (by simp) (by simp [execOp,resolve,invoke,builtin,hrun]) (.inl rfl) ⟨hds,_,β',bf h,hsim⟩
end
section
variable {P:Program} {cf:Cf} {Q:Exit→St→Prop} {s:St} {k:List It}
theorem iQ {o:Oper} {d:Nat} {x:AV} (hd:o.dst=some d) (hdn:d<cf.n) (hnd:∀ c,o.op≠.defer c)
  (hrun:∀ (B:Base) (β:Name→Option Blk) (a:Act) (w:World),Sim B β s a.tmps w→∃ v,(execOp a.eval o).run P w=.ok (.value v) w∧VR w.heap (s.own B.A β) s.used s.hp β v x) (h:run P cf k Q (s.put d x)):AOk P cf o s k Q:=by
 intro B hB ds β a w hds hs Q'
 obtain ⟨v,h1,h2⟩:=hrun B β a w hs
 refine aU (v:=v) hnd h1 (.inl rfl) ?_
 rw [hd]
 exact ⟨hds,_,β,bf h,hs.put (by rw [hB.1];exact hdn) h2⟩
theorem nG (E:Eng P cf Q) {o:Oper} {d:Nat} {x:AV} (hd:o.dst=some d) (hdn:d<cf.n) (hnd:∀ c,o.op≠.defer c)
  (hrun:∀ (B:Base) (β:Name→Option Blk) (a:Act) (w:World),Sim B β s a.tmps w→∃ v,(execOp a.eval o).run P w=.ok (.value v) w∧VR w.heap (s.own B.A β) s.used s.hp β v x) (h:E.run k (s.put d x)):E.stp o s k .no:=by
 rw [aY]
 rw [E.run_eq] at h
 exact iQ hd hdn hnd hrun h
theorem qE {t e:Nat} (h:(P.ti t).k=.ptr e):P.underlying t=some (.pointer e):=by
 obtain ⟨i,d,_,hd,hk,_⟩:=cZ (P:=P) (t:=t) (by rw [h];rfl)
 rw [h] at hk
 cases d<;>simp [tk] at hk
 rw [hd,hk]
def Db (hp:Name→Option Ob):AV→Option Bool
 | .d .nilp=>some true
 | .d (.ptr _)=>some false
 | .at p _=>match hp p with
   | some (.boxT _ _)=>some false
   | _=>none
 | _=>none
theorem vO {H:Array Obj} {own:Nat→Prop} {used:List Nat} {hp:Name→Option Ob} {β:Name→Option Blk} {v:Value} {x:AV} {b:Bool} (h:VR H own used hp β v x) (hn:Db hp x=some b):∃ ad,v=.pointer ad∧ad.isNone=b:=by
 cases x with
 | d z =>
   cases z<;>simp [Db] at hn
   ·subst hn
    have:=h.toD
    cases this;exact ⟨none,rfl,rfl⟩
   ·subst hn
    have:=h.toD
    cases this;exact ⟨_,rfl,rfl⟩
 | «at» p c =>
   simp only [Db] at hn
   split at hn
   ·rename_i ty cs ho
    cases hn
    cases h with
    | «at» _ _ _ _ _ hx =>
      obtain ⟨k,_,_,rfl⟩:=hx _ _ ho
      exact ⟨_,rfl,rfl⟩
   ·cases hn
 | _=>simp [Db] at hn
theorem sA (E:Eng P cf Q) {t e:TypeId} {x:Operand} {yt:TypeId} {dst:Nat} {ty:TypeId} {ps:String} {af:Array Edge} (b:Bool) (hk:(P.ti t).k=.ptr e) (hd:dst<cf.n) (hx:Db s.hp (ev s x)=some b) (h:E.run k (s.put dst (.d (.bool b)))) :
  E.stp { dst:=some dst,op:=.binOp .eql t x (.const (.pointer none)) yt,type:=ty,pos:=ps,after:=af,guard:=none } s k .no:=by
 refine nG E rfl hd (by simp) (fun B β a w hs=>⟨.bool b,?_,.d _ _ (.bool _)⟩) h
 obtain ⟨ad,hv,rfl⟩:=vO (hs.ev x) hx
 have hu:=qE hk
 refine iY ?_ ?_
 ·rw [hv];rfl
 ·rw [hv]
  exact run_eql_pointer_nil w t ad (by rw [hu];simp [Program.pointee,hu])
theorem run_neq_ptr_same {tp te:TypeId} {j:TypeInfo} (w:World) (a:Addr) (hp:P.underlying tp=some (.pointer te)) (hte:P.info? te=some j):(binOp .neq tp (.pointer (some a)) (.pointer (some a))).run P w=.ok (.bool false) w:=by
 have h:∀ d:Nat,(Op.equalIn (d+1) tp (.pointer (some a)) (.pointer (some a))).run P w=.ok true w:=fun d=>by
  simp [Op.equalIn,run_underlying hp,sizeOf,typeInfo,hte,run_sameAddr_same]
 simp only [binOp]
 simp [Op.equal,Op.maxDepth,h 9999]
theorem Fc (E:Eng P cf Q) {t e:TypeId} {x y:Operand} {yt:TypeId} {dst:Nat} {ty:TypeId} {ps:String} {af:Array Edge} (p:Name) (c:Nat) (hk:(P.ti t).k=.ptr e) (he:(P.info? e).isSome=true) (hd:dst<cf.n) (hx:ev s x=.at p c) (hy:ev s y=.at p c) (hp:(match s.hp p with | some (.boxT _ _)=>true | _=>false)=true)
  (h:E.run k (s.put dst (.d (.bool false)))):E.stp { dst:=some dst,op:=.binOp .neq t x y yt,type:=ty,pos:=ps,after:=af,guard:=none } s k .no:=by
 refine nG E rfl hd (by simp) (fun B β a w hs=>⟨.bool false,?_,.d _ _ (.bool _)⟩) h
 split at hp
 rotate_left
 ·cases hp
 rename_i ty' cs ho
 obtain ⟨k,hkk⟩:∃ k:Blk,∀ v,VR w.heap (s.own B.A β) s.used s.hp β v (.at p c)→v=.pointer (some ⟨k.b,c,none⟩):=by
  obtain ⟨k,_,_,hk,_⟩:=(hs.objs p _ ho).2
  refine ⟨k,fun v hv=>?_⟩
  cases hv with
  | «at» _ _ _ _ _ hx =>
    obtain ⟨k',hk',_,rfl⟩:=hx _ _ ho
    rw [hk] at hk';cases hk';rfl
 have h1:=hkk _ (hx ▸ hs.ev x)
 have h2:=hkk _ (hy ▸ hs.ev y)
 obtain ⟨j,hj⟩:=Option.isSome_iff_exists.1 he
 refine iY ?_ ?_
 ·rw [h1,h2];rfl
 ·rw [h1,h2]
  exact run_neq_ptr_same w _ (qE hk) hj
theorem BU {B:Base} {β:Name→Option Blk} {tm:Array Value} {w:World} (hs:Sim B β s tm w) {p:Name} {t:Nat} {cs:List AV} (hp:s.hp p=some (.boxT (some t) cs)):∃ k:Blk,(∀ v c,VR w.heap (s.own B.A β) s.used s.hp β v (.at p c)→v=.pointer (some ⟨k.b,c,none⟩))∧w.shape? k.b=some (t,cs.length):=by
 obtain ⟨k,c,e,hk,_,hc,_,hl,_⟩:=(hs.objs p _ hp).2
 refine ⟨k,fun v c hv=>?_,by simp [World.shape?,hc,hl]⟩
 cases hv with
 | «at» _ _ _ _ _ hx =>
   obtain ⟨k',hk',_,rfl⟩:=hx _ _ hp
   rw [hk] at hk';cases hk';rfl
theorem Jq (E:Eng P cf Q) {a' b' e:TypeId} {x:Operand} {dst:Nat} {ty:TypeId} {ps:String} {af:Array Edge} (p:Name) (c t:Nat) (cs:List AV) (hk:(P.ti a').k=.ptr e) (hu:P.underlying b'=some .unsafePointer) (he:(P.info? e).any (fun j=>j.size != 0)=true) (hd:dst<cf.n) (hx:ev s x=.at p c)
  (hp:s.hp p=some (.boxT (some t) cs)) (hc:c<cs.length) (h:E.run k (s.put dst (.at p c))):E.stp { dst:=some dst,op:=.convert a' b' x,type:=ty,pos:=ps,after:=af,guard:=none } s k .no:=by
 refine nG E (x:=.at p c) rfl hd (by simp) (fun B β a w hs=>⟨a.eval x,?_,hx ▸ hs.ev x⟩) h
 obtain ⟨k,hkk,hsh⟩:=BU hs hp
 have h1:=hkk _ _ (hx ▸ hs.ev x)
 rw [Option.any_eq_true] at he
 obtain ⟨j,hj,hj0⟩:=he
 have:=Lib.run_to_unsafe (P:=P) w (src:=a') (dst:=b') (⟨k.b,c,none⟩:Addr) (qE hk) hu hj (by simpa using hj0) hsh hc
 simp [execOp,h1,this]
theorem Jv (E:Eng P cf Q) {a' b' e:TypeId} {x:Operand} {dst:Nat} {ty:TypeId} {ps:String} {af:Array Edge} (p:Name) (c t:Nat) (cs:List AV) (hk:(P.ti b').k=.ptr e) (hu:P.underlying a'=some .unsafePointer) (he:(P.info? e).isSome=true) (hd:dst<cf.n) (hx:ev s x=.at p c)
  (hp:s.hp p=some (.boxT (some t) cs)) (m:Nat) (hm:cs.length=m) (hl:liesAt P P.depth t (m / P.cellsOf t) c e 1=true) (h:E.run k (s.put dst (.at p c))):E.stp { dst:=some dst,op:=.convert a' b' x,type:=ty,pos:=ps,after:=af,guard:=none } s k .no:=by
 refine nG E (x:=.at p c) rfl hd (by simp) (fun B β a w hs=>⟨a.eval x,?_,hx ▸ hs.ev x⟩) h
 obtain ⟨k,hkk,hsh⟩:=BU hs hp
 have h1:=hkk _ _ (hx ▸ hs.ev x)
 obtain ⟨j,hj⟩:=Option.isSome_iff_exists.1 he
 rw [hm] at hsh
 have:=Lib.run_from_unsafe (P:=P) w (src:=a') (dst:=b') (⟨k.b,c,none⟩:Addr) hu (qE hk) hj hsh hl
 simp [execOp,h1,this]
theorem GO (E:Eng P cf Q) {fv x:Operand} {at':Array TypeId} {dst:Nat} {ty:TypeId} {ps:String} {af:Array Edge} (f:FuncId) (y:AV) (hr:∀ v w,(callFunc f #[v]).run P w=.ok (.value v) w) (hd:dst<cf.n) (hf:ev s fv=.clo f []) (hx:ev s x=y) (h:E.run k (s.put dst y)) :
  E.stp { dst:=some dst,op:=.call { callee:=.value fv,args:=#[x],argTypes:=at' },type:=ty,pos:=ps,after:=af,guard:=none } s k .no:=by
 refine nG E (x:=y) rfl hd (by simp) (fun B β a w hs=>⟨a.eval x,?_,hx ▸ hs.ev x⟩) h
 have hf':=hs.ev fv
 rw [hf] at hf'
 generalize hfv:a.eval fv=fval at hf'
 cases hf' with
 | clo _ cvs _ hcs hcv =>
 have hc0:cvs=#[]:=Array.eq_empty_of_size_eq_zero (by simpa using hcs)
 subst hc0
 have e:(execOp a.eval { dst:=some dst,op:=.call { callee:=.value fv,args:=#[x],argTypes:=at' },type:=ty,pos:=ps,after:=af,guard:=none }:Sem Next)=callFunc f (#[]++#[x].map a.eval++#[]):=by
  show (do let d ← (Deferred.ofValue (a.eval fv) (#[x].map a.eval));invoke d.target d.args:Sem Next)=_
  rw [hfv];rfl
 rw [e]
 simpa using hr (a.eval x) w
theorem FJ {fv:Operand} {args:Array Operand} {at':Array TypeId} {dst:Nat} {ty:TypeId} {ps:String} {af:Array Edge} {g:Option (Nat × Bool)} (f:FuncId) (ds:List D) (vs:List Value) (r:D) (v:Value) (hv:vals ds=some vs) (hrv:r.val=some v) (hr:∀ w,(callFunc f vs.toArray).run P w=.ok (.value v) w) (hd:dst<cf.n) (hf:ev s fv=.clo f [])
  (hx:args.toList.map (ev s)=ds.map .d) (h:run P cf k Q (s.put dst (.d r))):AOk P cf { dst:=some dst,op:=.call { callee:=.value fv,args:=args,argTypes:=at' },type:=ty,pos:=ps,after:=af,guard:=g } s k Q:=by
 refine iQ (x:=.d r) rfl hd (by simp) (fun B β a w hs=>⟨v,?_,.d _ _ (D.He hrv)⟩) h
 have hf':=hs.ev fv
 rw [hf] at hf'
 generalize hfv:a.eval fv=fval at hf'
 cases hf' with
 | clo _ cvs _ hcs hcv =>
 have hc0:cvs=#[]:=Array.eq_empty_of_size_eq_zero (by simpa using hcs)
 subst hc0
 have e:(execOp a.eval { dst:=some dst,op:=.call { callee:=.value fv,args:=args,argTypes:=at' },type:=ty,pos:=ps,after:=af,guard:=g }:Sem Next)=callFunc f (#[]++args.map a.eval++#[]):=by
  show (do let d ← (Deferred.ofValue (a.eval fv) (args.map a.eval));invoke d.target d.args:Sem Next)=_
  rw [hfv];rfl
 have e2:#[]++args.map a.eval++#[]=vs.toArray:=by
  obtain ⟨g1,g2⟩:=uS hv
  have hsz:args.size=ds.length:=by have:=congrArg List.length hx;simpa using this
  apply Array.ext
  ·simp [hsz,g1]
  ·intro i hi hi'
   have hia:i<args.size:=by simpa using hi
   have hid:i<ds.length:=by omega
   have h1:(args.toList.map (ev s))[i]?=(ds.map AV.d)[i]?:=by rw [hx]
   simp only [List.getElem?_map,Array.getElem?_toList,Array.getElem?_eq_getElem hia,List.getElem?_eq_getElem hid,Option.map_some,Option.some.injEq] at h1
   have h2:=hs.ev args[i]
   rw [h1] at h2
   have h3:=h2.toD.val (g2 i _ (List.getElem?_eq_getElem hid) ▸ List.getElem?_eq_getElem (by omega:i<vs.length))
   simpa using h3
 rw [e,e2]
 exact hr w
theorem Jk (E:Eng P cf Q) {fv:Operand} {args:Array Operand} {at':Array TypeId} {dst:Nat} {ty:TypeId} {ps:String} {af:Array Edge} (f:FuncId) (ds:List D) (vs:List Value) (r:D) (v:Value) (hv:vals ds=some vs) (hrv:r.val=some v) (hr:∀ w,(callFunc f vs.toArray).run P w=.ok (.value v) w) (hd:dst<cf.n) (hf:ev s fv=.clo f [])
  (hx:args.toList.map (ev s)=ds.map .d) (h:E.run k (s.put dst (.d r))):E.stp { dst:=some dst,op:=.call { callee:=.value fv,args:=args,argTypes:=at' },type:=ty,pos:=ps,after:=af,guard:=none } s k .no:=by
 rw [aY]
 rw [E.run_eq] at h
 exact FJ f ds vs r v hv hrv hr hd hf hx h
end
end Go.Ab

namespace Go.Ab
theorem w8 {P:Program} {e:TypeId} (hc:P.cellsOf e=1) (count o n:Nat) (hn:o+n≤count):liesAt P P.depth e count o e n=true:=by
 have hd:P.depth=(2*(P.types.size+Made.depth)+1)+1:=rfl
 rw [hd]
 simp only [liesAt,Bool.or_eq_true]
 left
 rw [hd]
 simp [rowAt,hc,hn,sameLayout,Nat.mod_one]
theorem jh {P:Program} (w:World) (pt it ty e:TypeId) (hp:P.underlying pt=some (.pointer e)) (hc:P.cellsOf e=1) (g o cells:Nat) (hsh:w.shape? g=some (e,cells)) (l:List UInt8) (h0:l≠[]) (hn:o+l.length≤cells) (h63:l.length≤9223372036854775807)
  (hcell:∀ j x,l[j]?=some x→w.cell? ((⟨g,o,none⟩:Addr).add j)=some (.int .u8 x.toNat)) :
  (Builtin.unsafeString_ #[pt,it] ty #[.pointer (some ⟨g,o,none⟩),.int .i64 l.length]).run P w=.ok (.string ⟨l.toArray⟩) (w.freeze ⟨g,o,none⟩ l.length):=by
 have hl:l.length≠0:=by simpa using h0
 have hlb:=Lib.run_loadBytes (P:=P) w l ⟨g,o,none⟩ .empty hcell
 have hlies:=w8 (P:=P) hc (cells / P.cellsOf e) o l.length (by rw [hc];simpa using hn)
 have h63':¬ (9223372036854775807:Int)<(l.length:Int):=by omega
 have hdef:Builtin.unsafeString_ #[pt,it] ty #[.pointer (some ⟨g,o,none⟩),.int .i64 l.length] =
  (do
   let n ← asInt (.int .i64 l.length)
   if n<0 then runtimePanic (.error "unsafe.String: len out of range")
   if n > IntKind.i64.max then unsupported (.unsafePointer "String: a length above the largest int")
   if n=0 then pure (.string .empty)
   else if ← variablesAt ⟨g,o,none⟩ (← elemOf pt) n.toNat then do
    let s ← loadBytes ⟨g,o,none⟩ .empty n.toNat
    freeze ⟨g,o,none⟩ n.toNat
    pure (.string s)
   else unsupported (.unsafePointer "String: not so many bytes at ptr")):=rfl
 rw [hdef]
 have hmax:IntKind.i64.max=9223372036854775807:=rfl
 have hneg:¬ (l.length:Int)<0:=by omega
 simp [asInt,asIntOf,hmax,h63',hneg,hl,variablesAt,hsh,elemOf,run_underlying hp,hlies,hlb]
def byD (c:UInt8):D:=.int .u8 (c.toNat:Nat)
section
variable {P:Program} {cf:Cf} {Q:Exit→St→Prop} {s:St} {k:List It}
theorem BL {d:Nat} {x:Operand} {at':Array TypeId} {ty:TypeId} {pos:String} {af:Array Edge} {g:Option (Nat × Bool)} (hd:d<cf.n) (hx:ev s x=.d .nils) (h:run P cf k Q (s.put d (.d .nilp))) :
  AOk P cf { dst:=some d,op:=.call { callee:=.builtin .unsafeSliceData,args:=#[x],argTypes:=at' },type:=ty,pos:=pos,after:=af,guard:=g } s k Q:=by
 refine iQ rfl hd (by simp) (fun B β a w hs=>⟨.pointer none,?_,.d _ _ .nilp⟩) h
 have hv:=hs.ev x
 rw [hx] at hv
 have hv:=hv.nils
 simp [execOp,resolve,invoke,builtin,hv,Lib.run_unsafeSliceData_nil]
theorem G2 {d:Nat} {x:Operand} {at':Array TypeId} {ty:TypeId} {pos:String} {af:Array Edge} {g:Option (Nat × Bool)} (p:Name) (tg:Option Nat) (w0:W) (xs:List D) (l:Nat) (hd:d<cf.n) (hx:ev s x=.vw p 0 l) (hp:s.hp p=some (.arrT tg w0 xs)) (hl:0<l) (h:run P cf k Q (s.put d (.el p 0 0))) :
  AOk P cf { dst:=some d,op:=.call { callee:=.builtin .unsafeSliceData,args:=#[x],argTypes:=at' },type:=ty,pos:=pos,after:=af,guard:=g } s k Q:=by
 refine iQ rfl hd (by simp) (fun B β a w hs=>?_) h
 have hv:=hs.ev x
 rw [hx] at hv
 generalize hax:a.eval x=vx at hv
 cases hv with
 | vw _ _ _ _ hn h1 hx' =>
   obtain ⟨hle,a0,cap,rfl,hc⟩:=hx' _ _ _ hp
   rcases hc with ⟨h0,_⟩ | ⟨k,hk,rfl,hcap,hz⟩
   ·omega
   ·refine ⟨.pointer (some ⟨k.b,k.o+0*wd w0,none⟩),?_,.el _ _ _ _ hn rfl fun ty' w' xs' hp'=>?_⟩
    ·obtain ⟨oo,hoo⟩:∃ oo,k.o+0*wd w0=oo:=⟨_,rfl⟩
     rw [hoo] at hax ⊢
     have:=Lib.run_unsafeSliceData_row (P:=P) w at' ty ⟨k.b,oo,none⟩ l cap (by omega)
     simp [execOp,resolve,invoke,builtin,hax,this]
    ·rw [hp] at hp';cases hp'
     exact ⟨by omega,k,hk,rfl⟩
theorem Ex (E:Eng P cf Q) {d pt it:Nat} {x y:Operand} {ty:TypeId} {pos:String} {af:Array Edge} (hd:d<cf.n) (hx:ev s x=.d .nilp) (hy:ev s y=.d (.int .i64 0)) (h:E.run k (s.put d (.d (.str [])))) :
  E.stp { dst:=some d,op:=.call { callee:=.builtin .unsafeString,args:=#[x,y],argTypes:=#[pt,it] },type:=ty,pos:=pos,after:=af,guard:=none } s k .no:=by
 rw [aY]
 rw [E.run_eq] at h
 refine iQ rfl hd (by simp) (fun B β a w hs=>⟨.string .empty,?_,.d _ _ (.str [])⟩) h
 have hv:=hs.ev x
 rw [hx] at hv
 have hv:=hv.toD
 have hw:=hs.ev y
 rw [hy] at hw
 have hw:=hw.int
 generalize hax:a.eval x=vx at hv
 cases hv
 have:=Lib.run_unsafeString_none (P:=P) w pt it ty none
 simp [execOp,resolve,invoke,builtin,hax,hw,this]
theorem IG (E:Eng P cf Q) {d pt it e:Nat} {x y:Operand} {ty:TypeId} {pos:String} {af:Array Edge} (p:Name) (l:List UInt8) (hd:d<cf.n) (hpt:P.underlying pt=some (.pointer e)) (hc:P.cellsOf e=1) (h0:l≠[]) (h63:l.length≤9223372036854775807)
  (hx:ev s x=.el p 0 0) (hp:s.hp p=some (.arrT (some e) none (l.map byD))) (hy:ev s y=.d (.int .i64 l.length)) (h:E.run k ((s.set p none).put d (.d (.str l)))) :
  E.stp { dst:=some d,op:=.call { callee:=.builtin .unsafeString,args:=#[x,y],argTypes:=#[pt,it] },type:=ty,pos:=pos,after:=af,guard:=none } s k .no:=by
 rw [aY]
 rw [E.run_eq] at h
 intro B hB ds β a w hds hs Q'
 have hv:=hs.ev x
 rw [hx] at hv
 have hw:=hs.ev y
 rw [hy] at hw
 have hw:=hw.int
 generalize hax:a.eval x=vx at hv
 cases hv with
 | el _ _ _ _ hn h1 hx' =>
 obtain ⟨hlt,k0,hk,rfl⟩:=hx' _ _ _ hp
 rcases (hs.objs p _ hp).2 with ⟨_,h0'⟩ | ⟨k1,c,e',hk1,hh,hz,hl,hok,hrep⟩
 ·simp at h0';exact absurd h0' h0
 rw [hk] at hk1
 cases hk1
 simp only [wd,Nat.mul_one,List.length_map] at hl
 have hsh:w.shape? k0.b=some (e,c.size):=by simp [World.shape?,hh]
 have hcell:∀ j x,l[j]?=some x→w.cell? ((⟨k0.b,k0.o+0*wd none+0,none⟩:Addr).add j)=some (.int .u8 x.toNat):=fun j x hj=>by
  have hjl:=(List.getElem?_eq_some_iff.1 hj).1
  have h2:=hrep j (byD x) 0 (byD x) (by simp [hj]) rfl
  have h3:k0.o+j<c.size:=by omega
  rw [show k0.o+j*wd none+0=k0.o+j by simp [wd]] at h2
  simp only [Array.getD_eq_getD_getElem?,Array.getElem?_eq_getElem h3,Option.getD_some] at h2
  have h4:c[k0.o+j]=.int .u8 x.toNat:=by
   generalize c[k0.o+j]=v at h2
   cases h2;rfl
  rw [bI]
  simp [World.cell?,hh,wd,h3,h4]
 have hrun:=jh (P:=P) w pt it ty e hpt hc k0.b (k0.o+0*wd none+0) c.size hsh l h0 (by simp [wd];omega) h63 hcell
 obtain ⟨oo,hoo⟩:∃ oo,k0.o+0*wd none+0=oo:=⟨_,rfl⟩
 rw [hoo] at hrun hax
 refine aU (v:=.string ⟨l.toArray⟩) (w':=w.freeze ⟨k0.b,oo,none⟩ l.length) (by simp) (by simp [execOp,resolve,invoke,builtin,hax,hw,hrun]) (.inl rfl) ⟨hds,_,β,bf h,?_⟩
 refine Sim.put (hs.JX hp hk (w':=w.freeze ⟨k0.b,oo,none⟩ l.length) ?_ ?_ fun b hb=>?_) (by rw [hB.1];exact hd) (.d _ _ (.str l))
 ·unfold World.freeze;split<;>rfl
 ·unfold World.freeze;split<;>simp
 ·unfold World.freeze
  split
  ·rfl
  ·simp only [Array.getElem?_modify]
   rw [if_neg (fun e=>hb e.symm)]
section
variable {ops:Array Oper} {K:St→Ns→Prop} {r:List Oper} {ns:Ns}
theorem b9 (E:XEng P cf ops K) {d:Nat} {x:Operand} {ty:TypeId} {pos:String} {af:Array Edge} (p:Name) (c:Nat) (ty':Option Nat) (cs:List AV) (hd:d<cf.n) (hx:ev s x=.at p c) (hp:s.hp p=some (.boxT ty' cs)) (h:E.run r (s.put d (.at p c)) (ns++[([p],[],[])])) :
  E.stp { dst:=some d,op:=.nilCheck x,type:=ty,pos:=pos,after:=af,guard:=none } r s ns .no:=by
 refine om E (x:=.at p c) [p] (fun t ht=>by rw [Option.mem_def,Option.some.injEq] at ht;rw [← ht];exact hd) (fun s' hh he=>?_) h
 have h1:ev s' x=.at p c:=(he x (by simp [Op.operands])).trans hx
 have h2:s'.hp p=some (.boxT ty' cs):=(hh p (by simp)).trans hp
 refine dn (o:={ dst:=some d,op:=.nilCheck x,type:=ty,pos:=pos,after:=af,guard:=none }) rfl ?_
 have h3:opR P.ti cf.n (.nilCheck x) (some d) s'=.ok (s'.put d (.at p c)):=by
  unfold opR Cu
  simp only [h1,h2]
  simp [R.bind,bN,hd]
 unfold stp
 simp only [h3,R.run]
 rw [dB];rfl
theorem I0 (E:XEng P cf ops K) {d:Nat} {x:Operand} {at':Array TypeId} {ty:TypeId} {pos:String} {af:Array Edge} {g:Option (Nat × Bool)} (hd:d<cf.n) (hx:ev s x=.d .nils) (h:E.run r (s.put d (.d .nilp)) (ns++[([],[],[])])) :
  E.stp { dst:=some d,op:=.call { callee:=.builtin .unsafeSliceData,args:=#[x],argTypes:=at' },type:=ty,pos:=pos,after:=af,guard:=g } r s ns .no:=by
 refine om E (x:=.d .nilp) [] (fun t ht=>by rw [Option.mem_def,Option.some.injEq] at ht;rw [← ht];exact hd) (fun s' _ he=>?_) h
 exact BL hd ((he x (by simp [Op.operands,Call.operands])).trans hx) (by rw [dB];rfl)
theorem J0 (E:XEng P cf ops K) {d:Nat} {x:Operand} {at':Array TypeId} {ty:TypeId} {pos:String} {af:Array Edge} {g:Option (Nat × Bool)} (p:Name) (tg:Option Nat) (w0:W) (xs:List D) (l:Nat) (hd:d<cf.n) (hx:ev s x=.vw p 0 l) (hp:s.hp p=some (.arrT tg w0 xs)) (hl:0<l)
  (h:E.run r (s.put d (.el p 0 0)) (ns++[([p],[],[])])) :
  E.stp { dst:=some d,op:=.call { callee:=.builtin .unsafeSliceData,args:=#[x],argTypes:=at' },type:=ty,pos:=pos,after:=af,guard:=g } r s ns .no:=by
 refine om E (x:=.el p 0 0) [p] (fun t ht=>by rw [Option.mem_def,Option.some.injEq] at ht;rw [← ht];exact hd) (fun s' hh he=>?_) h
 exact G2 p tg w0 xs l hd ((he x (by simp [Op.operands,Call.operands])).trans hx) ((hh p (by simp)).trans hp) hl (by rw [dB];rfl)
end
end
theorem rM (tf:Nat→TI) (dd:Option Nat) (s:St) (x:Operand):opE tf (.nilCheck x) dd s=.no:=rfl
attribute [go_sem] rM
end Go.Ab

namespace Go.Ab
section
variable {P:Program} {F:Fence} {n:Nat} {ops:Array Oper} {Q Q':Exit→Act→World→Prop}
theorem vV {o:Oper} {a:Act} {w:World} {K K':Act→World→Prop} (h:∀ a w,K a w→K' a w) (hq:∀ e a w,Q e a w→Q' e a w) (hh:o.wpIn F n P a w K Q):o.wpIn F n P a w K' Q':=by
 unfold Oper.wpIn at *
 refine ⟨hh.1,?_⟩
 have hh:=hh.2
 generalize (o.semAt F.round a.eval).run P w=r at *
 cases r with
 | ok x w' =>
   cases x<;>simp only [Oper.uponIn] at hh ⊢ <;>
    first
     | exact h _ _ hh
     | exact ⟨hh.1,CallsIn.mono hh.2 (fun e w'' he=>by cases e<;>first | exact h _ _ he | exact hq _ _ _ he | exact he.elim fun a he=>he.elim fun w he=>⟨a,w,hq _ _ _ he⟩ | exact he)⟩
     | exact ⟨hh.1,RowsIn.mono hh.2 (fun _ _ he=>h _ _ he)⟩
     | exact ⟨hh.1,RoundIn.mono hh.2 (fun e w'' he=>by cases e<;>first | exact h _ _ he | exact hq _ _ _ he | exact he.elim fun a he=>he.elim fun w he=>⟨a,w,hq _ _ _ he⟩ | exact he)⟩
 | halt x w'=>cases x<;>simp only [Oper.uponIn] at hh ⊢<;>first | exact hq _ _ _ hh | exact hh
theorem dU (hq:∀ e a w,Q e a w→Q' e a w):∀ (l:List Nat) (a:Act) (w:World),wpOpsIn F n P ops Q l a w→wpOpsIn F n P ops Q' l a w
 | [],_,_,h=>hq _ _ _ h
 | i::r,a,w,h=>by
   simp only [wpOpsIn] at h ⊢
   split
   ·rename_i hn
    simp only [hn] at h
    exact dU hq r a w h
   ·rename_i o ho
    simp only [ho] at h
    split
    ·rename_i hw
     simp only [hw,if_true] at h
     exact vV (fun a w=>dU hq r a w) hq h
    ·rename_i hw
     simp only [hw] at h
     exact ⟨h.1,dU hq r _ w h.2⟩
end
section
variable {P:Program} {cf:Cf} {Φ:Exit→Act→World→Prop} {I:Base→List Deferred→Prop} {k:List It} {s:St}
theorem lN {all:Array Oper} {r:List Oper} (h:∀ E:Eng P cf (yq P cf Φ I k),E.run [.ops all r] s):ARY P cf Φ I (.ops all r::k) s:=by
 have h1:run P cf [.ops all r] (yq P cf Φ I k) s:=veil h
 intro B hB ds β a w hds hI hs l hl
 have h2:=bf h1 B hB ds β a w hds hs l hl
 exact dU (fun _ _ _ hq=>yW hB hI hq) l a w h2
theorem Io {B0:Base} {X:Type} {Iv:X→St} {fr0 fr:List (Nat × AV)} {hp0 hp:List (Name × Ob)} {u0 u:List Nat} (hl:LKL (mk fr0 hp0 u0) hp) (h:ARX cf Φ (CI B0) .ret (mk fr0 hp u)):rq P cf Φ B0 k Iv (mk fr0 hp0 u0) .ret (mk fr hp u):=⟨p7 (ij hl),h⟩
end
end Go.Ab

namespace Go.Ab
theorem BV (p:Name):∀ (a b:List (Name × Option Ob)),wl (a++b) p=match wl b p with | some v=>some v | none=>wl a p
 | [],b=>by cases h:wl b p<;>simp [wl,h]
 | q::r,b=>by
   rw [List.cons_append,wl,BV p r b]
   cases wl b p<;>simp [wl]
theorem w5 (p:Name) (z:Option Ob):∀ l:List (Name × Option Ob),(wl l.reverse p).getD z=lkA z l p
 | []=>rfl
 | q::r=>by
   rw [List.reverse_cons,BV,dE]
   by_cases h:p=q.1
   ·simp [wl,h]
   ·simp only [wl,if_neg h]
    exact w5 p z r
def wrO (d:Nat) (chp hp':List (Name × Ob)):List (Name × Option Ob):=((hp'.map fun x:Name × Ob=>(dF id d chp x.1,some (x.2.ren (dF id d chp))))++chp.map fun x:Name × Ob=>(x.1,none)).reverse
theorem AR (d:Nat) (chp hp':List (Name × Ob)):(wrO d chp hp').map (fun x=>x.1)=((hp'.map fun x:Name × Ob=>dF id d chp x.1)++chp.map fun x:Name × Ob=>x.1).reverse:=by
 unfold wrO
 rw [List.map_reverse,List.map_append,List.map_map,List.map_map]
 rfl
attribute [go_sem] AR List.reverse_cons List.reverse_nil
theorem qV {α β:Type} [DecidableEq α] (z:β) (i:α):∀ a b:List (α × β),lkA z (a++b) i=lkA (lkA z b i) a i
 | [],_=>rfl
 | q::r,b=>by rw [List.cons_append,dE,dE,qV z i r b]
theorem Dp (s:St) (d:Nat) (chp hp':List (Name × Ob)) (r:AV):aft s id d chp hp' r=s.go (some d) (r.ren (dF id d chp)) ⟨wrO d chp hp',[d]⟩:=by
 refine wB (funext fun q=>?_) rfl fun t=>rfl
 show lkA (lkA (s.hp q) (chp.map fun x=>(x.1,none)) q) _ q=(wl (wrO d chp hp') q).getD (s.hp q)
 unfold wrO
 rw [w5,qV]
section
variable {P:Program} {cf:Cf} {ops:Array Oper} {K:St→Ns→Prop} {r:List Oper} {s:St} {ns:Ns}
theorem bd (E:XEng P cf ops K) {d:Nat} {fv:Operand} {args:Array Operand} {at':Array TypeId} {ty:TypeId} {pos:String} {af:Array Edge} {g:Option (Nat × Bool)}
  {f:FuncId} {caps:List AV} (cargs:List AV) (chp:List (Name × Ob)) (cu:List Nat) (x:AV) (hp':List (Name × Ob)) (hc:HCall P cf.G f cargs chp cu (fun y h=>y=x∧h=hp'))
  (hev:ev s fv=.clo f caps) (hargs:args.toList.map (ev s)++caps=cargs) (hd:d<cf.n∧d ∉ s.used) (hcu:dL cu cargs=true) (hpass:dv id cu s chp) (hinj:lH id chp)
  (hl:gB chp hp') (hk:E.run r (aft s id d chp hp' x) (ns++[(chp.map (·.1),(wrO d chp hp').map (·.1),[d])])) :
  E.stp { dst:=some d,op:=.call { callee:=.value fv,args:=args,argTypes:=at' },type:=ty,pos:=pos,after:=af,guard:=g } r s ns .no:=by
 rw [E.stp_eq]
 refine ⟨x.ren (dF id d chp),(chp.map (·.1),⟨wrO d chp hp',[d]⟩),fun s' hu hh he B hB ds' β a w hds hs Q'=>?_,fun y hy=>?_,hd.1,?_⟩
 ·have hm:∀ y,y=fv∨y∈args→ev s' y=ev s y:=fun y hy=>he y (by
   simp only [Op.operands,Call.operands]
   rcases hy with rfl | hy<;>simp_all)
  have hpass':dv id cu s' chp:=by
   have:∀ l:List (Name × Ob),(∀ q∈l,q.1∈chp.map (·.1))→dv id cu s l→dv id cu s' l:=by
    intro l
    induction l with
    | nil=>intros;trivial
    | cons q r ih =>
      intro hq h
      refine ⟨⟨?_,h.1.2⟩,ih (fun x hx=>hq x (List.mem_cons_of_mem _ hx)) h.2⟩
      rw [show s'.hp (id q.1)=s.hp (id q.1) from hh _ (hq q List.mem_cons_self)]
      exact h.1.1
   exact this chp (fun q hq=>List.mem_map.2 ⟨q,hq,rfl⟩) hpass
  have hok:AOk P cf { dst:=some d,op:=.call { callee:=.value fv,args:=args,argTypes:=at' },type:=ty,pos:=pos,after:=af,guard:=g } s' [] (fun _ s2=>s2=aft s' id d chp hp' x):=by
   refine mY d id cargs chp cu _ ((hm fv (.inl rfl)).trans hev) ?_ hcu (hu d (by simp)) (fun t ht=>?_) hpass' hinj hc fun y h hr=>?_
   ·rw [qP (s:=s) (s':=s') fun y hy=>hm y (.inr (by simpa using hy)),hargs,vA]
   ·obtain rfl:=Option.some.inj ht
    exact ⟨hd.1,rfl⟩
   ·obtain ⟨rfl,rfl⟩:=hr
    exact ⟨hl,by rw [dB];rfl⟩
  refine Oper.wpIn_mono ?_ (hok B hB ds' β a w hds hs Q')
  rintro a' w' ⟨hd',s2,β',hrun,hs2⟩
  obtain ⟨_,s3,β3,rfl,hs3⟩:=hrun B hB ds' β' a' w' hd' hs2
  exact ⟨hd',β3,by rw [← Dp];exact hs3⟩
 ·obtain rfl:=List.mem_singleton.1 hy
  exact hd.2
 ·rw [← E.run_eq,← Dp]
  exact hk
theorem E7 {H:Array Obj} {own:Nat→Prop} {v:Value} {wf:W} {l:List D} (h:Rep H own v (.sl wf l)):v.oneCell'=true:=by
 generalize hz:D.sl wf l=d at h
 cases h<;>first | rfl | cases hz
theorem vR {H:Array Obj} {own:Nat→Prop} {us:List Nat} {hp:Name→Option Ob} {β:Name→Option Blk} {v:Value} {wf:W} {l:List D} (h:VR H own us hp β v (.d (.sl wf l))):v.oneCell'=true:=by
 cases h with
 | d _ _ h=>exact E7 h
theorem cg (E:XEng P cf ops K) {t:Nat} (u:Nat) (p:Name) (wf:W) (xs:List D) {off len:Nat} {fv:Operand} {args:Array Operand} {at':Array TypeId} {ty:TypeId} {pos:String} {af:Array Edge} {gg:Option (Nat × Bool)}
  {f:FuncId} {caps:List AV} {ds:List D} {x:AV} (hc:HP P cf.G f ds (fun r=>r=x)) (hfv:∀ s,ev s fv=.clo f caps) (hp:s.hp p=some (.arr wf xs)) (hev:s.fr u=.vw p off len) (hu:(t == u)=false) (hin:Operand.tmp u∈args)
  (hargs:args.toList.map (ev (s.put u (.d (.sl wf ((xs.drop off).take len)))))++caps=ds.map .d) (hdst:t<cf.n) (hk:E.run r ((s.set p none).put t x) (ns++[([p],[p],[])])) :
  E.stp { dst:=some t,op:=.call { callee:=.value fv,args:=args,argTypes:=at' },type:=ty,pos:=pos,after:=af,guard:=gg } r s ns .no:=by
 have htu:¬ t=u:=by simpa using hu
 have hgo:∀ s:St,(s.set p none).put t x=s.go (some t) x ⟨[(p,none)],[]⟩:=fun s=>by unfold St.go;rw [rh];rfl
 rw [E.stp_eq]
 refine ⟨x,([p],⟨[(p,none)],[]⟩),fun s' _ hh he=>?_,fun y hy=>(by cases hy),hdst,?_⟩
 ·have hm:∀ y,y∈args→ev s' y=ev s y:=fun y hy=>he y (by
   simp only [Op.operands,Call.operands]
   simp_all)
  have hp':s'.hp p=some (.arr wf xs):=(hh p (by simp)).trans hp
  have hev':s'.fr u=.vw p off len:=(hm (.tmp u) hin).trans hev
  obtain ⟨y,hy⟩:∃ y,y=AV.d (.sl wf ((xs.drop off).take len)):=⟨_,rfl⟩
  rw [← hy] at hargs
  have hargs':args.toList.map (ev ((s'.set p none).put u y))++caps=ds.map .d:=by
   rw [← hargs]
   congr 1
   refine List.map_congr_left fun z hz=>?_
   have h0:=hm z (by simpa using hz)
   cases z with
   | tmp i =>
     by_cases e:i=u
     ·subst e
      show ((s'.set p none).put i _).fr i=(s.put i _).fr i
      simp [St.put,eA]
     ·have h0':s'.fr i=s.fr i:=h0
      show ((s'.set p none).put u _).fr i=(s.put u _).fr i
      simp [St.put,St.set,eA,e,h0']
   | _=>rfl
  have h1:=lC (k:=[]) (Q:=fun _ s2=>s2=((s'.set p none).put u y).put t x) (dst:=some t) (fv:=fv) (args:=args) (at':=at') (ty:=ty) (pos:=pos) (af:=af) (g:=gg) hc
   (hfv _) hargs' (fun y hy=>by rw [Option.mem_def,Option.some.injEq] at hy;rw [← hy];exact hdst) (fun r hr=>by subst hr;rw [dB];rfl)
  intro B hB ds' β a w hds hs Q'
  have hs0:=hs.drop p
  have hs1:Sim B β ((s'.set p none).put u y) a.tmps w:=hs0.setv (by
   have:=(hs.frz hp').slots u
   rw [show (s'.frz p wf xs).fr u=(s'.fr u).frz p wf xs from rfl,hev',AV.frz,if_pos rfl,← hy] at this
   exact this)
  refine Oper.wpIn_mono ?_ (h1 B hB ds' β a w hds hs1 Q')
  rintro a' w' ⟨hd',s2,β',hrun,hs2⟩
  obtain ⟨_,s3,β3,rfl,hs3⟩:=hrun B hB ds' β' a' w' hd' hs2
  refine ⟨hd',β3,?_⟩
  rw [← hgo]
  have hv:=hs3.slots u
  have e1:(((s'.set p none).put u y).put t x).fr u=y:=by simp [St.put,eA,Ne.symm htu,fun h:u=t=>htu h.symm]
  rw [e1,hy] at hv
  have hnm:=(hs.objs p _ hp').1
  have e2:((s'.set p none).put t x)=(((s'.set p none).put u y).put t x).put u (.vw p off len):=by
   refine kQ (fun _=>rfl) rfl fun i=>?_
   simp only [St.put,St.set,eA]
   by_cases h1:i=u
   ·subst h1
    have h3:¬ i=t:=fun h=>htu h.symm
    simp [h3,hev']
   ·simp [h1]
  have h5:=hs3.setv (t:=u) (x:=.vw p off len) (.vw _ _ _ _ hnm (by
   exact vR hv) (fun ty w xs h=>by
    have h:aO s'.hp p none p=some _:=h
    simp [aO] at h))
  rw [e2]
  exact h5
 ·rw [← E.run_eq,← hgo]
  exact hk
end
end Go.Ab

namespace Go.Proofs.YtejpnabbmgpmaaaGreat
open Go.Ab
theorem Kq:∀ (m:Nat) (ks:List Int),m≤3→ko [.int .i64 0,.int .i64 0,.int .i64 0] ((ks.take m).map i64) 0 3=[i64 (if 0<m then ks.getD 0 0 else 0),i64 (if 1<m then ks.getD 1 0 else 0),i64 (if 2<m then ks.getD 2 0 else 0)]
 | 0,_,_=>rfl
 | 1,[],_=>rfl
 | 2,[],_=>rfl
 | 3,[],_=>rfl
 | 1,[x],_=>rfl
 | 2,[x],_=>rfl
 | 3,[x],_=>rfl
 | 1,x::y::r,_=>by simp [ko,i64]
 | 2,[x,y],_=>rfl
 | 3,[x,y],_=>rfl
 | 2,x::y::z::r,_=>by simp [ko,i64]
 | 3,[x,y,z],_=>rfl
 | 3,x::y::z::w::r,_=>by simp [ko,i64]
theorem Bv {α:Type} (k:Nat) (l:List α) (N:Nat) (h:l.length=N) [Decidable ((N:Int)<(k:Int))]:List.take ((if (N:Int)<(k:Int) then (N:Int) else (k:Int)).toNat-0) l=l.take k:=by
 split
 ·rw [List.take_of_length_le (by omega),List.take_of_length_le (by omega)]
 ·congr 1
theorem BP {G}:HCall Tryz.prog G 156 [.d .nils] [] [] (fun r hp'=>r=.vw [0] 0 0∧hp'=[([0],.arr (some 3) [])]):=by
 refine HCall.thaw (Q:=fun r hp'=>(r=.d .nils∧hp'=[])∨(r=.vw [0] 0 0∧hp'=[([0],.arr (some 3) [])])) ?_ 0 (some 3) (by simp) ?_
 ·refine aq Tryz.func156 rfl (by decide +kernel) (by simp [Tryz.ntmps156]) (veil fun E=>?_)
  simp only [go_sem]
  refine F5 E 3 (some 3) rfl ?_
  refine rD E (e:=177) (by simp only [go_sem]) (by simp only [go_sem]) rfl fun b hb=>?_
  simp only [go_sem]
  refine aR E (fun h=>?_) (fun h=>?_)<;>simp only [go_sem]
  ·refine ⟨_,[],[],id,.inl ⟨rfl,rfl⟩,?_⟩
   simp only [go_sem]
  ·refine ⟨_,_,[0],tau [([0],[7])],.inr ⟨rfl,rfl⟩,?_⟩
   simp only [go_sem]
 ·rintro r hp' (⟨rfl,rfl⟩ | h)
  ·exact .inr ⟨rfl,rfl,rfl,rfl⟩
  ·exact .inl h
theorem aw {ks:List Int} {k:Nat} (h:k<ks.length):(ks.map i64).getD k .nilp=i64 (ks.getD k 0):=by simp [h]
theorem ma (ks:List Int) (o:Nat):∀ (a b:List EF) (i:Nat),aV ks o (a++b) i=aV ks o a i++aV ks o b (i+a.length)
 | [],b,i=>by simp [aV]
 | f::r,b,i=>by
   simp only [List.cons_append,aV,ma ks o r b (i+1),List.length_cons]
   rw [show i+1+r.length=i+(r.length+1) by omega]
def eh (ks:List Int) (o:Nat) (l:List EF) (i:Nat):List EF:=aV ks o (l.take i) 0++l.drop i
theorem zS (ks:List Int) (o:Nat) (l:List EF) (i:Nat):(eh ks o l i).length=l.length:=by
 simp only [eh,List.length_append,cy,List.length_take,List.length_drop];omega
theorem vX (ks:List Int) (o:Nat) (l:List EF):eh ks o l 0=l:=by simp [eh,aV]
theorem AY (ks:List Int) (o:Nat) (l:List EF):eh ks o l l.length=aV ks o l 0:=by simp [eh]
theorem wc {ks:List Int} {o:Nat} {l:List EF} {i:Nat} (h:i<l.length):eh ks o l (i+1)=(eh ks o l i).set i (if o+i<ks.length then { fdE l i with to:=ks.getD (o+i) 0 } else fdE l i):=by
 have h1:l.take (i+1)=l.take i++[l[i]]:=by simp
 have h2:l.drop i=l[i]::l.drop (i+1):=List.drop_eq_getElem_cons h
 have hf:fdE l i=l[i]:=by simp [fdE,h]
 unfold eh
 rw [h1,ma,h2,hf]
 have h3:(aV ks o (l.take i) 0).length=i:=by rw [cy,List.length_take];omega
 rw [List.set_append_right _ _ (by omega),h3,Nat.sub_self]
 simp only [aV,Nat.zero_add,List.length_take,Nat.min_eq_left (Nat.le_of_lt h),List.append_assoc,List.singleton_append,List.set_cons_zero]
theorem qz {ks:List Int} {o:Nat} {l:List EF} {i:Nat} (h:i<l.length):(eh ks o l i)[i]?=some (fdE l i):=by
 have h3:(aV ks o (l.take i) 0).length=i:=by rw [cy,List.length_take];omega
 unfold eh
 rw [List.getElem?_append_right (by omega),h3,Nat.sub_self,List.drop_eq_getElem_cons h]
 simp [fdE,h]
theorem rE {G} (n:EN) (ks:List Int) (hl:n.l.length≤1000000) (hks:ks.length≤1000000):HP Tryz.prog G 105 [enD n,.sl none (ks.map i64)] (fun r=>r=.d (enD (aK n ks))):=by
 unfold enD efD
 refine au Tryz.func105 rfl (by decide +kernel) (by simp [Tryz.ntmps105]) (veil fun E=>?_)
 simp only [go_sem]
 refine ab E (nq n.k) rfl rfl (by simp) ?_
 rintro _ rfl
 simp only [go_sem]
 have hk3:=bn n.k
 refine Je E [6] 6 77 [.int .i64 0,.int .i64 0,.int .i64 0] ?_ rfl rfl (by decide) rfl ?_
 ·rw [aa];decide
 simp only [go_sem]
 refine kb 8 mixed E (by simp only [List.take_succ_cons,List.take_zero];exact rfl) (by simp only [List.drop_succ_cons,List.drop_zero];exact rfl) rfl rfl (by decide +kernel) fun X=>?_
 simp only [go_sem]
 refine ⟨by split<;>constructor<;>omega,by decide +kernel,?_⟩
 rw [Bv (aI n.k) (ks.map i64) ks.length (by simp),← List.map_take]
 refine Iz E (d:=21) (dT:=95) (e0:=3) (by simp only [go_sem]) (by rw [EH]) (by rw [ti3];decide) rfl rfl rfl ?_
 rw [Kq _ _ hk3]
 obtain ⟨a,ha⟩:∃ a,a=if 0<aI n.k then ks.getD 0 0 else 0:=⟨_,rfl⟩
 obtain ⟨b,hb⟩:∃ b,b=if 1<aI n.k then ks.getD 1 0 else 0:=⟨_,rfl⟩
 obtain ⟨c,hc⟩:∃ c,c=if 2<aI n.k then ks.getD 2 0 else 0:=⟨_,rfl⟩
 rw [← ha,← hb,← hc]
 simp only [go_sem]
 refine aj mixed E fun X=>?_
 simp only [go_sem]
 simp only [List.getD_cons_succ,List.getD_cons_zero]
 simp only [go_sem]
 simp only [List.getD_cons_succ,List.getD_cons_zero]
 simp only [go_sem]
 refine ⟨by decide +kernel,?_⟩
 refine aR E (fun hp=>?_) (fun hp=>?_)<;>simp only [go_sem]
 ·refine ae E [.d .nils] [] [] BP rfl rfl ⟨by simp only [go_sem],by rw [aa];decide⟩ rfl (by simp only [go_sem]) (by simp only [go_sem]) ?_
  rintro _ _ ⟨rfl,rfl⟩
  simp only [go_sem]
  refine aE E (X:=Unit) (fun _=>[(1,.d (.sl none (ks.map i64))),(2,.at [2] 0),(4,.at [4] 0),(5,.at [5] 0),(41,.d (i64 0)),(42,.d (i64 0))])
   (fun _=>[([2],.box [.d (i64 n.k),.d (i64 a),.d (i64 b),.d (i64 c),.d (i64 n.n),.d (.str n.name),.d (.str n.s),.vw [37,0] 0 0,.d (i64 n.pos)]),([4],.box [.d (i64 0),.d (i64 0),.d (i64 0),.d (i64 0),.d (i64 0),.d (.str []),.d (.str []),.d .nils,.d (i64 0)]),([5],.box [.d (i64 (aI n.k)),.d (.bool (aG n.k))]),([37,0],.arr (some 3) [])]) [2,4,5,37] (fun _=>0) () id ?_ ?_
  ·simp only [go_sem]
   all_goals rfl
  rintro _ E0
  refine aT E0 fun Q' hQ E'=>?_
  simp only [go_sem]
  rw [hQ]
  simp only [go_sem]
  refine ⟨[([37,0],some 3,[])],?_⟩
  simp only [go_sem]
  have hw:aK n ks={ n with a:=a,b:=b,c:=c,l:=[] }:=by
   have hp':aG n.k=false:=by simpa using hp
   simp [aK,ha,hb,hc,hp']
  rw [hw]
  rfl
 ·refine ae E [.d (efD n.l)] [] [] (Ej n.l hl) rfl rfl ⟨by simp only [go_sem],by rw [aa];decide⟩ rfl (by simp only [go_sem]) (by simp only [go_sem]) ?_
  rintro _ _ ⟨rfl,rfl⟩
  simp only [go_sem]
  refine aE E (X:={ i:Nat // i≤n.l.length }) (fun x=>[(1,.d (.sl none (ks.map i64))),(2,.at [2] 0),(4,.at [4] 0),(5,.at [5] 0),(41,.d (i64 n.l.length)),(42,.d (i64 x.1))])
   (fun x=>[([2],.box [.d (i64 n.k),.d (i64 a),.d (i64 b),.d (i64 c),.d (i64 n.n),.d (.str n.name),.d (.str n.s),.vw [37,0] 0 n.l.length,.d (i64 n.pos)]),([4],.box [.d (i64 0),.d (i64 0),.d (i64 0),.d (i64 0),.d (i64 0),.d (.str []),.d (.str []),.d .nils,.d (i64 0)]),([5],.box [.d (i64 (aI n.k)),.d (.bool (aG n.k))]),([37,0],.arr (some 3) ((eh ks (aI n.k) n.l x.1).map fD))]) [2,4,5,37] (fun x=>n.l.length-x.1) ⟨0,Nat.zero_le _⟩ id ?_ ?_
  ·simp only [go_sem]
   all_goals (first | rfl | (rw [vX]))
  rintro ⟨i,hi⟩ E0
  refine aT E0 fun Q' hQ E'=>?_
  simp only at hi ⊢
  simp only [go_sem]
  refine ai E' (fun h1=>?_) (fun h1=>?_)<;>simp only [go_sem]
  ·have h1':i<n.l.length:=by omega
   rw [ak ⟨by omega,by omega⟩]
   have hpl:=zS ks (aI n.k) n.l i
   have hst:=wc (ks:=ks) (o:=aI n.k) h1'
   refine ai E' (fun h2=>?_) (fun h2=>?_)<;>simp only [go_sem]
   ·have h2':aI n.k+i<ks.length:=by omega
    rw [if_pos h2'] at hst
    refine aj mixed E' fun X=>?_
    simp only [go_sem]
    refine ⟨⟨by omega,by omega⟩,?_⟩
    rw [show ((aI n.k:Nat)+(i:Int)).toNat=aI n.k+i by omega,aw h2']
    simp only [go_sem]
    have hgt:(List.map fD (eh ks (aI n.k) n.l i)).getD i .nilp=.agg [.str (fdE n.l i).nm,.str (fdE n.l i).var,i64 (fdE n.l i).to]:=by
     rw [List.getD_eq_getElem?_getD,List.getElem?_map,qz h1'];rfl
    refine ⟨⟨by omega,by omega⟩,?_⟩
    rw [hgt]
    simp only [go_sem]
    have hmp:(List.map fD (eh ks (aI n.k) n.l i)).set i (.agg [.str (fdE n.l i).nm,.str (fdE n.l i).var,i64 (ks.getD (aI n.k+i) 0)])=(eh ks (aI n.k) n.l (i+1)).map fD:=by
     rw [hst,List.map_set];rfl
    rw [hmp]
    refine ⟨by decide +kernel,?_⟩
    rw [hQ]
    simp only [go_sem]
    refine ⟨⟨i+1,by omega⟩,by show n.l.length-(i+1)<_;omega,id,?_⟩
    rw [ak ⟨by omega,by omega⟩]
    simp only [go_sem]
    all_goals rfl
   ·have h2':¬ aI n.k+i<ks.length:=by omega
    rw [if_neg h2'] at hst
    have hst2:eh ks (aI n.k) n.l (i+1)=eh ks (aI n.k) n.l i:=by
     rw [hst]
     refine List.ext_getElem? fun j=>?_
     rw [List.getElem?_set]
     split
     ·rename_i e;subst e
      rw [if_pos (by omega),qz h1']
     ·rfl
    rw [hQ]
    simp only [go_sem]
    refine ⟨⟨i+1,by omega⟩,by show n.l.length-(i+1)<_;omega,id,?_⟩
    rw [hst2,ak ⟨by omega,by omega⟩]
    simp only [go_sem]
    all_goals rfl
  ·rw [hQ]
   simp only [go_sem]
   have hi2:i=n.l.length:=by omega
   subst hi2
   rw [AY]
   refine ⟨[([37,0],some 3,(aV ks (aI n.k) n.l 0).map fD)],?_⟩
   simp only [go_sem]
   have hw:aK n ks={ n with a:=a,b:=b,c:=c,l:=aV ks (aI n.k) n.l 0 }:=by
    have hp':aG n.k=true:=by simpa using hp
    simp [aK,ha,hb,hc,hp']
   rw [hw,List.take_of_length_le (by rw [List.length_map,cy];exact Nat.le_refl _)]
end Go.Proofs.YtejpnabbmgpmaaaGreat

namespace Go.Proofs.YtejpnabbmgpmaaaGreat
open Go.Ab
theorem GM {G} (a b:Int):HP Tryz.prog G 275 [i64 a,i64 b] (fun r=>r=.d (i64 (w64 (a+b)))):=by
 refine al Tryz.func275 rfl (by decide +kernel) (by simp [Tryz.ntmps275]) (veil fun E=>?_)
 simp only [go_sem]
theorem GD {G} (a b:Int):HP Tryz.prog G 276 [i64 a,i64 b] (fun r=>r=.d (i64 (w64 (a-b)))):=by
 refine al Tryz.func276 rfl (by decide +kernel) (by simp [Tryz.ntmps276]) (veil fun E=>?_)
 simp only [go_sem]
theorem EA {G} (a b:Int):HP Tryz.prog G 277 [i64 a,i64 b] (fun r=>r=.d (i64 (w64 (a*b)))):=by
 refine al Tryz.func277 rfl (by decide +kernel) (by simp [Tryz.ntmps277]) (veil fun E=>?_)
 simp only [go_sem]
theorem F6 {G} (a b:Int):HP Tryz.prog G 278 [i64 a,i64 b] (fun r=>r=.tup [.d (i64 (uW a b)),.d (i64 (wH b))]):=by
 refine al Tryz.func278 rfl (by decide +kernel) (by simp [Tryz.ntmps278]) (veil fun E=>?_)
 simp only [go_sem]
 refine ai E (fun h=>?_) (fun h=>?_)<;>simp only [go_sem]
 ·simp [uW,wH,h]
 ·simp [uW,wH,h]
theorem yT {G} (b:Bool):HP Tryz.prog G 310 [.bool b] (fun r=>r=.d (i64 (if b then 1 else 0))):=by
 refine al Tryz.func310 rfl (by decide +kernel) (by simp [Tryz.ntmps310]) (veil fun E=>?_)
 cases b<;>simp only [go_sem]
theorem DH {G} (a b:Int):HP Tryz.prog G 282 [i64 1,i64 a,i64 b] (fun r=>r=.tup [.d (i64 (w64 (a+b))),.d (i64 0)]):=by
 refine al Tryz.func282 rfl (by decide +kernel) (by simp [Tryz.ntmps282]) (veil fun E=>?_)
 simp only [go_sem]
 simp [GN]
theorem C1 {G} (a b:Int):HP Tryz.prog G 282 [i64 2,i64 a,i64 b] (fun r=>r=.tup [.d (i64 (w64 (a-b))),.d (i64 0)]):=by
 refine al Tryz.func282 rfl (by decide +kernel) (by simp [Tryz.ntmps282]) (veil fun E=>?_)
 simp only [go_sem]
 simp [EO]
theorem AQ {G} (a b:Int):HP Tryz.prog G 282 [i64 3,i64 a,i64 b] (fun r=>r=.tup [.d (i64 (w64 (a*b))),.d (i64 0)]):=by
 refine al Tryz.func282 rfl (by decide +kernel) (by simp [Tryz.ntmps282]) (veil fun E=>?_)
 simp only [go_sem]
 simp [G3]
theorem BC {G} (a b:Int) (ha:inR a) (hb:inR b):HP Tryz.prog G 282 [i64 4,i64 a,i64 b] (fun r=>r=.tup [.d (i64 (uW a b)),.d (i64 (wH b))]):=by
 refine al Tryz.func282 rfl (by decide +kernel) (by simp [Tryz.ntmps282]) (veil fun E=>?_)
 simp only [go_sem]
 refine ai E (fun h0=>?_) (fun h0=>?_)<;>simp only [go_sem]
 ·simp [uW,wH,h0]
 ·refine ai E (fun h1=>?_) (fun h1=>?_)<;>simp only [go_sem]<;>refine ai E (fun h2=>?_) (fun h2=>?_)<;>simp only [go_sem]
  all_goals simp only [h1,h2,decide_true,decide_false]
  all_goals simp only [go_sem]
  all_goals simp only [uW,wH,if_neg h0]
  ·rw [nk ha h1,nk hb h2,w_u,Int.neg_tdiv_neg]
   exact ⟨by omega,by simp⟩
  ·rw [nk ha h1,ix hb h2,yd,Int.neg_tdiv,Int.neg_neg]
   exact ⟨by omega,by simp⟩
  ·rw [ix ha h1,nk hb h2,yd,Int.tdiv_neg,Int.neg_neg]
   exact ⟨by omega,by simp⟩
  ·rw [ix ha h1,ix hb h2,w_u]
   exact ⟨by omega,by simp⟩
end Go.Proofs.YtejpnabbmgpmaaaGreat

namespace Go.Proofs.YtejpnabbmgpmaaaGreat
open Go.Ab
def bJ (s p:List UInt8):Bool:=decide (p.length≤s.length) && (s.take p.length == p)
theorem yy {G} (s p:List UInt8):HP Tryz.prog G 304 [.str s,.str p] (fun r=>r=.d (.bool (bJ s p))):=by
 refine al Tryz.func304 rfl (by decide +kernel) (by simp [Tryz.ntmps304]) (veil fun E=>?_)
 simp only [go_sem]
 refine aF E (fun h=>?_) (fun h=>?_)<;>simp only [go_sem]
 ·have hl:p.length≤s.length:=by simpa using h
  refine ⟨by simpa using hl,?_⟩
  simp [bJ,hl,JD]
 ·have hl:¬ p.length≤s.length:=by simpa using h
  simp [bJ,hl]
theorem zI {s p:List UInt8} (h:bJ s p=true):p.length≤s.length:=by
 simp only [bJ,Bool.and_eq_true,decide_eq_true_eq] at h
 exact h.1
theorem ER {G} (s p:List UInt8):HP Tryz.prog G 327 [.str s,.str p] (fun r=>r=.tup [.d (.str (if bJ s p then s.drop p.length else s)),.d (.bool (bJ s p))]):=by
 refine al Tryz.func327 rfl (by decide +kernel) (by simp [Tryz.ntmps327]) (veil fun E=>?_)
 simp only [go_sem]
 refine ab E (yy s p) rfl rfl (by simp) ?_
 rintro _ rfl
 simp only [go_sem]
 refine aR E (fun h=>?_) (fun h=>?_)<;>simp only [go_sem]
 ·have h:bJ s p=false:=by simpa using h
  simp [h]
 ·have h:bJ s p=true:=by simpa using h
  have:=zI h
  simp [h]
  refine ⟨by omega,?_⟩
  rw [List.take_of_length_le]
  simp
theorem zE {G} (s p:List UInt8):HP Tryz.prog G 297 [.str s,.str p] (fun r=>r=.tup [.d (.str (if bJ s p then s.drop p.length else s)),.d (.bool (bJ s p))]):=by
 refine al Tryz.func297 rfl (by decide +kernel) (by simp [Tryz.ntmps297]) (veil fun E=>?_)
 simp only [go_sem]
 refine ab E (ER s p) rfl rfl (by simp) ?_
 rintro _ rfl
 simp only [go_sem]
end Go.Proofs.YtejpnabbmgpmaaaGreat

namespace Go.Proofs.YtejpnabbmgpmaaaGreat
open Go.Ab
def dD (k a b:Int):Int:=if k=1 then w64 (a+b) else if k=2 then w64 (a-b) else if k=3 then w64 (a*b) else if k=4 then uW a b else if k=5 then (if a<b then 1 else 0) else if k=6 then (if a=b then 1 else 0) else 0
def iy (k b:Int):Int:=if k=1 then 0 else if k=2 then 0 else if k=3 then 0 else if k=4 then wH b else if k=5 then 0 else if k=6 then 0 else 2
def gx (k a b:Int):AV:=.tup [.d (i64 (dD k a b)),.d (i64 (iy k b))]
theorem zr {G} (b:Bool):HP Tryz.prog G 279 [.bool b] (fun r=>r=.d (i64 (if b then 1 else 0))):=by
 refine al Tryz.func279 rfl (by decide +kernel) (by simp [Tryz.ntmps279]) (veil fun E=>?_)
 cases b<;>simp only [go_sem]
theorem G8 {G} (k a b:Int):HP Tryz.prog G 241 [i64 k,i64 a,i64 b] (fun r=>r=gx k a b):=by
 refine al Tryz.func241 rfl (by decide +kernel) (by simp [Tryz.ntmps241]) (veil fun E=>?_)
 simp only [go_sem]
 refine ai E (fun h=>?_) (fun h=>?_)<;>simp only [go_sem]
 ·subst h
  refine ab E (GM a b) rfl rfl (by simp) ?_
  rintro _ rfl
  simp only [go_sem]
  rfl
 refine ai E (fun h=>?_) (fun h=>?_)<;>simp only [go_sem]
 ·subst h
  refine ab E (GD a b) rfl rfl (by simp) ?_
  rintro _ rfl
  simp only [go_sem]
  rfl
 refine ai E (fun h=>?_) (fun h=>?_)<;>simp only [go_sem]
 ·subst h
  refine ab E (EA a b) rfl rfl (by simp) ?_
  rintro _ rfl
  simp only [go_sem]
  rfl
 refine ai E (fun h=>?_) (fun h=>?_)<;>simp only [go_sem]
 ·subst h
  refine ab E (F6 a b) rfl rfl (by simp) ?_
  rintro _ rfl
  simp only [go_sem]
  rfl
 refine ai E (fun h=>?_) (fun h=>?_)<;>simp only [go_sem]
 ·subst h
  refine ab E (zr (decide (a<b))) rfl rfl (by simp) ?_
  rintro _ rfl
  simp only [go_sem]
  by_cases hh:a<b<;>simp [gx,dD,iy,hh]
 refine ai E (fun h=>?_) (fun h=>?_)<;>simp only [go_sem]
 ·subst h
  refine ab E (zr (decide (a=b))) rfl rfl (by simp) ?_
  rintro _ rfl
  simp only [go_sem]
  by_cases hh:a=b<;>simp [gx,dD,iy,hh]
 ·simp_all [gx,dD,iy]
theorem Fg {G} (a b:Int):HP Tryz.prog G 282 [i64 5,i64 a,i64 b] (fun r=>r=gx 5 a b):=by
 refine al Tryz.func282 rfl (by decide +kernel) (by simp [Tryz.ntmps282]) (veil fun E=>?_)
 simp only [go_sem]
 refine ab E (yT (decide (a<b))) rfl rfl (by simp) ?_
 rintro _ rfl
 simp only [go_sem]
 by_cases hh:a<b<;>simp [gx,dD,iy,hh]
theorem Gb {G} (a b:Int):HP Tryz.prog G 282 [i64 6,i64 a,i64 b] (fun r=>r=gx 6 a b):=by
 refine al Tryz.func282 rfl (by decide +kernel) (by simp [Tryz.ntmps282]) (veil fun E=>?_)
 simp only [go_sem]
 refine ab E (yT (decide (a=b))) rfl rfl (by simp) ?_
 rintro _ rfl
 simp only [go_sem]
 by_cases hh:a=b<;>simp [gx,dD,iy,hh]
theorem EU {G} (k a b:Int) (h1:¬ k=1) (h2:¬ k=2) (h3:¬ k=3) (h4:¬ k=4) (h5:¬ k=5) (h6:¬ k=6):HP Tryz.prog G 282 [i64 k,i64 a,i64 b] (fun r=>r=gx k a b):=by
 refine al Tryz.func282 rfl (by decide +kernel) (by simp [Tryz.ntmps282]) (veil fun E=>?_)
 simp only [go_sem]
 simp only [h1,decide_false]
 simp only [go_sem]
 simp only [h2,decide_false]
 simp only [go_sem]
 simp only [h3,decide_false]
 simp only [go_sem]
 simp only [h4,decide_false]
 simp only [go_sem]
 simp only [h5,decide_false]
 simp only [go_sem]
 simp only [h6,decide_false]
 simp only [go_sem]
 simp [gx,dD,iy,h1,h2,h3,h4,h5,h6]
theorem GZ {G} (k a b:Int) (ha:inR a) (hb:inR b):HP Tryz.prog G 282 [i64 k,i64 a,i64 b] (fun r=>r=gx k a b):=by
 by_cases h1:k=1
 ·subst h1;exact DH a b
 by_cases h2:k=2
 ·subst h2;exact C1 a b
 by_cases h3:k=3
 ·subst h3;exact AQ a b
 by_cases h4:k=4
 ·subst h4;exact BC a b ha hb
 by_cases h5:k=5
 ·subst h5;exact Fg a b
 by_cases h6:k=6
 ·subst h6;exact Gb a b
 exact EU k a b h1 h2 h3 h4 h5 h6
end Go.Proofs.YtejpnabbmgpmaaaGreat

namespace Go.Proofs.YtejpnabbmgpmaaaGreat
open Go.Ab
def dd (u:Nat):List UInt8:=if u=0 then [] else Lib.decDigits u
theorem Ia (m:Int):m.tdiv 10=if m<0 then -((m.natAbs / 10:Nat):Int) else ((m.natAbs / 10:Nat):Int):=by
 cases m with
 | ofNat k=>rw [if_neg (show ¬ Int.ofNat k<0 from Int.not_lt.2 (Int.natCast_nonneg k))];rfl
 | negSucc k=>rw [if_pos (Int.negSucc_lt_zero k)];rfl
end Go.Proofs.YtejpnabbmgpmaaaGreat

namespace Go.Proofs.YtejpnabbmgpmaaaGreat
open Go.Ab
def bS (c:UInt8):Bool:=decide (48≤c.toNat) && decide (c.toNat≤57)
def ch (l:List UInt8):Nat:=l.foldl (fun v c=>10*v+(c.toNat-48)) 0
theorem qa (l:List UInt8) (c:UInt8):ch (l++[c])=10*ch l+(c.toNat-48):=by simp [ch]
theorem pW {l:List UInt8} {i:Nat} (h:i<l.length):l.take (i+1)=l.take i++[l[i]]:=by simp
theorem eT {l:List UInt8} {i:Nat} (h:i<l.length):ch (l.take (i+1))=10*ch (l.take i)+(l[i].toNat-48):=by
 rw [pW h,qa]
theorem A0 (l:List UInt8) (i:Nat):ch (l.take i)≤ch l:=by
 suffices h:∀ r m:List UInt8,ch m≤ch (m++r) by
  have:=h (l.drop i) (l.take i)
  rwa [List.take_append_drop] at this
 intro r
 induction r with
 | nil=>intro m;simp
 | cons c r ih =>
   intro m
   have h1:=ih (m++[c])
   rw [qa,List.append_assoc] at h1
   have h2:ch (m++c::r)=ch (m++([c]++r)):=rfl
   rw [h2];omega
def dq (l:List UInt8):Bool:=!l.isEmpty && !(decide (1<l.length) && l.head? == some 48) && l.all bS && decide (ch l≤9223372036854775808)
def cE (neg:Bool) (l:List UInt8):Bool:=dq l && !(neg && decide (ch l=0)) && !(!neg && decide (ch l=9223372036854775808))
def da (neg:Bool) (l:List UInt8):AV:=.tup [.d (i64 (if cE neg l then (if neg then -(ch l:Int) else ch l) else 0)),.d (i64 (if cE neg l then 0 else 5))]
def rP (s:List UInt8):AV:=if bJ s [126] then da true (s.drop 1) else da false s
theorem fQ {l:List UInt8} {i:Nat} (hi:i<l.length) (h:bS l[i]=false):dq l=false:=by
 cases hd:dq l with
 | false=>rfl
 | true =>
   simp only [dq,Bool.and_eq_true] at hd
   have:=List.all_eq_true.1 hd.1.2 _ (List.getElem_mem hi)
   rw [h] at this;cases this
theorem wm {l:List UInt8} (h1:1<l.length) (h:l.head?=some 48):dq l=false:=by
 simp [dq,h1,h]
theorem pZ {l:List UInt8} {i:Nat} (h:9223372036854775808<ch (l.take i)):dq l=false:=by
 have:=A0 l i
 have:¬ ch l≤9223372036854775808:=by omega
 simp [dq,this]
theorem oT {neg:Bool} {l:List UInt8} (h:dq l=false):cE neg l=false:=by simp [cE,h]
theorem gX {neg:Bool} {l:List UInt8} (h:cE neg l=false):da neg l=.tup [.d (i64 0),.d (i64 5)]:=by simp [da,h]
theorem pV {l:List UInt8} (h0:1≤l.length) (hlead:¬ (1<l.length∧l.head?=some 48)) (hall:l.all bS=true) (hv:ch l≤9223372036854775808):dq l=true:=by
 simp only [dq,Bool.and_eq_true,Bool.not_eq_true',decide_eq_true_eq,Bool.and_eq_false_iff,decide_eq_false_iff_not,beq_eq_false_iff_ne]
 refine ⟨⟨⟨?_,?_⟩,hall⟩,hv⟩
 ·cases l with
  | nil=>simp at h0
  | cons c r=>rfl
 ·by_cases h:1<l.length
  ·exact .inr fun e=>hlead ⟨h,e⟩
  ·exact .inl h
theorem tJ {l:List UInt8} {i:Nat} (hi:i<l.length) (hall:(l.take i).all bS=true) (h:bS l[i]=true):(l.take (i+1)).all bS=true:=by
 rw [pW hi,List.all_append,hall]
 simp [h]
end Go.Proofs.YtejpnabbmgpmaaaGreat

namespace Go.Proofs.YtejpnabbmgpmaaaGreat
open Go.Ab
structure Tok where
 k:Int
 s:List UInt8
 n:Int
 pos:Int
 deriving Inhabited,DecidableEq
structure Fnd where
 t:Tok
 n:Nat
 e:Int
 deriving DecidableEq
def noT:Tok:=⟨0,[],0,0⟩
def dX (e:Int):Fnd:=⟨noT,0,e⟩
def gM (t:Tok):D:=.agg [i64 t.k,.str t.s,i64 t.n,i64 t.pos]
def rB (f:Fnd):D:=.agg [i64 f.t.k,.str f.t.s,i64 f.t.n,i64 f.t.pos,i64 f.n,i64 f.e]
def mf (c:UInt8):Bool:=decide (32≤c.toNat) && decide (c.toNat≤126) && decide (c.toNat≠34) && decide (c.toNat≠92)
def kI:List UInt8:=[48,49,50,51,52,53,54,55,56,57,97,98,99,100,101,102]
def gA:List UInt8→UInt8 × Nat
 | []=>(0,0)
 | c::r =>
   if c=34∨c=92 then (c,1)
   else if c=110 then (10,1)
   else if c=116 then (9,1)
   else if c=120 then
    match r with
    | a::b::_=>if Lib.indexByte kI a<0∨Lib.indexByte kI b<0 then (0,0) else (UInt8.ofNat (16*Lib.indexByte kI a+Lib.indexByte kI b).toNat,3)
    | _=>(0,0)
   else (0,0)
def ee:Nat→List UInt8→Nat→List UInt8→List UInt8 × Nat × Int
 | 0,_,_,_=>([],0,5)
 | _+1,[],_,_=>([],0,5)
 | m+1,c::r,i,acc =>
   if c=34 then (if 200<acc.length then ([],0,7) else (acc,i+1,0))
   else if c=92 then (if (gA r).2=0 then ([],0,5) else ee m (r.drop (gA r).2) (i+(gA r).2+1) (acc++[(gA r).1]))
   else if mf c then ee m r (i+1) (acc++[c])
   else ([],0,5)
def dp:List UInt8→List UInt8 × Nat × Int
 | []=>([],0,5)
 | c::r=>if c=34 then ee r.length.succ r 1 [] else ([],0,5)
def lh:List UInt8→Nat
 | []=>0
 | c::r=>if bS c then lh r+1 else 0
def Cw:List UInt8:=[59,58,44,46,61,60,62,43,45,42,47,94,40,41,123,125,91,93,124,38]
def oB (s:List UInt8) (n:Nat):Fnd :=
 if 20<n then dX 7 else if CT (s.take n) then ⟨⟨1,s.take n,0,0⟩,n,0⟩ else if gr ((s.take n).getD 0 0) then ⟨⟨3,s.take n,0,0⟩,n,0⟩ else ⟨⟨2,s.take n,0,0⟩,n,0⟩
def s9 (s:List UInt8):Fnd :=
 if bH (s.drop 1)=0∨gr (s.getD 1 0) then dX 5 else if 20<bH (s.drop 1) then dX 7 else ⟨⟨6,(s.drop 1).take (bH (s.drop 1)),0,0⟩,bH (s.drop 1)+1,0⟩
def sW (neg:Bool) (l:List UInt8):Int × Int:=if cE neg l then (if neg then -(ch l:Int) else ch l,0) else (0,5)
def BK (s:List UInt8):Int × Int:=if bJ s [126] then sW true (s.drop 1) else sW false s
def BY (s:List UInt8):Fnd :=
 ⟨⟨4,[],(BK (s.take (lh (s.drop 1)+1))).1,0⟩,lh (s.drop 1)+1,(BK (s.take (lh (s.drop 1)+1))).2⟩
def vd (s:List UInt8):Fnd:=⟨⟨5,(dp s).1,0,0⟩,(dp s).2.1,(dp s).2.2⟩
def nP (s:List UInt8):Fnd :=
 if bJ s [45,62] || bJ s [61,61] then ⟨⟨7,s.take 2,0,0⟩,2,0⟩ else if Lib.indexByte Cw (s.getD 0 0)<0 then dX 5 else ⟨⟨7,s.take 1,0,0⟩,1,0⟩
def dP (s:List UInt8):Fnd :=
 if 0<bH s then oB s (bH s)
 else if s.getD 0 0=39 then s9 s
 else if bS (s.getD 0 0) || decide (s.getD 0 0=126) then BY s
 else if s.getD 0 0=34 then vd s
 else nP s
def wX:List UInt8:=[32,9,10]
def iz:List UInt8→Option Nat
 | []=>none
 | c::r=>if c=10 then some 0 else (iz r).map (·+1)
def j8:Nat→List UInt8→Nat
 | 0,_=>0
 | _+1,[]=>0
 | m+1,c::r =>
   if c=32∨c=9∨c=10 then j8 m r+1
   else if c=35 then
    match iz (c::r) with
    | none=>(c::r).length
    | some k=>k+j8 m ((c::r).drop k)
   else 0
def bM (s:List UInt8):Nat:=j8 s.length.succ s
def ej:Nat→List UInt8→Nat→List (Nat × Fnd)
 | 0,_,_=>[]
 | m+1,s,at' =>
   if s.drop (bM s)=[] then []
   else if (dP (s.drop (bM s))).e≠0 then [(at'+bM s,dP (s.drop (bM s)))]
   else (at'+bM s,dP (s.drop (bM s)))::ej m ((s.drop (bM s)).drop (dP (s.drop (bM s))).n) (at'+bM s+(dP (s.drop (bM s))).n)
def a9 (s:List UInt8):List (Nat × Fnd):=ej s.length.succ s 0
def lD:List (Nat × Fnd)→Option (Nat × Int)
 | []=>none
 | q::r=>if q.2.e≠0 then some (q.1,q.2.e) else lD r
def pY (q:Nat × Fnd):Tok:={ q.2.t with pos:=q.1 }
def dx (s:List UInt8):List Tok × Nat × Int :=
 match lD (a9 s) with
 | some (i,e)=>([],i,e)
 | none=>((a9 s).map pY,s.length,0)
end Go.Proofs.YtejpnabbmgpmaaaGreat

namespace Go.Proofs.YtejpnabbmgpmaaaGreat
open Go.Ab
structure PS where
 l:List Tok
 fin:Int
 err:Int
 pos:Int
 nest:Nat
def PS.peek (s:PS):Tok:=match s.l with
 | []=>⟨0,[],0,s.fin⟩
 | t::_=>t
def PS.next (s:PS):PS:={ s with l:=s.l.tail }
def PS.fail (s:PS) (e p:Int):PS:=if s.err=0 then { s with err:=e,pos:=p } else s
def PS.wrong (s:PS):PS:=s.fail 5 s.peek.pos
def PS.is (s:PS) (k:Int) (t:List UInt8):Bool:=!s.l.isEmpty && decide (s.peek.k=k) && decide (s.peek.s=t)
def PS.sees (s:PS) (k:Int) (t:List UInt8):Bool:=decide (s.err=0) && s.is k t
def PS.may (s:PS) (k:Int) (t:List UInt8):PS:=if s.sees k t then s.next else s
def PS.must (s:PS) (k:Int) (t:List UInt8):PS:=if s.sees k t then s.next else s.wrong
def PS.has (s:PS) (k:Int):Bool:=decide (s.err=0) && decide (s.peek.k=k)
def PS.of (s:PS) (k:Int):List UInt8 × PS:=if s.has k then (s.peek.s,s.next) else ([],s.wrong)
abbrev PR:=List EN × PS
def nd0 (k:Int) (pos:Int):EN:=⟨k,0,0,0,0,[],[],[],pos⟩
def bp (n:EN):List EN:=aD n []
def noE:List EN:=bp (nd0 1 0)
def iF (ns:List EN):EN:=ndE ns (ns.length-1)
def lp:List UInt8:=[116,114,117,101]
def gY:List UInt8:=[102,97,108,115,101]
def mK:List UInt8:=[99,97,115,101]
def H3:List UInt8:=[102,117,110]
def Ib:List UInt8:=[108,101,116]
def kJ:List UInt8:=[114,101,99]
def bIn:List UInt8:=[105,110]
def bIf:List UInt8:=[105,102]
def qj:List UInt8:=[116,104,101,110]
def qw:List UInt8:=[101,108,115,101]
def bOf:List UInt8:=[111,102]
def Hg:List UInt8:=[101,110,100]
def bTo:List UInt8:=[45,62]
section
variable (ex:PS→PR)
def PS.parted (s:PS) (t:Tok) (l:List EF):PS :=
 if s.err≠0 then s else if l.length=30 then s.fail 8 t.pos else if (l.any fun f=>decide (f.nm=t.s)) then s.fail 5 t.pos else s
def ib (s:PS) (l:List EF):EF × PS :=
 let r:=s.of 2
 (⟨r.1,[],0⟩,((r.2.parted s.peek l).must 7 [61]))
def eG (s:PS) (l:List EF):EF × PS :=
 let r:=s.of 3
 let q:=(r.2.parted s.peek l).of 2
 (⟨r.1,q.1,0⟩,q.2.must 7 bTo)
def bK (between:List UInt8) (part:PS→List EF→EF × PS):Nat→PS→List EF→List (List EN)→List EF × List (List EN) × PS
 | 0,s,l,ks=>(l,ks,s)
 | m+1,s,l,ks =>
   let f:=part s l
   let e:=ex f.2
   if e.2.sees 7 between then bK between part m e.2.next (l++[f.1]) (ks++[e.1]) else (l++[f.1],ks++[e.1],e.2)
def eI (s:PS) (pos:Int):PR :=
 if s.sees 7 [125] then (bp (nd0 11 pos),s.next)
 else
  let r:=bK ex [44] ib s.l.length.succ s [] []
  (aD { nd0 11 pos with l:=r.1 } r.2.1,r.2.2.must 7 [125])
def im (s:PS) (pos:Int):PR :=
 let e:=ex s
 let s1:=e.2.must 1 bOf
 let r:=bK ex [124] eG s1.l.length.succ s1 [] []
 (aD { nd0 14 pos with l:=r.1 } (e.1::r.2.1),r.2.2.must 1 Hg)
def dH (s:PS):PR :=
 let t:=s.peek
 if s.err≠0 then (noE,s.wrong)
 else if t.k=4 then (bp { nd0 1 t.pos with n:=t.n },s.next)
 else if t.k=5 then (bp { nd0 3 t.pos with s:=t.s },s.next)
 else if t.k=2 then (bp { nd0 4 t.pos with name:=t.s },s.next)
 else if s.sees 1 lp then (bp { nd0 2 t.pos with n:=1 },s.next)
 else if s.sees 1 gY then (bp (nd0 2 t.pos),s.next)
 else if s.sees 7 [40] then
  let e:=ex s.next
  (e.1,e.2.must 7 [41])
 else if s.sees 7 [123] then eI ex s.next t.pos
 else if s.sees 1 mK then im ex s.next t.pos
 else (noE,s.wrong)
def gz:Nat→List EN→PS→PR
 | 0,a,s=>(a,s)
 | m+1,a,s=>if s.sees 7 [46] then gz m (aD { nd0 12 s.peek.pos with name:=(s.next.of 2).1 } [a]) (s.next.of 2).2 else (a,s)
def dG (s:PS):PR :=
 let r:=dH ex s
 gz r.2.l.length.succ r.1 r.2
def PS.begins (s:PS):Bool :=
 let t:=s.peek
 decide (t.k=4) || decide (t.k=5) || decide (t.k=2) || (decide (t.k=1) && (decide (t.s=lp) || decide (t.s=gY) || decide (t.s=mK))) || (decide (t.k=7) && (decide (t.s=[40]) || decide (t.s=[123])))
def iG:Nat→List EN→PS→PR
 | 0,a,s=>(a,s)
 | m+1,a,s=>if decide (s.err=0) && s.begins then iG m (aD (nd0 6 (iF a).pos) [a,(dG ex s).1]) (dG ex s).2 else (a,s)
def lQ (s:PS):PR :=
 if s.has 3 then
  let r:=dG ex s.next
  (aD { nd0 13 s.peek.pos with name:=s.peek.s } [r.1],r.2)
 else
  let r:=dG ex s
  iG ex r.2.l.length.succ r.1 r.2
def opS (s:PS):List (List UInt8 × Int)→Option Int
 | []=>none
 | q::r=>if s.sees 7 q.1 then some q.2 else opS s r
def fx:List (List UInt8 × Int):=[([42],3),([47],4)]
def iU:List (List UInt8 × Int):=[([43],1),([45],2),([94],7)]
def kg:List (List UInt8 × Int):=[([60],5),([61,61],6)]
def kq (ops:List (List UInt8 × Int)) (sub:PS→PR):Nat→List EN→PS→PR
 | 0,a,s=>(a,s)
 | m+1,a,s=>match opS s ops with
   | some n=>kq ops sub m (aD { nd0 10 s.peek.pos with n:=n } [a,(sub s.next).1]) (sub s.next).2
   | none=>(a,s)
def j4 (s:PS):PR:=kq fx (lQ ex) (lQ ex s).2.l.length.succ (lQ ex s).1 (lQ ex s).2
def sY (s:PS):PR:=kq iU (j4 ex) (j4 ex s).2.l.length.succ (j4 ex s).1 (j4 ex s).2
def ui (s:PS):PR :=
 let a:=sY ex s
 match opS a.2 kg with
 | some n =>
   let b:=sY ex a.2.next
   (aD { nd0 10 a.2.peek.pos with n:=n } [a.1,b.1],b.2)
 | none=>a
def sr (s:PS) (pos:Int):PR :=
 let k:Int:=if s.sees 1 kJ then 8 else 7
 let x:=(s.may 1 kJ).of 2
 let s2:=x.2.must 7 [61]
 let a:=ex s2
 let s3:=if k=8∧(iF a.1).k≠5 then a.2.fail 5 s2.peek.pos else a.2
 let b:=ex (s3.must 1 bIn)
 (aD { nd0 k pos with name:=x.1 } [a.1,b.1],b.2)
def ifS (s:PS) (pos:Int):PR :=
 let a:=ex s
 let b:=ex (a.2.must 1 qj)
 let c:=ex (b.2.must 1 qw)
 (aD (nd0 9 pos) [a.1,b.1,c.1],c.2)
def n8 (s:PS):PR :=
 let t:=s.peek
 if s.sees 1 H3 then
  let x:=s.next.of 2
  let b:=ex (x.2.must 7 bTo)
  (aD { nd0 5 t.pos with name:=x.1 } [b.1],b.2)
 else if s.sees 1 Ib then sr ex s.next t.pos
 else if s.sees 1 bIf then ifS ex s.next t.pos
 else ui ex s
end
def iD:Nat→PS→PR
 | 0,s=>(noE,s.fail 6 s.peek.pos)
 | m+1,s=>if s.err≠0 then (noE,s) else
   let r:=n8 (iD m) { s with nest:=s.nest+1 }
   (r.1,{ r.2 with nest:=s.nest })
end Go.Proofs.YtejpnabbmgpmaaaGreat

namespace Go.Proofs.YtejpnabbmgpmaaaGreat
open Go.Ab
def PSo (N:Int) (s:PS):Prop:=(∀ t∈s.l,0≤t.pos∧t.pos≤N)∧(0≤s.fin∧s.fin≤N)∧(0≤s.pos∧s.pos≤N)
structure SS (s r:PS):Prop where
 suf:∃ k,r.l=s.l.drop k
 fin:r.fin=s.fin
 nest:r.nest=s.nest
 pos:∀ N,PSo N s→0≤r.pos∧r.pos≤N
theorem SS.refl (s:PS):SS s s:=⟨⟨0,rfl⟩,rfl,rfl,fun _ h=>h.2.2⟩
theorem SS.po {s r:PS} (h:SS s r) {N:Int} (g:PSo N s):PSo N r:=by
 obtain ⟨k,hk⟩:=h.suf
 refine ⟨fun t ht=>?_,by rw [h.fin];exact g.2.1,h.pos N g⟩
 rw [hk] at ht
 exact g.1 t (List.mem_of_mem_drop ht)
theorem SS.trans {a b c:PS} (h:SS a b) (g:SS b c):SS a c:=by
 obtain ⟨k,hk⟩:=h.suf
 obtain ⟨j,hj⟩:=g.suf
 exact ⟨⟨k+j,by rw [hj,hk,List.drop_drop]⟩,g.fin.trans h.fin,g.nest.trans h.nest,fun N hN=>g.pos N (h.po hN)⟩
theorem SS.len {s r:PS} (h:SS s r):r.l.length≤s.l.length:=by
 obtain ⟨k,hk⟩:=h.suf
 rw [hk,List.length_drop];omega
theorem SS.next (s:PS):SS s s.next:=⟨⟨1,by simp [PS.next]⟩,rfl,rfl,fun _ h=>h.2.2⟩
theorem kZ {N:Int} {s:PS} (h:PSo N s):0≤s.peek.pos∧s.peek.pos≤N:=by
 unfold PS.peek
 split
 ·exact h.2.1
 ·rename_i t r e
  exact h.1 t (by rw [e];exact List.mem_cons_self)
theorem SS.fail (s:PS) (e p:Int) (h:∀ N,PSo N s→0≤p∧p≤N):SS s (s.fail e p):=by
 unfold PS.fail
 split
 ·exact ⟨⟨0,rfl⟩,rfl,rfl,h⟩
 ·exact SS.refl s
theorem SS.failp (s:PS) (e:Int):SS s (s.fail e s.peek.pos):=SS.fail s e _ fun _ h=>kZ h
theorem SS.wrong (s:PS):SS s s.wrong:=SS.failp s 5
theorem SS.may (s:PS) (k:Int) (t:List UInt8):SS s (s.may k t):=by
 unfold PS.may;split
 ·exact SS.next s
 ·exact SS.refl s
theorem SS.must (s:PS) (k:Int) (t:List UInt8):SS s (s.must k t):=by
 unfold PS.must;split
 ·exact SS.next s
 ·exact SS.wrong s
theorem SS.of (s:PS) (k:Int):SS s (s.of k).2:=by
 unfold PS.of;split
 ·exact SS.next s
 ·exact SS.wrong s
theorem bm {s:PS} {k:Int} {t:List UInt8} (h:s.sees k t=true):s.next.l.length+1=s.l.length:=by
 unfold PS.sees PS.is at h
 simp only [Bool.and_eq_true,Bool.not_eq_true',decide_eq_true_eq] at h
 have:s.l≠[]:=by
  intro e;rw [e] at h;simp at h
 show s.l.tail.length+1=_
 rw [List.length_tail]
 have:=List.length_pos_iff.2 this
 omega
theorem gy {s:PS} {k:Int} (h:s.peek.k=k) (hk:k≠0):s.next.l.length+1=s.l.length:=by
 have:s.l≠[]:=by
  intro e;unfold PS.peek at h;rw [e] at h;exact hk h.symm
 show s.l.tail.length+1=_
 rw [List.length_tail]
 have:=List.length_pos_iff.2 this
 omega
theorem FE {s:PS} {k:Int} (h:s.has k=true) (hk:k≠0):s.next.l.length+1=s.l.length:=by
 unfold PS.has at h
 simp only [Bool.and_eq_true,decide_eq_true_eq] at h
 exact gy h.2 hk
def br (ls:List (List EN)):Nat:=(ls.map List.length).sum
theorem jB:∀ (ls:List (List EN)) (acc:List EN) (rs:List Int),(bl ls acc rs).1.length=acc.length+br ls
 | [],_,_=>by simp [bl,br]
 | l::r,acc,rs=>by
   rw [bl,jB r]
   simp [br,Nat.add_assoc]
theorem cY (n:EN) (ls:List (List EN)):(aD n ls).length=br ls+1:=by
 simp [aD,jB]
def fp (b:Nat) (ns:List EN):Prop:=∀ n∈ns,n.l.length≤b
theorem yB (n:EN) (ks:List Int):(aK n ks).l.length≤n.l.length:=by
 show (if aG n.k then aV ks (aI n.k) n.l 0 else []).length≤_
 split
 ·rw [cy];exact Nat.le_refl _
 ·exact Nat.zero_le _
theorem sL {b:Nat}:∀ (ls:List (List EN)) (acc:List EN) (rs:List Int),(∀ l∈ls,fp b l)→fp b acc→fp b (bl ls acc rs).1
 | [],_,_,_,h=>h
 | l::r,acc,rs,hl,h=>by
   refine sL r _ _ (fun x hx=>hl x (List.mem_cons_of_mem _ hx)) fun n hn=>?_
   rcases List.mem_append.1 hn with hn | hn
   ·exact h n hn
   ·obtain ⟨m,hm,rfl⟩:=List.mem_map.1 hn
    exact Nat.le_trans (yB _ _) (hl l List.mem_cons_self m hm)
theorem du {b:Nat} {n:EN} {ls:List (List EN)} (hn:n.l.length≤b) (hl:∀ l∈ls,fp b l):fp b (aD n ls):=by
 intro m hm
 rcases List.mem_append.1 hm with hm | hm
 ·exact sL ls [] [] hl (fun _ h=>by cases h) m hm
 ·rw [List.mem_singleton.1 hm]
  exact Nat.le_trans (yB _ _) hn
theorem fp.mono {b c:Nat} {ns:List EN} (h:fp b ns) (hc:b≤c):fp c ns:=fun n hn=>Nat.le_trans (h n hn) hc
structure GP (d:Nat) (s:PS) (r:PR):Prop where
 ss:SS s r.2
 tr:Tr r.1
 sz:r.1.length+4*r.2.l.length≤4*s.l.length+d
 wd:fp (s.l.length+1-r.2.l.length) r.1
theorem GP.pre {d e:Nat} {s s':PS} {r:PR} (h:GP d s' r) (hs:SS s s') (he:4*s'.l.length+d≤4*s.l.length+e):GP e s r :=
 ⟨hs.trans h.ss,h.tr,Nat.le_trans h.sz he,h.wd.mono (by have:=hs.len;omega)⟩
theorem GP.post {d:Nat} {s:PS} {l:List EN} {s' s'':PS} (h:GP d s (l,s')) (hs:SS s' s''):GP d s (l,s'') :=
 ⟨h.ss.trans hs,h.tr,by have:=h.sz;have:=hs.len;simp only at *;omega,h.wd.mono (by have:=hs.len;have:=h.ss.len;simp only at *;omega)⟩
theorem GP.leaf {s s':PS} {n:EN} (hn:aA n=0) (hl:n.l=[]) (hs:SS s s') {d:Nat} (hd:1+4*s'.l.length≤4*s.l.length+d):GP d s (bp n,s') :=
 ⟨hs,.join n [] hn (fun _ h=>by cases h),by show (aD n []).length+_≤_;rw [cY];simp only [br,List.map_nil,List.sum_nil];omega,du (by rw [hl];exact Nat.zero_le _) (fun _ h=>by cases h)⟩
theorem GP.HC {s s1:PS} {a:PR} {n:EN} {d e:Nat} (ha:GP d s1 a) (hs:SS s s1) (hn:aA n=1) (hl:n.l=[]) (he:4*s1.l.length+d+1≤4*s.l.length+e):GP e s (aD n [a.1],a.2):=by
 have h1:=ha.sz
 have h3:=hs.len
 refine ⟨hs.trans ha.ss,.join n _ hn (fun l h=>by rw [List.mem_singleton.1 h];exact ha.tr),?_,du (by rw [hl];exact Nat.zero_le _) fun l h=>?_⟩
 ·rw [cY]
  simp only [br,List.map_cons,List.map_nil,List.sum_cons,List.sum_nil]
  omega
 ·rw [List.mem_singleton.1 h]
  exact ha.wd.mono (by simp only;omega)
theorem GP.uz {s s1 s2:PS} {a b:PR} {n:EN} {d d' e:Nat} (ha:GP d s1 a) (hb:GP d' s2 b) (hs:SS s s1) (hm:SS a.2 s2) (hn:aA n=2) (hl:n.l=[])
  (he:4*s1.l.length+4*s2.l.length+d+d'+1≤4*s.l.length+4*a.2.l.length+e):GP e s (aD n [a.1,b.1],b.2):=by
 have h1:=ha.sz
 have h2:=hb.sz
 have h3:=hs.len
 have h4:=hm.len
 have h5:=ha.ss.len
 have h6:=hb.ss.len
 refine ⟨((hs.trans ha.ss).trans hm).trans hb.ss,.join n _ hn (fun l h=>?_),?_,du (by rw [hl];exact Nat.zero_le _) fun l h=>?_⟩
 ·rcases List.mem_cons.1 h with rfl | h
  ·exact ha.tr
  ·rw [List.mem_singleton.1 h];exact hb.tr
 ·rw [cY]
  simp only [br,List.map_cons,List.map_nil,List.sum_cons,List.sum_nil]
  omega
 ·rcases List.mem_cons.1 h with rfl | h
  ·exact ha.wd.mono (by simp only;omega)
  ·rw [List.mem_singleton.1 h];exact hb.wd.mono (by simp only;omega)
theorem GP.JM {s s1 s2 s3:PS} {a b c:PR} {n:EN} {d e:Nat} (ha:GP d s1 a) (hb:GP d s2 b) (hc:GP d s3 c) (hs:SS s s1) (hm:SS a.2 s2) (hm':SS b.2 s3) (hn:aA n=3) (hl:n.l=[])
  (he:4*s1.l.length+3*d+1≤4*s.l.length+e):GP e s (aD n [a.1,b.1,c.1],c.2):=by
 have h1:=ha.sz
 have h2:=hb.sz
 have h2':=hc.sz
 have h3:=hs.len
 have h4:=hm.len
 have h4':=hm'.len
 have h5:=ha.ss.len
 have h6:=hb.ss.len
 have h7:=hc.ss.len
 refine ⟨((((hs.trans ha.ss).trans hm).trans hb.ss).trans hm').trans hc.ss,.join n _ hn (fun l h=>?_),?_,du (by rw [hl];exact Nat.zero_le _) fun l h=>?_⟩
 ·simp only [List.mem_cons,List.not_mem_nil,or_false] at h
  rcases h with rfl | rfl | rfl
  ·exact ha.tr
  ·exact hb.tr
  ·exact hc.tr
 ·rw [cY]
  simp only [br,List.map_cons,List.map_nil,List.sum_cons,List.sum_nil]
  omega
 ·simp only [List.mem_cons,List.not_mem_nil,or_false] at h
  rcases h with rfl | rfl | rfl
  ·exact ha.wd.mono (by simp only;omega)
  ·exact hb.wd.mono (by simp only;omega)
  ·exact hc.wd.mono (by simp only;omega)
end Go.Proofs.YtejpnabbmgpmaaaGreat

namespace Go.Proofs.YtejpnabbmgpmaaaGreat
open Go.Ab
theorem og (l:List EN):∀ (a:List (List EN)) (acc:List EN) (rs:List Int),bl (a++[l]) acc rs=((bl a acc rs).1++l.map (av (bl a acc rs).1.length),(bl a acc rs).2++[(((bl a acc rs).1.length+l.length:Nat):Int)-1])
 | [],_,_=>rfl
 | _::r,_,_=>og l r _ _
def eu (ls:List (List EN)) (i:Nat):List EN × List Int:=bl (ls.take i) [] []
theorem pR {ls:List (List EN)} {i:Nat} (h:i<ls.length):eu ls (i+1)=((eu ls i).1++ls[i].map (av (eu ls i).1.length),(eu ls i).2++[(((eu ls i).1.length+ls[i].length:Nat):Int)-1]):=by
 unfold eu
 rw [List.take_succ_eq_append_getElem h,og]
theorem tF (ls:List (List EN)):eu ls ls.length=bl ls [] []:=by rw [eu,List.take_length]
theorem Eg (a b:List (List EN)):br (a++b)=br a+br b:=by simp [br]
theorem ua {ls:List (List EN)} {i:Nat} (h:i<ls.length):(eu ls i).1.length+ls[i].length≤br ls:=by
 have h1:(eu ls i).1.length=br (ls.take i):=by unfold eu;rw [jB];simp
 have h2:br ls=br (ls.take i)+br (ls.drop i):=by rw [← Eg,List.take_append_drop]
 have h3:br (ls.drop i)=ls[i].length+br (ls.drop (i+1)):=by rw [List.drop_eq_getElem_cons h];unfold br;rw [List.map_cons,List.sum_cons]
 omega
theorem nA:∀ (ls:List (List EN)) (acc:List EN) (rs:List Int),(bl ls acc rs).2.length=rs.length+ls.length
 | [],_,_=>by simp [bl]
 | l::r,acc,rs=>by rw [bl,nA];simp;omega
theorem xM (ls:List (List EN)) (i:Nat):(eu ls i).2.length≤i:=by unfold eu;rw [nA];simp;omega
def lX (off:Nat) (K:List Int) (x:Nat):List Int:=((K.take x).map fun k:Int=>k+off)++K.drop x
theorem Bq (off:Nat) (K:List Int):lX off K K.length=K.map fun k:Int=>k+off:=by simp [lX]
theorem CO (off:Nat) (K:List Int) (x:Nat):(lX off K x).length=K.length:=by
 simp only [lX,List.length_append,List.length_map,List.length_take,List.length_drop];omega
theorem CQ {off:Nat} {K:List Int} {x:Nat} (h:x<K.length):(lX off K x).getD x 0=K.getD x 0:=by
 unfold lX
 rw [List.getD_eq_getElem?_getD,List.getElem?_append_right (by simp;omega)]
 simp [Nat.min_eq_left (Nat.le_of_lt h),h]
theorem zR {off:Nat} {K:List Int} {x:Nat} (h:x<K.length):(lX off K x).set x (K.getD x 0+off)=lX off K (x+1):=by
 have h1:K.take (x+1)=K.take x++[K[x]]:=by simp
 have h2:K.drop x=K[x]::K.drop (x+1):=List.drop_eq_getElem_cons h
 unfold lX
 have h3:((K.take x).map fun k:Int=>k+off).length=x:=by simp;omega
 rw [h1,h2,List.set_append_right _ _ (by omega),h3,Nat.sub_self,List.set_cons_zero,List.map_append,List.append_assoc]
 simp [h]
theorem zf {ls:List (List EN)} {i:Nat} (h:i<ls.length):(ls.map exD).getD i .nilp=.agg [.sl (some 9) (ls[i].map enD)]:=by simp [h,exD]
theorem nC (M:EN):enD M=.agg [i64 M.k,i64 M.a,i64 M.b,i64 M.c,i64 M.n,.str M.name,.str M.s,.sl (some 3) (M.l.map fD),i64 M.pos]:=rfl
theorem nY {G} (n:EN) (ls:List (List EN)) (hn:n.l.length≤1000000) (hL:ls.length≤1000000) (hS:br ls≤1000000) (hk:∀ l∈ls,∀ m∈l,fL l.length m) (hw:∀ l∈ls,fp 900000 l) :
  HP Tryz.prog G 86 [enD n,.sl (some 1) (ls.map exD)] (fun r=>r=.d (exD (aD n ls))):=by
 unfold enD efD
 refine au Tryz.func86 rfl (by decide +kernel) (by simp [Tryz.ntmps86]) (veil fun E=>?_)
 simp only [go_sem]
 refine ml E 6 98 none rfl (by rw [aa];decide) ?_
 simp only [go_sem]
 refine yf E [5] 0 97 (some 9) [.d .nils] rfl rfl (by rw [aa];decide) ?_
 simp only [go_sem]
 refine aE E (X:={ i:Nat // i≤ls.length }) (fun x=>[(2,.at [2] 0),(4,.at [4] 0),(5,.at [5] 0),(6,.vw [98] 0 (eu ls x.1).2.length),(14,.d (.sl (some 1) (ls.map exD))),(15,.d (i64 ls.length)),(16,.d (i64 x.1))])
  (fun x=>[([2],.box [.d (i64 n.k),.d (i64 n.a),.d (i64 n.b),.d (i64 n.c),.d (i64 n.n),.d (.str n.name),.d (.str n.s),.d (.sl (some 3) (n.l.map fD)),.d (i64 n.pos)]),([4],.box [.d .nils]),([5],.box [.vw [97] 0 (eu ls x.1).1.length]),([97],.arr (some 9) ((eu ls x.1).1.map enD)),([98],.arr none ((eu ls x.1).2.map i64))]) [2,4,5,97,98] (fun x=>ls.length-x.1) ⟨0,Nat.zero_le _⟩ id ?_ ?_
 ·simp only [go_sem]
  exact ⟨rfl,rfl,rfl,rfl⟩
 rintro ⟨i,hi⟩ E0
 refine aT E0 fun Q' hQ E'=>?_
 simp only at hi ⊢
 simp only [go_sem]
 refine ai E' (fun h1=>?_) (fun h1=>?_)<;>simp only [go_sem]
 ·have h1':i<ls.length:=by omega
  refine ⟨⟨by omega,by omega⟩,?_⟩
  rw [zf h1']
  obtain ⟨l,hle⟩:∃ l,l=ls[i]:=⟨_,rfl⟩
  have hmem:l∈ls:=by rw [hle];exact List.getElem_mem h1'
  have hcl:=ua h1'
  have hcs:=pR h1'
  have hcr:=xM ls i
  rw [← hle] at hcl hcs ⊢
  obtain ⟨acc,hacc⟩:∃ acc,acc=(eu ls i).1:=⟨_,rfl⟩
  obtain ⟨rs,hrs⟩:∃ rs,rs=(eu ls i).2:=⟨_,rfl⟩
  rw [← hacc] at hcl hcs
  rw [← hrs] at hcr hcs
  simp only [← hacc,← hrs]
  simp only [go_sem]
  refine aE E' (X:={ j:Nat // j≤l.length }) (fun x=>[(2,.at [2] 0),(4,.at [4] 0),(5,.at [5] 0),(6,.vw [98] 0 rs.length),(14,.d (.sl (some 1) (ls.map exD))),(15,.d (i64 ls.length)),(16,.d (i64 i)),(9,.d (i64 acc.length)),(24,.d (.sl (some 9) (l.map enD))),(25,.d (i64 l.length)),(26,.d (i64 x.1))])
   (fun x=>[([2],.box [.d (i64 n.k),.d (i64 n.a),.d (i64 n.b),.d (i64 n.c),.d (i64 n.n),.d (.str n.name),.d (.str n.s),.d (.sl (some 3) (n.l.map fD)),.d (i64 n.pos)]),([4],.box [.d .nils]),([5],.box [.vw [97] 0 (acc.length+x.1)]),([97],.arr (some 9) ((acc++(l.take x.1).map (av acc.length)).map enD)),([98],.arr none (rs.map i64))]) [2,4,5,97,98] (fun x=>l.length-x.1) ⟨0,Nat.zero_le _⟩ id ?_ ?_
  ·simp only [go_sem]
   all_goals first | rfl | simp
  rintro ⟨j,hj⟩ E2
  refine aT E2 fun Q2 hQ2 E3=>?_
  simp only at hj ⊢
  simp only [go_sem]
  refine ai E3 (fun h2=>?_) (fun h2=>?_)<;>simp only [go_sem]
  ·have h2':j<l.length:=by omega
   refine ⟨⟨by omega,by omega⟩,?_⟩
   rw [aN h2',ba h2']
   obtain ⟨m,hm⟩:∃ m,m=l[j]:=⟨_,rfl⟩
   have hmm:m∈l:=by rw [hm];exact List.getElem_mem h2'
   have hmk:=hk l hmem m hmm
   have hml:=hw l hmem m hmm
   rw [← hm]
   simp only [go_sem]
   refine ae E3 [.d (enD m)] [] [] (eg m (by omega)) rfl rfl ⟨by simp only [go_sem],by rw [aa];decide⟩ rfl (by simp only [go_sem]) (by simp only [go_sem]) ?_
   rintro _ _ ⟨rfl,rfl⟩
   simp only [go_sem]
   have hKl:(ag m).length≤1000000:=by
    rw [aM];unfold aA
    have:=bn m.k
    split<;>omega
   have hKk:∀ q,q<(ag m).length→0≤(ag m).getD q 0∧(ag m).getD q 0<l.length:=fun q hq=>hmk _ (by simp [hq])
   have hwm:aK m ((ag m).map fun k:Int=>k+acc.length)=av acc.length m:=rfl
   obtain ⟨K,hK⟩:∃ K,K=ag m:=⟨_,rfl⟩
   rw [← hK] at hKl hKk hwm ⊢
   refine aE E3 (X:={ q:Nat // q≤K.length }) (fun x=>[(2,.at [2] 0),(4,.at [4] 0),(5,.at [5] 0),(6,.vw [98] 0 rs.length),(11,.at [11] 0),(12,.vw [96] 0 K.length),(14,.d (.sl (some 1) (ls.map exD))),(15,.d (i64 ls.length)),(16,.d (i64 i)),(9,.d (i64 acc.length)),(24,.d (.sl (some 9) (l.map enD))),(25,.d (i64 l.length)),(26,.d (i64 j)),(33,.d (i64 K.length)),(34,.d (i64 x.1))])
    (fun x=>[([2],.box [.d (i64 n.k),.d (i64 n.a),.d (i64 n.b),.d (i64 n.c),.d (i64 n.n),.d (.str n.name),.d (.str n.s),.d (.sl (some 3) (n.l.map fD)),.d (i64 n.pos)]),([4],.box [.d .nils]),([5],.box [.vw [97] 0 (acc.length+j)]),([97],.arr (some 9) ((acc++(l.take j).map (av acc.length)).map enD)),([98],.arr none (rs.map i64)),
     ([11],.box [.d (i64 m.k),.d (i64 m.a),.d (i64 m.b),.d (i64 m.c),.d (i64 m.n),.d (.str m.name),.d (.str m.s),.d (.sl (some 3) (m.l.map fD)),.d (i64 m.pos)]),([96],.arr none ((lX acc.length K x.1).map i64))]) [2,4,5,11,96,97,98] (fun x=>K.length-x.1) ⟨0,Nat.zero_le _⟩ (tau [([96],[31,0])]) ?_ ?_
   ·simp only [go_sem]
    all_goals rfl
   rintro ⟨q,hq⟩ E4
   refine aT E4 fun Q4 hQ4 E5=>?_
   simp only at hq ⊢
   simp only [go_sem]
   refine ai E5 (fun h3=>?_) (fun h3=>?_)<;>simp only [go_sem]
   ·have h3':q<K.length:=by omega
    have hpl:=CO acc.length K q
    have hin:=hKk q h3'
    rw [show ((lX acc.length K q).map i64).getD q .nilp=i64 (K.getD q 0) by rw [← CQ h3',aw (by omega)]]
    simp only [go_sem]
    refine ⟨⟨by omega,by omega⟩,⟨by omega,by omega⟩,?_⟩
    have hmp:((lX acc.length K q).map i64).set q (.int .i64 (w64 (K.getD q 0+acc.length)))=(lX acc.length K (q+1)).map i64:=by
     rw [ak ⟨by omega,by omega⟩,← zR h3',List.map_set]
    rw [hmp,hQ4]
    simp only [go_sem]
    refine ⟨⟨q+1,by omega⟩,by show K.length-(q+1)<_;omega,id,?_⟩
    rw [ak ⟨by omega,by omega⟩]
    simp only [go_sem]
    all_goals rfl
   ·have hq2:q=K.length:=by omega
    subst hq2
    rw [Bq,hQ4]
    simp only [go_sem]
    refine iw E3 [96] none ((K.map fun k:Int=>k+acc.length).map i64) rfl ?_
    simp only [go_sem]
    refine aj mixed E3 fun X=>?_
    simp only [go_sem]
    rw [List.take_of_length_le (l:=List.map i64 _) (by simp)]
    refine aZ X (rE m (K.map fun k:Int=>k+acc.length) (by omega) (by rw [List.length_map];exact hKl)) rfl rfl (by simp) ?_
    obtain ⟨M,hM⟩:∃ M,M=av acc.length m:=⟨_,rfl⟩
    rw [hwm,← hM,nC M]
    simp only [go_sem]
    have hout:List.take (acc.length+j) (List.map enD (acc++List.map (av acc.length) (List.take j l)))++[.agg [i64 M.k,i64 M.a,i64 M.b,i64 M.c,i64 M.n,.str M.name,.str M.s,.sl (some 3) (M.l.map fD),i64 M.pos]]=(acc++(l.take (j+1)).map (av acc.length)).map enD:=by
     rw [List.take_of_length_le (by simp;omega),List.take_succ_eq_append_getElem h2',← hm]
     simp only [List.map_append,List.map_cons,List.map_nil,← hM,← nC M,List.append_assoc]
    rw [hout]
    refine ⟨by omega,by decide +kernel,?_⟩
    rw [hQ2]
    simp only [go_sem]
    refine ⟨⟨j+1,by omega⟩,by show l.length-(j+1)<_;omega,tau [([97],[51])],?_⟩
    rw [ak ⟨by omega,by omega⟩]
    simp only [go_sem]
    exact ⟨rfl,rfl⟩
  ·rw [hQ2]
   simp only [go_sem]
   have hj2:j=l.length:=by omega
   subst hj2
   have hro:List.map i64 rs++[.int .i64 (w64 (((acc.length+l.length:Nat):Int)-1))]=(rs++[((acc.length+l.length:Nat):Int)-1]).map i64:=by
    rw [ak ⟨by omega,by omega⟩]
    simp only [List.map_append,List.map_cons,List.map_nil]
   rw [hro]
   refine ⟨by omega,?_⟩
   rw [hQ]
   simp only [go_sem]
   refine ⟨⟨i+1,by omega⟩,by show ls.length-(i+1)<_;omega,tau [([98],[60])],?_⟩
   simp only [hcs]
   rw [ak ⟨by omega,by omega⟩]
   simp only [go_sem]
   simp only [List.length_append,List.length_map,List.length_singleton]
   refine ⟨⟨trivial,rfl⟩,?_⟩
   first | rfl | exact ⟨rfl,rfl⟩ | exact ⟨trivial,rfl⟩ | exact ⟨rfl,trivial⟩ | trivial
 ·rw [hQ]
  have hi2:i=ls.length:=by omega
  subst hi2
  rw [tF]
  obtain ⟨acc,hacc⟩:∃ acc,acc=(bl ls [] []).1:=⟨_,rfl⟩
  obtain ⟨rs,hrs⟩:∃ rs,rs=(bl ls [] []).2:=⟨_,rfl⟩
  have hal:acc.length=br ls:=by rw [hacc,jB];simp
  have hrl:rs.length=ls.length:=by rw [hrs,nA];simp
  have hj:aD n ls=acc++[aK n rs]:=by unfold aD;rw [← hacc,← hrs]
  rw [← hacc,← hrs]
  simp only [go_sem]
  refine iw E [98] none (rs.map i64) rfl ?_
  simp only [go_sem]
  refine aj mixed E fun X=>?_
  simp only [go_sem]
  refine aZ X (rE n rs hn (by omega)) rfl rfl (by simp) ?_
  obtain ⟨M,hM⟩:∃ M,M=aK n rs:=⟨_,rfl⟩
  rw [← hM,nC M]
  simp only [go_sem]
  have hout:List.map enD acc++[.agg [i64 M.k,i64 M.a,i64 M.b,i64 M.c,i64 M.n,.str M.name,.str M.s,.sl (some 3) (M.l.map fD),i64 M.pos]]=(aD n ls).map enD:=by
   rw [hj,← hM,List.map_append,← nC];rfl
  rw [hout]
  refine ⟨by omega,by decide +kernel,[([68],some 9,(aD n ls).map enD)],?_⟩
  simp only [go_sem]
  rw [List.take_of_length_le (by rw [hj];simp)]
  rfl
end Go.Proofs.YtejpnabbmgpmaaaGreat

namespace Go.Proofs.YtejpnabbmgpmaaaGreat
open Go.Ab
theorem FY {G} (n:EN):HP Tryz.prog G 109 [enD n] (fun r=>r=.d (.bool (cP n))):=by
 generalize hb:cP n=b
 unfold cP at hb
 have hk:=bn n.k
 unfold enD efD
 refine al Tryz.func109 rfl (by decide +kernel) (by simp [Tryz.ntmps109]) (veil fun E=>?_)
 simp only [go_sem]
 refine aj mixed E fun X=>?_
 simp only [go_sem]
 refine aZ X (nq n.k) rfl rfl (by simp) ?_
 simp only [go_sem]
 refine ⟨⟨by omega,by omega⟩,by decide +kernel,?_⟩
 rw [show ([i64 n.a,i64 n.b,i64 n.c]:List D)=[n.a,n.b,n.c].map i64 from rfl]
 obtain ⟨k,hke⟩:∃ k,k=aI n.k:=⟨_,rfl⟩
 rw [← hke] at hk hb ⊢
 have hL:([n.a,n.b,n.c].drop k).length=3-k:=by simp
 have hget:∀ i,i<3-k→(List.map i64 [n.a,n.b,n.c]).getD (k+i) .nilp=i64 (([n.a,n.b,n.c].drop k).getD i 0):=fun i hi=>by
  rw [aw (by simp;omega),List.getD_eq_getElem?_getD,List.getD_eq_getElem?_getD,List.getElem?_drop]
 generalize ([n.a,n.b,n.c]:List Int)=A at hb hL hget ⊢
 generalize A.drop k=L at hb hL hget
 refine dc E (X:={ i:Nat // i≤3-k∧(L.take i).all (fun x=>decide (x=0))=true }) (fun x=>[(16,.vw [11] k (3-k)),(17,.d (i64 (3-k:Nat))),(18,.d (i64 x.1))])
  (fun x=>[([1],.box [.d (i64 n.k),.d (i64 n.a),.d (i64 n.b),.d (i64 n.c),.d (i64 n.n),.d (.str n.name),.d (.str n.s),.d (.sl (some 3) (n.l.map fD)),.d (i64 n.pos)]),([11],.arr none (A.map i64))]) [11,1] (fun x=>3-k-x.1) ⟨0,by simp⟩ ?_ ?_
 ·simp only [go_sem]
  all_goals rfl
 rintro ⟨i,hi,hall⟩ E0
 refine aT E0 fun Q' hQ E'=>?_
 simp only at hi hall ⊢
 simp only [go_sem]
 refine ai E' (fun g1=>?_) (fun g1=>?_)<;>simp only [go_sem]
 ·have hi':i<3-k:=by omega
  have hi2:i<L.length:=by omega
  have hLi:L.getD i 0=L[i]:=by simp [hi2]
  refine ⟨⟨by omega,by omega⟩,?_⟩
  rw [hget i hi',hLi]
  simp only [go_sem]
  refine aR E' (fun g2=>?_) (fun g2=>?_)<;>simp only [go_sem]
  ·rw [hQ]
   simp only [go_sem]
   have:L.all (fun x=>decide (x=0))=false:=List.all_eq_false.2 ⟨_,List.getElem_mem hi2,by simpa using g2⟩
   rw [← hb,this]
  ·rw [hQ]
   simp only [go_sem]
   have g3:decide (L[i]=0)=true:=by simpa using g2
   refine ⟨⟨i+1,by omega,by rw [List.take_succ_eq_append_getElem hi2,List.all_append,hall];simpa using g3⟩,by show 3-k-(i+1)<_;omega,?_⟩
   rw [ak ⟨by omega,by omega⟩]
   rfl
 ·rw [hQ]
  have h3:i=L.length:=by omega
  subst h3
  rw [List.take_length] at hall
  simp only [go_sem]
  rw [← hb,hall]
theorem IF {G} (n:EN) (h:ff BIG n):HP Tryz.prog G 58 [enD n] (fun r=>r=.d (.bool (aS n))):=by
 generalize hb:aS n=b
 unfold aS at hb
 have c1:=Fa (G:=G) n h
 have c2:=E1 (G:=G) n
 have c3:=FC (G:=G) n h
 have c4:=FY (G:=G) n
 generalize de n=x1 at c1 hb
 generalize bQ n=x2 at c2 hb
 generalize bo n=x3 at c3 hb
 generalize cP n=x4 at c4 hb
 unfold enD efD at *
 refine al Tryz.func58 rfl (by decide +kernel) (by simp [Tryz.ntmps58]) (veil fun E=>?_)
 simp only [go_sem]
 repeat (first
  | (apply bC E;(· simp only [go_sem]);(· intro h;(try simp only [bq] at h);simp only [↓h,go_sem];rfl);simp only [go_sem])
  | (apply aW E;(· simp only [go_sem]);(· intro h;(try simp only [bq] at h);simp only [↓h,go_sem];rfl);(· intro h;(try simp only [bq] at h);simp only [↓h,go_sem];rfl);simp only [go_sem])
  | (apply aX E;(· simp only [go_sem]);(· rfl);(· intro h h';(try simp only [bq] at h h');simp only [↓h,↓h',go_sem];rfl);simp only [go_sem])
  | (apply aH E;(· simp only [go_sem]);(· rfl);(· intro h h';(try simp only [bq] at h h');simp only [↓h,↓h',go_sem];rfl);(· intro h h';(try simp only [bq] at h h');simp only [↓h,↓h',go_sem];rfl);simp only [go_sem])
  | (apply bz E;(· decide);simp only [go_sem]))
 refine aR E (fun g=>?_) (fun g=>?_)<;>simp only [go_sem]
 ·have g':¬ (1≤n.k∧n.k≤14∧0≤n.pos∧n.pos≤1048576):=by
   simp only [Bool.or_eq_true,decide_eq_true_eq] at g
   omega
  have:(decide (1≤n.k) && decide (n.k≤14) && decide (0≤n.pos) && decide (n.pos≤1048576))=false:=by
   rw [Bool.eq_false_iff]
   intro hc
   simp only [Bool.and_eq_true,decide_eq_true_eq] at hc
   exact g' ⟨hc.1.1.1,hc.1.1.2,hc.1.2,hc.2⟩
  rw [← hb,this,Bool.false_and]
 ·refine ab E (c1) rfl rfl (by simp) ?_
  rintro _ rfl
  simp only [go_sem]
  repeat (first
   | (apply bC E;(· simp only [go_sem]);(· intro h;(try simp only [bq] at h);simp only [↓h,go_sem];rfl);simp only [go_sem])
   | (apply aW E;(· simp only [go_sem]);(· intro h;(try simp only [bq] at h);simp only [↓h,go_sem];rfl);(· intro h;(try simp only [bq] at h);simp only [↓h,go_sem];rfl);simp only [go_sem])
   | (apply aX E;(· simp only [go_sem]);(· rfl);(· intro h h';(try simp only [bq] at h h');simp only [↓h,↓h',go_sem];rfl);simp only [go_sem])
   | (apply aH E;(· simp only [go_sem]);(· rfl);(· intro h h';(try simp only [bq] at h h');simp only [↓h,↓h',go_sem];rfl);(· intro h h';(try simp only [bq] at h h');simp only [↓h,↓h',go_sem];rfl);simp only [go_sem])
   | (apply bz E;(· decide);simp only [go_sem]))
  (first | (apply iE E;(· simp only [go_sem]);(· intro h hk;(try simp only [bq] at h);refine ab E (c2) rfl (by simp only [↓h,go_sem]<;>rfl) (by simp) ?_;rintro _ rfl;exact hk);simp only [go_sem]) | (apply fk E;(· simp only [go_sem]);(· rfl);(· intro h h' hk;(try simp only [bq] at h h');refine ab E (c2) rfl (by simp only [↓h,↓h',go_sem]<;>rfl) (by simp) ?_;rintro _ rfl;exact hk);simp only [go_sem]))
  repeat (first
   | (apply bC E;(· simp only [go_sem]);(· intro h;(try simp only [bq] at h);simp only [↓h,go_sem];rfl);simp only [go_sem])
   | (apply aW E;(· simp only [go_sem]);(· intro h;(try simp only [bq] at h);simp only [↓h,go_sem];rfl);(· intro h;(try simp only [bq] at h);simp only [↓h,go_sem];rfl);simp only [go_sem])
   | (apply aX E;(· simp only [go_sem]);(· rfl);(· intro h h';(try simp only [bq] at h h');simp only [↓h,↓h',go_sem];rfl);simp only [go_sem])
   | (apply aH E;(· simp only [go_sem]);(· rfl);(· intro h h';(try simp only [bq] at h h');simp only [↓h,↓h',go_sem];rfl);(· intro h h';(try simp only [bq] at h h');simp only [↓h,↓h',go_sem];rfl);simp only [go_sem])
   | (apply bz E;(· decide);simp only [go_sem]))
  (first | (apply iE E;(· simp only [go_sem]);(· intro h hk;(try simp only [bq] at h);refine ab E (c3) rfl (by simp only [↓h,go_sem]<;>rfl) (by simp) ?_;rintro _ rfl;exact hk);simp only [go_sem]) | (apply fk E;(· simp only [go_sem]);(· rfl);(· intro h h' hk;(try simp only [bq] at h h');refine ab E (c3) rfl (by simp only [↓h,↓h',go_sem]<;>rfl) (by simp) ?_;rintro _ rfl;exact hk);simp only [go_sem]))
  repeat (first
   | (apply bC E;(· simp only [go_sem]);(· intro h;(try simp only [bq] at h);simp only [↓h,go_sem];rfl);simp only [go_sem])
   | (apply aW E;(· simp only [go_sem]);(· intro h;(try simp only [bq] at h);simp only [↓h,go_sem];rfl);(· intro h;(try simp only [bq] at h);simp only [↓h,go_sem];rfl);simp only [go_sem])
   | (apply aX E;(· simp only [go_sem]);(· rfl);(· intro h h';(try simp only [bq] at h h');simp only [↓h,↓h',go_sem];rfl);simp only [go_sem])
   | (apply aH E;(· simp only [go_sem]);(· rfl);(· intro h h';(try simp only [bq] at h h');simp only [↓h,↓h',go_sem];rfl);(· intro h h';(try simp only [bq] at h h');simp only [↓h,↓h',go_sem];rfl);simp only [go_sem])
   | (apply bz E;(· decide);simp only [go_sem]))
  (first | (apply iE E;(· simp only [go_sem]);(· intro h hk;(try simp only [bq] at h);refine ab E (c4) rfl (by simp only [↓h,go_sem]<;>rfl) (by simp) ?_;rintro _ rfl;exact hk);simp only [go_sem]) | (apply fk E;(· simp only [go_sem]);(· rfl);(· intro h h' hk;(try simp only [bq] at h h');refine ab E (c4) rfl (by simp only [↓h,↓h',go_sem]<;>rfl) (by simp) ?_;rintro _ rfl;exact hk);simp only [go_sem]))
  repeat (first
   | (apply bC E;(· simp only [go_sem]);(· intro h;(try simp only [bq] at h);simp only [↓h,go_sem];rfl);simp only [go_sem])
   | (apply aW E;(· simp only [go_sem]);(· intro h;(try simp only [bq] at h);simp only [↓h,go_sem];rfl);(· intro h;(try simp only [bq] at h);simp only [↓h,go_sem];rfl);simp only [go_sem])
   | (apply aX E;(· simp only [go_sem]);(· rfl);(· intro h h';(try simp only [bq] at h h');simp only [↓h,↓h',go_sem];rfl);simp only [go_sem])
   | (apply aH E;(· simp only [go_sem]);(· rfl);(· intro h h';(try simp only [bq] at h h');simp only [↓h,↓h',go_sem];rfl);(· intro h h';(try simp only [bq] at h h');simp only [↓h,↓h',go_sem];rfl);simp only [go_sem])
   | (apply bz E;(· decide);simp only [go_sem]))
  have g':¬ (n.k<1∨14<n.k∨n.pos<0∨1048576<n.pos):=by
   simp only [Bool.or_eq_false_iff,decide_eq_false_iff_not] at g
   omega
  rw [← hb,decide_eq_true (show 1≤n.k by omega),decide_eq_true (show n.k≤14 by omega),decide_eq_true (show 0≤n.pos by omega),decide_eq_true (show n.pos≤1048576 by omega)]
  rfl
end Go.Proofs.YtejpnabbmgpmaaaGreat

namespace Go.Proofs.YtejpnabbmgpmaaaGreat
open Go.Ab
def bump (cs:List Int) (k:Int):List Int:=cs.set k.toNat (cs.getD k.toNat 0+1)
def bumps (cs ks:List Int):List Int:=ks.foldl bump cs
theorem tS (cs:List Int) (k:Int):(bump cs k).length=cs.length:=by simp [bump]
theorem eM (ks:List Int):∀ cs:List Int,(bumps cs ks).length=cs.length:=by
 induction ks with
 | nil=>intro cs;rfl
 | cons k r ih=>intro cs;show (bumps (bump cs k) r).length=_;rw [ih,tS]
theorem ow (cs ks:List Int) (k:Int):bumps cs (ks++[k])=bump (bumps cs ks) k:=by simp [bumps]
def Bd (M:Nat) (cs:List Int):Prop:=∀ c∈cs,0≤c∧c≤(M:Int)
theorem Bd.bump {M:Nat} {cs:List Int} (h:Bd M cs) (k:Int):Bd (M+1) (bump cs k):=by
 intro c hc
 rcases List.mem_or_eq_of_mem_set hc with hc | hc
 ·have:=h c hc;omega
 ·by_cases hk:k.toNat<cs.length
  ·have:=h cs[k.toNat] (List.getElem_mem hk)
   rw [hc,show cs.getD k.toNat 0=cs[k.toNat] by simp [hk]]
   omega
  ·rw [hc,show cs.getD k.toNat 0=0 by simp [hk]]
   omega
theorem Bd.bumps {ks:List Int}:∀ {M:Nat} {cs:List Int},Bd M cs→Bd (M+ks.length) (bumps cs ks):=by
 induction ks with
 | nil=>intro M cs h;exact h
 | cons k r ih =>
   intro M cs h
   have:=ih (h.bump k)
   rw [List.length_cons]
   intro c hc
   have:=this c hc
   omega
theorem Bd.get {M:Nat} {cs:List Int} (h:Bd M cs) (i:Nat):0≤cs.getD i 0∧cs.getD i 0≤(M:Int):=by
 by_cases hi:i<cs.length
 ·rw [show cs.getD i 0=cs[i] by simp [hi]];exact h _ (List.getElem_mem hi)
 ·rw [show cs.getD i 0=0 by simp [hi]];omega
def inB (i:Nat) (k:Int):Bool:=decide (0≤k) && decide (k<(i:Int))
theorem IC {G} (ns:List EN) (i:Nat) (cs:List Int) (M:Nat) (hi:i<ns.length) (hn:ns.length≤1000000) (hc:cs.length=ns.length) (hl:(ndE ns i).l.length≤1000000) (hM:Bd M cs) (hM2:M≤1000000000000) :
  HCall Tryz.prog G 59 [.d (exD ns),.d (i64 i),.vw [100] 0 ns.length] [([100],.arr none (cs.map i64))] [100]
   (fun r hp'=>∃ cs':List Int,cs'.length=ns.length∧(cI ns i=true→cs'=bumps cs (ag (ndE ns i)))∧r=.d (.bool (cI ns i))∧hp'=[([100],.arr none (cs'.map i64))]):=by
 have hg:=aN hi
 obtain ⟨n,hne⟩:∃ n,n=ndE ns i:=⟨_,rfl⟩
 rw [← hne] at hl hg ⊢
 have hkl:=aM n
 have hwl:aA n≤1000003:=by unfold aA;have:=bn n.k;split<;>omega
 obtain ⟨K,hK⟩:∃ K,K=ag n:=⟨_,rfl⟩
 have hlk:cI ns i=(K.all (inB i) && (decide (n.k≠8) || decide ((ndE ns n.a.toNat).k=5))):=by
  unfold cI inB
  rw [← hne,← hK]
 rw [hlk]
 have hkc:=eg (G:=G) n (by omega)
 rw [← hK] at hkc hkl ⊢
 unfold exD
 refine aq Tryz.func59 rfl (by decide +kernel) (by simp [Tryz.ntmps59]) (veil fun E=>?_)
 simp only [go_sem]
 refine ⟨⟨by omega,by omega⟩,?_⟩
 rw [hg]
 simp only [go_sem]
 refine ae E [.d (enD n)] [] [] hkc rfl rfl ⟨by simp only [go_sem],by rw [aa];decide⟩ rfl (by simp only [go_sem]) (by simp only [go_sem]) ?_
 rintro _ _ ⟨rfl,rfl⟩
 simp only [go_sem]
 refine iw E [14,0] none (K.map i64) rfl ?_
 simp only [go_sem]
 refine dc E (X:={ q:Nat // q≤K.length∧(K.take q).all (inB i)=true }) (fun x=>[(1,.d (i64 i)),(2,.vw [100] 0 ns.length),(3,.at [3] 0),(6,.d (.bool false)),(14,.d (.sl none (K.map i64))),(15,.d (i64 K.length)),(16,.d (i64 x.1))])
  (fun x=>[([100],.arr none ((bumps cs (K.take x.1)).map i64)),([3],.box [.d (.sl (some 9) (ns.map enD))])]) [3,100] (fun x=>K.length-x.1) ⟨0,by simp⟩ ?_ ?_
 ·simp only [go_sem]
  all_goals rfl
 rintro ⟨q,hq,hall⟩ E0
 refine aT E0 fun Q' hQ E'=>?_
 simp only at hq hall ⊢
 simp only [go_sem]
 refine ai E' (fun g1=>?_) (fun g1=>?_)<;>simp only [go_sem]
 ·have hq':q<K.length:=by omega
  refine ⟨⟨by omega,by omega⟩,?_⟩
  rw [aw hq',show K.getD q 0=K[q] by simp [hq']]
  simp only [go_sem]
  repeat (first
   | (apply bC E';(· simp only [go_sem]);(· intro h;(try simp only [bq] at h);simp only [↓h,go_sem];rfl);simp only [go_sem])
   | (apply aW E';(· simp only [go_sem]);(· intro h;(try simp only [bq] at h);simp only [↓h,go_sem];rfl);(· intro h;(try simp only [bq] at h);simp only [↓h,go_sem];rfl);simp only [go_sem])
   | (apply aX E';(· simp only [go_sem]);(· rfl);(· intro h h';(try simp only [bq] at h h');simp only [↓h,↓h',go_sem];rfl);simp only [go_sem])
   | (apply aH E';(· simp only [go_sem]);(· rfl);(· intro h h';(try simp only [bq] at h h');simp only [↓h,↓h',go_sem];rfl);(· intro h h';(try simp only [bq] at h h');simp only [↓h,↓h',go_sem];rfl);simp only [go_sem])
   | (apply bz E';(· decide);simp only [go_sem]))
  refine aR E' (fun g2=>?_) (fun g2=>?_)<;>simp only [go_sem]
  ·rw [hQ]
   simp only [go_sem]
   have g3:inB i K[q]=false:=by
    rw [Bool.eq_false_iff]
    intro hc
    simp only [inB,Bool.and_eq_true,decide_eq_true_eq] at hc
    simp only [Bool.or_eq_true,decide_eq_true_eq] at g2
    omega
   have ha:K.all (inB i)=false:=List.all_eq_false.2 ⟨_,List.getElem_mem hq',by rw [g3];decide⟩
   refine ⟨_,_,[100],id,⟨bumps cs (K.take q),by rw [eM,hc],fun h=>by (rw [ha,Bool.false_and] at h;cases h),rfl,rfl⟩,?_⟩
   simp only [go_sem]
   rw [ha]
   rfl
  ·have g3:0≤K[q]∧K[q]<(i:Int):=by
    simp only [Bool.or_eq_false_iff,decide_eq_false_iff_not] at g2
    omega
   have g4:inB i K[q]=true:=by simp only [inB,decide_eq_true g3.1,decide_eq_true g3.2,Bool.and_self]
   have hbl:=eM (K.take q) cs
   have hbd:=(hM.bumps (ks:=K.take q)).get K[q].toNat
   have htl:(K.take q).length≤1000003:=by rw [List.length_take];omega
   refine ⟨⟨by omega,by omega⟩,?_⟩
   rw [aw (by omega)]
   simp only [go_sem]
   refine ⟨⟨by omega,by omega⟩,?_⟩
   rw [ak (n:=(bumps cs (K.take q)).getD K[q].toNat 0+1) ⟨by omega,by omega⟩,ak (n:=(q:Int)+1) ⟨by omega,by omega⟩]
   rw [show (List.map i64 (bumps cs (K.take q))).set K[q].toNat (.int .i64 ((bumps cs (K.take q)).getD K[q].toNat 0+1))=(bumps cs (K.take (q+1))).map i64 by
    rw [List.take_succ_eq_append_getElem hq',ow];unfold bump;rw [List.map_set]]
   rw [hQ]
   simp only [go_sem]
   refine ⟨⟨q+1,by omega,by rw [List.take_succ_eq_append_getElem hq',List.all_append,hall];simpa using g4⟩,by show K.length-(q+1)<_;omega,?_⟩
   first | rfl | exact ⟨rfl,rfl⟩
 ·rw [hQ]
  have h3:q=K.length:=by omega
  subst h3
  rw [List.take_length] at *
  simp only [go_sem]
  refine aj mixed E fun X=>?_
  simp only [go_sem]
  refine ⟨⟨by omega,by omega⟩,?_⟩
  rw [hg]
  simp only [go_sem]
  refine A7 X (fun g1=>?_) (fun g1=>?_)<;>simp only [go_sem]
  ·refine ⟨by decide +kernel,?_⟩
   refine ⟨_,_,[100],id,⟨bumps cs K,by rw [eM,hc],fun _=>rfl,rfl,rfl⟩,?_⟩
   simp only [go_sem]
   rw [hall,decide_eq_true (show n.k≠8 from g1)]
   rfl
  ·have h8:n.k=8:=by omega
   have hka:K=[n.a,n.b]:=by rw [hK];unfold ag;rw [h8];rfl
   have ha:0≤n.a∧n.a<(i:Int):=by
    rw [hka] at hall
    simp only [List.all_cons,inB,Bool.and_eq_true,decide_eq_true_eq] at hall
    exact hall.1
   rw [ia]
   simp only [go_sem]
   refine ⟨⟨by omega,by omega⟩,?_⟩
   rw [hg]
   simp only [go_sem]
   refine ⟨⟨by omega,by omega⟩,?_⟩
   rw [aN (show n.a.toNat<ns.length by omega)]
   simp only [go_sem]
   refine ⟨by decide +kernel,?_⟩
   refine ⟨_,_,[100],id,⟨bumps cs K,by rw [eM,hc],fun _=>rfl,rfl,rfl⟩,?_⟩
   simp only [go_sem]
   rw [hall,decide_eq_false g1]
   rfl
end Go.Proofs.YtejpnabbmgpmaaaGreat

namespace Go.Proofs.YtejpnabbmgpmaaaGreat
open Go.Ab
def dJ:List (Name × Ob):=[([0],.boxT (some 316) [.d .nilp,.d .nils])]
def tU (l:List UInt8):List (Name × Ob):=[([0],.boxT (some 316) [.at [0] 0,.vw [2] 0 l.length]),([2],.arrT (some 5) none (l.map byD))]
def cU (l:List UInt8):List (Name × Ob):=[([0],.boxT (some 316) [.at [0] 0,.vw [1] 0 l.length]),([1],.arrT (some 5) none (l.map byD))]
theorem noesc (v:Value) (w:World):(callFunc 339 #[v]).run Tryz.prog w=.ok (.value v) w:=by
 rw [run_callFunc_extern Tryz.func339 (by kernel_rfl) (by kernel_rfl) (by kernel_rfl) (e:=Extern.AbiNoEscape.same) (by kernel_rfl)]
 rw [Lib.run_noEscape]
 rfl
theorem J4:(Tryz.prog.ti 349).k=.oth:=by kernel_rfl
theorem J2:Tryz.prog.underlying 349=some .unsafePointer:=by kernel_rfl
theorem Cj {G}:HCall Tryz.prog G 328 [.at [0] 0] [([0],.boxT (some 316) [.d .nilp,.vw [1] 0 0]),([1],.arrT (some 5) none [])] [0,1] (fun r hp'=>r=.tup []∧hp'=[([0],.boxT (some 316) [.at [0] 0,.vw [1] 0 0]),([1],.arrT (some 5) none [])]):=by
 refine aq Tryz.func328 rfl (by decide +kernel) (by simp [Tryz.ntmps328]) (veil fun E=>?_)
 simp only [go_sem]
 refine sA E (e:=316) true (by rw [qq]) (by simp only [go_sem]) rfl ?_
 simp only [go_sem]
 refine Jq E (e:=316) [0] 0 316 [.d .nilp,.vw [1] 0 0] (by rw [qq]) J2 (by kernel_rfl) (by simp only [go_sem]) rfl rfl (by decide) ?_
 simp only [go_sem]
 refine GO E 339 (.at [0] 0) noesc (by simp only [go_sem]) rfl rfl ?_
 simp only [go_sem]
 simp only [J4]
 simp only [go_sem]
 refine Jv E (e:=316) [0] 0 316 [.d .nilp,.vw [1] 0 0] (by rw [qq]) J2 (by kernel_rfl) (by simp only [go_sem]) rfl rfl 2 rfl (by kernel_rfl) ?_
 simp only [go_sem]
 refine ⟨_,_,[0,1],id,⟨rfl,rfl⟩,?_⟩
 simp only [go_sem]
theorem CC {G} (l:List UInt8):HCall Tryz.prog G 328 [.at [0] 0] (cU l) [0,1] (fun r hp'=>r=.tup []∧hp'=cU l):=by
 unfold cU
 refine aq Tryz.func328 rfl (by decide +kernel) (by simp [Tryz.ntmps328]) (veil fun E=>?_)
 simp only [go_sem]
 refine sA E (e:=316) false (by rw [qq]) (by simp only [go_sem]) rfl ?_
 simp only [go_sem]
 refine Fc E (e:=316) [0] 0 (by rw [qq]) (by kernel_rfl) (by simp only [go_sem]) rfl rfl rfl ?_
 simp only [go_sem]
 refine ⟨_,_,[0,1],id,⟨rfl,rfl⟩,?_⟩
 simp only [go_sem]
theorem vu {G} (c:UInt8):HCall Tryz.prog G 302 [.at [0] 0,.d (byD c)] dJ [0] (fun r hp'=>r=.d .nili∧hp'=tU [c]):=by
 have h0:=Cj (G:=G)
 unfold dJ tU byD
 refine aq Tryz.func302 rfl (by decide +kernel) (by simp [Tryz.ntmps302]) (veil fun E=>?_)
 simp only [go_sem]
 refine EL E [0] 1 1 (some 316) (some 5) none [.d .nilp,.d .nils] rfl rfl (by rw [aa];decide) ?_
 refine ae E [.at [0] 0] [([0],.boxT (some 316) [.d .nilp,.vw [1] 0 0]),([1],.arrT (some 5) none [])] [0,1] h0 rfl rfl ⟨by simp only [go_sem],by show ¬ _∈[1,0];decide⟩ rfl (by simp only [go_sem]) (by simp only [go_sem]) ?_
 rintro _ _ ⟨rfl,rfl⟩
 simp only [go_sem]
 refine pP E (e:=5) (some 5) [1] [13] [] [.int .u8 (c.toNat:Nat)] (by rw [DD]) (by rw [ti5];rfl) (by rw [ti5];rfl) (by rw [ti5];rfl) rfl ⟨by simp only [go_sem],by rw [aa];decide⟩ rfl rfl rfl rfl (by rw [ti5];simp [TI.by1]) ?_
 simp only [go_sem]
 refine ⟨_,_,[0,1,2],tau [([2],[14])],⟨rfl,rfl⟩,?_⟩
 simp only [go_sem]
theorem sK {G} (l:List UInt8) (c:UInt8) (hl:l.length≤1000000):HCall Tryz.prog G 302 [.at [0] 0,.d (byD c)] (cU l) [0,1] (fun r hp'=>r=.d .nili∧hp'=tU (l++[c])):=by
 have h0:=CC (G:=G) l
 unfold cU at *
 unfold tU
 refine aq Tryz.func302 rfl (by decide +kernel) (by simp [Tryz.ntmps302]) (veil fun E=>?_)
 simp only [go_sem]
 refine ae E [.at [0] 0] [([0],.boxT (some 316) [.at [0] 0,.vw [1] 0 l.length]),([1],.arrT (some 5) none (l.map byD))] [0,1] h0 rfl rfl ⟨by simp only [go_sem],by rw [aa];decide⟩ rfl (by simp only [go_sem]) (by simp only [go_sem]) ?_
 rintro _ _ ⟨rfl,rfl⟩
 simp only [go_sem]
 rw [show byD c=.int .u8 (c.toNat:Nat) from rfl]
 simp only [go_sem]
 refine ⟨Nat.le_refl _,?_⟩
 have hlm:(l.map byD).length=l.length:=by simp
 refine pP E (d:=14) (e:=5) (some 5) [1] [13] (l.map byD) [.int .u8 (c.toNat:Nat)] (by rw [DD]) (by rw [ti5];rfl) (by rw [ti5];rfl) (by rw [ti5];rfl) rfl ⟨by simp only [go_sem],by rw [aa];decide⟩ (by rw [hlm];rfl) rfl rfl rfl (by rw [ti5,hlm];simp [TI.by1];omega) ?_
 rw [hlm,show l.map byD++[.int .u8 (c.toNat:Nat)]=(l++[c]).map byD by simp [byD]]
 simp only [go_sem]
 refine ⟨_,_,[0,1,2],tau [([2],[14])],⟨rfl,rfl⟩,?_⟩
 rw [show (l++[c]).length=l.length+1 by simp]
 simp only [go_sem]
theorem Ck {G}:HCall Tryz.prog G 299 [.at [0] 0] dJ [0] (fun r hp'=>r=.d (i64 0)∧hp'=dJ):=by
 unfold dJ
 refine aq Tryz.func299 rfl (by decide +kernel) (by simp [Tryz.ntmps299]) (veil fun E=>?_)
 simp only [go_sem]
 refine ⟨_,_,[0],id,⟨rfl,rfl⟩,?_⟩
 simp only [go_sem]
theorem C3 {G} (l:List UInt8):HCall Tryz.prog G 299 [.at [0] 0] (cU l) [0,1] (fun r hp'=>r=.d (i64 l.length)∧hp'=cU l):=by
 unfold cU
 refine aq Tryz.func299 rfl (by decide +kernel) (by simp [Tryz.ntmps299]) (veil fun E=>?_)
 simp only [go_sem]
 refine ⟨_,_,[0,1],id,⟨rfl,rfl⟩,?_⟩
 simp only [go_sem]
theorem Dg {G}:HCall Tryz.prog G 300 [.at [0] 0] dJ [0] (fun r hp'=>r=.d (.str [])∧hp'=dJ):=by
 unfold dJ
 refine aq Tryz.func300 rfl (by decide +kernel) (by simp [Tryz.ntmps300]) (veil fun E=>?_)
 simp only [go_sem]
 refine kb 10 mixed E (by simp only [List.take_succ_cons,List.take_zero];exact rfl) (by simp only [List.drop_succ_cons,List.drop_zero];exact rfl) rfl rfl (by decide +kernel) fun X=>?_
 simp only [go_sem]
 refine b9 X (d:=4) [0] 0 (some 316) [.d .nilp,.d .nils] (by simp only [go_sem]) rfl rfl ?_
 simp only [go_sem]
 refine I0 X (d:=7) (by simp only [go_sem]) rfl ?_
 simp only [go_sem]
 refine b9 X (d:=9) [0] 0 (some 316) [.d .nilp,.d .nils] (by simp only [go_sem]) rfl rfl ?_
 simp only [go_sem]
 refine ⟨by decide +kernel,?_⟩
 refine Ex E (by simp only [go_sem]) rfl rfl ?_
 simp only [go_sem]
 refine ⟨_,_,[0],id,⟨rfl,rfl⟩,?_⟩
 simp only [go_sem]
theorem I8:Tryz.prog.cellsOf 5=1:=by kernel_rfl
theorem Kn:Tryz.prog.underlying 341=some (.pointer 5):=by kernel_rfl
theorem Be {G} (l:List UInt8) (h0:l≠[]) (hl:l.length≤1000000):HCall Tryz.prog G 300 [.at [0] 0] (cU l) [0,1] (fun r hp'=>r=.d (.str l)∧hp'=[]):=by
 unfold cU
 refine aq Tryz.func300 rfl (by decide +kernel) (by simp [Tryz.ntmps300]) (veil fun E=>?_)
 simp only [go_sem]
 refine kb 10 mixed E (by simp only [List.take_succ_cons,List.take_zero];exact rfl) (by simp only [List.drop_succ_cons,List.drop_zero];exact rfl) rfl rfl (by decide +kernel) fun X=>?_
 simp only [go_sem]
 refine b9 X (d:=4) [0] 0 (some 316) [.at [0] 0,.vw [1] 0 l.length] (by simp only [go_sem]) rfl rfl ?_
 simp only [go_sem]
 refine J0 X (d:=7) [1] (some 5) none (l.map byD) l.length (by simp only [go_sem]) rfl rfl (List.length_pos_iff.2 h0) ?_
 simp only [go_sem]
 refine b9 X (d:=9) [0] 0 (some 316) [.at [0] 0,.vw [1] 0 l.length] (by simp only [go_sem]) rfl rfl ?_
 simp only [go_sem]
 refine ⟨by decide +kernel,?_⟩
 refine IG E (e:=5) [1] l (by simp only [go_sem]) Kn I8 h0 (by omega) rfl rfl rfl ?_
 simp only [go_sem]
 refine ⟨_,_,[0,1],id,⟨rfl,rfl⟩,?_⟩
 simp only [go_sem]
end Go.Proofs.YtejpnabbmgpmaaaGreat

namespace Go.Proofs.YtejpnabbmgpmaaaGreat
open Go.Ab
theorem rj (r:List UInt8):(gA r).2≤r.length:=by
 unfold gA
 (repeat' split)<;>simp
theorem w9:∀ (m:Nat) (r:List UInt8) (i:Nat) (acc:List UInt8),(ee m r i acc).2.2=0→i+1≤(ee m r i acc).2.1∧(ee m r i acc).2.1≤i+r.length
 | 0,_,_,_,h=>by simp [ee] at h
 | _+1,[],_,_,h=>by simp [ee] at h
 | m+1,c::r,i,acc,h=>by
   unfold ee at h ⊢
   split at h
   ·rename_i hc
    rw [if_pos hc]
    split at h
    ·simp at h
    ·rename_i h2;rw [if_neg h2];simp only [List.length_cons];omega
   rename_i hc
   rw [if_neg hc]
   split at h
   ·rename_i h1
    rw [if_pos h1]
    split at h
    ·simp at h
    ·rename_i h2
     rw [if_neg h2]
     have ih:=w9 m _ _ _ h
     have:=rj r
     rw [List.length_drop] at ih
     simp only [List.length_cons];omega
   rename_i h1
   rw [if_neg h1]
   split at h
   ·rename_i h2
    rw [if_pos h2]
    have ih:=w9 m _ _ _ h
    simp only [List.length_cons];omega
   ·simp at h
theorem Hm {s:List UInt8} (h:(dp s).2.2=0):1≤(dp s).2.1∧(dp s).2.1≤s.length:=by
 cases s with
 | nil=>simp [dp] at h
 | cons c r =>
   simp only [dp] at h ⊢
   by_cases hc:c=34
   ·rw [if_pos hc] at h ⊢
    have:=w9 _ _ _ _ h
    simp only [List.length_cons];omega
   ·rw [if_neg hc] at h;simp at h
theorem lu (l:List UInt8):bH l≤l.length:=by
 cases l with
 | nil=>simp [bH]
 | cons c r =>
   rw [dh (by simp)]
   have:=yL ((c::r).drop 1)
   split
   ·simp only [List.drop_succ_cons,List.drop_zero] at this;simp;omega
   ·omega
theorem rX:∀ l:List UInt8,lh l≤l.length
 | []=>Nat.le_refl _
 | c::r=>by
   unfold lh
   have:=rX r
   split<;>simp
   omega
theorem gP {s p:List UInt8} (h:bJ s p=true):p.length≤s.length:=by
 simp only [bJ,Bool.and_eq_true,decide_eq_true_eq] at h
 exact h.1
theorem C6 {s:List UInt8} (hs:s≠[]) (h:(dP s).e=0):1≤(dP s).n∧(dP s).n≤s.length:=by
 have h0:=List.length_pos_iff.2 hs
 unfold dP at h ⊢
 split at h
 ·rename_i hw
  rw [if_pos hw]
  unfold oB at h ⊢
  have:=lu s
  split at h
  ·simp [dX] at h
  rename_i h1
  rw [if_neg h1]
  (repeat' split)<;>(simp only;omega)
 rename_i hw
 rw [if_neg hw]
 split at h
 ·rename_i h1
  rw [if_pos h1]
  unfold s9 at h ⊢
  split at h
  ·simp [dX] at h
  rename_i h2
  rw [if_neg h2]
  split at h
  ·simp [dX] at h
  rename_i h3
  rw [if_neg h3]
  have:=lu (s.drop 1)
  rw [List.length_drop] at this
  have h4:¬ bH (s.drop 1)=0:=fun e=>h2 (.inl e)
  simp only;omega
 rename_i h1
 rw [if_neg h1]
 split at h
 ·rename_i h2
  rw [if_pos h2]
  unfold BY
  have:=rX (s.drop 1)
  rw [List.length_drop] at this
  simp only;omega
 rename_i h2
 rw [if_neg h2]
 split at h
 ·rename_i h3
  rw [if_pos h3]
  exact Hm h
 rename_i h3
 rw [if_neg h3]
 unfold nP at h ⊢
 split at h
 ·rename_i h4
  rw [if_pos h4]
  simp only [Bool.or_eq_true] at h4
  rcases h4 with h4 | h4
  ·have:=gP h4;simp at this;simp only;omega
  ·have:=gP h4;simp at this;simp only;omega
 rename_i h4
 rw [if_neg h4]
 split at h
 ·simp [dX] at h
 ·rename_i h5;rw [if_neg h5];simp only;omega
theorem xO:∀ (m:Nat) (s:List UInt8) (at':Nat),∀ q∈ej m s at',q.1≤at'+s.length
 | 0,_,_,_,h=>by simp [ej] at h
 | m+1,s,at',q,h=>by
   unfold ej at h
   split at h
   ·cases h
   rename_i hd
   have h0:=List.length_pos_iff.2 hd
   rw [List.length_drop] at h0
   split at h
   ·rw [List.mem_singleton.1 h];simp only;omega
   rename_i he
   have hn:=C6 hd (by simpa using he)
   rw [List.length_drop] at hn
   rcases List.mem_cons.1 h with rfl | h
   ·simp only;omega
   ·have:=xO m _ _ q h
    simp only [List.length_drop] at this
    omega
theorem kR:∀ (m:Nat) (s:List UInt8) (at':Nat),(ej m s at').length≤s.length
 | 0,_,_=>by simp [ej]
 | m+1,s,at'=>by
   unfold ej
   split
   ·simp
   rename_i hd
   have h0:=List.length_pos_iff.2 hd
   rw [List.length_drop] at h0
   split
   ·simp;omega
   rename_i he
   have hn:=C6 hd (by simpa using he)
   rw [List.length_drop] at hn
   have:=kR m ((s.drop (bM s)).drop (dP (s.drop (bM s))).n) (at'+bM s+(dP (s.drop (bM s))).n)
   simp only [List.length_drop,List.length_cons] at this ⊢
   omega
theorem th:∀ {l:List (Nat × Fnd)} {q:Nat × Int},lD l=some q→∃ x∈l,x.1=q.1
 | [],_,h=>by cases h
 | a::r,q,h=>by
   unfold lD at h
   split at h
   ·cases h;exact ⟨a,List.mem_cons_self,rfl⟩
   ·obtain ⟨x,hx,e⟩:=th h
    exact ⟨x,List.mem_cons_of_mem _ hx,e⟩
theorem su:∀ {l:List (Nat × Fnd)} {q:Nat × Int},lD l=some q→q.2≠0
 | [],_,h=>by cases h
 | a::r,q,h=>by
   unfold lD at h
   split at h
   ·rename_i g;cases h;exact g
   ·exact su h
theorem Dv (s:List UInt8):(dx s).2.1≤s.length∧(∀ t∈(dx s).1,0≤t.pos∧t.pos≤s.length)∧(dx s).1.length≤s.length∧((dx s).2.2=0→(dx s).2.1=s.length):=by
 have hin:=xO s.length.succ s 0
 unfold dx
 split
 ·rename_i i e h
  obtain ⟨x,hx,hxe⟩:=th h
  have:=hin x hx
  have:=su h
  refine ⟨by simp only at *;omega,fun _ h=>(by cases h),Nat.zero_le _,fun h=>absurd h this⟩
 ·refine ⟨Nat.le_refl _,fun t ht=>?_,?_,fun _=>rfl⟩
  ·obtain ⟨q,hq,rfl⟩:=List.mem_map.1 ht
   have:=hin q hq
   show 0≤(q.1:Int)∧(q.1:Int)≤_
   omega
  ·rw [List.length_map];exact kR _ _ _
end Go.Proofs.YtejpnabbmgpmaaaGreat

namespace Go.Proofs.YtejpnabbmgpmaaaGreat
open Go.Ab
theorem Ij (l:List UInt8) (c:UInt8) (w:World):(callFunc 296 #[.string ⟨l.toArray⟩,.int .u8 (c.toNat:Nat)]).run Tryz.prog w=.ok (.value (.int .i64 (Lib.indexByte l c))) w:=by
 rw [run_callFunc_extern Tryz.func296 (by kernel_rfl) (by kernel_rfl) (by kernel_rfl) (e:=Extern.BytealgIndexByte.indexByte) (by kernel_rfl)]
 rw [Lib.run_indexByteString]
 simp [Result.andThen]
theorem FA {G} (l:List UInt8) (c:UInt8):HP Tryz.prog G 265 [.str l,u8 c] (fun r=>r=.d (i64 (Lib.indexByte l c))):=by
 unfold u8
 refine al Tryz.func265 rfl (by decide +kernel) (by simp [Tryz.ntmps265]) (veil fun E=>?_)
 simp only [go_sem]
 refine Jk E 296 [.str l,.int .u8 (c.toNat:Nat)] [.string ⟨l.toArray⟩,.int .u8 (c.toNat:Nat)] (.int .i64 (Lib.indexByte l c)) (.int .i64 (Lib.indexByte l c)) rfl rfl (Ij l c) (by simp only [go_sem]) rfl rfl ?_
 simp only [go_sem]
theorem ky {G} (l:List UInt8) (c:UInt8):HP Tryz.prog G 214 [.str l,u8 c] (fun r=>r=.d (i64 (Lib.indexByte l c))):=by
 refine al Tryz.func214 rfl (by decide +kernel) (by simp [Tryz.ntmps214]) (veil fun E=>?_)
 simp only [go_sem]
 refine ab E (FA l c) rfl rfl (by simp) ?_
 rintro _ rfl
 simp only [go_sem]
theorem xi {G} (s p:List UInt8):HP Tryz.prog G 269 [.str s,.str p] (fun r=>r=.d (.bool (bJ s p))):=by
 refine al Tryz.func269 rfl (by decide +kernel) (by simp [Tryz.ntmps269]) (veil fun E=>?_)
 simp only [go_sem]
 refine ab E (yy s p) rfl rfl (by simp) ?_
 rintro _ rfl
 simp only [go_sem]
theorem zg {G} (c:UInt8):HP Tryz.prog G 303 [u8 c] (fun r=>r=.d (.bool (mf c))):=by
 unfold u8
 refine al Tryz.func303 rfl (by decide +kernel) (by simp [Tryz.ntmps303]) (veil fun E=>?_)
 simp only [go_sem]
 repeat (first
  | (apply bC E;(· simp only [go_sem]);(· intro h;(try simp only [bq] at h);simp only [↓h,go_sem];rfl);simp only [go_sem])
  | (apply aW E;(· simp only [go_sem]);(· intro h;(try simp only [bq] at h);simp only [↓h,go_sem];rfl);(· intro h;(try simp only [bq] at h);simp only [↓h,go_sem];rfl);simp only [go_sem])
  | (apply aX E;(· simp only [go_sem]);(· rfl);(· intro h h';(try simp only [bq] at h h');simp only [↓h,↓h',go_sem];rfl);simp only [go_sem])
  | (apply aH E;(· simp only [go_sem]);(· rfl);(· intro h h';(try simp only [bq] at h h');simp only [↓h,↓h',go_sem];rfl);(· intro h h';(try simp only [bq] at h h');simp only [↓h,↓h',go_sem];rfl);simp only [go_sem])
  | (apply bz E;(· decide);simp only [go_sem]))
 have hp:(((decide (32≤((c.toNat:Nat):Int)) && decide (((c.toNat:Nat):Int)≤126)) && decide (¬ ((c.toNat:Nat):Int)=34)) && decide (¬ ((c.toNat:Nat):Int)=92))=mf c:=by
  unfold mf
  rw [Bool.eq_iff_iff];simp;omega
 rw [hp]
theorem ft {c:UInt8} (d:UInt8) (h:((c.toNat:Nat):Int)=(d.toNat:Nat)):c=d:=UInt8.toNat_inj.1 (by omega)
theorem bT {c:UInt8} (d:UInt8) (h:¬ ((c.toNat:Nat):Int)=(d.toNat:Nat)):¬ c=d:=fun e=>h (by rw [e])
def Fk (c:UInt8) (r:List UInt8):UInt8 × Nat:=if c=110 then (10,1) else if c=116 then (9,1) else if c=120 then (match r with | a::b::_=>if Lib.indexByte kI a<0∨Lib.indexByte kI b<0 then (0,0) else (UInt8.ofNat (16*Lib.indexByte kI a+Lib.indexByte kI b).toNat,3) | _=>(0,0)) else (0,0)
theorem A6 (c:UInt8) (r:List UInt8):gA (c::r)=if c=34∨c=92 then (c,1) else Fk c r:=rfl
theorem GV (c:UInt8) (r:List UInt8) (h:c=34∨c=92):gA (c::r)=(c,1):=by rw [A6,if_pos h]
theorem Fh (c:UInt8) (r:List UInt8) (h:¬ (c=34∨c=92)):gA (c::r)=Fk c r:=by rw [A6,if_neg h]
theorem Hw (c:UInt8):∀ l:List UInt8,Lib.indexByte l c<l.length∨l=[]
 | []=>.inr rfl
 | b::l=>by
   left
   have:=Hw c l
   unfold Lib.indexByte
   split
   ·simp only [List.length_cons];omega
   split
   ·simp only [List.length_cons];omega
   ·rcases this with h | h
    ·simp only [List.length_cons];omega
    ·rename_i h1 h2
     subst h
     exact absurd rfl h2
theorem Bl (c:UInt8):Lib.indexByte kI c<16:=by
 rcases Hw c kI with h | h
 ·exact h
 ·cases h
theorem yx {G} (s:List UInt8) (hl:s.length≤1000000):HP Tryz.prog G 301 [.str s] (fun r=>r=.tup [.d (u8 (gA s).1),.d (i64 (gA s).2)]):=by
 unfold u8
 refine al Tryz.func301 rfl (by decide +kernel) (by simp [Tryz.ntmps301]) (veil fun E=>?_)
 simp only [go_sem]
 refine aR E (fun h=>?_) (fun h=>?_)<;>simp only [go_sem]
 ·have h0:s=[]:=by simpa using h
  subst h0
  rfl
 cases s with
 | nil=>simp at h
 | cons c r =>
 have hc0:(c::r).getD 0 0=c:=rfl
 simp only [List.length_cons] at hl
 refine ⟨by simp,?_⟩
 rw [hc0]
 have key1:c=34∨c=92→gA (c::r)=(c,1):=GV c r
 have key0:¬ (c=34∨c=92)→gA (c::r)=Fk c r:=Fh c r
 refine ai E (fun h1=>?_) (fun h1=>?_)<;>simp only [go_sem]
 ·refine ai E (fun _=>?_) (fun h2=>absurd h1 h2)<;>simp only [go_sem]
  refine ⟨by simp,?_⟩
  rw [key1 (.inl (ft 34 h1))]
  rfl
 refine ai E (fun h2=>?_) (fun h2=>?_)<;>simp only [go_sem]
 ·refine ⟨by simp,?_⟩
  rw [key1 (.inr (ft 92 h2))]
  rfl
 have key:=key0 (fun h=>h.elim (bT 34 h1) (bT 92 h2))
 unfold Fk at key
 refine ai E (fun h3=>?_) (fun h3=>?_)<;>simp only [go_sem]
 ·rw [key,if_pos (ft 110 h3)];rfl
 rw [if_neg (bT 110 h3)] at key
 refine ai E (fun h4=>?_) (fun h4=>?_)<;>simp only [go_sem]
 ·rw [key,if_pos (ft 116 h4)];rfl
 rw [if_neg (bT 116 h4)] at key
 refine ai E (fun h5=>?_) (fun h5=>?_)<;>simp only [go_sem]
 rotate_left
 ·rw [key,if_neg (bT 120 h5)];rfl
 rw [if_pos (ft 120 h5)] at key
 refine ai E (fun h6=>?_) (fun h6=>?_)<;>simp only [go_sem]
 ·have h7:gA (c::r)=(0,0):=by
   match r,h6,key with
   | [],_,key=>exact key
   | [_],_,key=>exact key
   | _::_::_,h6,_=>simp only [List.length_cons] at h6;omega
  rw [h7];rfl
 obtain ⟨a,b,r',rfl⟩:∃ a b r',r=a::b::r':=by
  match r,h6 with
  | [],h6=>exact absurd (by simp) h6
  | [_],h6=>exact absurd (by simp) h6
  | a::b::r',_=>exact ⟨a,b,r',rfl⟩
 simp only at key
 refine aj mixed E fun X=>?_
 simp only [go_sem]
 have ha:=Bl a
 have hb:=Bl b
 refine ⟨by omega,?_⟩
 rw [show (c::a::b::r').getD 1 0=a from rfl]
 refine aZ X (ky kI a) rfl rfl (by simp) ?_
 simp only [go_sem]
 refine ⟨by omega,?_⟩
 rw [show (c::a::b::r').getD 2 0=b from rfl]
 refine aZ X (ky kI b) rfl rfl (by simp) ?_
 simp only [go_sem]
 generalize Lib.indexByte kI a=x at ha key
 generalize Lib.indexByte kI b=y at hb key
 refine ⟨by decide +kernel,?_⟩
 repeat (first
  | (apply bC E;(· simp only [go_sem]);(· intro h;(try simp only [bq] at h);simp only [↓h,go_sem];rfl);simp only [go_sem])
  | (apply aW E;(· simp only [go_sem]);(· intro h;(try simp only [bq] at h);simp only [↓h,go_sem];rfl);(· intro h;(try simp only [bq] at h);simp only [↓h,go_sem];rfl);simp only [go_sem])
  | (apply aX E;(· simp only [go_sem]);(· rfl);(· intro h h';(try simp only [bq] at h h');simp only [↓h,↓h',go_sem];rfl);simp only [go_sem])
  | (apply aH E;(· simp only [go_sem]);(· rfl);(· intro h h';(try simp only [bq] at h h');simp only [↓h,↓h',go_sem];rfl);(· intro h h';(try simp only [bq] at h h');simp only [↓h,↓h',go_sem];rfl);simp only [go_sem])
  | (apply bz E;(· decide);simp only [go_sem]))
 refine aR E (fun h7=>?_) (fun h7=>?_)<;>simp only [go_sem]
 ·rw [key,if_pos (by simpa using h7)];rfl
 ·have h8:0≤x∧0≤y:=by
   have:¬ (x<0∨y<0):=by simpa using h7
   omega
  rw [key,if_neg (by omega),ak (n:=16*x) ⟨by omega,by omega⟩,ak ⟨by omega,by omega⟩]
  obtain ⟨n,hn⟩:∃ n:Nat,16*x+y=n:=⟨(16*x+y).toNat,by omega⟩
  rw [hn,Int.toNat_natCast]
  have h9:n<256:=by omega
  have h10:IntKind.u8.wrap (n:Int)=((UInt8.ofNat n).toNat:Nat):=by
   rw [UInt8.toNat_ofNat']
   simp [IntKind.wrap,IntKind.bits,IntKind.signed]
  rw [h10]
  rfl
end Go.Proofs.YtejpnabbmgpmaaaGreat

