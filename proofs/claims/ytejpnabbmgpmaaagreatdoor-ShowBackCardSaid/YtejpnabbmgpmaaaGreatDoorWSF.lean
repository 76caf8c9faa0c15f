/-
  The generic layer, part 86: builders of texts: variables and arrays whose types are told; pointers compared, and turned; what is called in place. (with the parts that follow it)
-/
import Derived.Test.YtejpnabbmgpmaaaGreatDoorWSE
import Derived.Test.YtejpnabbmgpmaaaGreatDoorWSD
import Derived.Test.YtejpnabbmgpmaaaGreatDoorWSA
import Derived.Lib.Builder
import Derived.LaidEqlPtr
import Derived.Laws.Pointers
import Derived.Laws.Externs
import Derived.Lib.UnsafeStr
import Derived.Deep.Upon
import Derived.DefersIn
import Derived.RangeFuncBound
set_option linter.all false
namespace Go.Ab
section
variable {P:Program} {cf:Cf} {Q:Exit→St→Prop} {s:St} {k:List It} {B:Base} {β:Name→Option Blk} {tm:Array Value} {w:World}
theorem Sim.KJ (h:Sim B β s tm w) {p:Name} {ob:Ob} {k:Blk} (hp:s.hp p=some ob) (hk:β p=some k) {w':World} (hio:wio w'=wio w) (hsz:w'.heap.size=w.heap.size) (hw:∀ b,b≠k.b→w'.heap[b]?=w.heap[b]?):Sim B β (s.set p none) tm w':=by
 have hsub:∀ q o,(s.set p none).hp q=some o→q≠p∧s.hp q=some o:=by
  intro q o ho
  by_cases e:q=p
  ·subst e;simp [St.set,aB] at ho
  ·exact ⟨e,by simpa [St.set,aB,e] using ho⟩
 have hne:∀ q,(s.set p none).hp q≠none→s.hp q≠none:=by
  intro q hq e
  cases ho:(s.set p none).hp q with
  | none=>exact hq ho
  | some o=>rw [(hsub q o ho).2] at e;cases e
 have hr:∀ v d,Rep w.heap (s.own B.A β) v d→Rep w'.heap ((s.set p none).own B.A β) v d:=fun v d hd=>hd.mono (fun b hb _=>hw b fun e=>hb (.inr ⟨p,k,by rw [hp];simp,hk,e.symm⟩)) (by
  rintro b _ (hA | ⟨q,k,hq,hk,e⟩)
  ·exact .inl hA
  ·exact .inr ⟨q,k,hne q hq,hk,e⟩)
 have hst:∀ q,nm s.used q→Stays s.hp (s.set p none).hp β β q:=fun q _ o' ho'=>⟨o',(hsub q o' ho').2,Ob.cl _,rfl⟩
 refine { tms:=h.tms,io:=hio.trans h.io,size:=by rw [hsz];exact h.size,frame:=fun b hb hn=>?_,slots:=fun i=>(h.slots i).mono hr (fun _ h=>h) hst,objs:=?_,blocks:=fun q k hq hk=>(by rw [hsz];exact h.blocks q k (hne q hq) hk), inj:=fun q q' k l hq hq' hk hl e=>h.inj q q' k l (hne q hq) (hne q' hq') hk hl e,us:=h.us,stay:=h.stay }
 ·rw [hw b ?_]
  ·exact h.frame b hb hn
  ·intro e
   obtain ⟨_,_,h3⟩:=h.blocks p k (by rw [hp];simp) hk
   rcases h3 with h3 | h3
   ·omega
   ·exact hn (e ▸ h3)
 ·intro q o ho
  obtain ⟨hqp,ho'⟩:=hsub q o ho
  obtain ⟨h1,h2⟩:=h.objs q o ho'
  exact ⟨h1,h2.mono hr (fun _ h=>h) hst rfl fun l hl=>hw l.b fun e=>hqp (h.inj q p l k (by rw [ho'];simp) (by rw [hp];simp) hl hk e)⟩
theorem xj (E:Eng P cf Q) {o:Oper} (p:Name) (j n:Nat) (ty tg:Option Nat) (w:W) (cs:List AV) (hp:s.hp p=some (.boxT ty cs)) (hj:cs[j]?=some (.d .nils)) (hn:n ∉ s.used) (h:E.stp o ((s.add n (.arrT tg w [])).set p (some (.boxT ty (cs.set j (.vw [n] 0 0))))) k .no):E.stp o s k .no:=by
 rw [aO] at h ⊢
 intro B hB ds β a w' hds hs Q'
 have h1:=hs.eu hn tg w
 have hpn:p≠[n]:=gq (hs.objs p _ hp).1 hn
 refine h B hB ds (aB β [n] none) a w' hds (h1.rebox (cs:=cs) (by simpa [St.add,aB,hpn] using hp) (by simp) fun v i x x' hx hx' hv=>?_) Q'
 by_cases e:j=i
 ·subst e
  rw [hj] at hx
  cases hx
  rw [List.getElem?_set_self (List.getElem?_eq_some_iff.1 hj).1] at hx'
  cases hx'
  have:=hv.toD
  cases this
  exact .vw _ _ _ _ ⟨n,[],rfl,List.mem_cons_self⟩ rfl fun ty' w' xs hx=>by
   have:some (Ob.arrT tg w [])=some (.arrT ty' w' xs):=by rw [← hx];simp [St.add,aB]
   cases this
   exact ⟨Nat.le_refl _,none,0,rfl,.inl ⟨rfl,rfl⟩⟩
 ·rw [List.getElem?_set_ne e,hx] at hx'
  cases hx'
  exact hv
theorem qm (E:Eng P cf Q) {d t e:Nat} {x y:Operand} {ty:TypeId} {pos:String} {af:Array Edge} (tg:Option Nat) (p q:Name) (xs ys:List D) (hk:(P.ti t).k=.slice e) (hz:(P.ti e).zOk=true) (hw:(P.ti e).isW (P.ti e).w=true) (hew:(P.ti e).w=none)
  (htg:tg.getD e=e) (hd:d<cf.n∧d ∉ s.used) (hx:ev s x=.vw p 0 xs.length) (hp:s.hp p=some (.arrT tg none xs)) (hy:ev s y=.vw q 0 ys.length) (hq:s.hp q=some (.arr none ys)) (hl:(xs.length+ys.length)*(P.ti e).by1≤140737488355328)
  (h:E.run k (((s.set p none).add d (.arrT tg none (xs++ys))).put d (.vw [d] 0 (xs.length+ys.length)))) :
  E.stp { dst:=some d,op:=.call { callee:=.builtin .append,args:=#[x,y],argTypes:=#[t,t] },type:=ty,pos:=pos,after:=af,guard:=none } s k .no:=by
 rw [aO]
 rw [E.run_eq] at h
 intro B hB ds β a w hds hs Q'
 have hvx:=hs.ev x
 have hvy:=hs.ev y
 rw [hx] at hvx
 rw [hy] at hvy
 have key:=jR (P:=P) (t:=t) hs hvx hvy hk hz hw ty (some d) tg htg
 have e1:jq tg B.n (P.ti e) (some d) s (.vw p 0 xs.length) (.vw q 0 ys.length)=.need ((xs.length+ys.length)*(P.ti e).by1≤140737488355328) (.ok (((s.set p none).add d (.arrT tg none (xs++ys))).put d (.vw [d] 0 (xs.length+ys.length)))):=by
  unfold jq
  have hlo:cj (P.ti e).w s.hp (.vw q 0 ys.length)=some ys:=by simp [cj,hq,hew]
  rw [hlo]
  simp only [hp]
  rw [if_pos ⟨trivial,hew.symm⟩]
  have hd2:d<B.n∧d ∉ (s.set p none).used:=⟨by rw [hB.1];exact hd.1,hd.2⟩
  unfold gU
  simp only
  rw [if_pos hd2]
  simp
 rw [e1] at key
 obtain ⟨dd,v,w',β',hdd,hrun,hsim⟩:=key hl
 cases hdd
 exact aI (v:=v) (by simp) (by simp [execOp,resolve,invoke,builtin,hrun]) (.inl rfl) ⟨hds,_,β',aX h,hsim⟩
end
section
variable {P:Program} {cf:Cf} {Q:Exit→St→Prop} {s:St} {k:List It}
theorem jk {o:Oper} {d:Nat} {x:AV} (hd:o.dst=some d) (hdn:d<cf.n) (hnd:∀ c,o.op≠.defer c)
  (hrun:∀ (B:Base) (β:Name→Option Blk) (a:Act) (w:World),Sim B β s a.tmps w→∃ v,(execOp a.eval o).run P w=.ok (.value v) w∧VR w.heap (s.own B.A β) s.used s.hp β v x) (h:run P cf k Q (s.put d x)):AOk P cf o s k Q:=by
 intro B hB ds β a w hds hs Q'
 obtain ⟨v,h1,h2⟩:=hrun B β a w hs
 refine aI (v:=v) hnd h1 (.inl rfl) ?_
 rw [hd]
 exact ⟨hds,_,β,aX h,hs.put (by rw [hB.1];exact hdn) h2⟩
theorem mZ (E:Eng P cf Q) {o:Oper} {d:Nat} {x:AV} (hd:o.dst=some d) (hdn:d<cf.n) (hnd:∀ c,o.op≠.defer c)
  (hrun:∀ (B:Base) (β:Name→Option Blk) (a:Act) (w:World),Sim B β s a.tmps w→∃ v,(execOp a.eval o).run P w=.ok (.value v) w∧VR w.heap (s.own B.A β) s.used s.hp β v x) (h:E.run k (s.put d x)):E.stp o s k .no:=by
 rw [aO]
 rw [E.run_eq] at h
 exact jk hd hdn hnd hrun h
theorem rB {t e:Nat} (h:(P.ti t).k=.ptr e):P.underlying t=some (.pointer e):=by
 obtain ⟨i,d,_,hd,hk,_⟩:=dj (P:=P) (t:=t) (by rw [h];rfl)
 rw [h] at hk
 cases d<;>simp [tk] at hk
 rw [hd,hk]
def BX (hp:Name→Option Ob):AV→Option Bool
 | .d .nilp=>some true
 | .d (.ptr _)=>some false
 | .bx p _=>match hp p with
   | some (.boxT _ _)=>some false
   | _=>none
 | _=>none
theorem vR {H:Array Obj} {own:Nat→Prop} {used:List Nat} {hp:Name→Option Ob} {β:Name→Option Blk} {v:Value} {x:AV} {b:Bool} (h:VR H own used hp β v x) (hn:BX hp x=some b):∃ ad,v=.pointer ad∧ad.isNone=b:=by
 cases x with
 | d z =>
   cases z<;>simp [BX] at hn
   ·subst hn
    have:=h.toD
    cases this;exact ⟨none,rfl,rfl⟩
   ·subst hn
    have:=h.toD
    cases this;exact ⟨_,rfl,rfl⟩
 | bx p c =>
   simp only [BX] at hn
   split at hn
   ·rename_i ty cs ho
    cases hn
    cases h with
    | bx _ _ _ _ _ hx =>
      obtain ⟨k,_,_,rfl⟩:=hx _ _ ho
      exact ⟨_,rfl,rfl⟩
   ·cases hn
 | _=>simp [BX] at hn
theorem lz (E:Eng P cf Q) {t e:TypeId} {x:Operand} {yt:TypeId} {dst:Nat} {ty:TypeId} {ps:String} {af:Array Edge} (b:Bool) (hk:(P.ti t).k=.ptr e) (hd:dst<cf.n) (hx:BX s.hp (ev s x)=some b) (h:E.run k (s.put dst (.d (.bool b)))) :
  E.stp { dst:=some dst,op:=.binOp .eql t x (.const (.pointer none)) yt,type:=ty,pos:=ps,after:=af,guard:=none } s k .no:=by
 refine mZ E rfl hd (by simp) (fun B β a w hs=>⟨.bool b,?_,.d _ _ (.bool _)⟩) h
 obtain ⟨ad,hv,rfl⟩:=vR (hs.ev x) hx
 have hu:=rB hk
 refine jc ?_ ?_
 ·rw [hv];rfl
 ·rw [hv]
  exact run_eql_pointer_nil w t ad (by rw [hu];simp [Program.pointee,hu])
theorem run_neq_ptr_same {tp te:TypeId} {j:TypeInfo} (w:World) (a:Addr) (hp:P.underlying tp=some (.pointer te)) (hte:P.info? te=some j):(binOp .neq tp (.pointer (some a)) (.pointer (some a))).run P w=.ok (.bool false) w:=by
 have h:∀ d:Nat,(Op.equalIn (d+1) tp (.pointer (some a)) (.pointer (some a))).run P w=.ok true w:=fun d=>by
  simp [Op.equalIn,run_underlying hp,sizeOf,typeInfo,hte,run_sameAddr_same]
 simp only [binOp]
 simp [Op.equal,Op.maxDepth,h 9999]
theorem y8 (E:Eng P cf Q) {t e:TypeId} {x y:Operand} {yt:TypeId} {dst:Nat} {ty:TypeId} {ps:String} {af:Array Edge} (p:Name) (c:Nat) (hk:(P.ti t).k=.ptr e) (he:(P.info? e).isSome=true) (hd:dst<cf.n) (hx:ev s x=.bx p c) (hy:ev s y=.bx p c) (hp:(match s.hp p with | some (.boxT _ _)=>true | _=>false)=true)
  (h:E.run k (s.put dst (.d (.bool false)))):E.stp { dst:=some dst,op:=.binOp .neq t x y yt,type:=ty,pos:=ps,after:=af,guard:=none } s k .no:=by
 refine mZ E rfl hd (by simp) (fun B β a w hs=>⟨.bool false,?_,.d _ _ (.bool _)⟩) h
 split at hp
 rotate_left
 ·cases hp
 rename_i ty' cs ho
 obtain ⟨k,hkk⟩:∃ k:Blk,∀ v,VR w.heap (s.own B.A β) s.used s.hp β v (.bx p c)→v=.pointer (some ⟨k.b,c,none⟩):=by
  obtain ⟨k,_,_,hk,_⟩:=(hs.objs p _ ho).2
  refine ⟨k,fun v hv=>?_⟩
  cases hv with
  | bx _ _ _ _ _ hx =>
    obtain ⟨k',hk',_,rfl⟩:=hx _ _ ho
    rw [hk] at hk';cases hk';rfl
 have h1:=hkk _ (hx ▸ hs.ev x)
 have h2:=hkk _ (hy ▸ hs.ev y)
 obtain ⟨j,hj⟩:=Option.isSome_iff_exists.1 he
 refine jc ?_ ?_
 ·rw [h1,h2];rfl
 ·rw [h1,h2]
  exact run_neq_ptr_same w _ (rB hk) hj
theorem BP {B:Base} {β:Name→Option Blk} {tm:Array Value} {w:World} (hs:Sim B β s tm w) {p:Name} {t:Nat} {cs:List AV} (hp:s.hp p=some (.boxT (some t) cs)):∃ k:Blk,(∀ v c,VR w.heap (s.own B.A β) s.used s.hp β v (.bx p c)→v=.pointer (some ⟨k.b,c,none⟩))∧w.shape? k.b=some (t,cs.length):=by
 obtain ⟨k,c,e,hk,_,hc,_,hl,_⟩:=(hs.objs p _ hp).2
 refine ⟨k,fun v c hv=>?_,by simp [World.shape?,hc,hl]⟩
 cases hv with
 | bx _ _ _ _ _ hx =>
   obtain ⟨k',hk',_,rfl⟩:=hx _ _ hp
   rw [hk] at hk';cases hk';rfl
theorem Hy (E:Eng P cf Q) {a' b' e:TypeId} {x:Operand} {dst:Nat} {ty:TypeId} {ps:String} {af:Array Edge} (p:Name) (c t:Nat) (cs:List AV) (hk:(P.ti a').k=.ptr e) (hu:P.underlying b'=some .unsafePointer) (he:(P.info? e).any (fun j=>j.size != 0)=true) (hd:dst<cf.n) (hx:ev s x=.bx p c)
  (hp:s.hp p=some (.boxT (some t) cs)) (hc:c<cs.length) (h:E.run k (s.put dst (.bx p c))):E.stp { dst:=some dst,op:=.convert a' b' x,type:=ty,pos:=ps,after:=af,guard:=none } s k .no:=by
 refine mZ E (x:=.bx p c) rfl hd (by simp) (fun B β a w hs=>⟨a.eval x,?_,hx ▸ hs.ev x⟩) h
 obtain ⟨k,hkk,hsh⟩:=BP hs hp
 have h1:=hkk _ _ (hx ▸ hs.ev x)
 rw [Option.any_eq_true] at he
 obtain ⟨j,hj,hj0⟩:=he
 have:=Lib.run_to_unsafe (P:=P) w (src:=a') (dst:=b') (⟨k.b,c,none⟩:Addr) (rB hk) hu hj (by simpa using hj0) hsh hc
 simp [execOp,h1,this]
theorem HG (E:Eng P cf Q) {a' b' e:TypeId} {x:Operand} {dst:Nat} {ty:TypeId} {ps:String} {af:Array Edge} (p:Name) (c t:Nat) (cs:List AV) (hk:(P.ti b').k=.ptr e) (hu:P.underlying a'=some .unsafePointer) (he:(P.info? e).isSome=true) (hd:dst<cf.n) (hx:ev s x=.bx p c)
  (hp:s.hp p=some (.boxT (some t) cs)) (m:Nat) (hm:cs.length=m) (hl:liesAt P P.depth t (m / P.cellsOf t) c e 1=true) (h:E.run k (s.put dst (.bx p c))):E.stp { dst:=some dst,op:=.convert a' b' x,type:=ty,pos:=ps,after:=af,guard:=none } s k .no:=by
 refine mZ E (x:=.bx p c) rfl hd (by simp) (fun B β a w hs=>⟨a.eval x,?_,hx ▸ hs.ev x⟩) h
 obtain ⟨k,hkk,hsh⟩:=BP hs hp
 have h1:=hkk _ _ (hx ▸ hs.ev x)
 obtain ⟨j,hj⟩:=Option.isSome_iff_exists.1 he
 rw [hm] at hsh
 have:=Lib.run_from_unsafe (P:=P) w (src:=a') (dst:=b') (⟨k.b,c,none⟩:Addr) hu (rB hk) hj hsh hl
 simp [execOp,h1,this]
theorem xX (E:Eng P cf Q) {fv x:Operand} {at':Array TypeId} {dst:Nat} {ty:TypeId} {ps:String} {af:Array Edge} (f:FuncId) (y:AV) (hr:∀ v w,(callFunc f #[v]).run P w=.ok (.value v) w) (hd:dst<cf.n) (hf:ev s fv=.clo f []) (hx:ev s x=y) (h:E.run k (s.put dst y)) :
  E.stp { dst:=some dst,op:=.call { callee:=.value fv,args:=#[x],argTypes:=at' },type:=ty,pos:=ps,after:=af,guard:=none } s k .no:=by
 refine mZ E (x:=y) rfl hd (by simp) (fun B β a w hs=>⟨a.eval x,?_,hx ▸ hs.ev x⟩) h
 have hf':=hs.ev fv
 rw [hf] at hf'
 generalize hfv:a.eval fv=fval at hf'
 cases hf' with
 | clo _ cvs _ hcs hcv =>
 have hc0:cvs=#[]:=Array.eq_empty_of_size_eq_zero (by simpa using hcs)
 subst hc0
 have e:(execOp a.eval { dst:=some dst,op:=.call { callee:=.value fv,args:=#[x],argTypes:=at' },type:=ty,pos:=ps,after:=af,guard:=none }:Sem Next)=callFunc f (#[]++#[x].map a.eval++#[]):=by
  show (do let d ← (Deferred.ofValue (a.eval fv) (#[x].map a.eval));invoke d.target d.args:Sem Next)=_
  rw [hfv];rfl
 rw [e]
 simpa using hr (a.eval x) w
theorem Gp {fv:Operand} {args:Array Operand} {at':Array TypeId} {dst:Nat} {ty:TypeId} {ps:String} {af:Array Edge} {g:Option (Nat × Bool)} (f:FuncId) (ds:List D) (vs:List Value) (r:D) (v:Value) (hv:vals ds=some vs) (hrv:r.val=some v) (hr:∀ w,(callFunc f vs.toArray).run P w=.ok (.value v) w) (hd:dst<cf.n) (hf:ev s fv=.clo f [])
  (hx:args.toList.map (ev s)=ds.map .d) (h:run P cf k Q (s.put dst (.d r))):AOk P cf { dst:=some dst,op:=.call { callee:=.value fv,args:=args,argTypes:=at' },type:=ty,pos:=ps,after:=af,guard:=g } s k Q:=by
 refine jk (x:=.d r) rfl hd (by simp) (fun B β a w hs=>⟨v,?_,.d _ _ (D.y9 hrv)⟩) h
 have hf':=hs.ev fv
 rw [hf] at hf'
 generalize hfv:a.eval fv=fval at hf'
 cases hf' with
 | clo _ cvs _ hcs hcv =>
 have hc0:cvs=#[]:=Array.eq_empty_of_size_eq_zero (by simpa using hcs)
 subst hc0
 have e:(execOp a.eval { dst:=some dst,op:=.call { callee:=.value fv,args:=args,argTypes:=at' },type:=ty,pos:=ps,after:=af,guard:=g }:Sem Next)=callFunc f (#[]++args.map a.eval++#[]):=by
  show (do let d ← (Deferred.ofValue (a.eval fv) (args.map a.eval));invoke d.target d.args:Sem Next)=_
  rw [hfv];rfl
 have e2:#[]++args.map a.eval++#[]=vs.toArray:=by
  obtain ⟨g1,g2⟩:=n7 hv
  have hsz:args.size=ds.length:=by have:=congrArg List.length hx;simpa using this
  apply Array.ext
  ·simp [hsz,g1]
  ·intro i hi hi'
   have hia:i<args.size:=by simpa using hi
   have hid:i<ds.length:=by omega
   have h1:(args.toList.map (ev s))[i]?=(ds.map AV.d)[i]?:=by rw [hx]
   simp only [List.getElem?_map,Array.getElem?_toList,Array.getElem?_eq_getElem hia,List.getElem?_eq_getElem hid,Option.map_some,Option.some.injEq] at h1
   have h2:=hs.ev args[i]
   rw [h1] at h2
   have h3:=h2.toD.val (g2 i _ (List.getElem?_eq_getElem hid) ▸ List.getElem?_eq_getElem (by omega:i<vs.length))
   simpa using h3
 rw [e,e2]
 exact hr w
theorem KO (E:Eng P cf Q) {fv:Operand} {args:Array Operand} {at':Array TypeId} {dst:Nat} {ty:TypeId} {ps:String} {af:Array Edge} (f:FuncId) (ds:List D) (vs:List Value) (r:D) (v:Value) (hv:vals ds=some vs) (hrv:r.val=some v) (hr:∀ w,(callFunc f vs.toArray).run P w=.ok (.value v) w) (hd:dst<cf.n) (hf:ev s fv=.clo f [])
  (hx:args.toList.map (ev s)=ds.map .d) (h:E.run k (s.put dst (.d r))):E.stp { dst:=some dst,op:=.call { callee:=.value fv,args:=args,argTypes:=at' },type:=ty,pos:=ps,after:=af,guard:=none } s k .no:=by
 rw [aO]
 rw [E.run_eq] at h
 exact Gp f ds vs r v hv hrv hr hd hf hx h
end
end Go.Ab

namespace Go.Ab
theorem wh {P:Program} {e:TypeId} (hc:P.cellsOf e=1) (count o n:Nat) (hn:o+n≤count):liesAt P P.depth e count o e n=true:=by
 have hd:P.depth=(2*(P.types.size+Made.depth)+1)+1:=rfl
 rw [hd]
 simp only [liesAt,Bool.or_eq_true]
 left
 rw [hd]
 simp [rowAt,hc,hn,sameLayout,Nat.mod_one]
theorem jo {P:Program} (w:World) (pt it ty e:TypeId) (hp:P.underlying pt=some (.pointer e)) (hc:P.cellsOf e=1) (g o cells:Nat) (hsh:w.shape? g=some (e,cells)) (l:List UInt8) (h0:l≠[]) (hn:o+l.length≤cells) (h63:l.length≤9223372036854775807)
  (hcell:∀ j x,l[j]?=some x→w.cell? ((⟨g,o,none⟩:Addr).add j)=some (.int .u8 x.toNat)) :
  (Builtin.unsafeString_ #[pt,it] ty #[.pointer (some ⟨g,o,none⟩),.int .i64 l.length]).run P w=.ok (.string ⟨l.toArray⟩) (w.freeze ⟨g,o,none⟩ l.length):=by
 have hl:l.length≠0:=by simpa using h0
 have hlb:=Lib.run_loadBytes (P:=P) w l ⟨g,o,none⟩ .empty hcell
 have hlies:=wh (P:=P) hc (cells / P.cellsOf e) o l.length (by rw [hc];simpa using hn)
 have h63':¬ (9223372036854775807:Int)<(l.length:Int):=by omega
 obtain ⟨z1,z2,z3,hdef⟩:∃ z1 z2 z3,Builtin.unsafeString_ #[pt,it] ty #[.pointer (some ⟨g,o,none⟩),.int .i64 l.length] =
  (do
   let n ← asInt (.int .i64 l.length)
   if n<0 then runtimePanic (.error z1)
   if n > IntKind.i64.max then unsupported (.unsafePointer z2)
   if n=0 then pure (.string .empty)
   else if ← variablesAt ⟨g,o,none⟩ (← elemOf pt) n.toNat then do
    let s ← loadBytes ⟨g,o,none⟩ .empty n.toNat
    freeze ⟨g,o,none⟩ n.toNat
    pure (.string s)
   else unsupported (.unsafePointer z3)):=⟨_,_,_,rfl⟩
 rw [hdef]
 have hmax:IntKind.i64.max=9223372036854775807:=rfl
 have hneg:¬ (l.length:Int)<0:=by omega
 simp [asInt,asIntOf,hmax,h63',hneg,hl,variablesAt,hsh,elemOf,run_underlying hp,hlies,hlb]
def byD (c:UInt8):D:=.int .u8 (c.toNat:Nat)
section
variable {P:Program} {cf:Cf} {Q:Exit→St→Prop} {s:St} {k:List It}
theorem C6 {d:Nat} {x:Operand} {at':Array TypeId} {ty:TypeId} {pos:String} {af:Array Edge} {g:Option (Nat × Bool)} (hd:d<cf.n) (hx:ev s x=.d .nils) (h:run P cf k Q (s.put d (.d .nilp))) :
  AOk P cf { dst:=some d,op:=.call { callee:=.builtin .unsafeSliceData,args:=#[x],argTypes:=at' },type:=ty,pos:=pos,after:=af,guard:=g } s k Q:=by
 refine jk rfl hd (by simp) (fun B β a w hs=>⟨.pointer none,?_,.d _ _ .nilp⟩) h
 have hv:=hs.ev x
 rw [hx] at hv
 have hv:=hv.nils
 simp [execOp,resolve,invoke,builtin,hv,Lib.run_unsafeSliceData_nil]
theorem FH {d:Nat} {x:Operand} {at':Array TypeId} {ty:TypeId} {pos:String} {af:Array Edge} {g:Option (Nat × Bool)} (p:Name) (tg:Option Nat) (w0:W) (xs:List D) (l:Nat) (hd:d<cf.n) (hx:ev s x=.vw p 0 l) (hp:s.hp p=some (.arrT tg w0 xs)) (hl:0<l) (h:run P cf k Q (s.put d (.el p 0 0))) :
  AOk P cf { dst:=some d,op:=.call { callee:=.builtin .unsafeSliceData,args:=#[x],argTypes:=at' },type:=ty,pos:=pos,after:=af,guard:=g } s k Q:=by
 refine jk rfl hd (by simp) (fun B β a w hs=>?_) h
 have hv:=hs.ev x
 rw [hx] at hv
 generalize hax:a.eval x=vx at hv
 cases hv with
 | vw _ _ _ _ hn h1 hx' =>
   obtain ⟨hle,a0,cap,rfl,hc⟩:=hx' _ _ _ hp
   rcases hc with ⟨h0,_⟩ | ⟨k,hk,rfl,hcap,hz⟩
   ·omega
   ·refine ⟨.pointer (some ⟨k.b,k.o+0*wd w0,none⟩),?_,.el _ _ _ _ hn rfl fun ty' w' xs' hp'=>?_⟩
    ·obtain ⟨oo,hoo⟩:∃ oo,k.o+0*wd w0=oo:=⟨_,rfl⟩
     rw [hoo] at hax ⊢
     have:=Lib.run_unsafeSliceData_row (P:=P) w at' ty ⟨k.b,oo,none⟩ l cap (by omega)
     simp [execOp,resolve,invoke,builtin,hax,this]
    ·rw [hp] at hp';cases hp'
     exact ⟨by omega,k,hk,rfl⟩
theorem Gg (E:Eng P cf Q) {d pt it:Nat} {x y:Operand} {ty:TypeId} {pos:String} {af:Array Edge} (hd:d<cf.n) (hx:ev s x=.d .nilp) (hy:ev s y=.d (.int .i64 0)) (h:E.run k (s.put d (.d (.str [])))) :
  E.stp { dst:=some d,op:=.call { callee:=.builtin .unsafeString,args:=#[x,y],argTypes:=#[pt,it] },type:=ty,pos:=pos,after:=af,guard:=none } s k .no:=by
 rw [aO]
 rw [E.run_eq] at h
 refine jk rfl hd (by simp) (fun B β a w hs=>⟨.string .empty,?_,.d _ _ (.str [])⟩) h
 have hv:=hs.ev x
 rw [hx] at hv
 have hv:=hv.toD
 have hw:=hs.ev y
 rw [hy] at hw
 have hw:=hw.int
 generalize hax:a.eval x=vx at hv
 cases hv
 have:=Lib.run_unsafeString_none (P:=P) w pt it ty none
 simp [execOp,resolve,invoke,builtin,hax,hw,this]
theorem BH (E:Eng P cf Q) {d pt it e:Nat} {x y:Operand} {ty:TypeId} {pos:String} {af:Array Edge} (p:Name) (l:List UInt8) (hd:d<cf.n) (hpt:P.underlying pt=some (.pointer e)) (hc:P.cellsOf e=1) (h0:l≠[]) (h63:l.length≤9223372036854775807)
  (hx:ev s x=.el p 0 0) (hp:s.hp p=some (.arrT (some e) none (l.map byD))) (hy:ev s y=.d (.int .i64 l.length)) (h:E.run k ((s.set p none).put d (.d (.str l)))) :
  E.stp { dst:=some d,op:=.call { callee:=.builtin .unsafeString,args:=#[x,y],argTypes:=#[pt,it] },type:=ty,pos:=pos,after:=af,guard:=none } s k .no:=by
 rw [aO]
 rw [E.run_eq] at h
 intro B hB ds β a w hds hs Q'
 have hv:=hs.ev x
 rw [hx] at hv
 have hw:=hs.ev y
 rw [hy] at hw
 have hw:=hw.int
 generalize hax:a.eval x=vx at hv
 cases hv with
 | el _ _ _ _ hn h1 hx' =>
 obtain ⟨hlt,k0,hk,rfl⟩:=hx' _ _ _ hp
 rcases (hs.objs p _ hp).2 with ⟨_,h0'⟩ | ⟨k1,c,e',hk1,hh,hz,hl,hok,hrep⟩
 ·simp at h0';exact absurd h0' h0
 rw [hk] at hk1
 cases hk1
 simp only [wd,Nat.mul_one,List.length_map] at hl
 have hsh:w.shape? k0.b=some (e,c.size):=by simp [World.shape?,hh]
 have hcell:∀ j x,l[j]?=some x→w.cell? ((⟨k0.b,k0.o+0*wd none+0,none⟩:Addr).add j)=some (.int .u8 x.toNat):=fun j x hj=>by
  have hjl:=(List.getElem?_eq_some_iff.1 hj).1
  have h2:=hrep j (byD x) 0 (byD x) (by simp [hj]) rfl
  have h3:k0.o+j<c.size:=by omega
  rw [show k0.o+j*wd none+0=k0.o+j by simp [wd]] at h2
  simp only [Array.getD_eq_getD_getElem?,Array.getElem?_eq_getElem h3,Option.getD_some] at h2
  have h4:c[k0.o+j]=.int .u8 x.toNat:=by
   generalize c[k0.o+j]=v at h2
   cases h2;rfl
  rw [bI]
  simp [World.cell?,hh,wd,h3,h4]
 have hrun:=jo (P:=P) w pt it ty e hpt hc k0.b (k0.o+0*wd none+0) c.size hsh l h0 (by simp [wd];omega) h63 hcell
 obtain ⟨oo,hoo⟩:∃ oo,k0.o+0*wd none+0=oo:=⟨_,rfl⟩
 rw [hoo] at hrun hax
 refine aI (v:=.string ⟨l.toArray⟩) (w':=w.freeze ⟨k0.b,oo,none⟩ l.length) (by simp) (by simp [execOp,resolve,invoke,builtin,hax,hw,hrun]) (.inl rfl) ⟨hds,_,β,aX h,?_⟩
 refine Sim.put (hs.KJ hp hk (w':=w.freeze ⟨k0.b,oo,none⟩ l.length) ?_ ?_ fun b hb=>?_) (by rw [hB.1];exact hd) (.d _ _ (.str l))
 ·unfold World.freeze;split<;>rfl
 ·unfold World.freeze;split<;>simp
 ·unfold World.freeze
  split
  ·rfl
  ·simp only [Array.getElem?_modify]
   rw [if_neg (fun e=>hb e.symm)]
section
variable {ops:Array Oper} {K:St→Ns→Prop} {r:List Oper} {ns:Ns}
theorem ga (E:XEng P cf ops K) {d:Nat} {x:Operand} {ty:TypeId} {pos:String} {af:Array Edge} (p:Name) (c:Nat) (ty':Option Nat) (cs:List AV) (hd:d<cf.n) (hx:ev s x=.bx p c) (hp:s.hp p=some (.boxT ty' cs)) (h:E.run r (s.put d (.bx p c)) (ns++[([p],[],[])])) :
  E.stp { dst:=some d,op:=.nilCheck x,type:=ty,pos:=pos,after:=af,guard:=none } r s ns .no:=by
 refine ou E (x:=.bx p c) [p] (fun t ht=>by rw [Option.mem_def,Option.some.injEq] at ht;rw [← ht];exact hd) (fun s' hh he=>?_) h
 have h1:ev s' x=.bx p c:=(he x (by simp [Op.operands])).trans hx
 have h2:s'.hp p=some (.boxT ty' cs):=(hh p (by simp)).trans hp
 refine cQ (o:={ dst:=some d,op:=.nilCheck x,type:=ty,pos:=pos,after:=af,guard:=none }) rfl ?_
 have h3:opR P.ti cf.n (.nilCheck x) (some d) s'=.ok (s'.put d (.bx p c)):=by
  unfold opR DO
  simp only [h1,h2]
  simp [R.bind,bV,hd]
 unfold stp
 simp only [h3,R.run]
 rw [dn];rfl
theorem IG (E:XEng P cf ops K) {d:Nat} {x:Operand} {at':Array TypeId} {ty:TypeId} {pos:String} {af:Array Edge} {g:Option (Nat × Bool)} (hd:d<cf.n) (hx:ev s x=.d .nils) (h:E.run r (s.put d (.d .nilp)) (ns++[([],[],[])])) :
  E.stp { dst:=some d,op:=.call { callee:=.builtin .unsafeSliceData,args:=#[x],argTypes:=at' },type:=ty,pos:=pos,after:=af,guard:=g } r s ns .no:=by
 refine ou E (x:=.d .nilp) [] (fun t ht=>by rw [Option.mem_def,Option.some.injEq] at ht;rw [← ht];exact hd) (fun s' _ he=>?_) h
 exact C6 hd ((he x (by simp [Op.operands,Call.operands])).trans hx) (by rw [dn];rfl)
theorem HU (E:XEng P cf ops K) {d:Nat} {x:Operand} {at':Array TypeId} {ty:TypeId} {pos:String} {af:Array Edge} {g:Option (Nat × Bool)} (p:Name) (tg:Option Nat) (w0:W) (xs:List D) (l:Nat) (hd:d<cf.n) (hx:ev s x=.vw p 0 l) (hp:s.hp p=some (.arrT tg w0 xs)) (hl:0<l)
  (h:E.run r (s.put d (.el p 0 0)) (ns++[([p],[],[])])) :
  E.stp { dst:=some d,op:=.call { callee:=.builtin .unsafeSliceData,args:=#[x],argTypes:=at' },type:=ty,pos:=pos,after:=af,guard:=g } r s ns .no:=by
 refine ou E (x:=.el p 0 0) [p] (fun t ht=>by rw [Option.mem_def,Option.some.injEq] at ht;rw [← ht];exact hd) (fun s' hh he=>?_) h
 exact FH p tg w0 xs l hd ((he x (by simp [Op.operands,Call.operands])).trans hx) ((hh p (by simp)).trans hp) hl (by rw [dn];rfl)
end
end
theorem rk (tf:Nat→TI) (dd:Option Nat) (s:St) (x:Operand):opE tf (.nilCheck x) dd s=.no:=rfl
attribute [go_sem] rk
end Go.Ab

namespace Go.Proofs.YtejpnabbmgpmaaaGreatDoor
open Go.Ab
def dy:List (Name × Ob):=[([0],.boxT (some 53) [.d .nilp,.d .nils])]
def fL (l:List UInt8):List (Name × Ob):=[([0],.boxT (some 53) [.bx [0] 0,.vw [2] 0 l.length]),([2],.arrT (some 5) none (l.map byD))]
def aH (l:List UInt8):List (Name × Ob):=[([0],.boxT (some 53) [.bx [0] 0,.vw [1] 0 l.length]),([1],.arrT (some 5) none (l.map byD))]
theorem noesc (v:Value) (w:World):(callFunc 154 #[v]).run Tryz.prog w=.ok (.value v) w:=by
 rw [run_callFunc_extern Tryz.func154 (by kernel_rfl) (by kernel_rfl) (by kernel_rfl) (e:=Extern.AbiNoEscape.same) (by kernel_rfl)]
 rw [Lib.run_noEscape]
 rfl
theorem HJ:(Tryz.prog.ti 155).k=.oth:=by kernel_rfl
theorem Fc:Tryz.prog.underlying 155=some .unsafePointer:=by kernel_rfl
theorem DA {G}:HCall Tryz.prog G 135 [.bx [0] 0] [([0],.boxT (some 53) [.d .nilp,.vw [1] 0 0]),([1],.arrT (some 5) none [])] [0,1] (fun r hp'=>r=.tup []∧hp'=[([0],.boxT (some 53) [.bx [0] 0,.vw [1] 0 0]),([1],.arrT (some 5) none [])]):=by
 refine ao Tryz.func135 rfl (by decide +kernel) (by simp [Tryz.ntmps135]) (veil fun E=>?_)
 simp only [go_sem]
 refine lz E (e:=53) true (by rw [nF]) (by simp only [go_sem]) rfl ?_
 simp only [go_sem]
 refine Hy E (e:=53) [0] 0 53 [.d .nilp,.vw [1] 0 0] (by rw [nF]) Fc (by kernel_rfl) (by simp only [go_sem]) rfl rfl (by decide) ?_
 simp only [go_sem]
 refine xX E 154 (.bx [0] 0) noesc (by simp only [go_sem]) rfl rfl ?_
 simp only [go_sem]
 simp only [HJ]
 simp only [go_sem]
 refine HG E (e:=53) [0] 0 53 [.d .nilp,.vw [1] 0 0] (by rw [nF]) Fc (by kernel_rfl) (by simp only [go_sem]) rfl rfl 2 rfl (by kernel_rfl) ?_
 simp only [go_sem]
 refine ⟨_,_,[0,1],id,⟨rfl,rfl⟩,?_⟩
 simp only [go_sem]
theorem tM {G} (l:List UInt8):HCall Tryz.prog G 135 [.bx [0] 0] (aH l) [0,1] (fun r hp'=>r=.tup []∧hp'=aH l):=by
 unfold aH
 refine ao Tryz.func135 rfl (by decide +kernel) (by simp [Tryz.ntmps135]) (veil fun E=>?_)
 simp only [go_sem]
 refine lz E (e:=53) false (by rw [nF]) (by simp only [go_sem]) rfl ?_
 simp only [go_sem]
 refine y8 E (e:=53) [0] 0 (by rw [nF]) (by kernel_rfl) (by simp only [go_sem]) rfl rfl rfl ?_
 simp only [go_sem]
 refine ⟨_,_,[0,1],id,⟨rfl,rfl⟩,?_⟩
 simp only [go_sem]
theorem nz {G} (c:UInt8):HCall Tryz.prog G 129 [.bx [0] 0,.d (byD c)] dy [0] (fun r hp'=>r=.d .nili∧hp'=fL [c]):=by
 have h0:=DA (G:=G)
 unfold dy fL byD
 refine ao Tryz.func129 rfl (by decide +kernel) (by simp [Tryz.ntmps129]) (veil fun E=>?_)
 simp only [go_sem]
 refine xj E [0] 1 1 (some 53) (some 5) none [.d .nilp,.d .nils] rfl rfl (by rw [aa];decide) ?_
 refine ab E [.bx [0] 0] [([0],.boxT (some 53) [.d .nilp,.vw [1] 0 0]),([1],.arrT (some 5) none [])] [0,1] h0 rfl rfl ⟨by simp only [go_sem],by show ¬ _∈[1,0];decide⟩ rfl (by simp only [go_sem]) (by simp only [go_sem]) ?_
 rintro _ _ ⟨rfl,rfl⟩
 simp only [go_sem]
 refine qm E (e:=5) (some 5) [1] [13] [] [.int .u8 (c.toNat:Nat)] (by rw [BA]) (by rw [ti5];rfl) (by rw [ti5];rfl) (by rw [ti5];rfl) rfl ⟨by simp only [go_sem],by rw [aa];decide⟩ rfl rfl rfl rfl (by rw [ti5];simp [TI.by1]) ?_
 simp only [go_sem]
 refine ⟨_,_,[0,1,2],tau [([2],[14])],⟨rfl,rfl⟩,?_⟩
 simp only [go_sem]
theorem dh {G} (l:List UInt8) (c:UInt8) (hl:l.length≤1000000):HCall Tryz.prog G 129 [.bx [0] 0,.d (byD c)] (aH l) [0,1] (fun r hp'=>r=.d .nili∧hp'=fL (l++[c])):=by
 have h0:=tM (G:=G) l
 unfold aH at *
 unfold fL
 refine ao Tryz.func129 rfl (by decide +kernel) (by simp [Tryz.ntmps129]) (veil fun E=>?_)
 simp only [go_sem]
 refine ab E [.bx [0] 0] [([0],.boxT (some 53) [.bx [0] 0,.vw [1] 0 l.length]),([1],.arrT (some 5) none (l.map byD))] [0,1] h0 rfl rfl ⟨by simp only [go_sem],by rw [aa];decide⟩ rfl (by simp only [go_sem]) (by simp only [go_sem]) ?_
 rintro _ _ ⟨rfl,rfl⟩
 simp only [go_sem]
 rw [show byD c=.int .u8 (c.toNat:Nat) from rfl]
 simp only [go_sem]
 refine ⟨Nat.le_refl _,?_⟩
 have hlm:(l.map byD).length=l.length:=by simp
 refine qm E (d:=14) (e:=5) (some 5) [1] [13] (l.map byD) [.int .u8 (c.toNat:Nat)] (by rw [BA]) (by rw [ti5];rfl) (by rw [ti5];rfl) (by rw [ti5];rfl) rfl ⟨by simp only [go_sem],by rw [aa];decide⟩ (by rw [hlm];rfl) rfl rfl rfl (by rw [ti5,hlm];simp [TI.by1];omega) ?_
 rw [hlm,show l.map byD++[.int .u8 (c.toNat:Nat)]=(l++[c]).map byD by simp [byD]]
 simp only [go_sem]
 refine ⟨_,_,[0,1,2],tau [([2],[14])],⟨rfl,rfl⟩,?_⟩
 rw [show (l++[c]).length=l.length+1 by simp]
 simp only [go_sem]
theorem A5 {G}:HCall Tryz.prog G 169 [.bx [0] 0] dy [0] (fun r hp'=>r=.d (i64 0)∧hp'=dy):=by
 unfold dy
 refine ao Tryz.func169 rfl (by decide +kernel) (by simp [Tryz.ntmps169]) (veil fun E=>?_)
 simp only [go_sem]
 refine ⟨_,_,[0],id,⟨rfl,rfl⟩,?_⟩
 simp only [go_sem]
theorem D9 {G} (l:List UInt8):HCall Tryz.prog G 169 [.bx [0] 0] (aH l) [0,1] (fun r hp'=>r=.d (i64 l.length)∧hp'=aH l):=by
 unfold aH
 refine ao Tryz.func169 rfl (by decide +kernel) (by simp [Tryz.ntmps169]) (veil fun E=>?_)
 simp only [go_sem]
 refine ⟨_,_,[0,1],id,⟨rfl,rfl⟩,?_⟩
 simp only [go_sem]
theorem FP {G}:HCall Tryz.prog G 29 [.bx [0] 0] dy [0] (fun r hp'=>r=.d (.str [])∧hp'=dy):=by
 unfold dy
 refine ao Tryz.func29 rfl (by decide +kernel) (by simp [Tryz.ntmps29]) (veil fun E=>?_)
 simp only [go_sem]
 refine ig 10 mixed E (by simp only [List.take_succ_cons,List.take_zero];exact rfl) (by simp only [List.drop_succ_cons,List.drop_zero];exact rfl) rfl rfl (by decide +kernel) fun X=>?_
 simp only [go_sem]
 refine ga X (d:=4) [0] 0 (some 53) [.d .nilp,.d .nils] (by simp only [go_sem]) rfl rfl ?_
 simp only [go_sem]
 refine IG X (d:=7) (by simp only [go_sem]) rfl ?_
 simp only [go_sem]
 refine ga X (d:=9) [0] 0 (some 53) [.d .nilp,.d .nils] (by simp only [go_sem]) rfl rfl ?_
 simp only [go_sem]
 refine ⟨by decide +kernel,?_⟩
 refine Gg E (by simp only [go_sem]) rfl rfl ?_
 simp only [go_sem]
 refine ⟨_,_,[0],id,⟨rfl,rfl⟩,?_⟩
 simp only [go_sem]
theorem AZ:Tryz.prog.cellsOf 5=1:=by kernel_rfl
theorem u91:Tryz.prog.underlying 91=some (.pointer 5):=by kernel_rfl
theorem yM {G} (l:List UInt8) (h0:l≠[]) (hl:l.length≤1000000000):HCall Tryz.prog G 29 [.bx [0] 0] (aH l) [0,1] (fun r hp'=>r=.d (.str l)∧hp'=[]):=by
 unfold aH
 refine ao Tryz.func29 rfl (by decide +kernel) (by simp [Tryz.ntmps29]) (veil fun E=>?_)
 simp only [go_sem]
 refine ig 10 mixed E (by simp only [List.take_succ_cons,List.take_zero];exact rfl) (by simp only [List.drop_succ_cons,List.drop_zero];exact rfl) rfl rfl (by decide +kernel) fun X=>?_
 simp only [go_sem]
 refine ga X (d:=4) [0] 0 (some 53) [.bx [0] 0,.vw [1] 0 l.length] (by simp only [go_sem]) rfl rfl ?_
 simp only [go_sem]
 refine HU X (d:=7) [1] (some 5) none (l.map byD) l.length (by simp only [go_sem]) rfl rfl (List.length_pos_iff.2 h0) ?_
 simp only [go_sem]
 refine ga X (d:=9) [0] 0 (some 53) [.bx [0] 0,.vw [1] 0 l.length] (by simp only [go_sem]) rfl rfl ?_
 simp only [go_sem]
 refine ⟨by decide +kernel,?_⟩
 refine BH E (e:=5) [1] l (by simp only [go_sem]) u91 AZ h0 (by omega) rfl rfl rfl ?_
 simp only [go_sem]
 refine ⟨_,_,[0,1],id,⟨rfl,rfl⟩,?_⟩
 simp only [go_sem]
end Go.Proofs.YtejpnabbmgpmaaaGreatDoor

namespace Go.Ab
section
variable {P:Program} {F:Fence} {n:Nat} {ops:Array Oper} {Q Q':Exit→Act→World→Prop}
theorem vV {o:Oper} {a:Act} {w:World} {K K':Act→World→Prop} (h:∀ a w,K a w→K' a w) (hq:∀ e a w,Q e a w→Q' e a w) (hh:o.wpIn F n P a w K Q):o.wpIn F n P a w K' Q':=by
 unfold Oper.wpIn at *
 refine ⟨hh.1,?_⟩
 have hh:=hh.2
 generalize (o.semAt F.round a.eval).run P w=r at *
 cases r with
 | ok x w' =>
   cases x<;>simp only [Oper.uponIn] at hh ⊢ <;>
    first
     | exact h _ _ hh
     | exact ⟨hh.1,CallsIn.mono hh.2 (fun e w'' he=>by cases e<;>first | exact h _ _ he | exact hq _ _ _ he | exact he.elim fun a he=>he.elim fun w he=>⟨a,w,hq _ _ _ he⟩ | exact he)⟩
     | exact ⟨hh.1,RowsIn.mono hh.2 (fun _ _ he=>h _ _ he)⟩
     | exact ⟨hh.1,RoundIn.mono hh.2 (fun e w'' he=>by cases e<;>first | exact h _ _ he | exact hq _ _ _ he | exact he.elim fun a he=>he.elim fun w he=>⟨a,w,hq _ _ _ he⟩ | exact he)⟩
 | halt x w'=>cases x<;>simp only [Oper.uponIn] at hh ⊢<;>first | exact hq _ _ _ hh | exact hh
theorem ew (hq:∀ e a w,Q e a w→Q' e a w):∀ (l:List Nat) (a:Act) (w:World),wpOpsIn F n P ops Q l a w→wpOpsIn F n P ops Q' l a w
 | [],_,_,h=>hq _ _ _ h
 | i::r,a,w,h=>by
   simp only [wpOpsIn] at h ⊢
   split
   ·rename_i hn
    simp only [hn] at h
    exact ew hq r a w h
   ·rename_i o ho
    simp only [ho] at h
    split
    ·rename_i hw
     simp only [hw,if_true] at h
     exact vV (fun a w=>ew hq r a w) hq h
    ·rename_i hw
     simp only [hw] at h
     exact ⟨h.1,ew hq r _ w h.2⟩
end
section
variable {P:Program} {cf:Cf} {Φ:Exit→Act→World→Prop} {I:Base→List Deferred→Prop} {k:List It} {s:St}
theorem Ep {all:Array Oper} {r:List Oper} (h:∀ E:Eng P cf (yq P cf Φ I k),E.run [.ops all r] s):ARY P cf Φ I (.ops all r::k) s:=by
 have h1:run P cf [.ops all r] (yq P cf Φ I k) s:=veil h
 intro B hB ds β a w hds hI hs l hl
 have h2:=aX h1 B hB ds β a w hds hs l hl
 exact ew (fun _ _ _ hq=>xI hB hI hq) l a w h2
theorem ID {B0:Base} {X:Type} {Iv:X→St} {fr0 fr:List (Nat × AV)} {hp0 hp:List (Name × Ob)} {u0 u:List Nat} (hl:LKL (mk fr0 hp0 u0) hp) (h:ARX cf Φ (CI B0) .ret (mk fr0 hp u)):rq P cf Φ B0 k Iv (mk fr0 hp0 u0) .ret (mk fr hp u):=⟨pD (gY hl),h⟩
end
end Go.Ab

namespace Go.Ab
theorem BV (p:Name):∀ (a b:List (Name × Option Ob)),wl (a++b) p=match wl b p with | some v=>some v | none=>wl a p
 | [],b=>by cases h:wl b p<;>simp [wl,h]
 | q::r,b=>by
   rw [List.cons_append,wl,BV p r b]
   cases wl b p<;>simp [wl]
theorem wH (p:Name) (z:Option Ob):∀ l:List (Name × Option Ob),(wl l.reverse p).getD z=lkA z l p
 | []=>rfl
 | q::r=>by
   rw [List.reverse_cons,BV,eE]
   by_cases h:p=q.1
   ·simp [wl,h]
   ·simp only [wl,if_neg h]
    exact wH p z r
def wrO (d:Nat) (chp hp':List (Name × Ob)):List (Name × Option Ob):=((hp'.map fun x:Name × Ob=>(dI id d chp x.1,some (x.2.ren (dI id d chp))))++chp.map fun x:Name × Ob=>(x.1,none)).reverse
theorem AO (d:Nat) (chp hp':List (Name × Ob)):(wrO d chp hp').map (fun x=>x.1)=((hp'.map fun x:Name × Ob=>dI id d chp x.1)++chp.map fun x:Name × Ob=>x.1).reverse:=by
 unfold wrO
 rw [List.map_reverse,List.map_append,List.map_map,List.map_map]
 rfl
attribute [go_sem] AO List.reverse_cons List.reverse_nil
theorem sI {α β:Type} [DecidableEq α] (z:β) (i:α):∀ a b:List (α × β),lkA z (a++b) i=lkA (lkA z b i) a i
 | [],_=>rfl
 | q::r,b=>by rw [List.cons_append,eE,eE,sI z i r b]
theorem Eb (s:St) (d:Nat) (chp hp':List (Name × Ob)) (r:AV):aft s id d chp hp' r=s.go (some d) (r.ren (dI id d chp)) ⟨wrO d chp hp',[d]⟩:=by
 refine wY (funext fun q=>?_) rfl fun t=>rfl
 show lkA (lkA (s.hp q) (chp.map fun x=>(x.1,none)) q) _ q=(wl (wrO d chp hp') q).getD (s.hp q)
 unfold wrO
 rw [wH,sI]
section
variable {P:Program} {cf:Cf} {ops:Array Oper} {K:St→Ns→Prop} {r:List Oper} {s:St} {ns:Ns}
theorem dr (E:XEng P cf ops K) {d:Nat} {fv:Operand} {args:Array Operand} {at':Array TypeId} {ty:TypeId} {pos:String} {af:Array Edge} {g:Option (Nat × Bool)}
  {f:FuncId} {caps:List AV} (cargs:List AV) (chp:List (Name × Ob)) (cu:List Nat) (x:AV) (hp':List (Name × Ob)) (hc:HCall P cf.G f cargs chp cu (fun y h=>y=x∧h=hp'))
  (hev:ev s fv=.clo f caps) (hargs:args.toList.map (ev s)++caps=cargs) (hd:d<cf.n∧d ∉ s.used) (hcu:ei cu cargs=true) (hpass:dC id cu s chp) (hinj:kV id chp)
  (hl:gC chp hp') (hk:E.run r (aft s id d chp hp' x) (ns++[(chp.map (·.1),(wrO d chp hp').map (·.1),[d])])) :
  E.stp { dst:=some d,op:=.call { callee:=.value fv,args:=args,argTypes:=at' },type:=ty,pos:=pos,after:=af,guard:=g } r s ns .no:=by
 rw [E.stp_eq]
 refine ⟨x.ren (dI id d chp),(chp.map (·.1),⟨wrO d chp hp',[d]⟩),fun s' hu hh he B hB ds' β a w hds hs Q'=>?_,fun y hy=>?_,hd.1,?_⟩
 ·have hm:∀ y,y=fv∨y∈args→ev s' y=ev s y:=fun y hy=>he y (by
   simp only [Op.operands,Call.operands]
   rcases hy with rfl | hy<;>simp_all)
  have hpass':dC id cu s' chp:=by
   have:∀ l:List (Name × Ob),(∀ q∈l,q.1∈chp.map (·.1))→dC id cu s l→dC id cu s' l:=by
    intro l
    induction l with
    | nil=>intros;trivial
    | cons q r ih =>
      intro hq h
      refine ⟨⟨?_,h.1.2⟩,ih (fun x hx=>hq x (List.mem_cons_of_mem _ hx)) h.2⟩
      rw [show s'.hp (id q.1)=s.hp (id q.1) from hh _ (hq q List.mem_cons_self)]
      exact h.1.1
   exact this chp (fun q hq=>List.mem_map.2 ⟨q,hq,rfl⟩) hpass
  have hok:AOk P cf { dst:=some d,op:=.call { callee:=.value fv,args:=args,argTypes:=at' },type:=ty,pos:=pos,after:=af,guard:=g } s' [] (fun _ s2=>s2=aft s' id d chp hp' x):=by
   refine mB d id cargs chp cu _ ((hm fv (.inl rfl)).trans hev) ?_ hcu (hu d (by simp)) (fun t ht=>?_) hpass' hinj hc fun y h hr=>?_
   ·rw [rl (s:=s) (s':=s') fun y hy=>hm y (.inr (by simpa using hy)),hargs,tN]
   ·obtain rfl:=Option.some.inj ht
    exact ⟨hd.1,rfl⟩
   ·obtain ⟨rfl,rfl⟩:=hr
    exact ⟨hl,by rw [dn];rfl⟩
  refine Oper.wpIn_mono ?_ (hok B hB ds' β a w hds hs Q')
  rintro a' w' ⟨hd',s2,β',hrun,hs2⟩
  obtain ⟨_,s3,β3,rfl,hs3⟩:=hrun B hB ds' β' a' w' hd' hs2
  exact ⟨hd',β3,by rw [← Eb];exact hs3⟩
 ·obtain rfl:=List.mem_singleton.1 hy
  exact hd.2
 ·rw [← E.run_eq,← Eb]
  exact hk
theorem Gx {H:Array Obj} {own:Nat→Prop} {v:Value} {wf:W} {l:List D} (h:Rep H own v (.sl wf l)):v.oneCell'=true:=by
 generalize hz:D.sl wf l=d at h
 cases h<;>first | rfl | cases hz
theorem vK {H:Array Obj} {own:Nat→Prop} {us:List Nat} {hp:Name→Option Ob} {β:Name→Option Blk} {v:Value} {wf:W} {l:List D} (h:VR H own us hp β v (.d (.sl wf l))):v.oneCell'=true:=by
 cases h with
 | d _ _ h=>exact Gx h
theorem cU (E:XEng P cf ops K) {t:Nat} (u:Nat) (p:Name) (wf:W) (xs:List D) {off len:Nat} {fv:Operand} {args:Array Operand} {at':Array TypeId} {ty:TypeId} {pos:String} {af:Array Edge} {gg:Option (Nat × Bool)}
  {f:FuncId} {caps:List AV} {ds:List D} {x:AV} (hc:HP P cf.G f ds (fun r=>r=x)) (hfv:∀ s,ev s fv=.clo f caps) (hp:s.hp p=some (.arr wf xs)) (hev:s.fr u=.vw p off len) (hu:(t == u)=false) (hin:Operand.tmp u∈args)
  (hargs:args.toList.map (ev (s.put u (.d (.sl wf ((xs.drop off).take len)))))++caps=ds.map .d) (hdst:t<cf.n) (hk:E.run r ((s.set p none).put t x) (ns++[([p],[p],[])])) :
  E.stp { dst:=some t,op:=.call { callee:=.value fv,args:=args,argTypes:=at' },type:=ty,pos:=pos,after:=af,guard:=gg } r s ns .no:=by
 have htu:¬ t=u:=by simpa using hu
 have hgo:∀ s:St,(s.set p none).put t x=s.go (some t) x ⟨[(p,none)],[]⟩:=fun s=>by unfold St.go;rw [rp];rfl
 rw [E.stp_eq]
 refine ⟨x,([p],⟨[(p,none)],[]⟩),fun s' _ hh he=>?_,fun y hy=>(by cases hy),hdst,?_⟩
 ·have hm:∀ y,y∈args→ev s' y=ev s y:=fun y hy=>he y (by
   simp only [Op.operands,Call.operands]
   simp_all)
  have hp':s'.hp p=some (.arr wf xs):=(hh p (by simp)).trans hp
  have hev':s'.fr u=.vw p off len:=(hm (.tmp u) hin).trans hev
  obtain ⟨y,hy⟩:∃ y,y=AV.d (.sl wf ((xs.drop off).take len)):=⟨_,rfl⟩
  rw [← hy] at hargs
  have hargs':args.toList.map (ev ((s'.set p none).put u y))++caps=ds.map .d:=by
   rw [← hargs]
   congr 1
   refine List.map_congr_left fun z hz=>?_
   have h0:=hm z (by simpa using hz)
   cases z with
   | tmp i =>
     by_cases e:i=u
     ·subst e
      show ((s'.set p none).put i _).fr i=(s.put i _).fr i
      simp [St.put,ek]
     ·have h0':s'.fr i=s.fr i:=h0
      show ((s'.set p none).put u _).fr i=(s.put u _).fr i
      simp [St.put,St.set,ek,e,h0']
   | _=>rfl
  have h1:=kb (k:=[]) (Q:=fun _ s2=>s2=((s'.set p none).put u y).put t x) (dst:=some t) (fv:=fv) (args:=args) (at':=at') (ty:=ty) (pos:=pos) (af:=af) (g:=gg) hc
   (hfv _) hargs' (fun y hy=>by rw [Option.mem_def,Option.some.injEq] at hy;rw [← hy];exact hdst) (fun r hr=>by subst hr;rw [dn];rfl)
  intro B hB ds' β a w hds hs Q'
  have hs0:=hs.drop p
  have hs1:Sim B β ((s'.set p none).put u y) a.tmps w:=hs0.setv (by
   have:=(hs.frz hp').slots u
   rw [show (s'.frz p wf xs).fr u=(s'.fr u).frz p wf xs from rfl,hev',AV.frz,if_pos rfl,← hy] at this
   exact this)
  refine Oper.wpIn_mono ?_ (h1 B hB ds' β a w hds hs1 Q')
  rintro a' w' ⟨hd',s2,β',hrun,hs2⟩
  obtain ⟨_,s3,β3,rfl,hs3⟩:=hrun B hB ds' β' a' w' hd' hs2
  refine ⟨hd',β3,?_⟩
  rw [← hgo]
  have hv:=hs3.slots u
  have e1:(((s'.set p none).put u y).put t x).fr u=y:=by simp [St.put,ek,Ne.symm htu,fun h:u=t=>htu h.symm]
  rw [e1,hy] at hv
  have hnm:=(hs.objs p _ hp').1
  have e2:((s'.set p none).put t x)=(((s'.set p none).put u y).put t x).put u (.vw p off len):=by
   refine kA (fun _=>rfl) rfl fun i=>?_
   simp only [St.put,St.set,ek]
   by_cases h1:i=u
   ·subst h1
    have h3:¬ i=t:=fun h=>htu h.symm
    simp [h3,hev']
   ·simp [h1]
  have h5:=hs3.setv (t:=u) (x:=.vw p off len) (.vw _ _ _ _ hnm (by
   exact vK hv) (fun ty w xs h=>by
    have h:aB s'.hp p none p=some _:=h
    simp [aB] at h))
  rw [e2]
  exact h5
 ·rw [← E.run_eq,← hgo]
  exact hk
end
end Go.Ab

namespace Go.Ab
section
variable {P:Program} {cf:Cf} {ops:Array Oper} {K:St→Ns→Prop} {r:List Oper} {s:St} {ns:Ns}
theorem H2 (E:XEng P cf ops K) {d t e n:Nat} {x y:Operand} {ty:TypeId} {pos:String} {af:Array Edge} {z:D} (ht:(P.ti t).k=.slice e) (hz:(P.ti e).zero=some z) (hw:((P.ti e).isW (P.ti e).w && oQ (P.ti e).w z)=true)
  (hx:ev s x=.d (.int .i64 n)) (hy:ev s y=.d (.int .i64 n)) (hb:(n:Int)*(P.ti e).by'≤140737488355328∧(n:Int)≤140737488355328) (hd:d<cf.n∧d ∉ s.used)
  (hk:E.run r ((s.add d (.arr (P.ti e).w (List.replicate n z))).put d (.vw [d] 0 n)) (ns++[([],[[d]],[d])])) :
  E.stp { dst:=some d,op:=.makeSlice t x y,type:=ty,pos:=pos,after:=af,guard:=none } r s ns .no:=by
 have hgo:∀ s':St,(s'.add d (.arr (P.ti e).w (List.replicate n z))).put d (.vw [d] 0 n)=s'.go (some d) (.vw [d] 0 n) ⟨[([d],some (.arr (P.ti e).w (List.replicate n z)))],[d]⟩:=fun s'=>by unfold St.go;rw [rT];rfl
 rw [E.stp_eq]
 refine ⟨.vw [d] 0 n,([],⟨[([d],some (.arr (P.ti e).w (List.replicate n z)))],[d]⟩),fun s' hu hh he B hB ds' β a w hds hs Q'=>?_,fun q hq=>?_,hd.1,?_⟩
 ·have h1:ev s' x=.d (.int .i64 n):=(he x (by simp [Op.operands])).trans hx
  have h2:ev s' y=.d (.int .i64 n):=(he y (by simp [Op.operands])).trans hy
  have hok:AOk P cf { dst:=some d,op:=.makeSlice t x y,type:=ty,pos:=pos,after:=af,guard:=none } s' [] (fun _ s2=>s2=(s'.add d (.arr (P.ti e).w (List.replicate n z))).put d (.vw [d] 0 n)):=by
   refine cQ (o:={ dst:=some d,op:=.makeSlice t x y,type:=ty,pos:=pos,after:=af,guard:=none }) rfl ?_
   have h3:opR P.ti cf.n (.makeSlice t x y) (some d) s'=.need (0≤(n:Int)∧(n:Int)≤n∧(n:Int)*(P.ti e).by'≤140737488355328∧(n:Int)≤140737488355328) (.ok ((s'.add d (.arr (P.ti e).w (List.replicate n z))).put d (.vw [d] 0 n))):=by
    unfold opR ff gU
    simp only [h1,h2,ht,hz,hw]
    have hdu:d<cf.n∧d ∉ s'.used:=⟨hd.1,hu d (by simp)⟩
    simp [hdu.1,hdu.2]
   show stp P cf (opR P.ti cf.n (.makeSlice t x y) (some d) s') _ s' [] _
   rw [h3,oH,qE,dn]
   exact ⟨⟨by omega,Int.le_refl _,hb⟩,rfl⟩
  refine Oper.wpIn_mono ?_ (hok B hB ds' β a w hds hs Q')
  rintro a' w' ⟨hd',s2,β',hrun,hs2⟩
  obtain ⟨_,s3,β3,rfl,hs3⟩:=hrun B hB ds' β' a' w' hd' hs2
  exact ⟨hd',β3,by rw [← hgo];exact hs3⟩
 ·obtain rfl:=List.mem_singleton.1 hq
  exact hd.2
 ·rw [← E.run_eq,← hgo]
  exact hk
end
end Go.Ab

namespace Go.Ab
section
variable {P:Program} {cf:Cf} {Q:Exit→St→Prop} {s:St} {k:List It}
end
end Go.Ab

namespace Go.Ab
section
variable {P:Program} {cf:Cf} {k:List It} {s:St} {Φ:Exit→Act→World→Prop} {I:Base→List Deferred→Prop}
end
section
variable {P:Program} {cf:Cf} {N:Nat} {xs:Nat→List D} {z:Itz} {k:List It} {s:St}
end
end Go.Ab

namespace Go.Ab
section
variable {P:Program} {cf:Cf} {Q:Exit→St→Prop} {s:St} {k:List It}
end
end Go.Ab

namespace Go.Ab
inductive Fz where
 | A (p:Name) (w:W) (xs:List D)
 | B (p:Name) (d:D)
def Fz.nm:Fz→Name
 | .A p _ _=>p
 | .B p _=>p
def St.fz (s:St):Fz→St
 | .A p w xs=>s.fJ p w xs
 | .B p d=>s.frB p d
def Fz.ok (s:St):Fz→Prop
 | .A p w xs=>s.hp p=some (.arr w xs)
 | .B p d=>s.hp p=some (.box (d.cells.map .d))∧(d.cells.all D.scal)=true
def St.fzL (s:St):List Fz→St
 | []=>s
 | q::L=>(s.fz q).fzL L
def uq (s:St):List Fz→Prop
 | []=>True
 | q::L=>q.ok s∧uq (s.fz q) L
theorem Gw (s:St):s.fzL []=s:=rfl
theorem Ln (s:St) (p:Name) (w:W) (xs:List D) (L:List Fz):s.fzL (.A p w xs::L)=(s.fJ p w xs).fzL L:=rfl
theorem KF (s:St) (p:Name) (d:D) (L:List Fz):s.fzL (.B p d::L)=(s.frB p d).fzL L:=rfl
theorem CN (s:St):uq s []=True:=rfl
theorem Bs (s:St) (p:Name) (w:W) (xs:List D) (L:List Fz):uq s (.A p w xs::L)=(s.hp p=some (.arr w xs)∧uq (s.fJ p w xs) L):=rfl
theorem Eu (s:St) (p:Name) (d:D) (L:List Fz):uq s (.B p d::L)=((s.hp p=some (.box (d.cells.map .d))∧(d.cells.all D.scal)=true)∧uq (s.frB p d) L):=rfl
def St.noO (s:St):St:={ s with hp:=fun _=>none }
theorem Sim.noO {B:Base} {β:Name→Option Blk} {s:St} {tm:Array Value} {w:World} (h:Sim B β s tm w):Sim B β s.noO tm w:=by
 have hr:∀ v d,Rep w.heap (s.own B.A β) v d→Rep w.heap (s.noO.own B.A β) v d:=fun v d hd=>hd.mono (fun _ _ _=>rfl) (by
  rintro b _ (hA | ⟨q,k,hq,_⟩)
  ·exact .inl hA
  ·exact absurd rfl hq)
 exact { tms:=h.tms,io:=h.io,size:=h.size,frame:=h.frame,slots:=fun i=>VR.mono hr (fun _ h=>h) (fun q _ o' ho'=>(by cases ho')) (h.slots i),objs:=fun q o' ho'=>(by cases ho'),blocks:=fun q k hq _=>absurd rfl hq,inj:=fun q q' k k' hq _=>absurd rfl hq,us:=h.us,stay:=h.stay }
section
variable {P:Program} {cf:Cf} {Q:Exit→St→Prop} {s:St} {k:List It}
section
variable {ops:Array Oper} {K:St→Ns→Prop} {r:List Oper} {ns:Ns}
structure Alike (ns:List Name) (ts:List Nat) (s s':St):Prop where
 hp:∀ p∈ns,s'.hp p=s.hp p
 fr:∀ t∈ts,s'.fr t=s.fr t
theorem Alike.fz {ns:List Name} {ts:List Nat} {s s':St} (h:Alike ns ts s s') (q:Fz):Alike ns ts (s.fz q) (s'.fz q):=by
 cases q with
 | A p w xs =>
   refine ⟨fun x hx=>?_,fun t ht=>?_⟩
   ·show (aB s'.hp p none x).map _=(aB s.hp p none x).map _
    unfold aB
    split
    ·rfl
    ·rw [h.hp x hx]
   ·show (s'.fr t).frz p w xs=(s.fr t).frz p w xs
    rw [h.fr t ht]
 | B p d =>
   refine ⟨fun x hx=>?_,fun t ht=>?_⟩
   ·show (aB s'.hp p none x).map _=(aB s.hp p none x).map _
    unfold aB
    split
    ·rfl
    ·rw [h.hp x hx]
   ·show (s'.fr t).frB p d=(s.fr t).frB p d
    rw [h.fr t ht]
theorem Alike.ok {ns:List Name} {ts:List Nat}:∀ {L:List Fz} {s s':St},Alike ns ts s s'→(∀ q∈L,q.nm∈ns)→uq s L→uq s' L
 | [],_,_,_,_,_=>trivial
 | .A p w xs::L,s,s',h,hn,hl=>by
   rw [Bs] at hl ⊢
   exact ⟨(h.hp p (hn (.A p w xs) List.mem_cons_self)).trans hl.1,Alike.ok (h.fz (.A p w xs)) (fun q hq=>hn q (List.mem_cons_of_mem _ hq)) hl.2⟩
 | .B p d::L,s,s',h,hn,hl=>by
   rw [Eu] at hl ⊢
   exact ⟨⟨(h.hp p (hn (.B p d) List.mem_cons_self)).trans hl.1.1,hl.1.2⟩,Alike.ok (h.fz (.B p d)) (fun q hq=>hn q (List.mem_cons_of_mem _ hq)) hl.2⟩
theorem Alike.fzL {ns:List Name} {ts:List Nat}:∀ (L:List Fz) {s s':St},Alike ns ts s s'→Alike ns ts (s.fzL L) (s'.fzL L)
 | [],_,_,h=>h
 | q::L,_,_,h=>Alike.fzL L (h.fz q)
end
end
attribute [go_sem] Gw Ln KF CN Bs Eu Fz.nm
end Go.Ab
namespace Go.Ab
variable {P:Program} {cf:Cf} {Φ:Exit→Act→World→Prop} {I:Base→List Deferred→Prop} {k:List It} {s:St}
def cutq (P:Program) (cf:Cf) (Φ:Exit→Act→World→Prop) (I:Base→List Deferred→Prop) (k:List It) {X:Type} (S:X→St) (e:Exit) (s:St):Prop :=
 match e with
 | .normal=>∃ x τ,Le cf.U τ s (S x)
 | e=>yq P cf Φ I k e s
theorem DN {X:Type} (S:X→St):cutq P cf Φ I k S .ret s=ARX cf Φ I .ret s:=rfl
theorem LG {X:Type} (S:X→St) {c:Code} (h1:∀ E:Eng P cf (cutq P cf Φ I k S),E.run [.code c] s) (h2:∀ x,ARY P cf Φ I k (S x)):ARY P cf Φ I (.code c::k) s :=
 fun B hB ds β a w hds hI hs=>wpIn_mono (aX (veil h1) B hB ds β a w hds hs) fun e a' w' hq=>by
  obtain ⟨hd,s',β',hq,hs'⟩:=hq
  cases e with
  | normal =>
    obtain ⟨x,τ,hle⟩:=hq
    obtain ⟨β2,hs2,_⟩:=hs'.le (τ:=τ) (by rw [hB.2.1];exact hle)
    exact fk (s:=S x) (e:=.normal) hB hI hd (h2 x) hs2
  | ret=>exact fk (e:=.ret) hB hI hd hq hs'
  | exit i=>exact fk (e:=.exit i) hB hI hd hq hs'
  | goto l=>exact hq.elim
  | panic c=>exact hq.elim
  | outgrown=>exact hq.elim
theorem rA (fr:List (Nat × AV)) (hp:List (Name × Ob)) (u:List Nat) {c:Code} (h1:∀ E:Eng P cf (cutq P cf Φ I k fun _:Unit=>mk fr hp u),E.run [.code c] s) (h2:ARY P cf Φ I k (mk fr hp u)):ARY P cf Φ I (.code c::k) s:=LG _ h1 fun _=>h2
theorem iQ {fr:List (Nat × AV)} {hp:List (Name × Ob)} {u:List Nat} (τ:Name→Name) (h:LeL cf.U τ s fr hp u):cutq P cf Φ I k (fun _:Unit=>mk fr hp u) .normal s:=⟨(),τ,h.le⟩
attribute [go_sem] DN
end Go.Ab

namespace Go.Ab
section
variable {P:Program} {cf:Cf} {ops:Array Oper} {K:St→Ns→Prop} {r:List Oper} {s:St} {ns:Ns}
end
end Go.Ab

namespace Go.Ab
def wrS (σ:Name→Name) (d:Nat) (chp hp':List (Name × Ob)):List (Name × Option Ob):=((hp'.map fun x:Name × Ob=>(dI σ d chp x.1,some (x.2.ren (dI σ d chp))))++chp.map fun x:Name × Ob=>(σ x.1,none)).reverse
theorem zI (σ:Name→Name) (d:Nat) (chp hp':List (Name × Ob)):(wrS σ d chp hp').map (fun x=>x.1)=((hp'.map fun x:Name × Ob=>dI σ d chp x.1)++chp.map fun x:Name × Ob=>σ x.1).reverse:=by
 unfold wrS
 rw [List.map_reverse,List.map_append,List.map_map,List.map_map]
 rfl
attribute [go_sem] zI
theorem yi (s:St) (σ:Name→Name) (d:Nat) (chp hp':List (Name × Ob)) (r:AV):aft s σ d chp hp' r=s.go (some d) (r.ren (dI σ d chp)) ⟨wrS σ d chp hp',[d]⟩:=by
 refine wY (funext fun q=>?_) rfl fun t=>rfl
 show lkA (lkA (s.hp q) (chp.map fun x=>(σ x.1,none)) q) _ q=(wl (wrS σ d chp hp') q).getD (s.hp q)
 unfold wrS
 rw [wH,sI]
section
variable {P:Program} {cf:Cf} {ops:Array Oper} {K:St→Ns→Prop} {r:List Oper} {s:St} {ns:Ns}
theorem yg (E:XEng P cf ops K) {d:Nat} {fv:Operand} {args:Array Operand} {at':Array TypeId} {ty:TypeId} {pos:String} {af:Array Edge} {g:Option (Nat × Bool)}
  {f:FuncId} {caps:List AV} (σ:Name→Name) (cargs:List AV) (chp:List (Name × Ob)) (cu:List Nat) (x:AV) (hp':List (Name × Ob)) (hc:HCall P cf.G f cargs chp cu (fun y h=>y=x∧h=hp'))
  (hev:ev s fv=.clo f caps) (hargs:args.toList.map (ev s)++caps=eI σ cargs) (hd:d<cf.n∧d ∉ s.used) (hcu:ei cu cargs=true) (hpass:dC σ cu s chp) (hinj:kV σ chp)
  (hl:gC chp hp') (hk:E.run r (aft s σ d chp hp' x) (ns++[(chp.map (fun q=>σ q.1),(wrS σ d chp hp').map (·.1),[d])])) :
  E.stp { dst:=some d,op:=.call { callee:=.value fv,args:=args,argTypes:=at' },type:=ty,pos:=pos,after:=af,guard:=g } r s ns .no:=by
 rw [E.stp_eq]
 refine ⟨x.ren (dI σ d chp),(chp.map (fun q=>σ q.1),⟨wrS σ d chp hp',[d]⟩),fun s' hu hh he B hB ds' β a w hds hs Q'=>?_,fun y hy=>?_,hd.1,?_⟩
 ·have hm:∀ y,y=fv∨y∈args→ev s' y=ev s y:=fun y hy=>he y (by
   simp only [Op.operands,Call.operands]
   rcases hy with rfl | hy<;>simp_all)
  have hpass':dC σ cu s' chp:=by
   have:∀ l:List (Name × Ob),(∀ q∈l,σ q.1∈chp.map (fun q=>σ q.1))→dC σ cu s l→dC σ cu s' l:=by
    intro l
    induction l with
    | nil=>intros;trivial
    | cons q r ih =>
      intro hq h
      refine ⟨⟨?_,h.1.2⟩,ih (fun x hx=>hq x (List.mem_cons_of_mem _ hx)) h.2⟩
      rw [show s'.hp (σ q.1)=s.hp (σ q.1) from hh _ (hq q List.mem_cons_self)]
      exact h.1.1
   exact this chp (fun q hq=>List.mem_map.2 ⟨q,hq,rfl⟩) hpass
  have hok:AOk P cf { dst:=some d,op:=.call { callee:=.value fv,args:=args,argTypes:=at' },type:=ty,pos:=pos,after:=af,guard:=g } s' [] (fun _ s2=>s2=aft s' σ d chp hp' x):=by
   refine mB d σ cargs chp cu _ ((hm fv (.inl rfl)).trans hev) ?_ hcu (hu d (by simp)) (fun t ht=>?_) hpass' hinj hc fun y h hr=>?_
   ·rw [rl (s:=s) (s':=s') fun y hy=>hm y (.inr (by simpa using hy)),hargs]
   ·obtain rfl:=Option.some.inj ht
    exact ⟨hd.1,rfl⟩
   ·obtain ⟨rfl,rfl⟩:=hr
    exact ⟨hl,by rw [dn];rfl⟩
  refine Oper.wpIn_mono ?_ (hok B hB ds' β a w hds hs Q')
  rintro a' w' ⟨hd',s2,β',hrun,hs2⟩
  obtain ⟨_,s3,β3,rfl,hs3⟩:=hrun B hB ds' β' a' w' hd' hs2
  exact ⟨hd',β3,by rw [← yi];exact hs3⟩
 ·obtain rfl:=List.mem_singleton.1 hy
  exact hd.2
 ·rw [← E.run_eq,← yi]
  exact hk
end
end Go.Ab

namespace Go.Ab
section
variable {P:Program} {cf:Cf} {ops:Array Oper} {K:St→Ns→Prop} {r:List Oper} {s:St} {ns:Ns}
end
end Go.Ab

namespace Go.Ab
end Go.Ab

namespace Go.Ab
structure Gz (H:Array Obj) (own:Nat→Prop) (wf:W) (xs:List D) (news:List Value):Prop where
 size:news.length=xs.length*wd wf
 ok:∀ x∈xs,okW wf x
 rep:∀ i x j d,xs[i]?=some x→x.cells[j]?=some d→Rep H own (news.getD (i*wd wf+j) undef) d
theorem wi {H:Array Obj} {own:Nat→Prop} (l:List UInt8):Gz H own none (l.map byD) (byteCells ⟨l.toArray⟩):=by
 have hb:byteCells ⟨l.toArray⟩=l.map fun b=>Value.int .u8 b.toNat:=by unfold byteCells;simp
 refine ⟨by rw [hb];simp [wd],fun x hx=>?_,fun i x j d hi hj=>?_⟩
 ·obtain ⟨c,_,rfl⟩:=List.mem_map.1 hx
  rfl
 ·rw [List.getElem?_map] at hi
  cases hc:l[i]? with
  | none=>rw [hc] at hi;cases hi
  | some c =>
    rw [hc] at hi
    obtain rfl:byD c=x:=by simpa using hi
    have hj0:j=0∧d=byD c:=by
     rcases j with _ | j
     ·refine ⟨rfl,?_⟩
      have:some (byD c)=some d:=hj
      exact (Option.some.inj this).symm
     ·have:([byD c]:List D)[j+1]?=some d:=hj
      simp at this
    obtain ⟨rfl,rfl⟩:=hj0
    rw [hb,show i*wd none+0=i by simp [wd],List.getD_eq_getElem?_getD,List.getElem?_map,hc]
    exact .int _ _
section
variable {P:Program} {B:Base} {β:Name→Option Blk} {s:St} {tm:Array Value} {w:World} {t u:TypeId}
section
variable {e:Nat} {i:TypeInfo} {z:Value}
theorem kZ (hk:P.underlying t=some (.slice e)) (hi:P.info? e=some i) (hz:i.zero=some z) (ty:TypeId) {own:Nat→Prop} {wf:W} {xv yv:Value} {xs ys:List D} {olds news:List Value} (hs:i.size=wd wf)
  (hx:Seg P w.heap own wf xv xs olds) (hy:Src P i.size u yv ys.length news w) {a:Option Addr} {cap:Nat} (hxv:xv=.slice a xs.length cap) (hgr:cap<xs.length+ys.length) (hb:(xs.length+ys.length)*i.bytes≤140737488355328) (hb':xs.length+ys.length≤140737488355328) :
  ∃ nc,xs.length+ys.length≤nc∧(Builtin.append_ #[t,u] ty #[xv,yv]).run P w =
   .ok (.slice (some ⟨w.heap.size,0,none⟩) (xs.length+ys.length) nc) (w.drew.alloc (.cells (olds.toArray++news.toArray++Builtin.zeroCells z.cells (nc-(xs.length+ys.length))) e)):=by
 subst hxv
 refine ⟨grownCap w (xs.length+ys.length) cap e,grownCap_ge _ _ _ _,?_⟩
 have h:=run_append_grow_src w t u ty e i z hk hi hz a xs.length cap olds (by rw [hs];exact hx.run w.drew rfl) yv ys.length news hy hgr (by omega) (by have:=growslice_fits hgr hb;omega)
 rw [h]
 simp
theorem ll (hk:P.underlying t=some (.slice e)) (hi:P.info? e=some i) (ty:TypeId) {wf:W} {yv:Value} {ys:List D} {news:List Value} (hs:i.size=wd wf)
  (hy:Src P i.size u yv ys.length news w) {b o n cap:Nat} {c:Array Value} {e':TypeId} (hb:w.heap[b]?=some (.cells c e' (0,0))) (hr:n+ys.length≤cap) (hfit:o+n*wd wf+news.length≤c.size) :
  (Builtin.append_ #[t,u] ty #[.slice (some ⟨b,o,none⟩) n cap,yv]).run P w =
   .ok (.slice (some ⟨b,o,none⟩) (n+ys.length) cap) (w.setRow b (splice c.toList (o+n*wd wf) news).toArray):=by
 have hst:=run_storeCells_at (P:=P) b (o+n*wd wf) e' news 0 c w hb (by simpa using hfit) hy.one
 simp only [Nat.add_zero] at hst
 have hc:=hy.cells
 rw [hs] at hc
 rcases hy.kind with ⟨e2,hu⟩ | hu<;>simp [Builtin.append_,run_underlying hk,run_underlying hu,sizeOf,typeInfo,hi,hy.len,hr,hs,hc,bI,hst,splice,List.append_assoc]
end
theorem qP {H:Array Obj} {own:Nat→Prop} {wf:W} {xs ys:List D} {olds news:List Value} {xv:Value} (hx:Seg P H own wf xv xs olds) (hy:Gz H own wf ys news) (rest:Array Value) :
  (∀ x∈xs++ys,okW wf x)∧∀ i x j d,(xs++ys)[i]?=some x→x.cells[j]?=some d→Rep H own ((olds.toArray++news.toArray++rest).getD (i*wd wf+j) undef) d:=by
 refine ⟨fun x h=>(List.mem_append.1 h).elim (hx.ok x) (hy.ok x),fun i x j d hi hj=>?_⟩
 have hget:∀ m,(olds.toArray++news.toArray++rest).getD m undef=if m<olds.length then olds.getD m undef else if m<olds.length+news.length then news.getD (m-olds.length) undef else rest.getD (m-(olds.length+news.length)) undef:=by
  intro m
  simp only [Array.getD_eq_getD_getElem?,List.getD_eq_getElem?_getD,Array.getElem?_append,List.size_toArray,Array.size_append,List.getElem?_toArray]
  by_cases h1:m<olds.length
  ·simp [h1,show m<olds.length+news.length by omega]
  ·by_cases h2:m<olds.length+news.length
   ·simp [h1,h2]
   ·simp [h1,h2]
 rw [hget]
 rcases Nat.lt_or_ge i xs.length with hlt | hge
 ·rw [List.getElem?_append_left hlt] at hi
  have hxo:=hx.ok x (List.mem_of_getElem? hi)
  have hjl:j<wd wf:=by rw [← bp hxo];exact (List.getElem?_eq_some_iff.1 hj).1
  have:i*wd wf+wd wf≤xs.length*wd wf:=by rw [← Nat.succ_mul];exact Nat.mul_le_mul_right _ hlt
  rw [if_pos (by rw [hx.size];omega)]
  exact hx.rep i x j d hi hj
 ·rw [List.getElem?_append_right hge] at hi
  have hxo:=hy.ok x (List.mem_of_getElem? hi)
  have hil:=(List.getElem?_eq_some_iff.1 hi).1
  have hjl:j<wd wf:=by rw [← bp hxo];exact (List.getElem?_eq_some_iff.1 hj).1
  have h1:xs.length*wd wf≤i*wd wf:=Nat.mul_le_mul_right _ hge
  have h2:(i-xs.length)*wd wf+wd wf≤ys.length*wd wf:=by rw [← Nat.succ_mul];exact Nat.mul_le_mul_right _ hil
  have h3:i*wd wf=(i-xs.length)*wd wf+xs.length*wd wf:=by rw [← Nat.add_mul];congr 1;omega
  rw [if_neg (by rw [hx.size];omega),if_pos (by rw [hx.size,hy.size];omega),hx.size,show i*wd wf+j-xs.length*wd wf=(i-xs.length)*wd wf+j by omega]
  exact hy.rep _ x j d hi hj
theorem px (h:Sim B β s tm w) {xv yv:Value} {p:Name} {o l:Nat} {tg:Option Nat} {wf:W} {xs ys:List D} {news:List Value} (hx:VR w.heap (s.own B.A β) s.used s.hp β xv (.vw p o l)) (hp:s.hp p=some (.arrT tg wf xs)) {e:Nat} (hk:(P.ti t).k=.slice e)
  (hz:(P.ti e).zOk=true) (hw:(P.ti e).isW (P.ti e).w=true) (hwf:wf=(P.ti e).w) (ty:TypeId) (htg:tg.getD e=e) {dd:Nat} (hdd:dd<B.n) (hud:dd ∉ s.used) (hb:(l+ys.length)*(P.ti e).by1≤140737488355328)
  (hsy:Gz w.heap (s.own B.A β) (P.ti e).w ys news) (hsrc:∀ it,P.info? e=some it→Src P it.size u yv ys.length news w) :
  ∃ v w' β',(Builtin.append_ #[t,u] ty #[xv,yv]).run P w=.ok v w'∧Sim B β' (((s.set p none).add dd (.arrT tg wf ((xs.drop o).take l++ys))).put dd (.vw [dd] 0 (l+ys.length))) (tm.setIfInBounds dd v) w':=by
 obtain ⟨hg,hwd,_⟩:=cg hw
 obtain ⟨z,hz,hzl⟩:∃ z,(P.ti e).z=some z∧z.length=(P.ti e).sz:=by
  unfold TI.zOk at hz
  split at hz
  ·rename_i z h1;exact ⟨z,h1,by simpa using hz⟩
  ·cases hz
 obtain ⟨zv,hr,hm,it,hi,hiz,his,hib⟩:=eL hz
 have hu:=bX hk
 have hby:∀ m:Nat,m*(P.ti e).by1≤140737488355328→m*it.bytes≤140737488355328∧m≤140737488355328:=by
  intro m hm'
  unfold TI.by1 at hm'
  rw [hib]
  split at hm'
  ·rename_i h0;rw [h0];simp at hm' ⊢;exact hm'
  ·exact ⟨hm',Nat.le_trans (Nat.le_mul_of_pos_right m (by omega)) hm'⟩
 have fresh:∀ (s1:St) (β1:Name→Option Blk) (xs ys:List D) (olds news:List Value) (xv':Value) (dd nc:Nat),Sim B β1 s1 tm w→Seg P w.heap (s1.own B.A β1) (P.ti e).w xv' xs olds→Gz w.heap (s1.own B.A β1) (P.ti e).w ys news→dd<B.n→dd ∉ s1.used →
   xs.length+ys.length≤nc→∃ β',Sim B β' ((s1.add dd (.arrT tg (P.ti e).w (xs++ys))).put dd (.vw [dd] 0 (xs.length+ys.length))) (tm.setIfInBounds dd (.slice (some ⟨w.heap.size,0,none⟩) (xs.length+ys.length) nc))
    (w.drew.alloc (.cells (olds.toArray++news.toArray++Builtin.zeroCells zv.cells (nc-(xs.length+ys.length))) e)):=by
  intro s1 β1 xs ys olds news xv' dd nc h1 hsx hsy hdd hud hnc
  obtain ⟨r1,r2⟩:=qP hsx hsy (Builtin.zeroCells zv.cells (nc-(xs.length+ys.length)))
  have hzs:zv.cells.size=wd (P.ti e).w:=by
   have:=(gX (H:=w.heap) (own:=s.own B.A β) hm).1
   simp at this;omega
  have hsz:(olds.toArray++news.toArray++Builtin.zeroCells zv.cells (nc-(xs.length+ys.length))).size=nc*wd (P.ti e).w:=by
   simp only [Array.size_append,List.size_toArray,hsx.size,hsy.size,size_zeroCells,hzs,← Nat.add_mul];congr 1;omega
  have:=e8 (h1.mA (w':=w.drew) rfl rfl) hdd hud (c:=olds.toArray++news.toArray++Builtin.zeroCells zv.cells (nc-(xs.length+ys.length))) (wf:=(P.ti e).w) (xs:=xs++ys) (cap:=nc) (by simpa using hnc)
   (by rw [hsz];exact Nat.le_refl _) r1 (fun i x j d hi hj=>r2 i x j d hi hj) e tg htg
  simpa using this
 have hsrc:=hsrc it hi
 obtain ⟨hb1,hb2⟩:=hby _ hb
 have hlx:cj (P.ti e).w s.hp (.vw p o l)=some ((xs.drop o).take l):=by simp [cj,hp,hwf]
 obtain ⟨olds,hsx⟩:=e7 (P:=P) h hx hlx
 have hpn:=gq (h.objs p _ hp).1 hud
 have hcomm:∀ ob,(s.set p none).add dd ob=(s.add dd ob).set p none:=by
  intro ob
  unfold St.add St.set
  simp only [St.mk.injEq,true_and,and_true]
  funext q
  simp only [aB]
  by_cases h1:q=[dd]
  ·subst h1;simp [Ne.symm hpn]
  ·simp [h1]
 cases hx with
 | vw _ _ _ _ hn h1 hx =>
   obtain ⟨hle,a,cap,rfl,hx'⟩:=hx _ _ _ hp
   have hlen:((xs.drop o).take l).length=l:=by simp;omega
   by_cases hgr:cap<l+ys.length
   ·-- it grows
    have hgr':cap<((xs.drop o).take l).length+ys.length:=by rw [hlen];exact hgr
    obtain ⟨nc,hnc,hrun⟩:=kZ (P:=P) (t:=t) hu hi hiz ty (by rw [his,hwd]) hsx hsrc (a:=a) (cap:=cap) (by rw [hlen]) hgr' (by rw [hlen];exact hb1) (by rw [hlen];exact hb2)
    obtain ⟨β',hs⟩:=fresh s β _ ys olds news _ dd nc h hsx hsy hdd hud hnc
    rw [hlen] at hs hrun
    refine ⟨_,_,β',hrun,?_⟩
    rw [hcomm,hwf]
    have:=hs.drop p
    have e2:((s.add dd (.arrT tg (P.ti e).w ((xs.drop o).take l++ys))).put dd (.vw [dd] 0 (l+ys.length))).set p none=((s.add dd (.arrT tg (P.ti e).w ((xs.drop o).take l++ys))).set p none).put dd (.vw [dd] 0 (l+ys.length)):=rfl
    rwa [e2] at this
   ·-- there is room
    rcases hx' with ⟨rfl,rfl⟩ | ⟨k,hk',rfl,hcap,hz'⟩
    ·have:ys=[]:=List.length_eq_zero_iff.1 (by omega)
     subst this
     have hn0:news=[]:=List.length_eq_zero_iff.1 (by rw [hsy.size];simp)
     subst hn0
     have hsrc0:=hsrc
     have hrun:=run_append_nothing w t u ty e it hu hi a 0 0 (Nat.le_refl 0) yv hsrc0
     refine ⟨_,_,aB β [dd] none,hrun,?_⟩
     rw [hcomm]
     have e3:((xs.drop o).take 0++([]:List D))=[]:=by simp
     rw [e3]
     have:=((h.eu hud tg wf).put hdd (v:=.slice a 0 0) (x:=.vw [dd] 0 0) (.vw _ _ _ _ ⟨dd,[],rfl,List.mem_cons_self⟩ rfl fun ty' w' xs' hp'=>by
      have:w'=wf∧xs'=[]:=And.right (a:=ty'=tg) (by simpa [St.add,aB,eq_comm] using hp')
      obtain ⟨rfl,rfl⟩:=this
      exact ⟨by simp,a,0,rfl,.inl ⟨rfl,rfl⟩⟩)).drop p
     exact this
    ·have hob:=(h.objs p _ hp).2
     rcases hob with ⟨h0,h0'⟩ | ⟨k',c',e',hk'',hc,hzz,hl',hwx,hcs⟩
     ·rw [h0] at hk';cases hk'
     ·rw [hk'] at hk'';cases hk''
      have hmul:(o+cap)*wd wf=o*wd wf+cap*wd wf:=Nat.add_mul _ _ _
      have hle2:(l+ys.length)*wd wf≤cap*wd wf:=Nat.mul_le_mul_right _ (by omega)
      have hmul2:(l+ys.length)*wd wf=l*wd wf+ys.length*wd wf:=Nat.add_mul _ _ _
      have hns:=hsy.size
      rw [← hwf] at hns
      have hfit:k.o+o*wd wf+l*wd wf+news.length≤c'.size:=by omega
      have hrun:=ll (P:=P) (t:=t) hu hi ty (wf:=wf) (by rw [his,hwf,hwd]) hsrc hc (o:=k.o+o*wd wf) (n:=l) (cap:=cap) (by omega) hfit
      refine ⟨_,_,aB β [dd] (some ⟨k.b,k.o+o*wd wf,k.z⟩),hrun,?_⟩
      have hsim:=h.renew hud hp hk' tg wf ((xs.drop o).take l++ys) (k.o+o*wd wf) (w':=w.setRow k.b (splice c'.toList (k.o+o*wd wf+l*wd wf) news).toArray) rfl (by simp)
       (fun b hb=>setRow_other w k.b b _ hb) (fun hr=>?_)
      ·refine hsim.put hdd (.vw _ _ _ _ ⟨dd,[],rfl,List.mem_cons_self⟩ rfl fun ty' w' xs' hp'=>?_)
       have:w'=wf∧xs'=(xs.drop o).take l++ys:=And.right (a:=ty'=tg) (by simpa [St.add,aB,eq_comm] using hp')
       obtain ⟨rfl,rfl⟩:=this
       refine ⟨by simp;omega,_,cap,rfl,.inr ⟨_,by simp [aB];rfl,by simp,by omega,?_⟩⟩
       simp only [Nat.zero_add];omega
      ·have hsp:=bY c'.toList (k.o+o*wd wf+l*wd wf) news (by simpa using hfit)
       refine ⟨_,e',setRow_heap w k.b c' _ _ (0,0) hc,by simp;rw [hsp];simpa using hzz,?_,fun x hx=>?_,fun i x j d hi hj=>?_⟩
       ·rw [List.length_append,hlen];omega
       ·rcases List.mem_append.1 hx with hx | hx
        ·exact hwx x (List.mem_of_mem_drop (List.mem_of_mem_take hx))
        ·rw [hwf];exact hsy.ok x hx
       ·have hgetc:((splice c'.toList (k.o+o*wd wf+l*wd wf) news).toArray).getD (k.o+o*wd wf+i*wd wf+j) undef =
          if k.o+o*wd wf+l*wd wf≤k.o+o*wd wf+i*wd wf+j∧k.o+o*wd wf+i*wd wf+j<k.o+o*wd wf+l*wd wf+news.length then news.getD (k.o+o*wd wf+i*wd wf+j-(k.o+o*wd wf+l*wd wf)) undef else c'.getD (k.o+o*wd wf+i*wd wf+j) undef:=by
         have:=cM c'.toList (k.o+o*wd wf+l*wd wf) news (by simpa using hfit) (k.o+o*wd wf+i*wd wf+j)
         simp only [Array.getElem?_toList] at this
         simp only [Array.getD_eq_getD_getElem?,List.getElem?_toArray,this,List.getD_eq_getElem?_getD]
         split<;>rfl
        rw [hgetc]
        rcases Nat.lt_or_ge i l with hlt | hge
        ·rw [List.getElem?_append_left (by rw [hlen];exact hlt),List.getElem?_take,if_pos hlt,List.getElem?_drop] at hi
         have hxo:=hwx x (List.mem_of_getElem? hi)
         have hjl:j<wd wf:=by rw [← bp hxo];exact (List.getElem?_eq_some_iff.1 hj).1
         have:i*wd wf+wd wf≤l*wd wf:=by rw [← Nat.succ_mul];exact Nat.mul_le_mul_right _ hlt
         rw [if_neg (by omega)]
         have:=hr _ _ (hcs _ x j d hi hj)
         rwa [show k.o+o*wd wf+i*wd wf+j=k.o+(o+i)*wd wf+j by rw [Nat.add_mul];omega]
        ·rw [List.getElem?_append_right (by rw [hlen];exact hge),hlen] at hi
         have hxo:=hsy.ok x (List.mem_of_getElem? hi)
         rw [← hwf] at hxo
         have hil:=(List.getElem?_eq_some_iff.1 hi).1
         have hjl:j<wd wf:=by rw [← bp hxo];exact (List.getElem?_eq_some_iff.1 hj).1
         have g1:l*wd wf≤i*wd wf:=Nat.mul_le_mul_right _ hge
         have g2:(i-l)*wd wf+wd wf≤ys.length*wd wf:=by rw [← Nat.succ_mul];exact Nat.mul_le_mul_right _ hil
         have g3:i*wd wf=(i-l)*wd wf+l*wd wf:=by rw [← Nat.add_mul];congr 1;omega
         rw [if_pos (by omega),show k.o+o*wd wf+i*wd wf+j-(k.o+o*wd wf+l*wd wf)=(i-l)*wd wf+j by omega]
         have:=hsy.rep _ x j d hi hj
         rw [← hwf] at this
         exact hr _ _ this
end
section
variable {P:Program} {cf:Cf} {Q:Exit→St→Prop} {s:St} {k:List It}
theorem qk (E:Eng P cf Q) {d t u e:Nat} {x y:Operand} {ty:TypeId} {pos:String} {af:Array Edge} (tg:Option Nat) (p:Name) (xs:List D) (l:List UInt8) (hk:(P.ti t).k=.slice e) (hu:(P.ti u).k=.str) (hz:(P.ti e).zOk=true) (hw:(P.ti e).isW (P.ti e).w=true) (hew:(P.ti e).w=none)
  (htg:tg.getD e=e) (hd:d<cf.n∧d ∉ s.used) (hx:ev s x=.vw p 0 xs.length) (hp:s.hp p=some (.arrT tg none xs)) (hy:ev s y=.d (.str l)) (hl:(xs.length+l.length)*(P.ti e).by1≤140737488355328)
  (h:E.run k (((s.set p none).add d (.arrT tg none (xs++l.map byD))).put d (.vw [d] 0 (xs.length+l.length)))) :
  E.stp { dst:=some d,op:=.call { callee:=.builtin .append,args:=#[x,y],argTypes:=#[t,u] },type:=ty,pos:=pos,after:=af,guard:=none } s k .no:=by
 rw [aO]
 rw [E.run_eq] at h
 intro B hB ds β a w hds hs Q'
 have hvx:=hs.ev x
 have hvy:=hs.ev y
 rw [hx] at hvx
 rw [hy] at hvy
 have hyv:a.eval y=.string ⟨l.toArray⟩:=by
  have g:∀ v,Rep w.heap (s.own B.A β) v (.str l)→v=.string ⟨l.toArray⟩:=fun v hv=>by
   cases hv with
   | str l=>rfl
  exact g _ hvy.toD
 obtain ⟨hg,hwd,_⟩:=cg hw
 have hus:P.underlying u=some .string:=fo hu
 have key:=px (P:=P) (t:=t) (u:=u) (ys:=l.map byD) (news:=byteCells ⟨l.toArray⟩) hs hvx hp hk hz hw hew.symm ty htg (by rw [hB.1];exact hd.1) hd.2 (by rw [List.length_map];exact hl) (by rw [hew];exact wi l) (yv:=.string ⟨l.toArray⟩) (fun it hi=>by
  have h1:=Src.ofString (P:=P) w hus ⟨l.toArray⟩
  have h2:it.size=1:=by
   have hz':=hz
   unfold TI.zOk at hz'
   split at hz'
   ·rename_i z hz1
    obtain ⟨_,_,_,it',hi',_,his,_⟩:=eL hz1
    rw [hi] at hi'
    cases hi'
    rw [his,← hwd,hew];rfl
   ·cases hz'
  rw [h2,List.length_map]
  exact h1)
 obtain ⟨v,w',β',hrun,hsim⟩:=key
 rw [List.drop_zero,List.take_length,List.length_map] at hsim
 refine aI (v:=v) (by simp) (by simp [execOp,resolve,invoke,builtin,hyv,hrun]) (.inl rfl) ⟨hds,_,β',aX h,hsim⟩
end
end Go.Ab

namespace Go.Proofs.YtejpnabbmgpmaaaGreatDoor
open Go.Ab
structure EF where
 nm:List UInt8
 var:List UInt8
 to:Int
structure EN where
 k:Int
 a:Int
 b:Int
 c:Int
 n:Int
 name:List UInt8
 s:List UInt8
 l:List EF
 pos:Int
def aG (k:Int):Nat:=if k=5∨k=12∨k=13 then 1 else if k=6∨k=7∨k=8∨k=10 then 2 else if k=9 then 3 else if k=14 then 1 else 0
def aw (k:Int):Bool:=decide (k=11) || decide (k=14)
theorem cI (k:Int):aG k≤3:=by unfold aG;(repeat' split)<;>omega
def aj (n:EN):List Int:=[n.a,n.b,n.c].take (aG n.k)++(if aw n.k then n.l.map (·.to) else [])
def aF (n:EN):Nat:=aG n.k+(if aw n.k then n.l.length else 0)
theorem bd (n:EN):(aj n).length=aF n:=by
 have:=cI n.k
 unfold aj aF
 split<;>simp<;>omega
def aT (ks:List Int) (o:Nat):List EF→Nat→List EF
 | [],_=>[]
 | f::r,i=>(if o+i<ks.length then { f with to:=ks.getD (o+i) 0 } else f)::aT ks o r (i+1)
def aM (n:EN) (ks:List Int):EN :=
 { n with a:=if 0<aG n.k then ks.getD 0 0 else 0,b:=if 1<aG n.k then ks.getD 1 0 else 0,c:=if 2<aG n.k then ks.getD 2 0 else 0,l:=if aw n.k then aT ks (aG n.k) n.l 0 else [] }
theorem cD (ks:List Int) (o:Nat):∀ (l:List EF) (i:Nat),(aT ks o l i).length=l.length
 | [],_=>rfl
 | _::r,i=>by simp [aT,cD ks o r (i+1)]
theorem oz (ks:List Int) (o:Nat):∀ (l:List EF) (i:Nat),o+i+l.length=ks.length→(aT ks o l i).map (·.to)=ks.drop (o+i)
 | [],i,h=>by
   have h:o+i=ks.length:=by simpa using h
   simp [aT,h]
 | f::r,i,h=>by
   simp only [List.length_cons] at h
   have hi:o+i<ks.length:=by omega
   rw [aT,if_pos hi,List.map_cons,oz ks o r (i+1) (by omega),List.drop_eq_getElem_cons hi]
   simp [hi,Nat.add_assoc]
theorem o6 (ks ks':List Int) (o:Nat):∀ (l:List EF) (i:Nat),o+i+l.length≤ks'.length→aT ks' o (aT ks o l i) i=aT ks' o l i
 | [],_,_=>rfl
 | f::r,i,h=>by
   simp only [List.length_cons] at h
   have hi:o+i<ks'.length:=by omega
   rw [aT,aT,aT,if_pos hi,if_pos hi,o6 ks ks' o r (i+1) (by omega)]
   split<;>rfl
theorem fT (n:EN) (ks:List Int):(aM n ks).k=n.k:=rfl
theorem oW (n:EN) (ks:List Int):aF (aM n ks)=aF n:=by
 unfold aF
 rw [fT]
 show _+(if _ then (if aw n.k then aT ks (aG n.k) n.l 0 else []).length else 0)=_
 split<;>simp [cD]
theorem Kn:∀ (m:Nat) (ks:List Int),m≤3→m≤ks.length→[if 0<m then ks.getD 0 0 else 0,if 1<m then ks.getD 1 0 else 0,if 2<m then ks.getD 2 0 else 0].take m=ks.take m
 | 0,_,_,_=>by simp
 | 1,x::_,_,_=>by simp
 | 2,x::y::_,_,_=>by simp
 | 3,x::y::z::_,_,_=>by simp
 | 1,[],_,h=>by simp at h
 | 2,[],_,h=>by simp at h
 | 2,[_],_,h=>by simp at h
 | 3,[],_,h=>by simp at h
 | 3,[_],_,h=>by simp at h
 | 3,[_,_],_,h=>by simp at h
theorem cV {n:EN} {ks:List Int} (h:ks.length=aF n):aj (aM n ks)=ks:=by
 have h3:=cI n.k
 unfold aF at h
 unfold aj
 rw [fT]
 show [if 0<aG n.k then ks.getD 0 0 else 0,if 1<aG n.k then ks.getD 1 0 else 0,if 2<aG n.k then ks.getD 2 0 else 0].take (aG n.k)++(if aw n.k then (if aw n.k then aT ks (aG n.k) n.l 0 else []).map (·.to) else [])=ks
 rw [Kn _ _ h3 (by omega)]
 split
 ·rename_i hp
  rw [if_pos hp] at h
  rw [oz _ _ _ _ (by omega)]
  exact List.take_append_drop _ _
 ·rename_i hp
  rw [if_neg hp] at h
  rw [List.append_nil,List.take_of_length_le (by omega)]
theorem gy {n:EN} {ks ks':List Int} (h:aF n≤ks'.length):aM (aM n ks) ks'=aM n ks':=by
 unfold aF at h
 show ({ n with a:=_,b:=_,c:=_,l:=if aw n.k then aT ks' (aG n.k) (if aw n.k then aT ks (aG n.k) n.l 0 else []) 0 else [] }:EN)={ n with a:=_,b:=_,c:=_,l:=if aw n.k then aT ks' (aG n.k) n.l 0 else [] }
 by_cases hp:aw n.k=true
 ·rw [if_pos hp] at h
  simp only [hp,if_true]
  rw [o6 _ _ _ _ _ (by omega)]
  rfl
 ·simp only [hp]
  rfl
def ax (off:Nat) (n:EN):EN:=aM n ((aj n).map fun x:Int=>x+off)
theorem iz (off:Nat) (n:EN):aj (ax off n)=(aj n).map fun x:Int=>x+off:=cV (by rw [List.length_map,bd])
theorem fQ (p q:Nat) (n:EN):ax p (ax q n)=ax (p+q) n:=by
 unfold ax
 have:=iz q n
 unfold ax at this
 rw [this,gy (by rw [List.length_map,List.length_map,bd];exact Nat.le_refl _),List.map_map]
 congr 1
 refine List.map_congr_left fun x _=>?_
 simp only [Function.comp]
 omega
def br:List (List EN)→List EN→List Int→List EN × List Int
 | [],acc,rs=>(acc,rs)
 | l::r,acc,rs=>br r (acc++l.map (ax acc.length)) (rs++[((acc.length+l.length:Nat):Int)-1])
def az (n:EN) (ls:List (List EN)):List EN:=(br ls [] []).1++[aM n (br ls [] []).2]
inductive Tr:List EN→Prop
 | join (n:EN) (ls:List (List EN)) (hw:aF n=ls.length) (h:∀ l∈ls,Tr l):Tr (az n ls)
def ndE (ns:List EN) (i:Nat):EN:=ns.getD i ⟨0,0,0,0,0,[],[],[],0⟩
def bT (ns:List EN):Nat→Int→List Int
 | 0,_=>[]
 | m+1,i=>(aj (ndE ns i.toNat)).flatMap (bT ns m)++[i]
end Go.Proofs.YtejpnabbmgpmaaaGreatDoor

namespace Go.Proofs.YtejpnabbmgpmaaaGreatDoor
open Go.Ab
theorem fS:∀ (ls:List (List EN)) (acc:List EN) (rs:List Int),∃ X Y,br ls acc rs=(acc++X,rs++Y)∧Y.length=ls.length
 | [],acc,rs=>⟨[],[],by simp [br],rfl⟩
 | l::r,acc,rs=>by
   obtain ⟨X,Y,e,h⟩:=fS r (acc++l.map (ax acc.length)) (rs++[((acc.length+l.length:Nat):Int)-1])
   exact ⟨l.map (ax acc.length)++X,(((acc.length+l.length:Nat):Int)-1)::Y,by rw [br,e];simp,by simp [h]⟩
def Lies (M ns:List EN) (off:Nat):Prop:=∀ j,j<ns.length→ndE M (off+j)=ax off (ndE ns j)
def HO (l:List EN):Prop:=0<l.length∧∀ (M:List EN) (off m:Nat),Lies M l off→off+l.length≤m→bT M m (((off+l.length:Nat):Int)-1)=(List.range l.length).map fun j=>((off+j:Nat):Int)
theorem yA:∀ (ls:List (List EN)) (acc:List EN) (rs Y:List Int) (X:List EN),(∀ l∈ls,HO l)→br ls acc rs=(acc++X,rs++Y)→∀ (M:List EN) (off m:Nat),Lies M (acc++X) off→off+(acc++X).length≤m →
  (Y.map fun x:Int=>x+off).flatMap (bT M m)=(List.range X.length).map fun j=>((off+acc.length+j:Nat):Int)
 | [],acc,rs,Y,X,_,e,M,off,m,_,_=>by
   simp only [br,Prod.mk.injEq] at e
   have h1:X=[]:=by have:=congrArg List.length e.1;simp at this;exact this
   have h2:Y=[]:=by have:=congrArg List.length e.2;simp at this;exact this
   subst h1;subst h2;simp
 | l::r,acc,rs,Y,X,hg,e,M,off,m,hM,hm=>by
   obtain ⟨X',Y',e',_⟩:=fS r (acc++l.map (ax acc.length)) (rs++[((acc.length+l.length:Nat):Int)-1])
   rw [br,e'] at e
   simp only [Prod.mk.injEq,List.append_assoc,List.append_cancel_left_eq] at e
   obtain ⟨rfl,rfl⟩:=e
   obtain ⟨h0,hl⟩:=hg l List.mem_cons_self
   have hlen:(acc++(l.map (ax acc.length)++X')).length=acc.length+l.length+X'.length:=by simp [Nat.add_assoc]
   have ih:=yA r (acc++l.map (ax acc.length)) (rs++[((acc.length+l.length:Nat):Int)-1]) Y' X' (fun x hx=>hg x (List.mem_cons_of_mem _ hx)) e' M off m (by rw [List.append_assoc];exact hM) (by rw [List.append_assoc];exact hm)
   have h1:bT M m ((((acc.length+l.length:Nat):Int)-1)+off)=(List.range l.length).map fun j=>((off+acc.length+j:Nat):Int):=by
    have:=hl M (off+acc.length) m (fun j hj=>?_) (by omega)
    ·rw [← this]
     congr 1
     omega
    ·have hj2:=hM (acc.length+j) (by rw [hlen];omega)
     rw [← Nat.add_assoc] at hj2
     rw [hj2]
     have:ndE (acc++(l.map (ax acc.length)++X')) (acc.length+j)=ax acc.length (ndE l j):=by
      unfold ndE
      rw [List.getD_eq_getElem?_getD,List.getElem?_append_right (by omega),List.getElem?_append_left (by simp;omega)]
      simp [hj]
     rw [this,fQ]
   simp only [List.map_append,List.map_cons,List.map_nil,List.flatMap_append,List.flatMap_cons,List.flatMap_nil,List.append_nil,List.singleton_append]
   rw [h1,ih]
   simp only [List.length_append,List.length_map]
   rw [List.range_add,List.map_append,List.map_map]
   congr 1
   refine List.map_congr_left fun j _=>?_
   simp only [Function.comp]
   omega
theorem Tr.good {ns:List EN} (h:Tr ns):HO ns:=by
 induction h with
 | join n ls hw _ ih =>
   obtain ⟨X,Y,e,hY⟩:=fS ls [] []
   have hj:az n ls=X++[aM n Y]:=by unfold az;rw [e];simp
   rw [hj]
   refine ⟨by simp,fun M off m hM hm=>?_⟩
   rw [List.length_append] at hm ⊢
   simp only [List.length_singleton] at hm ⊢
   have hroot:ndE M (off+X.length)=ax off (aM n Y):=by
    have:=hM X.length (by simp)
    rw [this]
    congr 1
    simp [ndE]
   cases m with
   | zero=>omega
   | succ m =>
     have hi:(((off+(X.length+1):Nat):Int)-1).toNat=off+X.length:=by omega
     rw [bT,hi,hroot,iz,cV (by rw [hY,hw])]
     have:=yA ls [] [] Y X (fun l hl=>ih l hl) (by simpa using e) M off m (fun j hj=>?_) (by simp;omega)
     ·rw [this,List.range_succ,List.map_append]
      simp only [List.length_nil,Nat.add_zero,List.map_cons,List.map_nil]
      congr 2
      omega
     ·simp only [List.nil_append] at hj ⊢
      rw [hM j (by simp;omega)]
      congr 1
      simp [ndE,List.getElem?_append_left hj]
theorem vX {n:EN} {ks:List Int} (h:ks.length=aF n):ax 0 (aM n ks)=aM n ks:=by
 unfold ax
 rw [cV h,gy (by rw [List.length_map,h];exact Nat.le_refl _)]
 congr 1
 simp
theorem u7:∀ (ls:List (List EN)) (acc:List EN) (rs:List Int),(∀ x∈acc,ax 0 x=x)→∀ x∈(br ls acc rs).1,ax 0 x=x
 | [],_,_,h=>h
 | l::r,acc,rs,h=>by
   refine u7 r _ _ fun x hx=>?_
   rcases List.mem_append.1 hx with hx | hx
   ·exact h x hx
   ·obtain ⟨y,_,rfl⟩:=List.mem_map.1 hx
    rw [fQ,Nat.zero_add]
theorem Tr.self {ns:List EN} (h:Tr ns):∀ x∈ns,ax 0 x=x:=by
 cases h with
 | join n ls hw h =>
   intro x hx
   obtain ⟨X,Y,e,hY⟩:=fS ls [] []
   rcases List.mem_append.1 (show x∈(br ls [] []).1++[aM n (br ls [] []).2] from hx) with hx | hx
   ·exact u7 ls [] [] (by simp) x hx
   ·rw [List.mem_singleton.1 hx,e]
    exact vX (by simpa using hY.trans hw.symm)
def Jq (ns:List EN) (i:Int):List EN :=
 let its:=bT ns (i.toNat+1) i
 its.map fun x=>aM (ndE ns x.toNat) ((aj (ndE ns x.toNat)).map fun k=>(its.idxOf k:Int))
theorem tP (N:Nat):((List.range N).map fun j=>((0+j:Nat):Int)).Nodup:=List.Pairwise.map _ (fun a b hab e=>hab (by omega)) List.nodup_range
theorem uJ (N k:Nat) (h:k<N):((List.range N).map fun j=>((0+j:Nat):Int)).idxOf (k:Int)=k:=by
 have:=List.Nodup.idxOf_getElem (tP N) k (by simpa using h)
 simpa using this
def il (b:Nat) (x:EN):Prop:=∀ k∈aj x,0≤k∧k<(b:Int)
theorem il.mono {b c:Nat} {x:EN} (h:il b x) (hc:b≤c):il c x:=fun k hk=>by have:=h k hk;omega
theorem th:∀ (ls:List (List EN)) (acc:List EN) (rs:List Int),(∀ l∈ls,0<l.length∧∀ x∈l,il l.length x)→(∀ x∈acc,il acc.length x)→(∀ k∈rs,0≤k∧k<(acc.length:Int)) →
  (∀ x∈(br ls acc rs).1,il (br ls acc rs).1.length x)∧∀ k∈(br ls acc rs).2,0≤k∧k<((br ls acc rs).1.length:Int)
 | [],_,_,_,h1,h2=>⟨h1,h2⟩
 | l::r,acc,rs,hl,h1,h2=>by
   obtain ⟨g1,g2⟩:=hl l List.mem_cons_self
   refine th r _ _ (fun x hx=>hl x (List.mem_cons_of_mem _ hx)) (fun x hx=>?_) (fun k hk=>?_)
   ·rcases List.mem_append.1 hx with hx | hx
    ·exact (h1 x hx).mono (by simp)
    ·obtain ⟨y,hy,rfl⟩:=List.mem_map.1 hx
     intro k hk
     rw [iz] at hk
     obtain ⟨q,hq,rfl⟩:=List.mem_map.1 hk
     have:=g2 y hy q hq
     rw [List.length_append,List.length_map]
     omega
   ·rw [List.length_append,List.length_map]
    rcases List.mem_append.1 hk with hk | hk
    ·have:=h2 k hk;omega
    ·rw [List.mem_singleton.1 hk];omega
theorem Tr.kids {ns:List EN} (h:Tr ns):0<ns.length∧∀ x∈ns,il ns.length x:=by
 induction h with
 | join n ls hw _ ih =>
   obtain ⟨h1,h2⟩:=th ls [] [] ih (by simp) (by simp)
   have hl:(az n ls).length=(br ls [] []).1.length+1:=by simp [az]
   refine ⟨by omega,fun x hx=>?_⟩
   rw [hl]
   rcases List.mem_append.1 (show x∈(br ls [] []).1++[aM n (br ls [] []).2] from hx) with hx | hx
   ·exact (h1 x hx).mono (by omega)
   ·rw [List.mem_singleton.1 hx]
    intro k hk
    obtain ⟨X,Y,e,hY⟩:=fS ls [] []
    rw [cV (by rw [e];simpa using hY.trans hw.symm)] at hk
    have:=h2 k hk
    omega
theorem Tr.norm {ns:List EN} (h:Tr ns):Jq ns ((ns.length:Int)-1)=ns:=by
 obtain ⟨h0,hk⟩:=h.kids
 have hself:∀ j,j<ns.length→ndE ns j∈ns:=fun j hj=>by
  have:ndE ns j=ns[j]:=by simp [ndE,hj]
  rw [this];exact List.getElem_mem hj
 have hb:bT ns (((ns.length:Int)-1).toNat+1) ((ns.length:Int)-1)=(List.range ns.length).map fun j=>((0+j:Nat):Int):=by
  have:=h.good.2 ns 0 (((ns.length:Int)-1).toNat+1) (fun j hj=>by rw [Nat.zero_add];exact (h.self _ (hself j hj)).symm) (by omega)
  rw [← this]
  congr 1
  omega
 unfold Jq
 simp only [hb,List.map_map]
 refine List.ext_getElem (by simp) fun j h1 h2=>?_
 have hx:ndE ns j=ns[j]:=by simp [ndE,h2]
 have hm:ns[j]∈ns:=List.getElem_mem h2
 simp only [List.getElem_map,List.getElem_range,Function.comp,Nat.zero_add,Int.toNat_natCast,hx]
 have hks:(aj ns[j]).map (fun k=>(((List.range ns.length).map fun j=>((j:Nat):Int)).idxOf k:Int))=(aj ns[j]).map fun x:Int=>x+(0:Nat):=by
  refine List.map_congr_left fun k hkk=>?_
  obtain ⟨g1,g2⟩:=hk _ hm k hkk
  have:=uJ ns.length k.toNat (by omega)
  simp only [Nat.zero_add,Int.toNat_of_nonneg g1] at this
  rw [this]
  omega
 rw [hks]
 exact h.self _ hm
end Go.Proofs.YtejpnabbmgpmaaaGreatDoor

namespace Go.Proofs.YtejpnabbmgpmaaaGreatDoor
open Go.Ab
def fD (f:EF):D:=.agg [.str f.nm,.str f.var,i64 f.to]
def efD (l:List EF):D:=.sl (some 3) (l.map fD)
def enD (n:EN):D:=.agg [i64 n.k,i64 n.a,i64 n.b,i64 n.c,i64 n.n,.str n.name,.str n.s,efD n.l,i64 n.pos]
def exD (ns:List EN):D:=.agg [.sl (some 9) (ns.map enD)]
theorem mR {G} (k:Int):HP Tryz.prog G 132 [i64 k] (fun r=>r=.d (.agg [i64 (aG k),.bool (aw k)])):=by
 refine an Tryz.func132 rfl (by decide +kernel) (by simp [Tryz.ntmps132]) (veil fun E=>?_)
 simp only [go_sem]
 repeat' (refine ai E (fun h=>?_) (fun h=>?_)<;>simp only [go_sem])
 all_goals first | (exfalso;omega) | (unfold aG aw;simp_all)
end Go.Proofs.YtejpnabbmgpmaaaGreatDoor

namespace Go.Ab
section
variable {P:Program} {cf:Cf}
structure DI (B0:Base) (g:Nat) (ns:List Name) (B:Base) (ds:List Deferred):Prop where
 ci:∃ B1,CI B0 B1 []∧B.n=B1.n∧B.io=B1.io∧B.H0=B1.H0∧(∀ b,B.O0 b↔B1.O0 b)∧B.A=B1.A∧(∀ x∈B1.U0,x∈B.U0)∧∀ p,nm B1.U0 p→B.β0 p=B1.β0 p
 df:∃ caps:Array Value,ds=[{ target:=.fn (.func g) caps,args:=#[] }]∧caps.size=ns.length∧∀ i p,ns[i]?=some p→nm B.U0 p∧(caps.getD i undef).oneCell'=true∧∃ k,B.β0 p=some k∧k.o=0∧caps.getD i undef=.pointer (some ⟨k.b,0,none⟩)
theorem rv {u:List Nat} {Φ:Exit→Act→World→Prop}:∀ (k:List It),hold P { cf with U:=u } Φ k=hold P cf Φ k
 | []=>rfl
 | .code c::k=>by
   funext e a w
   cases e<;>simp only [hold,rv k]
 | .ops all r::k=>by
   funext e a w
   cases e<;>simp only [hold,rv k]
 | .blk i::k=>by
   funext e a w
   cases e<;>simp only [hold,rv k]
theorem FV {B0:Base} {Φ:Exit→Act→World→Prop} {k:List It} {s:St} {all:Array Oper} {fv:Operand} {at':Array TypeId} {ty:TypeId} {pos:String} {af:Array Edge} {r:List Oper} {g:Nat} (ns:List Name) (hro:cf.ro=none)
  (hev:ev s fv=.clo g (ns.map fun p=>.bx p 0)) (hbx:∀ p∈ns,∃ cs,s.hp p=some (.box cs))
  (h:ARY P { cf with U:=s.used } Φ (DI B0 g ns) (.ops all r::k) s) :
  ARY P cf Φ (fun B ds=>CI B0 B ds∧ds=[]) (.ops all ({ dst:=none,op:=.defer { callee:=.value fv,args:=#[],argTypes:=at' },type:=ty,pos:=pos,after:=af,guard:=none }::r)::k) s:=by
 intro B hB ds β a w hds hI hs l hl
 obtain ⟨hI,rfl⟩:=hI
 cases l with
 | nil=>simp at hl
 | cons i l =>
   simp only [List.map_cons,List.cons.injEq] at hl
   obtain ⟨hi,hl⟩:=hl
   simp only [wpOpsIn,hi,Region.wanted,if_true]
   have hf:=hs.ev fv
   rw [hev] at hf
   obtain ⟨vs,hfv,hvs,hvr⟩:∃ vs:Array Value,a.eval fv=.func (.func g) #[] vs∧vs.size=ns.length∧∀ i p,ns[i]?=some p→VR w.heap (s.own B.A β) s.used s.hp β (vs.getD i undef) (.bx p 0):=by
    generalize a.eval fv=v at hf
    cases hf with
    | clo f vs cs h1 h2=>exact ⟨vs,rfl,by simpa using h1,fun i p hp=>h2 i _ (by rw [List.getElem?_map,hp];rfl)⟩
   refine ⟨fun _ _=>trivial,?_⟩
   have hrun:(execOp a.eval { dst:=none,op:=.defer { callee:=.value fv,args:=#[],argTypes:=at' },type:=ty,pos:=pos,after:=af,guard:=none }:Sem Next).run P w=.ok (.defer { target:=.fn (.func g) vs,args:=#[] }) w:=by
    simp only [execOp,resolve,hfv,Deferred.ofValue,Sem.run_bind,Sem.run_pure,Result.andThen_ok,Array.map_empty,Array.append_empty]
   rw [show (Fw cf.ro).round=none by rw [hro];rfl,Oper.semAt_none,hrun,Oper.uponIn_defer]
   let B':Base:={ n:=B.n,io:=B.io,G:=B.G,H0:=B.H0,O0:=B.O0,A:=B.A,U0:=s.used,β0:=β,hA:=B.hA,hG:=B.hG }
   have hs':Sim B' β s a.tmps w:=hs.mv rfl hs.io hs.size hs.frame (Nat.le_refl _) (fun _ _ _=>rfl) (fun _ _ h=>h) (fun p k hp hk=>(hs.blocks p k hp hk).2.2) (fun _ h=>h) (fun _ _=>rfl)
   rw [← rv (u:=s.used) k]
   refine h B' ⟨hB.1,rfl,hB.2.2⟩ _ β { a with defers:={ target:=.fn (.func g) vs,args:=#[] }::a.defers } w (by show _::a.defers=_;rw [hds]) ⟨⟨B,hI,rfl,rfl,rfl,fun _=>Iff.rfl,rfl,hs.us,hs.stay⟩,vs,rfl,hvs,fun i p hp=>?_⟩ hs' l hl
   have hv:=hvr i p hp
   obtain ⟨cs,hcs⟩:=hbx p (List.mem_of_getElem? hp)
   generalize hx:vs.getD i undef=x at hv
   cases hv with
   | bx _ _ _ hn h1 h2 =>
     obtain ⟨k,hk,h0,hv⟩:=h2 _ cs hcs
     exact ⟨hn,h1,k,hk,h0,hv⟩
theorem qy {B0:Base} {fn gfn:Func} {g:Nat} {gc:Code} {ns:List Name} {u:List Nat} {Q:AV→List (Name × Ob)→Prop} {s:St} {e:Exit} (he:e=.ret∨e=.normal) (hu:B0.U0=u)
  (hgf:P.funcs[g]?=some gfn) (hgb:gfn.body=some gc) (hnm:(gfn.name == "runtime.NumGoroutine")=false) (hgn:ns.length≤gfn.ntmps) (hns:∀ p∈ns,nmb s.used p=true)
  (hg:run P ⟨gfn.ntmps,none,cf.G,s.used⟩ [.code gc] (fun e s2=>(e=.ret∨e=.normal)∧LK s s2∧RX (gH P s2 gfn.results.toList) (fun _=>True)∧fq P fn.results.toList u Q .ret (s2.fra s.fr)) (s.fra (mk (aJ 0 (ns.map fun p=>AV.bx p 0)) [] []).fr)) :
  ARX cf (ΦR P fn { B0 with n:=1 } Q) (DI B0 g ns) e s:=by
 intro B hB ds β a w hds hI hs
 obtain ⟨⟨B1,hc,i1,i2,i4,i5,i6,i7,i8⟩,caps,rfl,hcs,hcap⟩:=hI
 have hB1G:B1.G=B0.G:=hc.ext.G
 have:LeavesInM Fence.wide 0 P fn a.tmps (RH { B0 with n:=1 } Q) a.defers .returning w:=by
  rw [hds]
  refine ⟨by simp,.inr ⟨fun h=>by simp [Fence.wide] at h,_,_,g,#[]++caps,rfl,?_,fun _ _=>trivial,?_⟩⟩
  ·exact dB hgf hgb hnm _ _
  have hGg:∀ q∈B.G,w.heap[q.1]?=some q.2∧¬ bE s β q.1:=by
   intro q hq
   obtain ⟨g1,g2⟩:=B.hG q hq
   have hlt:=aq g1
   refine ⟨(hs.frame _ hlt g2).trans g1,fun hb=>?_⟩
   rcases (hs.bQ hb).2.2 with h | h
   ·omega
   ·exact g2 h
  let Bg:Base:={ n:=gfn.ntmps,io:=B.io,G:=B.G,H0:=w.heap,O0:=bE s β,A:=B.A,U0:=s.used,β0:=β,hA:=fun b hb=>Nat.lt_of_lt_of_le (B.hA b hb) hs.size,hG:=hGg }
  have hsg:Sim Bg β (s.fra (mk (aJ 0 (ns.map fun p=>AV.bx p 0)) [] []).fr) ((#[]++caps)++Array.replicate (gfn.ntmps-(#[]++caps).size) undef) w:=by
   refine { tms:=by show (_:Array Value).size=gfn.ntmps;simp;omega,io:=hs.io,size:=Nat.le_refl _,frame:=fun _ _ _=>rfl,slots:=fun t=>?_,objs:=hs.objs,blocks:=fun p k hp hk=>⟨(hs.blocks p k hp hk).1,(hs.blocks p k hp hk).2.1,.inr ⟨p,k,hp,hk,rfl⟩⟩,inj:=hs.inj,us:=fun _ h=>h,stay:=fun _ _=>rfl }
   show VR w.heap (s.own B.A β) s.used s.hp β _ ((mk (aJ 0 (ns.map fun p=>AV.bx p 0)) [] []).fr t)
   rw [eC,aY,if_pos (Nat.zero_le _),Nat.sub_zero,List.getElem?_map]
   cases hp:ns[t]? with
   | none=>exact .un _
   | some p =>
     obtain ⟨c1,c2,k,c3,c4,c5⟩:=hcap t p hp
     have hlt:t<caps.size:=by rw [hcs];exact (List.getElem?_eq_some_iff.1 hp).1
     have e:((#[]++caps)++Array.replicate (gfn.ntmps-(#[]++caps).size) undef).getD t undef=caps.getD t undef:=by
      simp [Array.getD_eq_getD_getElem?,Array.getElem?_append,hlt]
     rw [e]
     have hnb:=hns p (List.mem_of_getElem? hp)
     exact .bx _ _ _ (c1.mono hs.us) c2 fun _ cs _=>⟨k,(hs.stay p c1).trans c3,c4,c5⟩
  have hrun:=aX hg Bg ⟨rfl,rfl,hB.2.2⟩ [] β { tmps:=(#[]++caps)++Array.replicate (gfn.ntmps-(#[]++caps).size) undef,defers:=[] } w rfl hsg
  refine (callsDIn_of_wp (R:=fun e w'=>∃ v,e=.returned v∧LeavesInM Fence.wide 0 P fn a.tmps (RH { B0 with n:=1 } Q) [] .returning w') hgf hgb trivial (wpIn_mono (F:=Fence.wide) hrun fun e2 a2 w2 hq=>?_)).mono ?_
  ·obtain ⟨hd2,s2,β2,⟨he2,hlk,hres,hfq⟩,hs2⟩:=hq
   obtain ⟨_,v2,_,hr2,_⟩:=dD hs2 gfn hres
   have hown2:∀ b,bE s2 β2 b→w.heap.size≤b∨bE s β b:=fun b hb=>(hs2.bQ hb).2.2
   have hust:∀ p,nm s.used p→β2 p=β p:=fun p hp=>hs2.stay p hp
   have hus2:∀ x∈s.used,x∈s2.used:=hs2.us
   have hsame:∀ b,b<w.heap.size→¬ bE s β b→w2.heap[b]?=w.heap[b]?:=fun b hb hn=>hs2.frame b hb hn
   have hz2:w.heap.size≤w2.heap.size:=hs2.size
   have hr:∀ v d,Rep w.heap (s.own B.A β) v d→Rep w2.heap (s2.own B1.A β2) v d:=fun v d hd=>hd.mono (fun b hb hlt=>hsame b hlt (fun h=>hb (.inr h))) (by
    rintro b hb (h1 | h1)
    ·rw [← i6] at h1;exact .inl h1
    ·rcases hown2 b h1 with h | h
     ·omega
     ·exact .inr h)
   have hs4:Sim B1 β2 (s2.fra s.fr) a.tmps w2:=by
    refine { tms:=hs.tms.trans i1,io:=hs2.io.trans i2,size:=?_,frame:=fun b hb ho=>?_,slots:=fun t=>?_,objs:=fun p o ho=>?_,blocks:=fun p k hp hk=>?_,inj:=hs2.inj,us:=fun x hx=>hus2 x (hs.us x (i7 x hx)),stay:=fun p hp=>?_ }
    ·rw [← i4];exact Nat.le_trans hs.size hz2
    ·rw [← i4] at hb ⊢
     have ho':¬ B.O0 b:=fun h=>ho ((i5 b).1 h)
     refine (hsame b (Nat.lt_of_lt_of_le hb hs.size) (fun h=>?_)).trans (hs.frame b hb ho')
     rcases (hs.bQ h).2.2 with h | h
     ·omega
     ·exact ho' h
    ·exact (hs.slots t).mono hr hus2 (fun p hp o' ho=>by obtain ⟨o,h1,h2⟩:=hlk p o' hp ho;exact ⟨o,h1,h2,hust p hp⟩)
    ·have:=hs2.objs p o ho
     rw [← i6]
     exact this
    ·obtain ⟨b1,b2,b3⟩:=hs2.blocks p k hp hk
     refine ⟨b1,by rw [← i6];exact b2,?_⟩
     rw [← i4]
     rcases b3 with b3 | b3
     ·have h3:w.heap.size≤k.b:=b3
      have:=hs.size
      exact .inl (by omega)
     ·rcases (hs.bQ b3).2.2 with h | h
      ·exact .inl h
      ·exact .inr ((i5 _).1 h)
    ·have hp':nm B.U0 p:=hp.mono i7
     exact (hust p (hp'.mono hs.us)).trans ((hs.stay p hp').trans (i8 p hp))
   have hlv:LeavesInM Fence.wide 0 P fn a.tmps (RH { B0 with n:=1 } Q) [] .returning w2:=by
    refine hc.back hs4 (fun w' hs'=>?_)
    obtain ⟨l,v,⟨r,hp',u',τ,hQ,hle⟩,hr,hv⟩:=dD hs' fn hfq
    obtain ⟨β3,hs3,_⟩:=(sE hs' hv).le (τ:=τ) (by show Le B0.U0 τ _ _;rw [hu];exact hle.le)
    exact ⟨v,hr,v,r,hp',u',β3,rfl,hQ,hs3⟩
   rcases he2 with rfl | rfl
   ·exact ⟨hd2,v2,hr2,v2,rfl,hlv⟩
   ·exact ⟨hd2,v2,hr2,v2,rfl,hlv⟩
  ·rintro e u' w' ⟨rfl,v,rfl,hl⟩
   exact hl
 rcases he with rfl | rfl<;>exact this
theorem ARX.le {Φ:Exit→Act→World→Prop} {I J:Base→List Deferred→Prop} {e:Exit} {s:St} (h:ARX cf Φ I e s) (hj:∀ B ds,J B ds→I B ds):ARX cf Φ J e s:=fun B hB ds β a w h1 h2 h3=>h B hB ds β a w h1 (hj B ds h2) h3
theorem yw {B0:Base} {fn:Func} {u:List Nat} {Q:AV→List (Name × Ob)→Prop} {s:St} {e:Exit} (he:e=.ret∨e=.normal) (hu:B0.U0=u) (h:fq P fn.results.toList u Q .ret s) :
 ARX cf (ΦR P fn { B0 with n:=1 } Q) (fun B ds=>CI B0 B ds∧ds=[]) e s:=(Kx he hu h).le fun _ _ h=>h.1
theorem yH {G:List (Nat × Obj)} {f:FuncId} {fn:Func} {c:Code} {args:List AV} {hp:List (Name × Ob)} {u:List Nat} {Q:AV→List (Name × Ob)→Prop} (hf:P.funcs[f]?=some fn) (hb:fn.body=some c)
  (hnm:(fn.name == "runtime.NumGoroutine")=false) (hn:args.length≤fn.ntmps)
  (h:∀ B0:Base,B0.U0=u→ARY P ⟨fn.ntmps,none,G,u⟩ (ΦR P fn { B0 with n:=1 } Q) (fun B ds=>CI B0 B ds∧ds=[]) [.code c] (mk (aJ 0 args) hp u)):HCall P G f args hp u Q:=by
 refine ⟨dB hf hb hnm,fun B β vs w h1 h2 h3 h4 hs=>?_⟩
 have hsz:vs.size=args.length:=hs.tms.trans h1
 have hs':Sim { B with n:=fn.ntmps } β (mk (aJ 0 args) hp u) (vs++Array.replicate (fn.ntmps-vs.size) undef) w:=by
  refine { hs with tms:=by simp;omega,slots:=fun t=>?_ }
  have:=hs.slots t
  by_cases ht:t<vs.size
  ·have e:(vs++Array.replicate (fn.ntmps-vs.size) undef).getD t undef=vs.getD t undef:=by
    simp [Array.getD_eq_getD_getElem?,Array.getElem?_append,ht]
   rw [e];exact this
  ·have e:(mk (aJ 0 args) hp u).fr t=.un:=by
    rw [eC,aY,if_pos (Nat.zero_le _),List.getElem?_eq_none (by omega)];rfl
   rw [e];exact .un _
 have hrun:=h { B with n:=fn.ntmps } h3 { B with n:=fn.ntmps } ⟨rfl,h3,h4⟩ [] β { tmps:=vs++Array.replicate (fn.ntmps-vs.size) undef,defers:=[] } w rfl ⟨⟨.refl _,[],rfl,List.nodup_nil,fun D hD=>by cases hD⟩,rfl⟩ hs'
 exact callsIn_of_wp_marks hf hb trivial hrun
end
end Go.Ab

namespace Go.Ab
structure Trk (W0:World) (C0 X0 C X:Nat→Prop) (W:World):Prop where
 io:wio W=wio W0
 size:W0.heap.size≤W.heap.size
 same:∀ b,b<W0.heap.size→¬ C0 b→¬ X0 b→W.heap[b]?=W0.heap[b]?
 c:∀ b,b<W0.heap.size→C b→C0 b
 x:∀ b,b<W0.heap.size→X b→X0 b
theorem Trk.stp {W0 W W':World} {C0 X0 C X X':Nat→Prop} (h:Trk W0 C0 X0 C X W) (g:Stp W X W' X'):Trk W0 C0 X0 C X' W' :=
 ⟨g.io.trans h.io,Nat.le_trans h.size g.size,fun b hb h1 h2=>(g.same b (Nat.lt_of_lt_of_le hb h.size) (fun hx=>h2 (h.x b hb hx))).trans (h.same b hb h1 h2),h.c,fun b hb hx=>by
  rcases (g.new b hx).1 with h1 | h1
  ·exact h.x b hb h1
  ·have:=h.size;omega⟩
def Itz.trk (z:Itz) (W0:World) (C0 X0:Nat→Prop):Itz :=
 { l:=z.l,w:=z.w,C0:=z.C0,J:=fun n C X W=>z.J n C X W∧Trk W0 C0 X0 C X W,Jx:=fun n C X W=>z.Jx n C X W∧Trk W0 C0 X0 C X W }
theorem Itz.Ok.trk {P:Program} {G:List (Nat × Obj)} {N:Nat} {xs:Nat→List D} {z:Itz} (h:z.Ok P G N xs) (W0:World) (C0 X0:Nat→Prop):(z.trk W0 C0 X0).Ok P G N xs:=by
 refine ⟨h.lt,fun n C X W X' W' hj hs=>⟨h.stab n C X W X' W' hj.1 hs,hj.2.stp hs⟩,fun n C X W X' W' hj hs=>⟨h.stabx n C X W X' W' hj.1 hs,hj.2.stp hs⟩,fun n C X W vs hn hj hv hr=>?_⟩
 refine (h.round n C X W vs hn hj.1 hv hr).mono ?_
 rintro e W' ⟨C',hc,hq⟩
 have ht:Trk W0 C0 X0 C' X W':=by
  obtain ⟨c1,c2,c3,c4,c5⟩:=hc
  refine ⟨c1.trans hj.2.io,Nat.le_trans hj.2.size c2,fun b hb h1 h2=>(c3 b (Nat.lt_of_lt_of_le hb hj.2.size) (fun hx=>h1 (hj.2.c b hb hx))).trans (hj.2.same b hb h1 h2),fun b hb hx=>?_,hj.2.x⟩
  rcases (c5 b hx).1 with g | g
  ·exact hj.2.c b hb g
  ·have:=hj.2.size;omega
 refine ⟨C',hc,?_⟩
 rcases hq with ⟨h1,h2⟩ | ⟨h1,h2⟩
 ·exact .inl ⟨h1,h2,ht⟩
 ·exact .inr ⟨h1,h2,ht⟩
section
variable {P:Program} {cf:Cf} {G:List (Nat × Obj)} {N:Nat} {xs:Nat→List D} {z:Itz} {k:List It} {s:St}
end
end Go.Ab

namespace Go.Proofs.YtejpnabbmgpmaaaGreatDoor
open Go.Ab
theorem D2 {G} (l:List Int) (hl:l.length≤1000000):HCall Tryz.prog G 134 [.d (.sl none (l.map i64))] [] [] (fun r hp'=>r=.vw [0] 0 l.length∧hp'=[([0],.arr none (l.map i64))]):=by
 refine HCall.thaw (Q:=fun r hp'=>(r=.d .nils∧hp'=[]∧l=[])∨(r=.vw [0] 0 l.length∧hp'=[([0],.arr none (l.map i64))])) ?_ 0 none (by simp) ?_
 ·refine ao Tryz.func134 rfl (by decide +kernel) (by simp [Tryz.ntmps134]) (veil fun E=>?_)
  simp only [go_sem]
  refine q0 E (e:=3) (by simp only [go_sem]) (by simp only [go_sem]) rfl fun b hb=>?_
  simp only [go_sem]
  refine aV E (fun h=>?_) (fun h=>?_)<;>simp only [go_sem]
  ·have:l=[]:=by simpa using hb h
   subst this
   refine ⟨_,[],[],id,.inl ⟨rfl,rfl,rfl⟩,?_⟩
   simp only [go_sem]
  ·refine ⟨by omega,_,_,[0],tau [([0],[7])],.inr ⟨rfl,rfl⟩,?_⟩
   simp only [go_sem]
 ·rintro r hp' (⟨rfl,rfl,rfl⟩ | h)
  ·exact .inr ⟨rfl,rfl,rfl,rfl⟩
  ·exact .inl h
theorem Du {G} (l:List EF) (hl:l.length≤1000000):HCall Tryz.prog G 144 [.d (efD l)] [] [] (fun r hp'=>r=.vw [0] 0 l.length∧hp'=[([0],.arr (some 3) (l.map fD))]):=by
 refine HCall.thaw (Q:=fun r hp'=>(r=.d .nils∧hp'=[]∧l=[])∨(r=.vw [0] 0 l.length∧hp'=[([0],.arr (some 3) (l.map fD))])) ?_ 0 (some 3) (by simp) ?_
 ·unfold efD
  refine ao Tryz.func144 rfl (by decide +kernel) (by simp [Tryz.ntmps144]) (veil fun E=>?_)
  simp only [go_sem]
  refine q0 E (e:=89) (by simp only [go_sem]) (by simp only [go_sem]) rfl fun b hb=>?_
  simp only [go_sem]
  refine aV E (fun h=>?_) (fun h=>?_)<;>simp only [go_sem]
  ·have:l=[]:=by simpa using hb h
   subst this
   refine ⟨_,[],[],id,.inl ⟨rfl,rfl,rfl⟩,?_⟩
   simp only [go_sem]
  ·refine ⟨by omega,_,_,[0],tau [([0],[7])],.inr ⟨rfl,rfl⟩,?_⟩
   simp only [go_sem]
 ·rintro r hp' (⟨rfl,rfl,rfl⟩ | h)
  ·exact .inr ⟨rfl,rfl,rfl,rfl⟩
  ·exact .inl h
theorem ov {G} (n:EN) (hl:n.l.length≤1000000):HCall Tryz.prog G 106 [.d (enD n)] [] [] (fun r hp'=>r=.vw [0] 0 (aj n).length∧hp'=[([0],.arr none ((aj n).map i64))]):=by
 unfold enD efD
 refine ao Tryz.func106 rfl (by decide +kernel) (by simp [Tryz.ntmps106]) (veil fun E=>?_)
 simp only [go_sem]
 refine ae E (mR n.k) rfl rfl (by simp) ?_
 rintro _ rfl
 simp only [go_sem]
 have hk3:=cI n.k
 refine ⟨by omega,?_⟩
 refine aA E [16] none _ rfl (by simp only [go_sem];rfl) ?_
 simp only [go_sem]
 obtain ⟨K,hK⟩:∃ K,K=[n.a,n.b,n.c].take (aG n.k):=⟨_,rfl⟩
 have hKl:K.length=aG n.k:=by rw [hK];simp;omega
 have hKd:List.take (aG n.k) [i64 n.a,i64 n.b,i64 n.c]=K.map i64:=by rw [hK,List.map_take];rfl
 rw [Nat.sub_zero,hKd]
 refine ab E [.d (.sl none (K.map i64))] [] [] (D2 K (by omega)) rfl rfl ⟨by simp only [go_sem],by rw [aa];decide⟩ rfl (by simp only [go_sem]) (by simp only [go_sem]) ?_
 rintro _ _ ⟨rfl,rfl⟩
 simp only [go_sem]
 refine aV E (fun hp=>?_) (fun hp=>?_)<;>simp only [go_sem]
 ·refine aU E (X:={ i:Nat // i≤n.l.length }) (fun x=>[(4,.vw [99] 0 (K.length+x.1)),(24,.d (.sl (some 3) (n.l.map fD))),(25,.d (i64 n.l.length)),(26,.d (i64 x.1))]) (fun x=>[([99],.arr none ((K++(n.l.take x.1).map (·.to)).map i64))]) [99] (fun x=>n.l.length-x.1) ⟨0,Nat.zero_le _⟩ (tau [([99],[20,0])]) ?_ ?_
  ·simp only [go_sem]
   rw [List.append_nil]
  rintro ⟨i,hi⟩ E0
  refine bk E0 fun Q' hQ E'=>?_
  simp only at hi ⊢
  simp only [go_sem]
  refine ai E' (fun h1=>?_) (fun h1=>?_)<;>simp only [go_sem]
  ·have h1':i<n.l.length:=by omega
   have hx:(n.l.map fD).getD i .nilp=.agg [.str n.l[i].nm,.str n.l[i].var,i64 n.l[i].to]:=by simp [h1',fD]
   refine ⟨by omega,?_⟩
   rw [hx]
   simp only [go_sem]
   have htk:List.take (K.length+i) (List.map i64 (K++List.map (·.to) (List.take i n.l)))++[i64 n.l[i].to]=List.map i64 (K++List.map (·.to) (List.take (i+1) n.l)):=by
    rw [List.take_of_length_le (by simp;omega),List.take_succ_eq_append_getElem h1']
    simp only [List.map_append,List.map_cons,List.map_nil,List.append_assoc]
   rw [htk,al ⟨by omega,by omega⟩,hQ]
   simp only [go_sem]
   refine ⟨by omega,⟨i+1,by omega⟩,by show n.l.length-(i+1)<_;omega,tau [([99],[34])],?_⟩
   simp only [go_sem]
   exact ⟨rfl,rfl⟩
  ·rw [hQ]
   simp only [go_sem]
   have hi2:i=n.l.length:=by omega
   subst hi2
   have hkk:K++List.map (·.to) (List.take n.l.length n.l)=aj n:=by
    rw [List.take_length,hK]
    simp [aj,hp]
   have hkl:(aj n).length=K.length+n.l.length:=by rw [← hkk];simp
   rw [hkk,← hkl]
   refine ⟨_,_,[0],tau [([0],[99])],⟨rfl,rfl⟩,?_⟩
   simp only [go_sem]
 ·have hkk:K=aj n:=by
   rw [hK]
   simp [aj,hp]
  rw [hkk]
  refine ⟨_,_,[0],tau [([0],[20,0])],⟨rfl,rfl⟩,?_⟩
  simp only [go_sem]
end Go.Proofs.YtejpnabbmgpmaaaGreatDoor

namespace Go.Proofs.YtejpnabbmgpmaaaGreatDoor
open Go.Ab
theorem H9:Tryz.prog.fy 89=true:=by kernel_rfl
theorem bh {ns:List EN} {i:Nat} (h:i<ns.length):ndE ns i=ns[i]:=by simp [ndE,h]
def fdE (l:List EF) (i:Nat):EF:=l.getD i ⟨[],[],0⟩
theorem mH {l:List EF} {i:Nat} (h:i<l.length):(l.map fD).getD i .nilp=.agg [.str (fdE l i).nm,.str (fdE l i).var,i64 (fdE l i).to]:=by simp [h,fD,fdE]
theorem bO {ns:List EN} {i:Nat} (h:i<ns.length):(ns.map enD).getD i .nilp=.agg [i64 (ndE ns i).k,i64 (ndE ns i).a,i64 (ndE ns i).b,i64 (ndE ns i).c,i64 (ndE ns i).n,.str (ndE ns i).name,.str (ndE ns i).s,.sl (some 3) ((ndE ns i).l.map fD),i64 (ndE ns i).pos]:=by simp [h,enD,efD,ndE]
end Go.Proofs.YtejpnabbmgpmaaaGreatDoor

namespace Go.Proofs.YtejpnabbmgpmaaaGreatDoor
open Go.Ab
def da (n:EN):Bool:=if n.k=4∨n.k=5∨n.k=7∨n.k=8∨n.k=12 then bD n.name else if n.k=13 then dQ n.name else n.name.isEmpty
def bH (n:EN):Bool :=
 if n.k=1 then n.s.isEmpty else if n.k=2 then (decide (n.n=0) || decide (n.n=1)) && n.s.isEmpty else if n.k=10 then decide (1≤n.n) && decide (n.n≤7) && n.s.isEmpty
 else if n.k=3 then decide (n.n=0) && decide (n.s.length≤200) else decide (n.n=0) && n.s.isEmpty
def dG (k:Int) (f:EF):Bool:=if k=11 then bD f.nm && f.var.isEmpty else dQ f.nm && bD f.var
def bm (n:EN):Bool :=
 if aw n.k then (n.l.all (dG n.k)) && (decide ((if n.k=14 then 1 else 0)≤n.l.length) && decide (n.l.length≤30) && decide ((n.l.map (·.nm)).Nodup)) else n.l.isEmpty
def ez (n:EN):Bool:=([n.a,n.b,n.c].drop (aG n.k)).all fun x=>decide (x=0)
def ar (n:EN):Bool:=decide (1≤n.k) && decide (n.k≤14) && decide (0≤n.pos) && decide (n.pos≤1048576) && (da n && bH n && bm n && ez n)
def b7 (ns:List EN) (i:Nat):Bool:=((aj (ndE ns i)).all fun k=>decide (0≤k) && decide (k<(i:Int))) && (decide ((ndE ns i).k≠8) || decide ((ndE ns (ndE ns i).a.toNat).k=5))
def ox (ns:List EN) (k:Nat):Nat:=(ns.flatMap aj).countP fun x=>decide (x=(k:Int))
def vQ (d:List Int) (n:EN):Int:=(aj n).foldl (fun m k=>max m (d.getD k.toNat 0)) 0+1
def bw:List EN→List Int→List Int
 | [],d=>d
 | n::r,d=>bw r (d++[vQ d n])
def fw (ns:List EN):Int:=(bw ns []).getD (ns.length-1) 0
def okE (ns:List EN):Bool:=(List.range ns.length).all fun i=>ar (ndE ns i) && b7 ns i
def gO (ns:List EN):Bool:=(List.range (ns.length-1)).all fun k=>decide (ox ns k=1)
def dt (ns:List EN):Int:=if ns.length=0∨600<ns.length then 8 else if okE ns && gO ns then (if 100<fw ns then 6 else 0) else 4
end Go.Proofs.YtejpnabbmgpmaaaGreatDoor

namespace Go.Proofs.YtejpnabbmgpmaaaGreatDoor
open Go.Ab
theorem LJ:yJ Tryz.prog 4=some (.bool false):=by kernel_rfl
theorem qn {κ:Type} [DecidableEq κ] (a b:κ) (d:D):∀ ms:List (κ × D),mlook (mset ms a d) b=if a=b then some d else mlook ms b
 | []=>rfl
 | q::r=>by
   simp only [mset]
   split
   ·rename_i e
    simp only [mlook]
    rw [e]
    split<;>rfl
   ·rename_i e
    simp only [mlook,qn a b d r]
    split
    ·rename_i e2
     rw [if_neg (fun e3=>e (e2.trans e3.symm))]
    ·rfl
def setOf (l:List (List UInt8)):List (List UInt8 × D):=l.foldl (fun ms u=>mset ms u (.bool true)) []
theorem setOf_snoc (l:List (List UInt8)) (u:List UInt8):setOf (l++[u])=mset (setOf l) u (.bool true):=by simp [setOf]
theorem B7 (l:List (List UInt8)) (u:List UInt8):(mlook (setOf l) u).getD (.bool false)=.bool (decide (u∈l)):=by
 suffices h:∀ l:List (List UInt8),mlook (setOf l) u=if u∈l then some (.bool true) else none by
  rw [h];split<;>simp_all
 intro l
 induction hl:l.length generalizing l with
 | zero=>have:l=[]:=List.length_eq_zero_iff.1 hl;subst this;rfl
 | succ n ih =>
   have hne:l≠[]:=by intro e;rw [e] at hl;simp at hl
   obtain ⟨r,x,rfl⟩:∃ r x,l=r++[x]:=⟨l.dropLast,l.getLast hne,(List.dropLast_concat_getLast hne).symm⟩
   rw [setOf_snoc,qn,ih r (by simpa using hl)]
   by_cases h1:x=u
   ·subst h1;simp
   ·rw [if_neg h1]
    simp [Ne.symm h1]
def twice (l:List (List UInt8)):Bool:=!decide l.Nodup
theorem xY {l:List (List UInt8)} {i:Nat} (hi:i<l.length) (h:(l.take i).Nodup) (h2:l.getD i [] ∉ l.take i):(l.take (i+1)).Nodup:=by
 have e:l.getD i []=l[i]:=by simp [hi]
 rw [e] at h2
 rw [List.take_succ_eq_append_getElem hi,List.nodup_append]
 exact ⟨h,by simp,fun x hx y hy=>by rw [List.mem_singleton.1 hy];rintro rfl;exact h2 hx⟩
theorem Bc {l:List (List UInt8)} {i:Nat} (hi:i<l.length) (h2:l.getD i []∈l.take i):twice l=true:=by
 have e:l.getD i []=l[i]:=by simp [hi]
 rw [e] at h2
 have:¬ l.Nodup:=fun hn=>by
  have hs:(l.take (i+1)).Nodup:=hn.sublist (List.take_sublist _ _)
  rw [List.take_succ_eq_append_getElem hi,List.nodup_append] at hs
  exact hs.2.2 _ h2 _ (by simp) rfl
 simp [twice,this]
theorem DB {G} (l:List (List UInt8)) (hl:l.length≤1000000):HP Tryz.prog G 46 [strs l] (fun r=>r=.d (.bool (twice l))):=by
 refine an Tryz.func46 rfl (by decide +kernel) (by simp [Tryz.ntmps46]) (veil fun E=>?_)
 unfold strs
 simp only [go_sem]
 refine Ai E (by simp) (by simp [aa]) ?_
 simp only [go_sem]
 refine dN E (X:={ i:Nat // i≤l.length∧(l.take i).Nodup }) (fun x=>[(3,.mp [6]),(7,.d (.sl none (l.map .str))),(8,.d (i64 l.length)),(9,.d (i64 x.1))]) (fun x=>[([6],.map (menc D.str (setOf (l.take x.1))))]) [6] (fun x=>l.length-x.1) ⟨0,by simp⟩ ?_ ?_
 ·simp only [go_sem]
  all_goals rfl
 rintro ⟨i,hi,hn⟩ E'
 simp only [go_sem]
 refine ai E' (fun h1=>?_) (fun h1=>?_)<;>simp only [go_sem]
 ·have hi':i<l.length:=by omega
  refine ⟨by omega,?_⟩
  rw [iV hi']
  simp only [go_sem]
  refine CK E' [6] (setOf (l.take i)) (l.getD i []) (.bool false) (by rw [D6]) (Dd (by rw [ti9])) LJ rfl rfl rfl (by simp) ?_
  simp only [go_sem]
  rw [B7]
  refine ai E' (fun h2=>?_) (fun h2=>?_)<;>simp only [go_sem]
  ·rw [Bc hi' h2]
  refine uZ E' [6] (setOf (l.take i)) (l.getD i []) (.bool true) (by rw [D6]) (Dd (by rw [ti9])) rfl rfl rfl rfl rfl ?_
  simp only [go_sem]
  refine ⟨⟨i+1,by omega,xY hi' hn h2⟩,by show l.length-(i+1)<_;omega,by rw [al ⟨by omega,by omega⟩];rfl,?_⟩
  rw [List.take_succ_eq_append_getElem hi',setOf_snoc]
  simp [hi']
 ·have hil:i=l.length:=by omega
  subst hil
  rw [List.take_length] at hn
  simp [twice,hn]
structure eY (B:Nat) (n:EN):Prop where
 nm:n.name.length≤B
 s:n.s.length≤B
 l:n.l.length≤1000000
 f:∀ f∈n.l,f.nm.length≤B∧f.var.length≤B
abbrev BIG:Nat:=9223372036854775807
theorem kG (l:List UInt8):(l == [])=l.isEmpty:=by cases l<;>rfl
theorem FZ {G} (n:EN) (h:eY BIG n):HP Tryz.prog G 102 [enD n] (fun r=>r=.d (.bool (da n))):=by
 generalize hb:da n=b
 unfold da at hb
 have c1:=wP (G:=G) n.name h.nm
 have c2:=Dh (G:=G) n.name h.nm
 generalize bD n.name=x at c1 hb
 generalize dQ n.name=y at c2 hb
 unfold enD efD
 refine an Tryz.func102 rfl (by decide +kernel) (by simp [Tryz.ntmps102]) (veil fun E=>?_)
 simp only [go_sem]
 refine ai E (fun h4=>?_) (fun h4=>?_)<;>simp only [go_sem]
 ·rw [decide_eq_true h4]
  try simp only [go_sem]
  refine ae E (c1) rfl rfl (by simp) ?_
  rintro _ rfl
  simp only [go_sem]
  subst hb
  rw [if_pos (by omega)]
 refine ai E (fun h5=>?_) (fun h5=>?_)<;>simp only [go_sem]
 ·rw [decide_eq_true h5]
  try simp only [go_sem]
  refine ae E (c1) rfl rfl (by simp) ?_
  rintro _ rfl
  simp only [go_sem]
  subst hb
  rw [if_pos (by omega)]
 refine ai E (fun h7=>?_) (fun h7=>?_)<;>simp only [go_sem]
 ·rw [decide_eq_true h7]
  try simp only [go_sem]
  refine ae E (c1) rfl rfl (by simp) ?_
  rintro _ rfl
  simp only [go_sem]
  subst hb
  rw [if_pos (by omega)]
 refine ai E (fun h8=>?_) (fun h8=>?_)<;>simp only [go_sem]
 ·rw [decide_eq_true h8]
  try simp only [go_sem]
  refine ae E (c1) rfl rfl (by simp) ?_
  rintro _ rfl
  simp only [go_sem]
  subst hb
  rw [if_pos (by omega)]
 refine ai E (fun h12=>?_) (fun h12=>?_)<;>simp only [go_sem]
 ·try simp only [go_sem]
  refine ae E (c1) rfl rfl (by simp) ?_
  rintro _ rfl
  simp only [go_sem]
  subst hb
  rw [if_pos (by omega)]
 refine ai E (fun h13=>?_) (fun h13=>?_)<;>simp only [go_sem]
 ·refine ae E (c2) rfl rfl (by simp) ?_
  rintro _ rfl
  simp only [go_sem]
  subst hb
  rw [if_neg (by omega),if_pos h13]
 ·subst hb
  rw [if_neg (by omega),if_neg h13,kG]
theorem Gq {G} (k:Int) (f:EF) (h1:f.nm.length≤BIG) (h2:f.var.length≤BIG):HP Tryz.prog G 133 [i64 k,fD f] (fun r=>r=.d (.bool (dG k f))):=by
 generalize hb:dG k f=b
 unfold dG at hb
 have c1:=wP (G:=G) f.nm h1
 have c2:=Dh (G:=G) f.nm h1
 have c3:=wP (G:=G) f.var h2
 generalize bD f.nm=x at c1 hb
 generalize dQ f.nm=y at c2 hb
 generalize bD f.var=z at c3 hb
 unfold fD
 refine an Tryz.func133 rfl (by decide +kernel) (by simp [Tryz.ntmps133]) (veil fun E=>?_)
 simp only [go_sem]
 refine ai E (fun h=>?_) (fun h=>?_)<;>simp only [go_sem]
 ·refine ae E (c1) rfl rfl (by simp) ?_
  rintro _ rfl
  simp only [go_sem]
  repeat (first
   | (apply cq E;(· simp only [go_sem]);(· intro h;(try simp only [bq] at h);simp only [↓h,go_sem];rfl);simp only [go_sem])
   | (apply bl E;(· simp only [go_sem]);(· intro h;(try simp only [bq] at h);simp only [↓h,go_sem];rfl);(· intro h;(try simp only [bq] at h);simp only [↓h,go_sem];rfl);simp only [go_sem])
   | (apply bj E;(· simp only [go_sem]);(· rfl);(· intro h h';(try simp only [bq] at h h');simp only [↓h,↓h',go_sem];rfl);simp only [go_sem])
   | (apply aQ E;(· simp only [go_sem]);(· rfl);(· intro h h';(try simp only [bq] at h h');simp only [↓h,↓h',go_sem];rfl);(· intro h h';(try simp only [bq] at h h');simp only [↓h,↓h',go_sem];rfl);simp only [go_sem])
   | (apply b9 E;(· decide);simp only [go_sem]))
  rw [if_pos h,← kG] at hb
  rw [hb]
 ·refine ae E (c2) rfl rfl (by simp) ?_
  rintro _ rfl
  simp only [go_sem]
  repeat (first
   | (apply cq E;(· simp only [go_sem]);(· intro h;(try simp only [bq] at h);simp only [↓h,go_sem];rfl);simp only [go_sem])
   | (apply bl E;(· simp only [go_sem]);(· intro h;(try simp only [bq] at h);simp only [↓h,go_sem];rfl);(· intro h;(try simp only [bq] at h);simp only [↓h,go_sem];rfl);simp only [go_sem])
   | (apply bj E;(· simp only [go_sem]);(· rfl);(· intro h h';(try simp only [bq] at h h');simp only [↓h,↓h',go_sem];rfl);simp only [go_sem])
   | (apply aQ E;(· simp only [go_sem]);(· rfl);(· intro h h';(try simp only [bq] at h h');simp only [↓h,↓h',go_sem];rfl);(· intro h h';(try simp only [bq] at h h');simp only [↓h,↓h',go_sem];rfl);simp only [go_sem])
   | (apply b9 E;(· decide);simp only [go_sem]))
  (first | (apply iD E;(· simp only [go_sem]);(· intro h hk;(try simp only [bq] at h);refine ae E (c3) rfl (by simp only [↓h,go_sem]<;>rfl) (by simp) ?_;rintro _ rfl;exact hk);simp only [go_sem]) | (apply fE E;(· simp only [go_sem]);(· rfl);(· intro h h' hk;(try simp only [bq] at h h');refine ae E (c3) rfl (by simp only [↓h,↓h',go_sem]<;>rfl) (by simp) ?_;rintro _ rfl;exact hk);simp only [go_sem]))
  repeat (first
   | (apply cq E;(· simp only [go_sem]);(· intro h;(try simp only [bq] at h);simp only [↓h,go_sem];rfl);simp only [go_sem])
   | (apply bl E;(· simp only [go_sem]);(· intro h;(try simp only [bq] at h);simp only [↓h,go_sem];rfl);(· intro h;(try simp only [bq] at h);simp only [↓h,go_sem];rfl);simp only [go_sem])
   | (apply bj E;(· simp only [go_sem]);(· rfl);(· intro h h';(try simp only [bq] at h h');simp only [↓h,↓h',go_sem];rfl);simp only [go_sem])
   | (apply aQ E;(· simp only [go_sem]);(· rfl);(· intro h h';(try simp only [bq] at h h');simp only [↓h,↓h',go_sem];rfl);(· intro h h';(try simp only [bq] at h h');simp only [↓h,↓h',go_sem];rfl);simp only [go_sem])
   | (apply b9 E;(· decide);simp only [go_sem]))
  rw [if_neg h] at hb
  rw [hb]
theorem Hc {G} (n:EN):HP Tryz.prog G 103 [enD n] (fun r=>r=.d (.bool (bH n))):=by
 generalize hb:bH n=b
 unfold bH at hb
 simp only [← kG] at hb
 unfold enD efD
 refine an Tryz.func103 rfl (by decide +kernel) (by simp [Tryz.ntmps103]) (veil fun E=>?_)
 simp only [go_sem]
 refine ai E (fun h1=>?_) (fun h1=>?_)<;>simp only [go_sem]
 ·rw [if_pos h1] at hb
  rw [hb]
 rw [if_neg h1] at hb
 refine ai E (fun h2=>?_) (fun h2=>?_)<;>simp only [go_sem]
 ·rw [if_pos h2] at hb
  repeat (first
   | (apply cq E;(· simp only [go_sem]);(· intro h;(try simp only [bq] at h);simp only [↓h,go_sem];rfl);simp only [go_sem])
   | (apply bl E;(· simp only [go_sem]);(· intro h;(try simp only [bq] at h);simp only [↓h,go_sem];rfl);(· intro h;(try simp only [bq] at h);simp only [↓h,go_sem];rfl);simp only [go_sem])
   | (apply bj E;(· simp only [go_sem]);(· rfl);(· intro h h';(try simp only [bq] at h h');simp only [↓h,↓h',go_sem];rfl);simp only [go_sem])
   | (apply aQ E;(· simp only [go_sem]);(· rfl);(· intro h h';(try simp only [bq] at h h');simp only [↓h,↓h',go_sem];rfl);(· intro h h';(try simp only [bq] at h h');simp only [↓h,↓h',go_sem];rfl);simp only [go_sem])
   | (apply b9 E;(· decide);simp only [go_sem]))
  rw [hb]
 rw [if_neg h2] at hb
 refine ai E (fun h3=>?_) (fun h3=>?_)<;>simp only [go_sem]
 ·rw [if_pos h3] at hb
  repeat (first
   | (apply cq E;(· simp only [go_sem]);(· intro h;(try simp only [bq] at h);simp only [↓h,go_sem];rfl);simp only [go_sem])
   | (apply bl E;(· simp only [go_sem]);(· intro h;(try simp only [bq] at h);simp only [↓h,go_sem];rfl);(· intro h;(try simp only [bq] at h);simp only [↓h,go_sem];rfl);simp only [go_sem])
   | (apply bj E;(· simp only [go_sem]);(· rfl);(· intro h h';(try simp only [bq] at h h');simp only [↓h,↓h',go_sem];rfl);simp only [go_sem])
   | (apply aQ E;(· simp only [go_sem]);(· rfl);(· intro h h';(try simp only [bq] at h h');simp only [↓h,↓h',go_sem];rfl);(· intro h h';(try simp only [bq] at h h');simp only [↓h,↓h',go_sem];rfl);simp only [go_sem])
   | (apply b9 E;(· decide);simp only [go_sem]))
  rw [hb]
 rw [if_neg h3] at hb
 refine ai E (fun h4=>?_) (fun h4=>?_)<;>simp only [go_sem]
 ·rw [if_pos h4] at hb
  repeat (first
   | (apply cq E;(· simp only [go_sem]);(· intro h;(try simp only [bq] at h);simp only [↓h,go_sem];rfl);simp only [go_sem])
   | (apply bl E;(· simp only [go_sem]);(· intro h;(try simp only [bq] at h);simp only [↓h,go_sem];rfl);(· intro h;(try simp only [bq] at h);simp only [↓h,go_sem];rfl);simp only [go_sem])
   | (apply bj E;(· simp only [go_sem]);(· rfl);(· intro h h';(try simp only [bq] at h h');simp only [↓h,↓h',go_sem];rfl);simp only [go_sem])
   | (apply aQ E;(· simp only [go_sem]);(· rfl);(· intro h h';(try simp only [bq] at h h');simp only [↓h,↓h',go_sem];rfl);(· intro h h';(try simp only [bq] at h h');simp only [↓h,↓h',go_sem];rfl);simp only [go_sem])
   | (apply b9 E;(· decide);simp only [go_sem]))
  rw [← hb,show decide ((n.s.length:Int)≤200)=decide (n.s.length≤200) from decide_eq_decide.2 (by omega)]
 rw [if_neg h4] at hb
 repeat (first
  | (apply cq E;(· simp only [go_sem]);(· intro h;(try simp only [bq] at h);simp only [↓h,go_sem];rfl);simp only [go_sem])
  | (apply bl E;(· simp only [go_sem]);(· intro h;(try simp only [bq] at h);simp only [↓h,go_sem];rfl);(· intro h;(try simp only [bq] at h);simp only [↓h,go_sem];rfl);simp only [go_sem])
  | (apply bj E;(· simp only [go_sem]);(· rfl);(· intro h h';(try simp only [bq] at h h');simp only [↓h,↓h',go_sem];rfl);simp only [go_sem])
  | (apply aQ E;(· simp only [go_sem]);(· rfl);(· intro h h';(try simp only [bq] at h h');simp only [↓h,↓h',go_sem];rfl);(· intro h h';(try simp only [bq] at h h');simp only [↓h,↓h',go_sem];rfl);simp only [go_sem])
  | (apply b9 E;(· decide);simp only [go_sem]))
 rw [hb]
theorem pW {p:EF→Bool} {l:List EF} {i:Nat} (h:i<l.length) (ha:(l.take i).all p=true) (hb:p l[i]=true):(l.take (i+1)).all p=true:=by
 rw [List.take_succ_eq_append_getElem h,List.all_append,ha]
 simp [hb]
theorem ry {l:List EF} {i:Nat} (h:i<l.length):(l.map fD).getD i .nilp=.agg [.str l[i].nm,.str l[i].var,i64 l[i].to]:=by simp [h,fD]
theorem len_nil (l:List EF):decide ((l.length:Int)=0)=l.isEmpty:=by cases l<;>simp<;>omega
theorem FY {G} (n:EN) (h:eY BIG n):HP Tryz.prog G 104 [enD n] (fun r=>r=.d (.bool (bm n))):=by
 generalize hb:bm n=b
 unfold bm at hb
 have hl:=h.l
 unfold enD efD
 refine an Tryz.func104 rfl (by decide +kernel) (by simp [Tryz.ntmps104]) (veil fun E=>?_)
 simp only [go_sem]
 refine ae E (mR n.k) rfl rfl (by simp) ?_
 rintro _ rfl
 simp only [go_sem]
 refine aV E (fun h1=>?_) (fun h1=>?_)<;>simp only [go_sem]
 ·rw [if_neg (by simpa using h1),← len_nil] at hb
  rw [hb]
 rw [if_pos (by simpa using h1)] at hb
 refine wW E 3 98 none rfl (by rw [aa];decide) ?_
 simp only [go_sem]
 refine aU E (X:={ i:Nat // i≤n.l.length∧(n.l.take i).all (dG n.k)=true }) (fun x=>[(1,.bx [1] 0),(3,.vw [98] 0 x.1),(17,.d (.sl (some 3) (n.l.map fD))),(18,.d (i64 n.l.length)),(19,.d (i64 x.1))])
  (fun x=>[([1],.box [.d (i64 n.k),.d (i64 n.a),.d (i64 n.b),.d (i64 n.c),.d (i64 n.n),.d (.str n.name),.d (.str n.s),.d (.sl (some 3) (n.l.map fD)),.d (i64 n.pos)]),([98],.arr none ((n.l.take x.1).map fun f=>.str f.nm))]) [1,98] (fun x=>n.l.length-x.1) ⟨0,by simp⟩ id ?_ ?_
 ·simp only [go_sem]
  all_goals rfl
 rintro ⟨i,hi,hall⟩ E0
 refine bk E0 fun Q' hQ E'=>?_
 simp only at hi hall ⊢
 simp only [go_sem]
 refine ai E' (fun g1=>?_) (fun g1=>?_)<;>simp only [go_sem]
 ·have hi':i<n.l.length:=by omega
  refine ⟨by omega,?_⟩
  rw [ry hi']
  simp only [go_sem]
  obtain ⟨q1,q2⟩:=h.f _ (List.getElem_mem hi')
  refine ae E' (Gq n.k n.l[i] q1 q2) rfl rfl (by simp) ?_
  rintro _ rfl
  simp only [go_sem]
  refine aV E' (fun g2=>?_) (fun g2=>?_)<;>simp only [go_sem]
  ·rw [hQ]
   simp only [go_sem]
   have g2':dG n.k n.l[i]=false:=by simpa using g2
   have:n.l.all (dG n.k)=false:=List.all_eq_false.2 ⟨_,List.getElem_mem hi',by rw [g2'];decide⟩
   rw [← hb,this]
   rfl
  ·have g2':dG n.k n.l[i]=true:=by simpa using g2
   refine ⟨by omega,?_⟩
   rw [hQ]
   simp only [go_sem]
   refine ⟨⟨i+1,by omega,pW hi' hall g2'⟩,by show n.l.length-(i+1)<_;omega,tau [([98],[32])],?_⟩
   rw [al ⟨by omega,by omega⟩]
   rw [show List.take i (List.map (fun f:EF=>D.str f.nm) (List.take i n.l))++[.str n.l[i].nm]=(n.l.take (i+1)).map fun f=>.str f.nm by
    rw [List.take_of_length_le (by simp;omega),List.take_succ_eq_append_getElem hi',List.map_append];rfl]
   simp only [go_sem]
   all_goals rfl
 ·rw [hQ]
  have h3:i=n.l.length:=by omega
  subst h3
  rw [List.take_length] at *
  rw [hall,Bool.true_and] at hb
  simp only [go_sem]
  refine ai E (fun k1=>?_) (fun k1=>?_)<;>simp only [go_sem]
  ·rw [if_pos k1] at hb
   refine aK E (fun k2=>?_) (fun k2=>?_)<;>simp only [go_sem]
   ·refine aK E (fun k3=>?_) (fun k3=>?_)<;>simp only [go_sem]
    ·have ht:=DB (G:=G) (n.l.map (·.nm)) (by rw [List.length_map];exact hl)
     unfold strs at ht
     rw [List.map_map,show (D.str ∘ fun f:EF=>f.nm)=fun f=>D.str f.nm from rfl] at ht
     rw [ir]
     simp only [go_sem]
     refine mI E [([98],none,n.l.map fun f=>.str f.nm)] ht (by rintro _ rfl;rfl) (by simp only [go_sem]) rfl (by simp only [go_sem]) (by simp) ?_
     rintro _ rfl
     simp only [go_sem]
     rw [← hb,decide_eq_true (by omega),decide_eq_true (by omega)]
     simp [twice]
    ·rw [← hb,decide_eq_false (p:=n.l.length≤30) (by omega),Bool.and_false,Bool.false_and]
   ·rw [← hb,decide_eq_false (by omega),Bool.false_and,Bool.false_and]
  ·rw [if_neg k1] at hb
   refine aK E (fun k2=>?_) (fun k2=>?_)<;>simp only [go_sem]
   ·refine aK E (fun k3=>?_) (fun k3=>?_)<;>simp only [go_sem]
    ·have ht:=DB (G:=G) (n.l.map (·.nm)) (by rw [List.length_map];exact hl)
     unfold strs at ht
     rw [List.map_map,show (D.str ∘ fun f:EF=>f.nm)=fun f=>D.str f.nm from rfl] at ht
     rw [ir]
     simp only [go_sem]
     refine mI E [([98],none,n.l.map fun f=>.str f.nm)] ht (by rintro _ rfl;rfl) (by simp only [go_sem]) rfl (by simp only [go_sem]) (by simp) ?_
     rintro _ rfl
     simp only [go_sem]
     rw [← hb,decide_eq_true (by omega),decide_eq_true (by omega)]
     simp [twice]
    ·rw [← hb,decide_eq_false (p:=n.l.length≤30) (by omega),Bool.and_false,Bool.false_and]
   ·rw [← hb,decide_eq_false (by omega),Bool.false_and,Bool.false_and]
end Go.Proofs.YtejpnabbmgpmaaaGreatDoor

