/-
  The generic layer, part 86: builders of texts: variables and arrays whose types are told; pointers compared, and turned; what is called in place. (with the parts that follow it)
-/
import Derived.Test.YtejpnabbmgpmaaaGreatSEE
import Derived.Test.YtejpnabbmgpmaaaGreatSED
import Derived.Test.YtejpnabbmgpmaaaGreatSEC
import Derived.Lib.Builder
import Derived.LaidEqlPtr
import Derived.Laws.Pointers
import Derived.Laws.Externs
import Derived.Lib.UnsafeStr
import Derived.Lib.ItoaLen
import Derived.Lib.Bytealg
set_option linter.all false
namespace Go.Ab
section
variable {P:Program} {cf:Cf} {Q:Exit→St→Prop} {s:St} {k:List It} {B:Base} {β:Name→Option Blk} {tm:Array Value} {w:World}
theorem Sim.IK (h:Sim B β s tm w) {p:Name} {ob:Ob} {k:Blk} (hp:s.hp p=some ob) (hk:β p=some k) {w':World} (hio:wio w'=wio w) (hsz:w'.heap.size=w.heap.size) (hw:∀ b,b≠k.b→w'.heap[b]?=w.heap[b]?):Sim B β (s.set p none) tm w':=by
 have hsub:∀ q o,(s.set p none).hp q=some o→q≠p∧s.hp q=some o:=by
  intro q o ho
  by_cases e:q=p
  ·subst e;simp [St.set,aD] at ho
  ·exact ⟨e,by simpa [St.set,aD,e] using ho⟩
 have hne:∀ q,(s.set p none).hp q≠none→s.hp q≠none:=by
  intro q hq e
  cases ho:(s.set p none).hp q with
  | none=>exact hq ho
  | some o=>rw [(hsub q o ho).2] at e;cases e
 have hr:∀ v d,Rep w.heap (s.own B.A β) v d→Rep w'.heap ((s.set p none).own B.A β) v d:=fun v d hd=>hd.mono (fun b hb _=>hw b fun e=>hb (.inr ⟨p,k,by rw [hp];simp,hk,e.symm⟩)) (by
  rintro b _ (hA | ⟨q,k,hq,hk,e⟩)
  ·exact .inl hA
  ·exact .inr ⟨q,k,hne q hq,hk,e⟩)
 have hst:∀ q,nm s.used q→Stays s.hp (s.set p none).hp β β q:=fun q _ o' ho'=>⟨o',(hsub q o' ho').2,Ob.cG _,rfl⟩
 refine { tms:=h.tms,io:=hio.trans h.io,size:=by rw [hsz];exact h.size,frame:=fun b hb hn=>?_,slots:=fun i=>(h.slots i).mono hr (fun _ h=>h) hst,objs:=?_,blocks:=fun q k hq hk=>(by rw [hsz];exact h.blocks q k (hne q hq) hk), inj:=fun q q' k l hq hq' hk hl e=>h.inj q q' k l (hne q hq) (hne q' hq') hk hl e,us:=h.us,stay:=h.stay }
 ·rw [hw b ?_]
  ·exact h.frame b hb hn
  ·intro e
   obtain ⟨_,_,h3⟩:=h.blocks p k (by rw [hp];simp) hk
   rcases h3 with h3 | h3
   ·omega
   ·exact hn (e ▸ h3)
 ·intro q o ho
  obtain ⟨hqp,ho'⟩:=hsub q o ho
  obtain ⟨h1,h2⟩:=h.objs q o ho'
  exact ⟨h1,h2.mono hr (fun _ h=>h) hst rfl fun l hl=>hw l.b fun e=>hqp (h.inj q p l k (by rw [ho'];simp) (by rw [hp];simp) hl hk e)⟩
theorem Fg (E:Eng P cf Q) {o:Oper} (p:Name) (j n:Nat) (ty tg:Option Nat) (w:W) (cs:List AV) (hp:s.hp p=some (.boxT ty cs)) (hj:cs[j]?=some (.d .nils)) (hn:n ∉ s.used) (h:E.stp o ((s.add n (.arrT tg w [])).set p (some (.boxT ty (cs.set j (.vw [n] 0 0))))) k .no):E.stp o s k .no:=by
 rw [aM] at h ⊢
 intro B hB ds β a w' hds hs Q'
 have h1:=hs.gi hn tg w
 have hpn:p≠[n]:=iD (hs.objs p _ hp).1 hn
 refine h B hB ds (aD β [n] none) a w' hds (h1.rebox (cs:=cs) (by simpa [St.add,aD,hpn] using hp) (by simp) fun v i x x' hx hx' hv=>?_) Q'
 by_cases e:j=i
 ·subst e
  rw [hj] at hx
  cases hx
  rw [List.getElem?_set_self (List.getElem?_eq_some_iff.1 hj).1] at hx'
  cases hx'
  have:=hv.toD
  cases this
  exact .vw _ _ _ _ ⟨n,[],rfl,List.mem_cons_self⟩ rfl fun ty' w' xs hx=>by
   have:some (Ob.arrT tg w [])=some (.arrT ty' w' xs):=by rw [← hx];simp [St.add,aD]
   cases this
   exact ⟨Nat.le_refl _,none,0,rfl,.inl ⟨rfl,rfl⟩⟩
 ·rw [List.getElem?_set_ne e,hx] at hx'
  cases hx'
  exact hv
theorem pN (E:Eng P cf Q) {d t e:Nat} {x y:Operand} {ty:TypeId} {pos:String} {af:Array Edge} (tg:Option Nat) (p q:Name) (xs ys:List D) (hk:(P.ti t).k=.slice e) (hz:(P.ti e).zOk=true) (hw:(P.ti e).isW (P.ti e).w=true) (hew:(P.ti e).w=none)
  (htg:tg.getD e=e) (hd:d<cf.n∧d ∉ s.used) (hx:ev s x=.vw p 0 xs.length) (hp:s.hp p=some (.arrT tg none xs)) (hy:ev s y=.vw q 0 ys.length) (hq:s.hp q=some (.arr none ys)) (hl:(xs.length+ys.length)*(P.ti e).by1≤140737488355328)
  (h:E.run k (((s.set p none).add d (.arrT tg none (xs++ys))).put d (.vw [d] 0 (xs.length+ys.length)))) :
  E.stp { dst:=some d,op:=.call { callee:=.builtin .append,args:=#[x,y],argTypes:=#[t,t] },type:=ty,pos:=pos,after:=af,guard:=none } s k .no:=by
 rw [aM]
 rw [E.run_eq] at h
 intro B hB ds β a w hds hs Q'
 have hvx:=hs.ev x
 have hvy:=hs.ev y
 rw [hx] at hvx
 rw [hy] at hvy
 have key:=jY (P:=P) (t:=t) hs hvx hvy hk hz hw ty (some d) tg htg
 have e1:jx tg B.n (P.ti e) (some d) s (.vw p 0 xs.length) (.vw q 0 ys.length)=.need ((xs.length+ys.length)*(P.ti e).by1≤140737488355328) (.ok (((s.set p none).add d (.arrT tg none (xs++ys))).put d (.vw [d] 0 (xs.length+ys.length)))):=by
  unfold jx
  have hlo:cB (P.ti e).w s.hp (.vw q 0 ys.length)=some ys:=by simp [cB,hq,hew]
  rw [hlo]
  simp only [hp]
  rw [if_pos ⟨trivial,hew.symm⟩]
  have hd2:d<B.n∧d ∉ (s.set p none).used:=⟨by rw [hB.1];exact hd.1,hd.2⟩
  unfold gz
  simp only
  rw [if_pos hd2]
  simp
 rw [e1] at key
 obtain ⟨dd,v,w',β',hdd,hrun,hsim⟩:=key hl
 cases hdd
 exact aK (v:=v) (by simp) (by simp [execOp,resolve,invoke,builtin,hrun]) (.inl rfl) ⟨hds,_,β',aW h,hsim⟩
end
section
variable {P:Program} {cf:Cf} {Q:Exit→St→Prop} {s:St} {k:List It}
theorem jc {o:Oper} {d:Nat} {x:AV} (hd:o.dst=some d) (hdn:d<cf.n) (hnd:∀ c,o.op≠.defer c)
  (hrun:∀ (B:Base) (β:Name→Option Blk) (a:Act) (w:World),Sim B β s a.tmps w→∃ v,(execOp a.eval o).run P w=.ok (.value v) w∧VR w.heap (s.own B.A β) s.used s.hp β v x) (h:run P cf k Q (s.put d x)):AOk P cf o s k Q:=by
 intro B hB ds β a w hds hs Q'
 obtain ⟨v,h1,h2⟩:=hrun B β a w hs
 refine aK (v:=v) hnd h1 (.inl rfl) ?_
 rw [hd]
 exact ⟨hds,_,β,aW h,hs.put (by rw [hB.1];exact hdn) h2⟩
theorem js (E:Eng P cf Q) {o:Oper} {d:Nat} {x:AV} (hd:o.dst=some d) (hdn:d<cf.n) (hnd:∀ c,o.op≠.defer c)
  (hrun:∀ (B:Base) (β:Name→Option Blk) (a:Act) (w:World),Sim B β s a.tmps w→∃ v,(execOp a.eval o).run P w=.ok (.value v) w∧VR w.heap (s.own B.A β) s.used s.hp β v x) (h:E.run k (s.put d x)):E.stp o s k .no:=by
 rw [aM]
 rw [E.run_eq] at h
 exact jc hd hdn hnd hrun h
theorem qH {t e:Nat} (h:(P.ti t).k=.ptr e):P.underlying t=some (.pointer e):=by
 obtain ⟨i,d,_,hd,hk,_⟩:=dA (P:=P) (t:=t) (by rw [h];rfl)
 rw [h] at hk
 cases d<;>simp [tk] at hk
 rw [hd,hk]
def Ax (hp:Name→Option Ob):AV→Option Bool
 | .d .nilp=>some true
 | .d (.ptr _)=>some false
 | .bx p _=>match hp p with
   | some (.boxT _ _)=>some false
   | _=>none
 | _=>none
theorem uR {H:Array Obj} {own:Nat→Prop} {used:List Nat} {hp:Name→Option Ob} {β:Name→Option Blk} {v:Value} {x:AV} {b:Bool} (h:VR H own used hp β v x) (hn:Ax hp x=some b):∃ ad,v=.pointer ad∧ad.isNone=b:=by
 cases x with
 | d z =>
   cases z<;>simp [Ax] at hn
   ·subst hn
    have:=h.toD
    cases this;exact ⟨none,rfl,rfl⟩
   ·subst hn
    have:=h.toD
    cases this;exact ⟨_,rfl,rfl⟩
 | bx p c =>
   simp only [Ax] at hn
   split at hn
   ·rename_i ty cs ho
    cases hn
    cases h with
    | bx _ _ _ _ _ hx =>
      obtain ⟨k,_,_,rfl⟩:=hx _ _ ho
      exact ⟨_,rfl,rfl⟩
   ·cases hn
 | _=>simp [Ax] at hn
theorem rJ (E:Eng P cf Q) {t e:TypeId} {x:Operand} {yt:TypeId} {dst:Nat} {ty:TypeId} {ps:String} {af:Array Edge} (b:Bool) (hk:(P.ti t).k=.ptr e) (hd:dst<cf.n) (hx:Ax s.hp (ev s x)=some b) (h:E.run k (s.put dst (.d (.bool b)))) :
  E.stp { dst:=some dst,op:=.binOp .eql t x (.const (.pointer none)) yt,type:=ty,pos:=ps,after:=af,guard:=none } s k .no:=by
 refine js E rfl hd (by simp) (fun B β a w hs=>⟨.bool b,?_,.d _ _ (.bool _)⟩) h
 obtain ⟨ad,hv,rfl⟩:=uR (hs.ev x) hx
 have hu:=qH hk
 refine jh ?_ ?_
 ·rw [hv];rfl
 ·rw [hv]
  exact run_eql_pointer_nil w t ad (by rw [hu];simp [Program.pointee,hu])
theorem run_neq_ptr_same {tp te:TypeId} {j:TypeInfo} (w:World) (a:Addr) (hp:P.underlying tp=some (.pointer te)) (hte:P.info? te=some j):(binOp .neq tp (.pointer (some a)) (.pointer (some a))).run P w=.ok (.bool false) w:=by
 have h:∀ d:Nat,(Op.equalIn (d+1) tp (.pointer (some a)) (.pointer (some a))).run P w=.ok true w:=fun d=>by
  simp [Op.equalIn,run_underlying hp,sizeOf,typeInfo,hte,run_sameAddr_same]
 simp only [binOp]
 simp [Op.equal,Op.maxDepth,h 9999]
theorem EK (E:Eng P cf Q) {t e:TypeId} {x y:Operand} {yt:TypeId} {dst:Nat} {ty:TypeId} {ps:String} {af:Array Edge} (p:Name) (c:Nat) (hk:(P.ti t).k=.ptr e) (he:(P.info? e).isSome=true) (hd:dst<cf.n) (hx:ev s x=.bx p c) (hy:ev s y=.bx p c) (hp:(match s.hp p with | some (.boxT _ _)=>true | _=>false)=true)
  (h:E.run k (s.put dst (.d (.bool false)))):E.stp { dst:=some dst,op:=.binOp .neq t x y yt,type:=ty,pos:=ps,after:=af,guard:=none } s k .no:=by
 refine js E rfl hd (by simp) (fun B β a w hs=>⟨.bool false,?_,.d _ _ (.bool _)⟩) h
 split at hp
 rotate_left
 ·cases hp
 rename_i ty' cs ho
 obtain ⟨k,hkk⟩:∃ k:Blk,∀ v,VR w.heap (s.own B.A β) s.used s.hp β v (.bx p c)→v=.pointer (some ⟨k.b,c,none⟩):=by
  obtain ⟨k,_,_,hk,_⟩:=(hs.objs p _ ho).2
  refine ⟨k,fun v hv=>?_⟩
  cases hv with
  | bx _ _ _ _ _ hx =>
    obtain ⟨k',hk',_,rfl⟩:=hx _ _ ho
    rw [hk] at hk';cases hk';rfl
 have h1:=hkk _ (hx ▸ hs.ev x)
 have h2:=hkk _ (hy ▸ hs.ev y)
 obtain ⟨j,hj⟩:=Option.isSome_iff_exists.1 he
 refine jh ?_ ?_
 ·rw [h1,h2];rfl
 ·rw [h1,h2]
  exact run_neq_ptr_same w _ (qH hk) hj
theorem CH {B:Base} {β:Name→Option Blk} {tm:Array Value} {w:World} (hs:Sim B β s tm w) {p:Name} {t:Nat} {cs:List AV} (hp:s.hp p=some (.boxT (some t) cs)):∃ k:Blk,(∀ v c,VR w.heap (s.own B.A β) s.used s.hp β v (.bx p c)→v=.pointer (some ⟨k.b,c,none⟩))∧w.shape? k.b=some (t,cs.length):=by
 obtain ⟨k,c,e,hk,_,hc,_,hl,_⟩:=(hs.objs p _ hp).2
 refine ⟨k,fun v c hv=>?_,by simp [World.shape?,hc,hl]⟩
 cases hv with
 | bx _ _ _ _ _ hx =>
   obtain ⟨k',hk',_,rfl⟩:=hx _ _ hp
   rw [hk] at hk';cases hk';rfl
theorem HJ (E:Eng P cf Q) {a' b' e:TypeId} {x:Operand} {dst:Nat} {ty:TypeId} {ps:String} {af:Array Edge} (p:Name) (c t:Nat) (cs:List AV) (hk:(P.ti a').k=.ptr e) (hu:P.underlying b'=some .unsafePointer) (he:(P.info? e).any (fun j=>j.size != 0)=true) (hd:dst<cf.n) (hx:ev s x=.bx p c)
  (hp:s.hp p=some (.boxT (some t) cs)) (hc:c<cs.length) (h:E.run k (s.put dst (.bx p c))):E.stp { dst:=some dst,op:=.convert a' b' x,type:=ty,pos:=ps,after:=af,guard:=none } s k .no:=by
 refine js E (x:=.bx p c) rfl hd (by simp) (fun B β a w hs=>⟨a.eval x,?_,hx ▸ hs.ev x⟩) h
 obtain ⟨k,hkk,hsh⟩:=CH hs hp
 have h1:=hkk _ _ (hx ▸ hs.ev x)
 rw [Option.any_eq_true] at he
 obtain ⟨j,hj,hj0⟩:=he
 have:=Lib.run_to_unsafe (P:=P) w (src:=a') (dst:=b') (⟨k.b,c,none⟩:Addr) (qH hk) hu hj (by simpa using hj0) hsh hc
 simp [execOp,h1,this]
theorem Iu (E:Eng P cf Q) {a' b' e:TypeId} {x:Operand} {dst:Nat} {ty:TypeId} {ps:String} {af:Array Edge} (p:Name) (c t:Nat) (cs:List AV) (hk:(P.ti b').k=.ptr e) (hu:P.underlying a'=some .unsafePointer) (he:(P.info? e).isSome=true) (hd:dst<cf.n) (hx:ev s x=.bx p c)
  (hp:s.hp p=some (.boxT (some t) cs)) (m:Nat) (hm:cs.length=m) (hl:liesAt P P.depth t (m / P.cellsOf t) c e 1=true) (h:E.run k (s.put dst (.bx p c))):E.stp { dst:=some dst,op:=.convert a' b' x,type:=ty,pos:=ps,after:=af,guard:=none } s k .no:=by
 refine js E (x:=.bx p c) rfl hd (by simp) (fun B β a w hs=>⟨a.eval x,?_,hx ▸ hs.ev x⟩) h
 obtain ⟨k,hkk,hsh⟩:=CH hs hp
 have h1:=hkk _ _ (hx ▸ hs.ev x)
 obtain ⟨j,hj⟩:=Option.isSome_iff_exists.1 he
 rw [hm] at hsh
 have:=Lib.run_from_unsafe (P:=P) w (src:=a') (dst:=b') (⟨k.b,c,none⟩:Addr) hu (qH hk) hj hsh hl
 simp [execOp,h1,this]
theorem DA (E:Eng P cf Q) {fv x:Operand} {at':Array TypeId} {dst:Nat} {ty:TypeId} {ps:String} {af:Array Edge} (f:FuncId) (y:AV) (hr:∀ v w,(callFunc f #[v]).run P w=.ok (.value v) w) (hd:dst<cf.n) (hf:ev s fv=.clo f []) (hx:ev s x=y) (h:E.run k (s.put dst y)) :
  E.stp { dst:=some dst,op:=.call { callee:=.value fv,args:=#[x],argTypes:=at' },type:=ty,pos:=ps,after:=af,guard:=none } s k .no:=by
 refine js E (x:=y) rfl hd (by simp) (fun B β a w hs=>⟨a.eval x,?_,hx ▸ hs.ev x⟩) h
 have hf':=hs.ev fv
 rw [hf] at hf'
 generalize hfv:a.eval fv=fval at hf'
 cases hf' with
 | clo _ cvs _ hcs hcv =>
 have hc0:cvs=#[]:=Array.eq_empty_of_size_eq_zero (by simpa using hcs)
 subst hc0
 have e:(execOp a.eval { dst:=some dst,op:=.call { callee:=.value fv,args:=#[x],argTypes:=at' },type:=ty,pos:=ps,after:=af,guard:=none }:Sem Next)=callFunc f (#[]++#[x].map a.eval++#[]):=by
  show (do let d ← (Deferred.ofValue (a.eval fv) (#[x].map a.eval));invoke d.target d.args:Sem Next)=_
  rw [hfv];rfl
 rw [e]
 simpa using hr (a.eval x) w
theorem Ew {fv:Operand} {args:Array Operand} {at':Array TypeId} {dst:Nat} {ty:TypeId} {ps:String} {af:Array Edge} {g:Option (Nat × Bool)} (f:FuncId) (ds:List D) (vs:List Value) (r:D) (v:Value) (hv:vals ds=some vs) (hrv:r.val=some v) (hr:∀ w,(callFunc f vs.toArray).run P w=.ok (.value v) w) (hd:dst<cf.n) (hf:ev s fv=.clo f [])
  (hx:args.toList.map (ev s)=ds.map .d) (h:run P cf k Q (s.put dst (.d r))):AOk P cf { dst:=some dst,op:=.call { callee:=.value fv,args:=args,argTypes:=at' },type:=ty,pos:=ps,after:=af,guard:=g } s k Q:=by
 refine jc (x:=.d r) rfl hd (by simp) (fun B β a w hs=>⟨v,?_,.d _ _ (D.Fe hrv)⟩) h
 have hf':=hs.ev fv
 rw [hf] at hf'
 generalize hfv:a.eval fv=fval at hf'
 cases hf' with
 | clo _ cvs _ hcs hcv =>
 have hc0:cvs=#[]:=Array.eq_empty_of_size_eq_zero (by simpa using hcs)
 subst hc0
 have e:(execOp a.eval { dst:=some dst,op:=.call { callee:=.value fv,args:=args,argTypes:=at' },type:=ty,pos:=ps,after:=af,guard:=g }:Sem Next)=callFunc f (#[]++args.map a.eval++#[]):=by
  show (do let d ← (Deferred.ofValue (a.eval fv) (args.map a.eval));invoke d.target d.args:Sem Next)=_
  rw [hfv];rfl
 have e2:#[]++args.map a.eval++#[]=vs.toArray:=by
  obtain ⟨g1,g2⟩:=sG hv
  have hsz:args.size=ds.length:=by have:=congrArg List.length hx;simpa using this
  apply Array.ext
  ·simp [hsz,g1]
  ·intro i hi hi'
   have hia:i<args.size:=by simpa using hi
   have hid:i<ds.length:=by omega
   have h1:(args.toList.map (ev s))[i]?=(ds.map AV.d)[i]?:=by rw [hx]
   simp only [List.getElem?_map,Array.getElem?_toList,Array.getElem?_eq_getElem hia,List.getElem?_eq_getElem hid,Option.map_some,Option.some.injEq] at h1
   have h2:=hs.ev args[i]
   rw [h1] at h2
   have h3:=h2.toD.val (g2 i _ (List.getElem?_eq_getElem hid) ▸ List.getElem?_eq_getElem (by omega:i<vs.length))
   simpa using h3
 rw [e,e2]
 exact hr w
theorem H2 (E:Eng P cf Q) {fv:Operand} {args:Array Operand} {at':Array TypeId} {dst:Nat} {ty:TypeId} {ps:String} {af:Array Edge} (f:FuncId) (ds:List D) (vs:List Value) (r:D) (v:Value) (hv:vals ds=some vs) (hrv:r.val=some v) (hr:∀ w,(callFunc f vs.toArray).run P w=.ok (.value v) w) (hd:dst<cf.n) (hf:ev s fv=.clo f [])
  (hx:args.toList.map (ev s)=ds.map .d) (h:E.run k (s.put dst (.d r))):E.stp { dst:=some dst,op:=.call { callee:=.value fv,args:=args,argTypes:=at' },type:=ty,pos:=ps,after:=af,guard:=none } s k .no:=by
 rw [aM]
 rw [E.run_eq] at h
 exact Ew f ds vs r v hv hrv hr hd hf hx h
end
end Go.Ab

namespace Go.Ab
theorem vj {P:Program} {e:TypeId} (hc:P.cellsOf e=1) (count o n:Nat) (hn:o+n≤count):liesAt P P.depth e count o e n=true:=by
 have hd:P.depth=(2*(P.types.size+Made.depth)+1)+1:=rfl
 rw [hd]
 simp only [liesAt,Bool.or_eq_true]
 left
 rw [hd]
 simp [rowAt,hc,hn,sameLayout,Nat.mod_one]
theorem iO {P:Program} (w:World) (pt it ty e:TypeId) (hp:P.underlying pt=some (.pointer e)) (hc:P.cellsOf e=1) (g o cells:Nat) (hsh:w.shape? g=some (e,cells)) (l:List UInt8) (h0:l≠[]) (hn:o+l.length≤cells) (h63:l.length≤9223372036854775807)
  (hcell:∀ j x,l[j]?=some x→w.cell? ((⟨g,o,none⟩:Addr).add j)=some (.int .u8 x.toNat)) :
  (Builtin.unsafeString_ #[pt,it] ty #[.pointer (some ⟨g,o,none⟩),.int .i64 l.length]).run P w=.ok (.string ⟨l.toArray⟩) (w.freeze ⟨g,o,none⟩ l.length):=by
 have hl:l.length≠0:=by simpa using h0
 have hlb:=Lib.run_loadBytes (P:=P) w l ⟨g,o,none⟩ .empty hcell
 have hlies:=vj (P:=P) hc (cells / P.cellsOf e) o l.length (by rw [hc];simpa using hn)
 have h63':¬ (9223372036854775807:Int)<(l.length:Int):=by omega
 obtain ⟨z1,z2,z3,hdef⟩:∃ z1 z2 z3,Builtin.unsafeString_ #[pt,it] ty #[.pointer (some ⟨g,o,none⟩),.int .i64 l.length] =
  (do
   let n ← asInt (.int .i64 l.length)
   if n<0 then runtimePanic (.error z1)
   if n > IntKind.i64.max then unsupported (.unsafePointer z2)
   if n=0 then pure (.string .empty)
   else if ← variablesAt ⟨g,o,none⟩ (← elemOf pt) n.toNat then do
    let s ← loadBytes ⟨g,o,none⟩ .empty n.toNat
    freeze ⟨g,o,none⟩ n.toNat
    pure (.string s)
   else unsupported (.unsafePointer z3)):=⟨_,_,_,rfl⟩
 rw [hdef]
 have hmax:IntKind.i64.max=9223372036854775807:=rfl
 have hneg:¬ (l.length:Int)<0:=by omega
 simp [asInt,asIntOf,hmax,h63',hneg,hl,variablesAt,hsh,elemOf,run_underlying hp,hlies,hlb]
def byD (c:UInt8):D:=.int .u8 (c.toNat:Nat)
section
variable {P:Program} {cf:Cf} {Q:Exit→St→Prop} {s:St} {k:List It}
theorem AL {d:Nat} {x:Operand} {at':Array TypeId} {ty:TypeId} {pos:String} {af:Array Edge} {g:Option (Nat × Bool)} (hd:d<cf.n) (hx:ev s x=.d .nils) (h:run P cf k Q (s.put d (.d .nilp))) :
  AOk P cf { dst:=some d,op:=.call { callee:=.builtin .unsafeSliceData,args:=#[x],argTypes:=at' },type:=ty,pos:=pos,after:=af,guard:=g } s k Q:=by
 refine jc rfl hd (by simp) (fun B β a w hs=>⟨.pointer none,?_,.d _ _ .nilp⟩) h
 have hv:=hs.ev x
 rw [hx] at hv
 have hv:=hv.nils
 simp [execOp,resolve,invoke,builtin,hv,Lib.run_unsafeSliceData_nil]
theorem Ec {d:Nat} {x:Operand} {at':Array TypeId} {ty:TypeId} {pos:String} {af:Array Edge} {g:Option (Nat × Bool)} (p:Name) (tg:Option Nat) (w0:W) (xs:List D) (l:Nat) (hd:d<cf.n) (hx:ev s x=.vw p 0 l) (hp:s.hp p=some (.arrT tg w0 xs)) (hl:0<l) (h:run P cf k Q (s.put d (.el p 0 0))) :
  AOk P cf { dst:=some d,op:=.call { callee:=.builtin .unsafeSliceData,args:=#[x],argTypes:=at' },type:=ty,pos:=pos,after:=af,guard:=g } s k Q:=by
 refine jc rfl hd (by simp) (fun B β a w hs=>?_) h
 have hv:=hs.ev x
 rw [hx] at hv
 generalize hax:a.eval x=vx at hv
 cases hv with
 | vw _ _ _ _ hn h1 hx' =>
   obtain ⟨hle,a0,cap,rfl,hc⟩:=hx' _ _ _ hp
   rcases hc with ⟨h0,_⟩ | ⟨k,hk,rfl,hcap,hz⟩
   ·omega
   ·refine ⟨.pointer (some ⟨k.b,k.o+0*wd w0,none⟩),?_,.el _ _ _ _ hn rfl fun ty' w' xs' hp'=>?_⟩
    ·obtain ⟨oo,hoo⟩:∃ oo,k.o+0*wd w0=oo:=⟨_,rfl⟩
     rw [hoo] at hax ⊢
     have:=Lib.run_unsafeSliceData_row (P:=P) w at' ty ⟨k.b,oo,none⟩ l cap (by omega)
     simp [execOp,resolve,invoke,builtin,hax,this]
    ·rw [hp] at hp';cases hp'
     exact ⟨by omega,k,hk,rfl⟩
theorem Ek (E:Eng P cf Q) {d pt it:Nat} {x y:Operand} {ty:TypeId} {pos:String} {af:Array Edge} (hd:d<cf.n) (hx:ev s x=.d .nilp) (hy:ev s y=.d (.int .i64 0)) (h:E.run k (s.put d (.d (.str [])))) :
  E.stp { dst:=some d,op:=.call { callee:=.builtin .unsafeString,args:=#[x,y],argTypes:=#[pt,it] },type:=ty,pos:=pos,after:=af,guard:=none } s k .no:=by
 rw [aM]
 rw [E.run_eq] at h
 refine jc rfl hd (by simp) (fun B β a w hs=>⟨.string .empty,?_,.d _ _ (.str [])⟩) h
 have hv:=hs.ev x
 rw [hx] at hv
 have hv:=hv.toD
 have hw:=hs.ev y
 rw [hy] at hw
 have hw:=hw.int
 generalize hax:a.eval x=vx at hv
 cases hv
 have:=Lib.run_unsafeString_none (P:=P) w pt it ty none
 simp [execOp,resolve,invoke,builtin,hax,hw,this]
theorem He (E:Eng P cf Q) {d pt it e:Nat} {x y:Operand} {ty:TypeId} {pos:String} {af:Array Edge} (p:Name) (l:List UInt8) (hd:d<cf.n) (hpt:P.underlying pt=some (.pointer e)) (hc:P.cellsOf e=1) (h0:l≠[]) (h63:l.length≤9223372036854775807)
  (hx:ev s x=.el p 0 0) (hp:s.hp p=some (.arrT (some e) none (l.map byD))) (hy:ev s y=.d (.int .i64 l.length)) (h:E.run k ((s.set p none).put d (.d (.str l)))) :
  E.stp { dst:=some d,op:=.call { callee:=.builtin .unsafeString,args:=#[x,y],argTypes:=#[pt,it] },type:=ty,pos:=pos,after:=af,guard:=none } s k .no:=by
 rw [aM]
 rw [E.run_eq] at h
 intro B hB ds β a w hds hs Q'
 have hv:=hs.ev x
 rw [hx] at hv
 have hw:=hs.ev y
 rw [hy] at hw
 have hw:=hw.int
 generalize hax:a.eval x=vx at hv
 cases hv with
 | el _ _ _ _ hn h1 hx' =>
 obtain ⟨hlt,k0,hk,rfl⟩:=hx' _ _ _ hp
 rcases (hs.objs p _ hp).2 with ⟨_,h0'⟩ | ⟨k1,c,e',hk1,hh,hz,hl,hok,hrep⟩
 ·simp at h0';exact absurd h0' h0
 rw [hk] at hk1
 cases hk1
 simp only [wd,Nat.mul_one,List.length_map] at hl
 have hsh:w.shape? k0.b=some (e,c.size):=by simp [World.shape?,hh]
 have hcell:∀ j x,l[j]?=some x→w.cell? ((⟨k0.b,k0.o+0*wd none+0,none⟩:Addr).add j)=some (.int .u8 x.toNat):=fun j x hj=>by
  have hjl:=(List.getElem?_eq_some_iff.1 hj).1
  have h2:=hrep j (byD x) 0 (byD x) (by simp [hj]) rfl
  have h3:k0.o+j<c.size:=by omega
  rw [show k0.o+j*wd none+0=k0.o+j by simp [wd]] at h2
  simp only [Array.getD_eq_getD_getElem?,Array.getElem?_eq_getElem h3,Option.getD_some] at h2
  have h4:c[k0.o+j]=.int .u8 x.toNat:=by
   generalize c[k0.o+j]=v at h2
   cases h2;rfl
  rw [bN]
  simp [World.cell?,hh,wd,h3,h4]
 have hrun:=iO (P:=P) w pt it ty e hpt hc k0.b (k0.o+0*wd none+0) c.size hsh l h0 (by simp [wd];omega) h63 hcell
 obtain ⟨oo,hoo⟩:∃ oo,k0.o+0*wd none+0=oo:=⟨_,rfl⟩
 rw [hoo] at hrun hax
 refine aK (v:=.string ⟨l.toArray⟩) (w':=w.freeze ⟨k0.b,oo,none⟩ l.length) (by simp) (by simp [execOp,resolve,invoke,builtin,hax,hw,hrun]) (.inl rfl) ⟨hds,_,β,aW h,?_⟩
 refine Sim.put (hs.IK hp hk (w':=w.freeze ⟨k0.b,oo,none⟩ l.length) ?_ ?_ fun b hb=>?_) (by rw [hB.1];exact hd) (.d _ _ (.str l))
 ·unfold World.freeze;split<;>rfl
 ·unfold World.freeze;split<;>simp
 ·unfold World.freeze
  split
  ·rfl
  ·simp only [Array.getElem?_modify]
   rw [if_neg (fun e=>hb e.symm)]
section
variable {ops:Array Oper} {K:St→Ns→Prop} {r:List Oper} {ns:Ns}
theorem cD (E:XEng P cf ops K) {d:Nat} {x:Operand} {ty:TypeId} {pos:String} {af:Array Edge} (p:Name) (c:Nat) (ty':Option Nat) (cs:List AV) (hd:d<cf.n) (hx:ev s x=.bx p c) (hp:s.hp p=some (.boxT ty' cs)) (h:E.run r (s.put d (.bx p c)) (ns++[([p],[],[])])) :
  E.stp { dst:=some d,op:=.nilCheck x,type:=ty,pos:=pos,after:=af,guard:=none } r s ns .no:=by
 refine oN E (x:=.bx p c) [p] (fun t ht=>by rw [Option.mem_def,Option.some.injEq] at ht;rw [← ht];exact hd) (fun s' hh he=>?_) h
 have h1:ev s' x=.bx p c:=(he x (by simp [Op.operands])).trans hx
 have h2:s'.hp p=some (.boxT ty' cs):=(hh p (by simp)).trans hp
 refine dF (o:={ dst:=some d,op:=.nilCheck x,type:=ty,pos:=pos,after:=af,guard:=none }) rfl ?_
 have h3:opR P.ti cf.n (.nilCheck x) (some d) s'=.ok (s'.put d (.bx p c)):=by
  unfold opR z5
  simp only [h1,h2]
  simp [R.bind,bZ,hd]
 unfold stp
 simp only [h3,R.run]
 rw [dW];rfl
theorem GD (E:XEng P cf ops K) {d:Nat} {x:Operand} {at':Array TypeId} {ty:TypeId} {pos:String} {af:Array Edge} {g:Option (Nat × Bool)} (hd:d<cf.n) (hx:ev s x=.d .nils) (h:E.run r (s.put d (.d .nilp)) (ns++[([],[],[])])) :
  E.stp { dst:=some d,op:=.call { callee:=.builtin .unsafeSliceData,args:=#[x],argTypes:=at' },type:=ty,pos:=pos,after:=af,guard:=g } r s ns .no:=by
 refine oN E (x:=.d .nilp) [] (fun t ht=>by rw [Option.mem_def,Option.some.injEq] at ht;rw [← ht];exact hd) (fun s' _ he=>?_) h
 exact AL hd ((he x (by simp [Op.operands,Call.operands])).trans hx) (by rw [dW];rfl)
theorem Ij (E:XEng P cf ops K) {d:Nat} {x:Operand} {at':Array TypeId} {ty:TypeId} {pos:String} {af:Array Edge} {g:Option (Nat × Bool)} (p:Name) (tg:Option Nat) (w0:W) (xs:List D) (l:Nat) (hd:d<cf.n) (hx:ev s x=.vw p 0 l) (hp:s.hp p=some (.arrT tg w0 xs)) (hl:0<l)
  (h:E.run r (s.put d (.el p 0 0)) (ns++[([p],[],[])])) :
  E.stp { dst:=some d,op:=.call { callee:=.builtin .unsafeSliceData,args:=#[x],argTypes:=at' },type:=ty,pos:=pos,after:=af,guard:=g } r s ns .no:=by
 refine oN E (x:=.el p 0 0) [p] (fun t ht=>by rw [Option.mem_def,Option.some.injEq] at ht;rw [← ht];exact hd) (fun s' hh he=>?_) h
 exact Ec p tg w0 xs l hd ((he x (by simp [Op.operands,Call.operands])).trans hx) ((hh p (by simp)).trans hp) hl (by rw [dW];rfl)
end
end
theorem qT (tf:Nat→TI) (dd:Option Nat) (s:St) (x:Operand):opE tf (.nilCheck x) dd s=.no:=rfl
attribute [go_sem] qT
end Go.Ab

namespace Go.Proofs.YtejpnabbmgpmaaaGreat
open Go.Ab
def eE:List (Name × Ob):=[([0],.boxT (some 316) [.d .nilp,.d .nils])]
def uG (l:List UInt8):List (Name × Ob):=[([0],.boxT (some 316) [.bx [0] 0,.vw [2] 0 l.length]),([2],.arrT (some 5) none (l.map byD))]
def dt (l:List UInt8):List (Name × Ob):=[([0],.boxT (some 316) [.bx [0] 0,.vw [1] 0 l.length]),([1],.arrT (some 5) none (l.map byD))]
theorem noesc (v:Value) (w:World):(callFunc 339 #[v]).run Tryz.prog w=.ok (.value v) w:=by
 rw [run_callFunc_extern Tryz.func339 (by kernel_rfl) (by kernel_rfl) (by kernel_rfl) (e:=Extern.AbiNoEscape.same) (by kernel_rfl)]
 rw [Lib.run_noEscape]
 rfl
theorem IF:(Tryz.prog.ti 349).k=.oth:=by kernel_rfl
theorem HR:Tryz.prog.underlying 349=some .unsafePointer:=by kernel_rfl
theorem zR {G}:HCall Tryz.prog G 328 [.bx [0] 0] [([0],.boxT (some 316) [.d .nilp,.vw [1] 0 0]),([1],.arrT (some 5) none [])] [0,1] (fun r hp'=>r=.tup []∧hp'=[([0],.boxT (some 316) [.bx [0] 0,.vw [1] 0 0]),([1],.arrT (some 5) none [])]):=by
 refine aq Tryz.func328 rfl (by decide +kernel) (by simp [Tryz.ntmps328]) (veil fun E=>?_)
 simp only [go_sem]
 refine rJ E (e:=316) true (by rw [qq]) (by simp only [go_sem]) rfl ?_
 simp only [go_sem]
 refine HJ E (e:=316) [0] 0 316 [.d .nilp,.vw [1] 0 0] (by rw [qq]) HR (by kernel_rfl) (by simp only [go_sem]) rfl rfl (by decide) ?_
 simp only [go_sem]
 refine DA E 339 (.bx [0] 0) noesc (by simp only [go_sem]) rfl rfl ?_
 simp only [go_sem]
 simp only [IF]
 simp only [go_sem]
 refine Iu E (e:=316) [0] 0 316 [.d .nilp,.vw [1] 0 0] (by rw [qq]) HR (by kernel_rfl) (by simp only [go_sem]) rfl rfl 2 rfl (by kernel_rfl) ?_
 simp only [go_sem]
 refine ⟨_,_,[0,1],id,⟨rfl,rfl⟩,?_⟩
 simp only [go_sem]
theorem Cm {G} (l:List UInt8):HCall Tryz.prog G 328 [.bx [0] 0] (dt l) [0,1] (fun r hp'=>r=.tup []∧hp'=dt l):=by
 unfold dt
 refine aq Tryz.func328 rfl (by decide +kernel) (by simp [Tryz.ntmps328]) (veil fun E=>?_)
 simp only [go_sem]
 refine rJ E (e:=316) false (by rw [qq]) (by simp only [go_sem]) rfl ?_
 simp only [go_sem]
 refine EK E (e:=316) [0] 0 (by rw [qq]) (by kernel_rfl) (by simp only [go_sem]) rfl rfl rfl ?_
 simp only [go_sem]
 refine ⟨_,_,[0,1],id,⟨rfl,rfl⟩,?_⟩
 simp only [go_sem]
theorem sD {G} (c:UInt8):HCall Tryz.prog G 302 [.bx [0] 0,.d (byD c)] eE [0] (fun r hp'=>r=.d .nili∧hp'=uG [c]):=by
 have h0:=zR (G:=G)
 unfold eE uG byD
 refine aq Tryz.func302 rfl (by decide +kernel) (by simp [Tryz.ntmps302]) (veil fun E=>?_)
 simp only [go_sem]
 refine Fg E [0] 1 1 (some 316) (some 5) none [.d .nilp,.d .nils] rfl rfl (by rw [aa];decide) ?_
 refine ab E [.bx [0] 0] [([0],.boxT (some 316) [.d .nilp,.vw [1] 0 0]),([1],.arrT (some 5) none [])] [0,1] h0 rfl rfl ⟨by simp only [go_sem],by show ¬ _∈[1,0];decide⟩ rfl (by simp only [go_sem]) (by simp only [go_sem]) ?_
 rintro _ _ ⟨rfl,rfl⟩
 simp only [go_sem]
 refine pN E (e:=5) (some 5) [1] [13] [] [.int .u8 (c.toNat:Nat)] (by rw [Bz]) (by rw [ti5];rfl) (by rw [ti5];rfl) (by rw [ti5];rfl) rfl ⟨by simp only [go_sem],by rw [aa];decide⟩ rfl rfl rfl rfl (by rw [ti5];simp [TI.by1]) ?_
 simp only [go_sem]
 refine ⟨_,_,[0,1,2],tau [([2],[14])],⟨rfl,rfl⟩,?_⟩
 simp only [go_sem]
theorem sY {G} (l:List UInt8) (c:UInt8) (hl:l.length≤1000000):HCall Tryz.prog G 302 [.bx [0] 0,.d (byD c)] (dt l) [0,1] (fun r hp'=>r=.d .nili∧hp'=uG (l++[c])):=by
 have h0:=Cm (G:=G) l
 unfold dt at *
 unfold uG
 refine aq Tryz.func302 rfl (by decide +kernel) (by simp [Tryz.ntmps302]) (veil fun E=>?_)
 simp only [go_sem]
 refine ab E [.bx [0] 0] [([0],.boxT (some 316) [.bx [0] 0,.vw [1] 0 l.length]),([1],.arrT (some 5) none (l.map byD))] [0,1] h0 rfl rfl ⟨by simp only [go_sem],by rw [aa];decide⟩ rfl (by simp only [go_sem]) (by simp only [go_sem]) ?_
 rintro _ _ ⟨rfl,rfl⟩
 simp only [go_sem]
 rw [show byD c=.int .u8 (c.toNat:Nat) from rfl]
 simp only [go_sem]
 refine ⟨Nat.le_refl _,?_⟩
 have hlm:(l.map byD).length=l.length:=by simp
 refine pN E (d:=14) (e:=5) (some 5) [1] [13] (l.map byD) [.int .u8 (c.toNat:Nat)] (by rw [Bz]) (by rw [ti5];rfl) (by rw [ti5];rfl) (by rw [ti5];rfl) rfl ⟨by simp only [go_sem],by rw [aa];decide⟩ (by rw [hlm];rfl) rfl rfl rfl (by rw [ti5,hlm];simp [TI.by1];omega) ?_
 rw [hlm,show l.map byD++[.int .u8 (c.toNat:Nat)]=(l++[c]).map byD by simp [byD]]
 simp only [go_sem]
 refine ⟨_,_,[0,1,2],tau [([2],[14])],⟨rfl,rfl⟩,?_⟩
 rw [show (l++[c]).length=l.length+1 by simp]
 simp only [go_sem]
theorem C4 {G}:HCall Tryz.prog G 299 [.bx [0] 0] eE [0] (fun r hp'=>r=.d (i64 0)∧hp'=eE):=by
 unfold eE
 refine aq Tryz.func299 rfl (by decide +kernel) (by simp [Tryz.ntmps299]) (veil fun E=>?_)
 simp only [go_sem]
 refine ⟨_,_,[0],id,⟨rfl,rfl⟩,?_⟩
 simp only [go_sem]
theorem zW {G} (l:List UInt8):HCall Tryz.prog G 299 [.bx [0] 0] (dt l) [0,1] (fun r hp'=>r=.d (i64 l.length)∧hp'=dt l):=by
 unfold dt
 refine aq Tryz.func299 rfl (by decide +kernel) (by simp [Tryz.ntmps299]) (veil fun E=>?_)
 simp only [go_sem]
 refine ⟨_,_,[0,1],id,⟨rfl,rfl⟩,?_⟩
 simp only [go_sem]
theorem CP {G}:HCall Tryz.prog G 300 [.bx [0] 0] eE [0] (fun r hp'=>r=.d (.str [])∧hp'=eE):=by
 unfold eE
 refine aq Tryz.func300 rfl (by decide +kernel) (by simp [Tryz.ntmps300]) (veil fun E=>?_)
 simp only [go_sem]
 refine kn 10 mixed E (by simp only [List.take_succ_cons,List.take_zero];exact rfl) (by simp only [List.drop_succ_cons,List.drop_zero];exact rfl) rfl rfl (by decide +kernel) fun X=>?_
 simp only [go_sem]
 refine cD X (d:=4) [0] 0 (some 316) [.d .nilp,.d .nils] (by simp only [go_sem]) rfl rfl ?_
 simp only [go_sem]
 refine GD X (d:=7) (by simp only [go_sem]) rfl ?_
 simp only [go_sem]
 refine cD X (d:=9) [0] 0 (some 316) [.d .nilp,.d .nils] (by simp only [go_sem]) rfl rfl ?_
 simp only [go_sem]
 refine ⟨by decide +kernel,?_⟩
 refine Ek E (by simp only [go_sem]) rfl rfl ?_
 simp only [go_sem]
 refine ⟨_,_,[0],id,⟨rfl,rfl⟩,?_⟩
 simp only [go_sem]
theorem Gl:Tryz.prog.cellsOf 5=1:=by kernel_rfl
theorem Jp:Tryz.prog.underlying 341=some (.pointer 5):=by kernel_rfl
theorem Cj {G} (l:List UInt8) (h0:l≠[]) (hl:l.length≤1000000):HCall Tryz.prog G 300 [.bx [0] 0] (dt l) [0,1] (fun r hp'=>r=.d (.str l)∧hp'=[]):=by
 unfold dt
 refine aq Tryz.func300 rfl (by decide +kernel) (by simp [Tryz.ntmps300]) (veil fun E=>?_)
 simp only [go_sem]
 refine kn 10 mixed E (by simp only [List.take_succ_cons,List.take_zero];exact rfl) (by simp only [List.drop_succ_cons,List.drop_zero];exact rfl) rfl rfl (by decide +kernel) fun X=>?_
 simp only [go_sem]
 refine cD X (d:=4) [0] 0 (some 316) [.bx [0] 0,.vw [1] 0 l.length] (by simp only [go_sem]) rfl rfl ?_
 simp only [go_sem]
 refine Ij X (d:=7) [1] (some 5) none (l.map byD) l.length (by simp only [go_sem]) rfl rfl (List.length_pos_iff.2 h0) ?_
 simp only [go_sem]
 refine cD X (d:=9) [0] 0 (some 316) [.bx [0] 0,.vw [1] 0 l.length] (by simp only [go_sem]) rfl rfl ?_
 simp only [go_sem]
 refine ⟨by decide +kernel,?_⟩
 refine He E (e:=5) [1] l (by simp only [go_sem]) Jp Gl h0 (by omega) rfl rfl rfl ?_
 simp only [go_sem]
 refine ⟨_,_,[0,1],id,⟨rfl,rfl⟩,?_⟩
 simp only [go_sem]
end Go.Proofs.YtejpnabbmgpmaaaGreat

namespace Go.Proofs.YtejpnabbmgpmaaaGreat
open Go.Ab
end Go.Proofs.YtejpnabbmgpmaaaGreat

namespace Go.Proofs.YtejpnabbmgpmaaaGreat
open Go.Ab
def bm (s p:List UInt8):Bool:=decide (p.length≤s.length) && (s.take p.length == p)
theorem xx {G} (s p:List UInt8):HP Tryz.prog G 304 [.str s,.str p] (fun r=>r=.d (.bool (bm s p))):=by
 refine al Tryz.func304 rfl (by decide +kernel) (by simp [Tryz.ntmps304]) (veil fun E=>?_)
 simp only [go_sem]
 refine an E (fun h=>?_) (fun h=>?_)<;>simp only [go_sem]
 ·have hl:p.length≤s.length:=by simpa using h
  refine ⟨by simpa using hl,?_⟩
  simp [bm,hl,Iq]
 ·have hl:¬ p.length≤s.length:=by simpa using h
  simp [bm,hl]
theorem yU {s p:List UInt8} (h:bm s p=true):p.length≤s.length:=by
 simp only [bm,Bool.and_eq_true,decide_eq_true_eq] at h
 exact h.1
theorem FD {G} (s p:List UInt8):HP Tryz.prog G 327 [.str s,.str p] (fun r=>r=.tup [.d (.str (if bm s p then s.drop p.length else s)),.d (.bool (bm s p))]):=by
 refine al Tryz.func327 rfl (by decide +kernel) (by simp [Tryz.ntmps327]) (veil fun E=>?_)
 simp only [go_sem]
 refine ag E (xx s p) rfl rfl (by simp) ?_
 rintro _ rfl
 simp only [go_sem]
 refine aB E (fun h=>?_) (fun h=>?_)<;>simp only [go_sem]
 ·have h:bm s p=false:=by simpa using h
  simp [h]
 ·have h:bm s p=true:=by simpa using h
  have:=yU h
  simp [h]
  refine ⟨by omega,?_⟩
  rw [List.take_of_length_le]
  simp
theorem xh {G} (s p:List UInt8):HP Tryz.prog G 297 [.str s,.str p] (fun r=>r=.tup [.d (.str (if bm s p then s.drop p.length else s)),.d (.bool (bm s p))]):=by
 refine al Tryz.func297 rfl (by decide +kernel) (by simp [Tryz.ntmps297]) (veil fun E=>?_)
 simp only [go_sem]
 refine ag E (FD s p) rfl rfl (by simp) ?_
 rintro _ rfl
 simp only [go_sem]
end Go.Proofs.YtejpnabbmgpmaaaGreat

namespace Go.Proofs.YtejpnabbmgpmaaaGreat
open Go.Ab
def HT (k a b:Int):Int:=if k=1 then w64 (a+b) else if k=2 then w64 (a-b) else if k=3 then w64 (a*b) else if k=4 then Jj a b else if k=5 then (if a<b then 1 else 0) else if k=6 then (if a=b then 1 else 0) else 0
def Ib (k b:Int):Int:=if k=1 then 0 else if k=2 then 0 else if k=3 then 0 else if k=4 then Jd b else if k=5 then 0 else if k=6 then 0 else 2
end Go.Proofs.YtejpnabbmgpmaaaGreat

namespace Go.Proofs.YtejpnabbmgpmaaaGreat
open Go.Ab
def dd (u:Nat):List UInt8:=if u=0 then [] else Lib.decDigits u
theorem Hx (m:Int):m.tdiv 10=if m<0 then -((m.natAbs / 10:Nat):Int) else ((m.natAbs / 10:Nat):Int):=by
 cases m with
 | ofNat k=>rw [if_neg (show ¬ Int.ofNat k<0 from Int.not_lt.2 (Int.natCast_nonneg k))];rfl
 | negSucc k=>rw [if_pos (Int.negSucc_lt_zero k)];rfl
end Go.Proofs.YtejpnabbmgpmaaaGreat

namespace Go.Proofs.YtejpnabbmgpmaaaGreat
open Go.Ab
def bb (c:UInt8):Bool:=decide (48≤c.toNat) && decide (c.toNat≤57)
def a9 (l:List UInt8):Nat:=l.foldl (fun v c=>10*v+(c.toNat-48)) 0
theorem pT (l:List UInt8) (c:UInt8):a9 (l++[c])=10*a9 l+(c.toNat-48):=by simp [a9]
theorem p5 {l:List UInt8} {i:Nat} (h:i<l.length):l.take (i+1)=l.take i++[l[i]]:=by simp
theorem de {l:List UInt8} {i:Nat} (h:i<l.length):a9 (l.take (i+1))=10*a9 (l.take i)+(l[i].toNat-48):=by
 rw [p5 h,pT]
theorem zk (l:List UInt8) (i:Nat):a9 (l.take i)≤a9 l:=by
 suffices h:∀ r m:List UInt8,a9 m≤a9 (m++r) by
  have:=h (l.drop i) (l.take i)
  rwa [List.take_append_drop] at this
 intro r
 induction r with
 | nil=>intro m;simp
 | cons c r ih =>
   intro m
   have h1:=ih (m++[c])
   rw [pT,List.append_assoc] at h1
   have h2:a9 (m++c::r)=a9 (m++([c]++r)):=rfl
   rw [h2];omega
theorem lg (l:List UInt8) (h:l.all bb=true):a9 l<10 ^ l.length:=by
 suffices hh:∀ i,i≤l.length→a9 (l.take i)<10 ^ i by
  have:=hh l.length (Nat.le_refl _)
  rwa [List.take_length] at this
 intro i
 induction i with
 | zero=>intro _;simp [a9]
 | succ i ih =>
   intro hi
   have h1:=ih (by omega)
   rw [de (by omega),Nat.pow_succ]
   have hd:=List.all_eq_true.1 h (l[i]) (List.getElem_mem _)
   simp only [bb,Bool.and_eq_true,decide_eq_true_eq] at hd
   omega
theorem xZ (l:List UInt8) (h:l.all bb=true) (h0:¬ l.head?=some 48):l.length=0∨10 ^ (l.length-1)≤a9 l:=by
 cases l with
 | nil=>exact .inl rfl
 | cons c r =>
   refine .inr ?_
   suffices hh:∀ i,i≤r.length→10 ^ i≤a9 ((c::r).take (i+1)) by
    have:=hh r.length (Nat.le_refl _)
    rwa [show r.length+1=(c::r).length from rfl,List.take_length] at this
   intro i
   induction i with
   | zero =>
     intro _
     have hd:=List.all_eq_true.1 h c List.mem_cons_self
     simp only [bb,Bool.and_eq_true,decide_eq_true_eq] at hd
     have:c.toNat≠48:=fun e=>h0 (by
      have:c=48:=UInt8.toNat_inj.1 (by rw [e];rfl)
      subst this;rfl)
     simp [a9];omega
   | succ i ih =>
     intro hi
     rw [de (by simp;omega),Nat.pow_succ]
     have:=ih (by omega)
     omega
def aY (l:List UInt8):Bool:=!l.isEmpty && !(decide (1<l.length) && l.head? == some 48) && l.all bb && decide (a9 l≤9223372036854775808)
def bu (neg:Bool) (l:List UInt8):Bool:=aY l && !(neg && decide (a9 l=0)) && !(!neg && decide (a9 l=9223372036854775808))
def bR (neg:Bool) (l:List UInt8):AV:=.tup [.d (i64 (if bu neg l then (if neg then -(a9 l:Int) else a9 l) else 0)),.d (i64 (if bu neg l then 0 else 5))]
def mu (s:List UInt8):AV:=if bm s [126] then bR true (s.drop 1) else bR false s
theorem qb {l:List UInt8} (h:aY l=true):1≤l.length∧l.length≤19:=by
 simp only [aY,Bool.and_eq_true,Bool.not_eq_true',decide_eq_true_eq,Bool.and_eq_false_iff,decide_eq_false_iff_not,beq_eq_false_iff_ne] at h
 obtain ⟨⟨⟨h1,h2⟩,h3⟩,h4⟩:=h
 have h0:l.length≠0:=by
  intro e;rw [List.length_eq_zero_iff.1 e] at h1;simp at h1
 refine ⟨by omega,?_⟩
 rcases h2 with h2 | h2
 ·omega
 ·rcases xZ l h3 h2 with h5 | h5
  ·omega
  ·apply Decidable.byContradiction;intro h6
   have:10 ^ 19≤10 ^ (l.length-1):=Nat.pow_le_pow_right (by omega) (by omega)
   omega
theorem cj {l:List UInt8} {i:Nat} (hi:i<l.length) (h:bb l[i]=false):aY l=false:=by
 cases hd:aY l with
 | false=>rfl
 | true =>
   simp only [aY,Bool.and_eq_true] at hd
   have:=List.all_eq_true.1 hd.1.2 _ (List.getElem_mem hi)
   rw [h] at this;cases this
theorem kr {l:List UInt8} (h1:1<l.length) (h:l.head?=some 48):aY l=false:=by
 simp [aY,h1,h]
theorem pQ {l:List UInt8} {i:Nat} (h:9223372036854775808<a9 (l.take i)):aY l=false:=by
 have:=zk l i
 have:¬ a9 l≤9223372036854775808:=by omega
 simp [aY,this]
theorem aR {neg:Bool} {l:List UInt8} (h:aY l=false):bu neg l=false:=by simp [bu,h]
theorem aJ {neg:Bool} {l:List UInt8} (h:bu neg l=false):bR neg l=.tup [.d (i64 0),.d (i64 5)]:=by simp [bR,h]
theorem ft {l:List UInt8} (h0:1≤l.length) (hlead:¬ (1<l.length∧l.head?=some 48)) (hall:l.all bb=true) (hv:a9 l≤9223372036854775808):aY l=true:=by
 simp only [aY,Bool.and_eq_true,Bool.not_eq_true',decide_eq_true_eq,Bool.and_eq_false_iff,decide_eq_false_iff_not,beq_eq_false_iff_ne]
 refine ⟨⟨⟨?_,?_⟩,hall⟩,hv⟩
 ·cases l with
  | nil=>simp at h0
  | cons c r=>rfl
 ·by_cases h:1<l.length
  ·exact .inr fun e=>hlead ⟨h,e⟩
  ·exact .inl h
theorem v7 {l:List UInt8} (h0:1≤l.length) (hlead:¬ (1<l.length∧l.head?=some 48)) (hne:l≠[48]) (hall:l.all bb=true):1≤a9 l:=by
 have hh:¬ l.head?=some 48:=by
  intro e
  have h1:¬ 1<l.length:=fun h=>hlead ⟨h,e⟩
  cases l with
  | nil=>simp at h0
  | cons c r =>
    cases r with
    | nil=>simp at e;subst e;exact hne rfl
    | cons d r=>simp at h1
 rcases xZ l hall hh with h | h
 ·omega
 ·exact Nat.le_trans (Nat.one_le_pow _ _ (by omega)) h
theorem fH {l:List UInt8} {i:Nat} (hi:i<l.length) (hall:(l.take i).all bb=true) (h:bb l[i]=true):(l.take (i+1)).all bb=true:=by
 rw [p5 hi,List.all_append,hall]
 simp [h]
theorem HL {n:Nat} (h:n≤19):(10:Nat) ^ n≤10000000000000000000:=Nat.le_trans (Nat.pow_le_pow_right (by omega) h) (by decide)
theorem kQ {l:List UInt8} {i:Nat} (hi:i<l.length) (hlen:l.length≤19) (hall:(l.take i).all bb=true) (h:bb (l.getD i 0)=true) :
  u64 (u64 (10*((a9 (l.take i):Nat):Int))+u64 (IntKind.u8.wrap (((l.getD i 0).toNat:Nat)-48)))=((a9 (l.take (i+1)):Nat):Int):=by
 have hc:l.getD i 0=l[i]:=by simp [hi]
 rw [hc] at h ⊢
 have h1:=lg _ (fH hi hall h)
 rw [List.length_take] at h1
 have h2:=HL (n:=min (i+1) l.length) (by omega)
 rw [de hi] at h1 ⊢
 simp only [bb,Bool.and_eq_true,decide_eq_true_eq] at h
 have e:IntKind.u8.wrap (((l[i].toNat:Nat):Int)-48)=((l[i].toNat-48:Nat):Int):=by
  simp only [IntKind.wrap,IntKind.bits,IntKind.signed]
  simp
  omega
 rw [e]
 simp only [vZ]
 omega
end Go.Proofs.YtejpnabbmgpmaaaGreat

namespace Go.Proofs.YtejpnabbmgpmaaaGreat
open Go.Ab
structure Tok where
 k:Int
 s:List UInt8
 n:Int
 pos:Int
 deriving Inhabited,DecidableEq
structure Fnd where
 t:Tok
 n:Nat
 e:Int
 deriving DecidableEq
def noT:Tok:=⟨0,[],0,0⟩
def dZ (e:Int):Fnd:=⟨noT,0,e⟩
def ck (t:Tok):D:=.agg [i64 t.k,.str t.s,i64 t.n,i64 t.pos]
def su (f:Fnd):D:=.agg [i64 f.t.k,.str f.t.s,i64 f.t.n,i64 f.t.pos,i64 f.n,i64 f.e]
def gw (c:UInt8):Bool:=decide (32≤c.toNat) && decide (c.toNat≤126) && decide (c.toNat≠34) && decide (c.toNat≠92)
def dv:List UInt8:=[48,49,50,51,52,53,54,55,56,57,97,98,99,100,101,102]
def gu:List UInt8→UInt8 × Nat
 | []=>(0,0)
 | c::r =>
   if c=34∨c=92 then (c,1)
   else if c=110 then (10,1)
   else if c=116 then (9,1)
   else if c=120 then
    match r with
    | a::b::_=>if Lib.indexByte dv a<0∨Lib.indexByte dv b<0 then (0,0) else (UInt8.ofNat (16*Lib.indexByte dv a+Lib.indexByte dv b).toNat,3)
    | _=>(0,0)
   else (0,0)
def eh:Nat→List UInt8→Nat→List UInt8→List UInt8 × Nat × Int
 | 0,_,_,_=>([],0,5)
 | _+1,[],_,_=>([],0,5)
 | m+1,c::r,i,acc =>
   if c=34 then (if 200<acc.length then ([],0,7) else (acc,i+1,0))
   else if c=92 then (if (gu r).2=0 then ([],0,5) else eh m (r.drop (gu r).2) (i+(gu r).2+1) (acc++[(gu r).1]))
   else if gw c then eh m r (i+1) (acc++[c])
   else ([],0,5)
def cI:List UInt8→List UInt8 × Nat × Int
 | []=>([],0,5)
 | c::r=>if c=34 then eh r.length.succ r 1 [] else ([],0,5)
def gP:List UInt8→Nat
 | []=>0
 | c::r=>if bb c then gP r+1 else 0
def bF:List UInt8:=[59,58,44,46,61,60,62,43,45,42,47,94,40,41,123,125,91,93,124,38]
def kJ (s:List UInt8) (n:Nat):Fnd :=
 if 20<n then dZ 7 else if Cg (s.take n) then ⟨⟨1,s.take n,0,0⟩,n,0⟩ else if gr ((s.take n).getD 0 0) then ⟨⟨3,s.take n,0,0⟩,n,0⟩ else ⟨⟨2,s.take n,0,0⟩,n,0⟩
def o7 (s:List UInt8):Fnd :=
 if bH (s.drop 1)=0∨gr (s.getD 1 0) then dZ 5 else if 20<bH (s.drop 1) then dZ 7 else ⟨⟨6,(s.drop 1).take (bH (s.drop 1)),0,0⟩,bH (s.drop 1)+1,0⟩
def tD (neg:Bool) (l:List UInt8):Int × Int:=if bu neg l then (if neg then -(a9 l:Int) else a9 l,0) else (0,5)
def tO (s:List UInt8):Int × Int:=if bm s [126] then tD true (s.drop 1) else tD false s
def vB (s:List UInt8):Fnd :=
 ⟨⟨4,[],(tO (s.take (gP (s.drop 1)+1))).1,0⟩,gP (s.drop 1)+1,(tO (s.take (gP (s.drop 1)+1))).2⟩
def nP (s:List UInt8):Fnd:=⟨⟨5,(cI s).1,0,0⟩,(cI s).2.1,(cI s).2.2⟩
def ja (s:List UInt8):Fnd :=
 if bm s [45,62] || bm s [61,61] then ⟨⟨7,s.take 2,0,0⟩,2,0⟩ else if Lib.indexByte bF (s.getD 0 0)<0 then dZ 5 else ⟨⟨7,s.take 1,0,0⟩,1,0⟩
def cn (s:List UInt8):Fnd :=
 if 0<bH s then kJ s (bH s)
 else if s.getD 0 0=39 then o7 s
 else if bb (s.getD 0 0) || decide (s.getD 0 0=126) then vB s
 else if s.getD 0 0=34 then nP s
 else ja s
def uT:List UInt8:=[32,9,10]
def dz:List UInt8→Option Nat
 | []=>none
 | c::r=>if c=10 then some 0 else (dz r).map (·+1)
def eQ:Nat→List UInt8→Nat
 | 0,_=>0
 | _+1,[]=>0
 | m+1,c::r =>
   if c=32∨c=9∨c=10 then eQ m r+1
   else if c=35 then
    match dz (c::r) with
    | none=>(c::r).length
    | some k=>k+eQ m ((c::r).drop k)
   else 0
def bc (s:List UInt8):Nat:=eQ s.length.succ s
def eO:Nat→List UInt8→Nat→List (Nat × Fnd)
 | 0,_,_=>[]
 | m+1,s,at' =>
   if s.drop (bc s)=[] then []
   else if (cn (s.drop (bc s))).e≠0 then [(at'+bc s,cn (s.drop (bc s)))]
   else (at'+bc s,cn (s.drop (bc s)))::eO m ((s.drop (bc s)).drop (cn (s.drop (bc s))).n) (at'+bc s+(cn (s.drop (bc s))).n)
def aE (s:List UInt8):List (Nat × Fnd):=eO s.length.succ s 0
def gD:List (Nat × Fnd)→Option (Nat × Int)
 | []=>none
 | q::r=>if q.2.e≠0 then some (q.1,q.2.e) else gD r
def fP (q:Nat × Fnd):Tok:={ q.2.t with pos:=q.1 }
def bM (s:List UInt8):List Tok × Nat × Int :=
 match gD (aE s) with
 | some (i,e)=>([],i,e)
 | none=>((aE s).map fP,s.length,0)
end Go.Proofs.YtejpnabbmgpmaaaGreat

namespace Go.Proofs.YtejpnabbmgpmaaaGreat
open Go.Ab
theorem qY (r:List UInt8):(gu r).2≤r.length:=by
 unfold gu
 (repeat' split)<;>simp
theorem uV:∀ (m:Nat) (r:List UInt8) (i:Nat) (acc:List UInt8),(eh m r i acc).2.2=0→i+1≤(eh m r i acc).2.1∧(eh m r i acc).2.1≤i+r.length
 | 0,_,_,_,h=>by simp [eh] at h
 | _+1,[],_,_,h=>by simp [eh] at h
 | m+1,c::r,i,acc,h=>by
   unfold eh at h ⊢
   split at h
   ·rename_i hc
    rw [if_pos hc]
    split at h
    ·simp at h
    ·rename_i h2;rw [if_neg h2];simp only [List.length_cons];omega
   rename_i hc
   rw [if_neg hc]
   split at h
   ·rename_i h1
    rw [if_pos h1]
    split at h
    ·simp at h
    ·rename_i h2
     rw [if_neg h2]
     have ih:=uV m _ _ _ h
     have:=qY r
     rw [List.length_drop] at ih
     simp only [List.length_cons];omega
   rename_i h1
   rw [if_neg h1]
   split at h
   ·rename_i h2
    rw [if_pos h2]
    have ih:=uV m _ _ _ h
    simp only [List.length_cons];omega
   ·simp at h
theorem EY {s:List UInt8} (h:(cI s).2.2=0):1≤(cI s).2.1∧(cI s).2.1≤s.length:=by
 cases s with
 | nil=>simp [cI] at h
 | cons c r =>
   simp only [cI] at h ⊢
   by_cases hc:c=34
   ·rw [if_pos hc] at h ⊢
    have:=uV _ _ _ _ h
    simp only [List.length_cons];omega
   ·rw [if_neg hc] at h;simp at h
theorem gT (l:List UInt8):bH l≤l.length:=by
 cases l with
 | nil=>simp [bH]
 | cons c r =>
   rw [dC (by simp)]
   have:=wI ((c::r).drop 1)
   split
   ·simp only [List.drop_succ_cons,List.drop_zero] at this;simp;omega
   ·omega
theorem mW:∀ l:List UInt8,gP l≤l.length
 | []=>Nat.le_refl _
 | c::r=>by
   unfold gP
   have:=mW r
   split<;>simp
   omega
theorem ej {s p:List UInt8} (h:bm s p=true):p.length≤s.length:=by
 simp only [bm,Bool.and_eq_true,decide_eq_true_eq] at h
 exact h.1
theorem A9 {s:List UInt8} (hs:s≠[]) (h:(cn s).e=0):1≤(cn s).n∧(cn s).n≤s.length:=by
 have h0:=List.length_pos_iff.2 hs
 unfold cn at h ⊢
 split at h
 ·rename_i hw
  rw [if_pos hw]
  unfold kJ at h ⊢
  have:=gT s
  split at h
  ·simp [dZ] at h
  rename_i h1
  rw [if_neg h1]
  (repeat' split)<;>(simp only;omega)
 rename_i hw
 rw [if_neg hw]
 split at h
 ·rename_i h1
  rw [if_pos h1]
  unfold o7 at h ⊢
  split at h
  ·simp [dZ] at h
  rename_i h2
  rw [if_neg h2]
  split at h
  ·simp [dZ] at h
  rename_i h3
  rw [if_neg h3]
  have:=gT (s.drop 1)
  rw [List.length_drop] at this
  have h4:¬ bH (s.drop 1)=0:=fun e=>h2 (.inl e)
  simp only;omega
 rename_i h1
 rw [if_neg h1]
 split at h
 ·rename_i h2
  rw [if_pos h2]
  unfold vB
  have:=mW (s.drop 1)
  rw [List.length_drop] at this
  simp only;omega
 rename_i h2
 rw [if_neg h2]
 split at h
 ·rename_i h3
  rw [if_pos h3]
  exact EY h
 rename_i h3
 rw [if_neg h3]
 unfold ja at h ⊢
 split at h
 ·rename_i h4
  rw [if_pos h4]
  simp only [Bool.or_eq_true] at h4
  rcases h4 with h4 | h4
  ·have:=ej h4;simp at this;simp only;omega
  ·have:=ej h4;simp at this;simp only;omega
 rename_i h4
 rw [if_neg h4]
 split at h
 ·simp [dZ] at h
 ·rename_i h5;rw [if_neg h5];simp only;omega
theorem xD:∀ (m:Nat) (s:List UInt8) (at':Nat),∀ q∈eO m s at',q.1≤at'+s.length
 | 0,_,_,_,h=>by simp [eO] at h
 | m+1,s,at',q,h=>by
   unfold eO at h
   split at h
   ·cases h
   rename_i hd
   have h0:=List.length_pos_iff.2 hd
   rw [List.length_drop] at h0
   split at h
   ·rw [List.mem_singleton.1 h];simp only;omega
   rename_i he
   have hn:=A9 hd (by simpa using he)
   rw [List.length_drop] at hn
   rcases List.mem_cons.1 h with rfl | h
   ·simp only;omega
   ·have:=xD m _ _ q h
    simp only [List.length_drop] at this
    omega
theorem lh:∀ (m:Nat) (s:List UInt8) (at':Nat),(eO m s at').length≤s.length
 | 0,_,_=>by simp [eO]
 | m+1,s,at'=>by
   unfold eO
   split
   ·simp
   rename_i hd
   have h0:=List.length_pos_iff.2 hd
   rw [List.length_drop] at h0
   split
   ·simp;omega
   rename_i he
   have hn:=A9 hd (by simpa using he)
   rw [List.length_drop] at hn
   have:=lh m ((s.drop (bc s)).drop (cn (s.drop (bc s))).n) (at'+bc s+(cn (s.drop (bc s))).n)
   simp only [List.length_drop,List.length_cons] at this ⊢
   omega
theorem sM:∀ {l:List (Nat × Fnd)} {q:Nat × Int},gD l=some q→∃ x∈l,x.1=q.1
 | [],_,h=>by cases h
 | a::r,q,h=>by
   unfold gD at h
   split at h
   ·cases h;exact ⟨a,List.mem_cons_self,rfl⟩
   ·obtain ⟨x,hx,e⟩:=sM h
    exact ⟨x,List.mem_cons_of_mem _ hx,e⟩
theorem rK:∀ {l:List (Nat × Fnd)} {q:Nat × Int},gD l=some q→q.2≠0
 | [],_,h=>by cases h
 | a::r,q,h=>by
   unfold gD at h
   split at h
   ·rename_i g;cases h;exact g
   ·exact rK h
theorem rQ (s:List UInt8):(bM s).2.1≤s.length∧(∀ t∈(bM s).1,0≤t.pos∧t.pos≤s.length)∧(bM s).1.length≤s.length∧((bM s).2.2=0→(bM s).2.1=s.length):=by
 have hin:=xD s.length.succ s 0
 unfold bM
 split
 ·rename_i i e h
  obtain ⟨x,hx,hxe⟩:=sM h
  have:=hin x hx
  have:=rK h
  refine ⟨by simp only at *;omega,fun _ h=>(by cases h),Nat.zero_le _,fun h=>absurd h this⟩
 ·refine ⟨Nat.le_refl _,fun t ht=>?_,?_,fun _=>rfl⟩
  ·obtain ⟨q,hq,rfl⟩:=List.mem_map.1 ht
   have:=hin q hq
   show 0≤(q.1:Int)∧(q.1:Int)≤_
   omega
  ·rw [List.length_map];exact lh _ _ _
end Go.Proofs.YtejpnabbmgpmaaaGreat

namespace Go.Proofs.YtejpnabbmgpmaaaGreat
open Go.Ab
theorem GY (l:List UInt8) (c:UInt8) (w:World):(callFunc 296 #[.string ⟨l.toArray⟩,.int .u8 (c.toNat:Nat)]).run Tryz.prog w=.ok (.value (.int .i64 (Lib.indexByte l c))) w:=by
 rw [run_callFunc_extern Tryz.func296 (by kernel_rfl) (by kernel_rfl) (by kernel_rfl) (e:=Extern.BytealgIndexByte.indexByte) (by kernel_rfl)]
 rw [Lib.run_indexByteString]
 simp [Result.andThen]
theorem Fa {G} (l:List UInt8) (c:UInt8):HP Tryz.prog G 265 [.str l,u8 c] (fun r=>r=.d (i64 (Lib.indexByte l c))):=by
 unfold u8
 refine al Tryz.func265 rfl (by decide +kernel) (by simp [Tryz.ntmps265]) (veil fun E=>?_)
 simp only [go_sem]
 refine H2 E 296 [.str l,.int .u8 (c.toNat:Nat)] [.string ⟨l.toArray⟩,.int .u8 (c.toNat:Nat)] (.int .i64 (Lib.indexByte l c)) (.int .i64 (Lib.indexByte l c)) rfl rfl (GY l c) (by simp only [go_sem]) rfl rfl ?_
 simp only [go_sem]
theorem kX {G} (l:List UInt8) (c:UInt8):HP Tryz.prog G 214 [.str l,u8 c] (fun r=>r=.d (i64 (Lib.indexByte l c))):=by
 refine al Tryz.func214 rfl (by decide +kernel) (by simp [Tryz.ntmps214]) (veil fun E=>?_)
 simp only [go_sem]
 refine ag E (Fa l c) rfl rfl (by simp) ?_
 rintro _ rfl
 simp only [go_sem]
theorem xN {G} (s p:List UInt8):HP Tryz.prog G 269 [.str s,.str p] (fun r=>r=.d (.bool (bm s p))):=by
 refine al Tryz.func269 rfl (by decide +kernel) (by simp [Tryz.ntmps269]) (veil fun E=>?_)
 simp only [go_sem]
 refine ag E (xx s p) rfl rfl (by simp) ?_
 rintro _ rfl
 simp only [go_sem]
theorem xV {G} (c:UInt8):HP Tryz.prog G 303 [u8 c] (fun r=>r=.d (.bool (gw c))):=by
 unfold u8
 refine al Tryz.func303 rfl (by decide +kernel) (by simp [Tryz.ntmps303]) (veil fun E=>?_)
 simp only [go_sem]
 repeat (first
  | (apply b6 E;(· simp only [go_sem]);(· intro h;(try simp only [bq] at h);simp only [↓h,go_sem];rfl);simp only [go_sem])
  | (apply ba E;(· simp only [go_sem]);(· intro h;(try simp only [bq] at h);simp only [↓h,go_sem];rfl);(· intro h;(try simp only [bq] at h);simp only [↓h,go_sem];rfl);simp only [go_sem])
  | (apply a8 E;(· simp only [go_sem]);(· rfl);(· intro h h';(try simp only [bq] at h h');simp only [↓h,↓h',go_sem];rfl);simp only [go_sem])
  | (apply aI E;(· simp only [go_sem]);(· rfl);(· intro h h';(try simp only [bq] at h h');simp only [↓h,↓h',go_sem];rfl);(· intro h h';(try simp only [bq] at h h');simp only [↓h,↓h',go_sem];rfl);simp only [go_sem])
  | (apply bV E;(· decide);simp only [go_sem]))
 have hp:(((decide (32≤((c.toNat:Nat):Int)) && decide (((c.toNat:Nat):Int)≤126)) && decide (¬ ((c.toNat:Nat):Int)=34)) && decide (¬ ((c.toNat:Nat):Int)=92))=gw c:=by
  unfold gw
  rw [Bool.eq_iff_iff];simp;omega
 rw [hp]
theorem bT {c:UInt8} (d:UInt8) (h:((c.toNat:Nat):Int)=(d.toNat:Nat)):c=d:=UInt8.toNat_inj.1 (by omega)
theorem aO {c:UInt8} (d:UInt8) (h:¬ ((c.toNat:Nat):Int)=(d.toNat:Nat)):¬ c=d:=fun e=>h (by rw [e])
def zC (c:UInt8) (r:List UInt8):UInt8 × Nat:=if c=110 then (10,1) else if c=116 then (9,1) else if c=120 then (match r with | a::b::_=>if Lib.indexByte dv a<0∨Lib.indexByte dv b<0 then (0,0) else (UInt8.ofNat (16*Lib.indexByte dv a+Lib.indexByte dv b).toNat,3) | _=>(0,0)) else (0,0)
theorem Cw (c:UInt8) (r:List UInt8):gu (c::r)=if c=34∨c=92 then (c,1) else zC c r:=rfl
theorem w4 (c:UInt8) (r:List UInt8) (h:c=34∨c=92):gu (c::r)=(c,1):=by rw [Cw,if_pos h]
theorem wR (c:UInt8) (r:List UInt8) (h:¬ (c=34∨c=92)):gu (c::r)=zC c r:=by rw [Cw,if_neg h]
theorem FW (c:UInt8):∀ l:List UInt8,Lib.indexByte l c<l.length∨l=[]
 | []=>.inr rfl
 | b::l=>by
   left
   have:=FW c l
   unfold Lib.indexByte
   split
   ·simp only [List.length_cons];omega
   split
   ·simp only [List.length_cons];omega
   ·rcases this with h | h
    ·simp only [List.length_cons];omega
    ·rename_i h1 h2
     subst h
     exact absurd rfl h2
theorem AY (c:UInt8):Lib.indexByte dv c<16:=by
 rcases FW c dv with h | h
 ·exact h
 ·cases h
theorem wz {G} (s:List UInt8) (hl:s.length≤1000000):HP Tryz.prog G 301 [.str s] (fun r=>r=.tup [.d (u8 (gu s).1),.d (i64 (gu s).2)]):=by
 unfold u8
 refine al Tryz.func301 rfl (by decide +kernel) (by simp [Tryz.ntmps301]) (veil fun E=>?_)
 simp only [go_sem]
 refine aB E (fun h=>?_) (fun h=>?_)<;>simp only [go_sem]
 ·have h0:s=[]:=by simpa using h
  subst h0
  rfl
 cases s with
 | nil=>simp at h
 | cons c r =>
 have hc0:(c::r).getD 0 0=c:=rfl
 simp only [List.length_cons] at hl
 refine ⟨by simp,?_⟩
 rw [hc0]
 have key1:c=34∨c=92→gu (c::r)=(c,1):=w4 c r
 have key0:¬ (c=34∨c=92)→gu (c::r)=zC c r:=wR c r
 refine ah E (fun h1=>?_) (fun h1=>?_)<;>simp only [go_sem]
 ·refine ah E (fun _=>?_) (fun h2=>absurd h1 h2)<;>simp only [go_sem]
  refine ⟨by simp,?_⟩
  rw [key1 (.inl (bT 34 h1))]
  rfl
 refine ah E (fun h2=>?_) (fun h2=>?_)<;>simp only [go_sem]
 ·refine ⟨by simp,?_⟩
  rw [key1 (.inr (bT 92 h2))]
  rfl
 have key:=key0 (fun h=>h.elim (aO 34 h1) (aO 92 h2))
 unfold zC at key
 refine ah E (fun h3=>?_) (fun h3=>?_)<;>simp only [go_sem]
 ·rw [key,if_pos (bT 110 h3)];rfl
 rw [if_neg (aO 110 h3)] at key
 refine ah E (fun h4=>?_) (fun h4=>?_)<;>simp only [go_sem]
 ·rw [key,if_pos (bT 116 h4)];rfl
 rw [if_neg (aO 116 h4)] at key
 refine ah E (fun h5=>?_) (fun h5=>?_)<;>simp only [go_sem]
 rotate_left
 ·rw [key,if_neg (aO 120 h5)];rfl
 rw [if_pos (bT 120 h5)] at key
 refine ah E (fun h6=>?_) (fun h6=>?_)<;>simp only [go_sem]
 ·have h7:gu (c::r)=(0,0):=by
   match r,h6,key with
   | [],_,key=>exact key
   | [_],_,key=>exact key
   | _::_::_,h6,_=>simp only [List.length_cons] at h6;omega
  rw [h7];rfl
 obtain ⟨a,b,r',rfl⟩:∃ a b r',r=a::b::r':=by
  match r,h6 with
  | [],h6=>exact absurd (by simp) h6
  | [_],h6=>exact absurd (by simp) h6
  | a::b::r',_=>exact ⟨a,b,r',rfl⟩
 simp only at key
 refine ak mixed E fun X=>?_
 simp only [go_sem]
 have ha:=AY a
 have hb:=AY b
 refine ⟨by omega,?_⟩
 rw [show (c::a::b::r').getD 1 0=a from rfl]
 refine bK X (kX dv a) rfl rfl (by simp) ?_
 simp only [go_sem]
 refine ⟨by omega,?_⟩
 rw [show (c::a::b::r').getD 2 0=b from rfl]
 refine bK X (kX dv b) rfl rfl (by simp) ?_
 simp only [go_sem]
 generalize Lib.indexByte dv a=x at ha key
 generalize Lib.indexByte dv b=y at hb key
 refine ⟨by decide +kernel,?_⟩
 repeat (first
  | (apply b6 E;(· simp only [go_sem]);(· intro h;(try simp only [bq] at h);simp only [↓h,go_sem];rfl);simp only [go_sem])
  | (apply ba E;(· simp only [go_sem]);(· intro h;(try simp only [bq] at h);simp only [↓h,go_sem];rfl);(· intro h;(try simp only [bq] at h);simp only [↓h,go_sem];rfl);simp only [go_sem])
  | (apply a8 E;(· simp only [go_sem]);(· rfl);(· intro h h';(try simp only [bq] at h h');simp only [↓h,↓h',go_sem];rfl);simp only [go_sem])
  | (apply aI E;(· simp only [go_sem]);(· rfl);(· intro h h';(try simp only [bq] at h h');simp only [↓h,↓h',go_sem];rfl);(· intro h h';(try simp only [bq] at h h');simp only [↓h,↓h',go_sem];rfl);simp only [go_sem])
  | (apply bV E;(· decide);simp only [go_sem]))
 refine aB E (fun h7=>?_) (fun h7=>?_)<;>simp only [go_sem]
 ·rw [key,if_pos (by simpa using h7)];rfl
 ·have h8:0≤x∧0≤y:=by
   have:¬ (x<0∨y<0):=by simpa using h7
   omega
  rw [key,if_neg (by omega),ai (n:=16*x) ⟨by omega,by omega⟩,ai ⟨by omega,by omega⟩]
  obtain ⟨n,hn⟩:∃ n:Nat,16*x+y=n:=⟨(16*x+y).toNat,by omega⟩
  rw [hn,Int.toNat_natCast]
  have h9:n<256:=by omega
  have h10:IntKind.u8.wrap (n:Int)=((UInt8.ofNat n).toNat:Nat):=by
   rw [UInt8.toNat_ofNat']
   simp [IntKind.wrap,IntKind.bits,IntKind.signed]
  rw [h10]
  rfl
end Go.Proofs.YtejpnabbmgpmaaaGreat

namespace Go.Proofs.YtejpnabbmgpmaaaGreat
open Go.Ab
def An:List UInt8→List (Name × Ob)
 | []=>eE
 | c::r=>dt (c::r)
theorem jM (l:List UInt8) (c:UInt8):An (l++[c])=dt (l++[c]):=by cases l<;>rfl
structure TkI (s:List UInt8) (i:Nat) (acc:List UInt8) (m:Nat):Prop where
 h1:1≤i
 hi:i≤s.length
 ha:acc.length≤i
 hm:(s.drop i).length<m
 he:eh m (s.drop i) i acc=cI s
theorem TkI.init {c:UInt8} {r:List UInt8} (hc:c=34):TkI (c::r) 1 [] r.length.succ :=
 ⟨Nat.le_refl _,by simp,by simp,by simp,by simp only [List.drop_succ_cons,List.drop_zero,cI,if_pos hc]⟩
theorem TkI.fin {s:List UInt8} {i m:Nat} {acc:List UInt8} (h:TkI s i acc m) (hi:s.length≤i):cI s=([],0,5):=by
 rw [← h.he,List.drop_eq_nil_of_le hi]
 cases m<;>rfl
theorem TkI.cases {s:List UInt8} {i m:Nat} {acc:List UInt8} (h:TkI s i acc m) (hi:i<s.length):∃ m',m=m'+1∧s.drop i=s.getD i 0::s.drop (i+1):=by
 obtain ⟨m',rfl⟩:∃ m',m=m'+1:=⟨m-1,by have:=h.hm;omega⟩
 exact ⟨m',rfl,by rw [List.drop_eq_getElem_cons hi];simp [hi]⟩
theorem TkI.mark {s:List UInt8} {i m:Nat} {acc:List UInt8} (h:TkI s i acc m) (hi:i<s.length) (hc:s.getD i 0=34):cI s=if 200<acc.length then ([],0,7) else (acc,i+1,0):=by
 obtain ⟨m',rfl,hd⟩:=h.cases hi
 rw [← h.he,hd,eh,if_pos hc]
theorem TkI.bad {s:List UInt8} {i m:Nat} {acc:List UInt8} (h:TkI s i acc m) (hi:i<s.length) (hc:¬ s.getD i 0=34) (hs:s.getD i 0=92) (he:(gu (s.drop (i+1))).2=0):cI s=([],0,5):=by
 obtain ⟨m',rfl,hd⟩:=h.cases hi
 rw [← h.he,hd,eh,if_neg hc,if_pos hs,if_pos he]
theorem TkI.odd {s:List UInt8} {i m:Nat} {acc:List UInt8} (h:TkI s i acc m) (hi:i<s.length) (hc:¬ s.getD i 0=34) (hs:¬ s.getD i 0=92) (hp:gw (s.getD i 0)=false):cI s=([],0,5):=by
 obtain ⟨m',rfl,hd⟩:=h.cases hi
 rw [← h.he,hd,eh,if_neg hc,if_neg hs,if_neg (by rw [hp];simp)]
theorem TkI.esc {s:List UInt8} {i m:Nat} {acc:List UInt8} (h:TkI s i acc m) (hi:i<s.length) (hc:¬ s.getD i 0=34) (hs:s.getD i 0=92) (he:¬ (gu (s.drop (i+1))).2=0) :
  TkI s (i+(gu (s.drop (i+1))).2+1) (acc++[(gu (s.drop (i+1))).1]) (m-1):=by
 obtain ⟨m',rfl,hd⟩:=h.cases hi
 have hl:=qY (s.drop (i+1))
 rw [List.length_drop] at hl
 have hm:=h.hm
 have ha:=h.ha
 rw [List.length_drop] at hm
 refine ⟨by omega,by omega,by simp;omega,by rw [List.length_drop];omega,?_⟩
 rw [← h.he,hd,eh,if_neg hc,if_pos hs,if_neg he,List.drop_drop,Nat.add_sub_cancel]
 congr 2
 omega
theorem TkI.plain {s:List UInt8} {i m:Nat} {acc:List UInt8} (h:TkI s i acc m) (hi:i<s.length) (hc:¬ s.getD i 0=34) (hs:¬ s.getD i 0=92) (hp:gw (s.getD i 0)=true):TkI s (i+1) (acc++[s.getD i 0]) (m-1):=by
 obtain ⟨m',rfl,hd⟩:=h.cases hi
 have hm:=h.hm
 have ha:=h.ha
 rw [List.length_drop] at hm
 refine ⟨by omega,by omega,by simp;omega,by rw [List.length_drop];omega,?_⟩
 rw [← h.he,hd,eh,if_neg hc,if_neg hs,if_pos hp,Nat.add_sub_cancel]
set_option maxHeartbeats 1000000 in
theorem EI {G} (s:List UInt8) (hl:s.length≤1000000):HP Tryz.prog G 268 [.str s] (fun r=>r=.tup [.d (.str (cI s).1),.d (i64 (cI s).2.1),.d (i64 (cI s).2.2)]):=by
 refine al Tryz.func268 rfl (by decide +kernel) (by simp [Tryz.ntmps268]) (veil fun E=>?_)
 simp only [go_sem]
 cases s with
 | nil =>
   simp only [go_sem]
   rfl
 | cons c r =>
 refine bU E (fun h=>absurd h (by simp)) (fun h=>?_)<;>simp only [go_sem]
 refine ⟨by simp,?_⟩
 refine ah E (fun h1=>?_) (fun h1=>?_)<;>simp only [go_sem]
 ·have h2:cI (c::r)=([],0,5):=by
   unfold cI
   simp only
   rw [if_neg (aO 34 h1)]
  rw [h2];rfl
 have hc:c=34:=Classical.byContradiction fun h=>h1 (fun e=>h (bT 34 e))
 obtain ⟨s,hs⟩:∃ s,s=c::r:=⟨_,rfl⟩
 have hI0:=TkI.init (r:=r) hc
 rw [← hs] at hl hI0
 simp only [← hs]
 refine az E (X:={ x:Nat × List UInt8 × Nat // TkI s x.1 x.2.1 x.2.2 }) (fun x=>[(0,.d (.str s)),(5,.bx [0] 0),(6,.d (i64 x.1.1))]) (fun x=>An x.1.2.1) [0,1] (fun x=>s.length-x.1.1) ⟨(1,[],r.length.succ),hI0⟩ (tau [([0],[5])]) ?_ ?_
 ·unfold An eE
  simp only [go_sem]
 rintro ⟨⟨i,acc,m⟩,hI⟩ E0
 refine aC E0 fun Q' hQ E'=>?_
 simp only at hI ⊢
 have hi:=hI.hi
 have ha:=hI.ha
 cases acc with
 | nil =>
   simp only [An]
   unfold eE
   simp only [go_sem]
   refine ah E' (fun h1=>?_) (fun h1=>?_)<;>simp only [go_sem]
   rotate_left
   ·rw [hQ]
    simp only [go_sem]
    rw [← hs,hI.fin (by omega)]
    rfl
   have h1':i<s.length:=by omega
   refine ⟨⟨by omega,by omega⟩,?_⟩
   refine ah E' (fun h2=>?_) (fun h2=>?_)<;>simp only [go_sem]
   ·have hmk:=hI.mark h1' (bT 34 h2)
    refine ab E' [.bx [0] 0] eE [0] C4 rfl rfl ⟨by simp only [go_sem],by rw [aa];decide⟩ rfl (by unfold eE;simp only [go_sem]) (by unfold eE;simp only [go_sem]) ?_
    rintro _ _ ⟨rfl,rfl⟩
    unfold eE
    simp only [go_sem]
    refine ab E' [.bx [0] 0] eE [0] CP rfl rfl ⟨by simp only [go_sem],by rw [aa];decide⟩ rfl (by unfold eE;simp only [go_sem]) (by unfold eE;simp only [go_sem]) ?_
    rintro _ _ ⟨rfl,rfl⟩
    unfold eE
    simp only [go_sem]
    rw [ai ⟨by omega,by omega⟩,hQ]
    simp only [go_sem]
    rw [← hs,hmk]
    rfl
   refine ah E' (fun h3=>?_) (fun h3=>?_)<;>simp only [go_sem]
   ·have h2n:=aO 34 h2
    have h3y:=bT 92 h3
    rw [ai (n:=(i:Int)+1) ⟨by omega,by omega⟩]
    refine ⟨⟨by omega,by omega⟩,?_⟩
    rw [show ((i:Int)+1).toNat=i+1 by omega,List.take_of_length_le (l:=s.drop (i+1)) (by rw [List.length_drop];omega)]
    have hel:=qY (s.drop (i+1))
    have hbad:=hI.bad h1' h2n h3y
    have hesc:=hI.esc h1' h2n h3y
    rw [List.length_drop] at hel
    refine ag E' (wz (s.drop (i+1)) (by rw [List.length_drop];omega)) rfl rfl (by simp) ?_
    rintro _ rfl
    obtain ⟨y,n,hyn⟩:∃ y n,gu (s.drop (i+1))=(y,n):=⟨_,_,rfl⟩
    rw [hyn] at hel hbad hesc ⊢
    simp only at hel hbad hesc
    simp only [go_sem]
    refine ah E' (fun h4=>?_) (fun h4=>?_)<;>simp only [go_sem]
    ·rw [hQ]
     simp only [go_sem]
     rw [← hs,hbad (by omega)]
     rfl
    ·have hI2:=hesc (by omega)
     refine ab E' [.bx [0] 0,.d (byD y)] eE [0] (sD y ) rfl rfl ⟨by simp only [go_sem],by rw [aa];decide⟩ rfl (by (unfold eE);simp only [go_sem]) (by (unfold eE);simp only [go_sem]) ?_
     rintro _ _ ⟨rfl,rfl⟩
     unfold uG
     (unfold eE)
     simp only [go_sem]
     rw [ai (n:=(n:Int)+1) ⟨by omega,by omega⟩,ai ⟨by omega,by omega⟩,hQ]
     simp only [go_sem]
     refine ⟨⟨(i+n+1,[]++[y],m-1),hI2⟩,by show s.length-(i+n+1)<_;omega,tau [([1],[46,2])],?_⟩
     rw [show (⟨(i+n+1,[]++[y],m-1),hI2⟩:{ x:Nat × List UInt8 × Nat // TkI s x.1 x.2.1 x.2.2 }).1.2.1=[]++[y] from rfl,jM]
     unfold dt
     simp only [go_sem]
     rw [show ((i+n+1:Nat):Int)=(i:Int)+((n:Int)+1) by omega]
   ·have h2n:=aO 34 h2
    have h3n:=aO 92 h3
    refine ag E' (xV (s.getD i 0)) rfl rfl (by simp) ?_
    rintro _ rfl
    simp only [go_sem]
    refine aB E' (fun h4=>?_) (fun h4=>?_)<;>simp only [go_sem]
    ·have hI2:=hI.plain h1' h2n h3n h4
     refine ab E' [.bx [0] 0,.d (byD (s.getD i 0))] eE [0] (sD (s.getD i 0) ) rfl rfl ⟨by simp only [go_sem],by rw [aa];decide⟩ rfl (by (unfold eE);simp only [go_sem]) (by (unfold eE);simp only [go_sem]) ?_
     rintro _ _ ⟨rfl,rfl⟩
     unfold uG
     (unfold eE)
     simp only [go_sem]
     rw [ai ⟨by omega,by omega⟩,hQ]
     simp only [go_sem]
     refine ⟨⟨(i+1,[]++[s.getD i 0],m-1),hI2⟩,by show s.length-(i+1)<_;omega,tau [([1],[55,2])],?_⟩
     rw [show (⟨(i+1,[]++[s.getD i 0],m-1),hI2⟩:{ x:Nat × List UInt8 × Nat // TkI s x.1 x.2.1 x.2.2 }).1.2.1=[]++[s.getD i 0] from rfl,jM]
     unfold dt
     simp only [go_sem]
     all_goals rfl
    ·rw [hQ]
     simp only [go_sem]
     rw [← hs,hI.odd h1' h2n h3n h4]
     rfl
 | cons a0 acc0 =>
   simp only [An]
   obtain ⟨acc,hacc⟩:∃ acc,acc=a0::acc0:=⟨_,rfl⟩
   have hne:acc≠[]:=by rw [hacc];simp
   rw [← hacc] at hI ha
   simp only [← hacc]
   unfold dt
   simp only [go_sem]
   refine ah E' (fun h1=>?_) (fun h1=>?_)<;>simp only [go_sem]
   rotate_left
   ·rw [hQ]
    simp only [go_sem]
    rw [← hs,hI.fin (by omega)]
    rfl
   have h1':i<s.length:=by omega
   refine ⟨⟨by omega,by omega⟩,?_⟩
   refine ah E' (fun h2=>?_) (fun h2=>?_)<;>simp only [go_sem]
   ·have hmk:=hI.mark h1' (bT 34 h2)
    refine ab E' [.bx [0] 0] (dt acc) [0,1] (zW acc) rfl rfl ⟨by simp only [go_sem],by rw [aa];decide⟩ rfl (by unfold dt;simp only [go_sem]) (by unfold dt;simp only [go_sem]) ?_
    rintro _ _ ⟨rfl,rfl⟩
    unfold dt
    simp only [go_sem]
    refine ⟨Nat.le_refl _,?_⟩
    refine ah E' (fun h5=>?_) (fun h5=>?_)<;>simp only [go_sem]
    ·rw [hQ]
     simp only [go_sem]
     rw [← hs,hmk,if_pos (by omega)]
     rfl
    refine ab E' [.bx [0] 0] (dt acc) [0,1] (Cj acc hne (by omega)) rfl rfl ⟨by simp only [go_sem],by rw [aa];decide⟩ rfl (by unfold dt;simp only [go_sem]) (by unfold dt;simp only [go_sem]) ?_
    rintro _ _ ⟨rfl,rfl⟩
    unfold dt
    simp only [go_sem]
    rw [ai ⟨by omega,by omega⟩,hQ]
    simp only [go_sem]
    rw [← hs,hmk,if_neg (by omega)]
    rfl
   refine ah E' (fun h3=>?_) (fun h3=>?_)<;>simp only [go_sem]
   ·have h2n:=aO 34 h2
    have h3y:=bT 92 h3
    rw [ai (n:=(i:Int)+1) ⟨by omega,by omega⟩]
    refine ⟨⟨by omega,by omega⟩,?_⟩
    rw [show ((i:Int)+1).toNat=i+1 by omega,List.take_of_length_le (l:=s.drop (i+1)) (by rw [List.length_drop];omega)]
    have hel:=qY (s.drop (i+1))
    have hbad:=hI.bad h1' h2n h3y
    have hesc:=hI.esc h1' h2n h3y
    rw [List.length_drop] at hel
    refine ag E' (wz (s.drop (i+1)) (by rw [List.length_drop];omega)) rfl rfl (by simp) ?_
    rintro _ rfl
    obtain ⟨y,n,hyn⟩:∃ y n,gu (s.drop (i+1))=(y,n):=⟨_,_,rfl⟩
    rw [hyn] at hel hbad hesc ⊢
    simp only at hel hbad hesc
    simp only [go_sem]
    refine ah E' (fun h4=>?_) (fun h4=>?_)<;>simp only [go_sem]
    ·rw [hQ]
     simp only [go_sem]
     rw [← hs,hbad (by omega)]
     rfl
    ·have hI2:=hesc (by omega)
     refine ab E' [.bx [0] 0,.d (byD y)] (dt acc) [0,1] (sY acc y (by omega)) rfl rfl ⟨by simp only [go_sem],by rw [aa];decide⟩ rfl (by (unfold dt);simp only [go_sem]) (by (unfold dt);simp only [go_sem]) ?_
     rintro _ _ ⟨rfl,rfl⟩
     unfold uG
     (unfold dt)
     simp only [go_sem]
     rw [ai (n:=(n:Int)+1) ⟨by omega,by omega⟩,ai ⟨by omega,by omega⟩,hQ]
     simp only [go_sem]
     refine ⟨⟨(i+n+1,acc++[y],m-1),hI2⟩,by show s.length-(i+n+1)<_;omega,tau [([1],[46,2])],?_⟩
     rw [show (⟨(i+n+1,acc++[y],m-1),hI2⟩:{ x:Nat × List UInt8 × Nat // TkI s x.1 x.2.1 x.2.2 }).1.2.1=acc++[y] from rfl,jM]
     unfold dt
     simp only [go_sem]
     rw [show ((i+n+1:Nat):Int)=(i:Int)+((n:Int)+1) by omega]
   ·have h2n:=aO 34 h2
    have h3n:=aO 92 h3
    refine ag E' (xV (s.getD i 0)) rfl rfl (by simp) ?_
    rintro _ rfl
    simp only [go_sem]
    refine aB E' (fun h4=>?_) (fun h4=>?_)<;>simp only [go_sem]
    ·have hI2:=hI.plain h1' h2n h3n h4
     refine ab E' [.bx [0] 0,.d (byD (s.getD i 0))] (dt acc) [0,1] (sY acc (s.getD i 0) (by omega)) rfl rfl ⟨by simp only [go_sem],by rw [aa];decide⟩ rfl (by (unfold dt);simp only [go_sem]) (by (unfold dt);simp only [go_sem]) ?_
     rintro _ _ ⟨rfl,rfl⟩
     unfold uG
     (unfold dt)
     simp only [go_sem]
     rw [ai ⟨by omega,by omega⟩,hQ]
     simp only [go_sem]
     refine ⟨⟨(i+1,acc++[s.getD i 0],m-1),hI2⟩,by show s.length-(i+1)<_;omega,tau [([1],[55,2])],?_⟩
     rw [show (⟨(i+1,acc++[s.getD i 0],m-1),hI2⟩:{ x:Nat × List UInt8 × Nat // TkI s x.1 x.2.1 x.2.2 }).1.2.1=acc++[s.getD i 0] from rfl,jM]
     unfold dt
     simp only [go_sem]
     all_goals rfl
    ·rw [hQ]
     simp only [go_sem]
     rw [← hs,hI.odd h1' h2n h3n h4]
     rfl
end Go.Proofs.YtejpnabbmgpmaaaGreat

namespace Go.Proofs.YtejpnabbmgpmaaaGreat
open Go.Ab
theorem ly {c:UInt8} {n:Nat} (hn:n<256):((c.toNat:Nat):Int)=(n:Int)↔c=UInt8.ofNat n:=by
 constructor
 ·intro h
  apply UInt8.toNat_inj.1
  rw [UInt8.toNat_ofNat']
  omega
 ·rintro rfl
  rw [UInt8.toNat_ofNat']
  omega
theorem gG {c:UInt8} (h:((c.toNat:Nat):Int)<48):bb c=false:=by
 unfold bb;rw [decide_eq_false (by omega)];rfl
theorem fG {c:UInt8} (h:57<((c.toNat:Nat):Int)):bb c=false:=by
 unfold bb;rw [decide_eq_false (p:=c.toNat≤57) (by omega),Bool.and_false]
theorem gU {c:UInt8} (h1:¬ ((c.toNat:Nat):Int)<48) (h2:¬ 57<((c.toNat:Nat):Int)):bb c=true:=by
 unfold bb;rw [decide_eq_true (by omega),decide_eq_true (by omega)];rfl
theorem dh {l:List UInt8} (h:1≤l.length):l.head?=some (l.getD 0 0):=by
 cases l with
 | nil=>simp at h
 | cons c r=>rfl
theorem jL {l:List UInt8} (hok:aY l=true) (hpv:1≤a9 l) (hv:a9 l≤9223372036854775808):bR true l=.tup [.d (i64 (w64 (u64 (0-(a9 l:Int))))),.d (i64 0)]:=by
 have h1:bu true l=true:=by simp [bu,hok];omega
 have h2:w64 (u64 (0-(a9 l:Int))) = -(a9 l:Int):=by rw [nt,vZ];split<;>omega
 rw [h2]
 simp [bR,h1]
theorem p9 {l:List UInt8} (hok:aY l=true) (hv:a9 l<9223372036854775808):bR false l=.tup [.d (i64 (w64 (a9 l:Int))),.d (i64 0)]:=by
 have h1:bu false l=true:=by simp [bu,hok];omega
 have h2:w64 (a9 l:Int)=a9 l:=ai ⟨by omega,by omega⟩
 rw [h2]
 simp [bR,h1]
theorem Co {G} (l:List UInt8):HP Tryz.prog G 170 [.str (126::l)] (fun r=>r=bR true l):=by
 refine al Tryz.func170 rfl (by decide +kernel) (by simp [Tryz.ntmps170]) (veil fun E=>?_)
 simp only [go_sem]
 refine an E (fun h=>?_) (fun h=>absurd (by simp) h)
 simp only [go_sem]
 refine ⟨by simp,by simp;omega,?_⟩
 refine an E (fun h1=>?_) (fun h1=>?_)<;>simp only [go_sem]
 ·have:l=[]:=List.length_eq_zero_iff.1 (by omega)
  subst this;rfl
 refine an E (fun h2=>?_) (fun h2=>?_)<;>simp only [go_sem]
 ·have:aY l=false:=by
   cases hd:aY l with
   | false=>rfl
   | true=>have:=qb hd;omega
  rw [aJ (aR this)]
 refine an E (fun h3=>?_) (fun h3=>?_)<;>simp only [go_sem]
 ·refine ⟨by omega,?_⟩
  refine an E (fun h4=>?_) (fun h4=>?_)<;>simp only [go_sem]
  ·have:aY l=false:=kr (by omega) (by rw [dh (by omega)];congr 1;exact (ly (n:=48) (by omega)).1 h4)
   rw [aJ (aR this)]
  ·refine aB E (fun h5=>?_) (fun h5=>?_)<;>simp only [go_sem]
   ·have:l=[48]:=by simpa using h5
    subst this;simp at h3
   ·have hne:l≠[48]:=by simpa using h5
    have hlead:¬ (1<l.length∧l.head?=some 48):=by
     rintro ⟨g1,g2⟩
     first
      | exact h4 ((ly (n:=48) (by omega)).2 (by rw [dh (by omega)] at g2;exact Option.some.inj g2))
      | omega
    refine cq E (X:={ i:Nat // i≤l.length∧(l.take i).all bb=true }) (fun x=>[(0,.d (.str (126::l))),(4,.d (.bool true)),(5,.d (.str l)),(6,.d (.int .u64 (a9 (l.take x.1)))),(7,.d (i64 x.1))]) (fun x=>l.length-x.1) rfl ⟨0,by simp,by simp⟩ ?_ ?_
    ·simp only [go_sem]
     simp [a9]
    rintro ⟨i,hi,hall⟩ E'
    simp only [go_sem]
    refine ah E' (fun h6=>?_) (fun h6=>?_)<;>simp only [go_sem]
    ·have hi':i<l.length:=by omega
     have hc:l.getD i 0=l[i]:=by simp [hi']
     refine ⟨⟨by omega,by omega⟩,?_⟩
     refine an E' (fun h7=>?_) (fun h7=>?_)<;>simp only [go_sem]
     ·have:aY l=false:=cj hi' (gG (by rw [← hc];exact h7))
      rw [aJ (aR this)]
     refine ⟨⟨by omega,by omega⟩,?_⟩
     refine ah E' (fun h8=>?_) (fun h8=>?_)<;>simp only [go_sem]
     ·have:aY l=false:=cj hi' (fG (by rw [← hc];exact h8))
      rw [aJ (aR this)]
     have hd:=gU h7 h8
     exact ⟨⟨by omega,by omega⟩,⟨i+1,by omega,fH hi' hall (by rw [← hc];exact hd)⟩,by show l.length-(i+1)<_;omega,by rw [kQ hi' (by omega) hall hd],by rw [ai ⟨by omega,by omega⟩];rfl⟩
    ·have hil:i=l.length:=by omega
     subst hil
     rw [List.take_length] at hall ⊢
     have hv:=lg l hall
     refine an E (fun h7=>?_) (fun h7=>?_)<;>simp only [go_sem]
     ·have:aY l=false:=by
       have:¬ a9 l≤9223372036854775808:=by omega
       simp [aY,this]
      rw [aJ (aR this)]
     have hok:=ft (by omega) hlead hall (by omega)
     have hpv:=v7 (by omega) hlead hne hall
     refine an E (fun h9=>?_) (fun h9=>?_)<;>simp only [go_sem]
     ·rw [jL hok hpv (by omega)]
     ·rw [jL hok hpv (by omega)]
 ·refine aB E (fun h5=>?_) (fun h5=>?_)<;>simp only [go_sem]
  ·have:l=[48]:=by simpa using h5
   subst this;rfl
  ·have hne:l≠[48]:=by simpa using h5
   have hlead:¬ (1<l.length∧l.head?=some 48):=by
    rintro ⟨g1,g2⟩
    first
     | exact h4 ((ly (n:=48) (by omega)).2 (by rw [dh (by omega)] at g2;exact Option.some.inj g2))
     | omega
   refine cq E (X:={ i:Nat // i≤l.length∧(l.take i).all bb=true }) (fun x=>[(0,.d (.str (126::l))),(4,.d (.bool true)),(5,.d (.str l)),(6,.d (.int .u64 (a9 (l.take x.1)))),(7,.d (i64 x.1))]) (fun x=>l.length-x.1) rfl ⟨0,by simp,by simp⟩ ?_ ?_
   ·simp only [go_sem]
    simp [a9]
   rintro ⟨i,hi,hall⟩ E'
   simp only [go_sem]
   refine ah E' (fun h6=>?_) (fun h6=>?_)<;>simp only [go_sem]
   ·have hi':i<l.length:=by omega
    have hc:l.getD i 0=l[i]:=by simp [hi']
    refine ⟨⟨by omega,by omega⟩,?_⟩
    refine an E' (fun h7=>?_) (fun h7=>?_)<;>simp only [go_sem]
    ·have:aY l=false:=cj hi' (gG (by rw [← hc];exact h7))
     rw [aJ (aR this)]
    refine ⟨⟨by omega,by omega⟩,?_⟩
    refine ah E' (fun h8=>?_) (fun h8=>?_)<;>simp only [go_sem]
    ·have:aY l=false:=cj hi' (fG (by rw [← hc];exact h8))
     rw [aJ (aR this)]
    have hd:=gU h7 h8
    exact ⟨⟨by omega,by omega⟩,⟨i+1,by omega,fH hi' hall (by rw [← hc];exact hd)⟩,by show l.length-(i+1)<_;omega,by rw [kQ hi' (by omega) hall hd],by rw [ai ⟨by omega,by omega⟩];rfl⟩
   ·have hil:i=l.length:=by omega
    subst hil
    rw [List.take_length] at hall ⊢
    have hv:=lg l hall
    refine an E (fun h7=>?_) (fun h7=>?_)<;>simp only [go_sem]
    ·have:aY l=false:=by
      have:¬ a9 l≤9223372036854775808:=by omega
      simp [aY,this]
     rw [aJ (aR this)]
    have hok:=ft (by omega) hlead hall (by omega)
    have hpv:=v7 (by omega) hlead hne hall
    refine an E (fun h9=>?_) (fun h9=>?_)<;>simp only [go_sem]
    ·rw [jL hok hpv (by omega)]
    ·rw [jL hok hpv (by omega)]
theorem BM {G}:HP Tryz.prog G 170 [.str []] (fun r=>r=bR false []):=by
 refine al Tryz.func170 rfl (by decide +kernel) (by simp [Tryz.ntmps170]) (veil fun E=>?_)
 simp only [go_sem]
 rfl
theorem AF {G} (l:List UInt8) (h0:1≤l.length) (hc:¬ (((l.getD 0 0).toNat:Nat):Int)=126):HP Tryz.prog G 170 [.str l] (fun x=>x=bR false l):=by
 refine al Tryz.func170 rfl (by decide +kernel) (by simp [Tryz.ntmps170]) (veil fun E=>?_)
 simp only [go_sem]
 refine an E (fun h=>?_) (fun h=>absurd (by omega) h)
 simp only [go_sem]
 refine ⟨by omega,?_⟩
 rw [show decide ((((l.getD 0 0).toNat:Nat):Int)=126)=false from decide_eq_false hc]
 simp only [go_sem]
 refine an E (fun h1=>?_) (fun h1=>?_)<;>simp only [go_sem]
 ·omega
 refine an E (fun h2=>?_) (fun h2=>?_)<;>simp only [go_sem]
 ·have:aY l=false:=by
   cases hd:aY l with
   | false=>rfl
   | true=>have:=qb hd;omega
  rw [aJ (aR this)]
 refine an E (fun h3=>?_) (fun h3=>?_)<;>simp only [go_sem]
 ·refine ⟨by omega,?_⟩
  refine an E (fun h4=>?_) (fun h4=>?_)<;>simp only [go_sem]
  ·have:aY l=false:=kr (by omega) (by rw [dh (by omega)];congr 1;exact (ly (n:=48) (by omega)).1 h4)
   rw [aJ (aR this)]
  ·have hlead:¬ (1<l.length∧l.head?=some 48):=by
    rintro ⟨g1,g2⟩
    first
     | exact h4 ((ly (n:=48) (by omega)).2 (by rw [dh (by omega)] at g2;exact Option.some.inj g2))
     | omega
   refine cq E (X:={ i:Nat // i≤l.length∧(l.take i).all bb=true }) (fun x=>[(0,.d (.str l)),(4,.d (.bool false)),(5,.d (.str l)),(6,.d (.int .u64 (a9 (l.take x.1)))),(7,.d (i64 x.1))]) (fun x=>l.length-x.1) rfl ⟨0,by simp,by simp⟩ ?_ ?_
   ·simp only [go_sem]
    simp [a9]
   rintro ⟨i,hi,hall⟩ E'
   simp only [go_sem]
   refine ah E' (fun h6=>?_) (fun h6=>?_)<;>simp only [go_sem]
   ·have hi':i<l.length:=by omega
    have hc:l.getD i 0=l[i]:=by simp [hi']
    refine ⟨⟨by omega,by omega⟩,?_⟩
    refine an E' (fun h7=>?_) (fun h7=>?_)<;>simp only [go_sem]
    ·have:aY l=false:=cj hi' (gG (by rw [← hc];exact h7))
     rw [aJ (aR this)]
    refine ⟨⟨by omega,by omega⟩,?_⟩
    refine ah E' (fun h8=>?_) (fun h8=>?_)<;>simp only [go_sem]
    ·have:aY l=false:=cj hi' (fG (by rw [← hc];exact h8))
     rw [aJ (aR this)]
    have hd:=gU h7 h8
    exact ⟨⟨by omega,by omega⟩,⟨i+1,by omega,fH hi' hall (by rw [← hc];exact hd)⟩,by show l.length-(i+1)<_;omega,by rw [kQ hi' (by omega) hall hd],by rw [ai ⟨by omega,by omega⟩];rfl⟩
   ·have hil:i=l.length:=by omega
    subst hil
    rw [List.take_length] at hall ⊢
    have hv:=lg l hall
    refine an E (fun h7=>?_) (fun h7=>?_)<;>simp only [go_sem]
    ·have:aY l=false:=by
      have:¬ a9 l≤9223372036854775808:=by omega
      simp [aY,this]
     rw [aJ (aR this)]
    have hok:=ft (by omega) hlead hall (by omega)
    refine an E (fun h9=>?_) (fun h9=>?_)<;>simp only [go_sem]
    ·have:bu false l=false:=by simp [bu,hok];omega
     rw [aJ this]
    ·rw [p9 hok (by omega)]
 ·have hlead:¬ (1<l.length∧l.head?=some 48):=by
   rintro ⟨g1,g2⟩
   first
    | exact h4 ((ly (n:=48) (by omega)).2 (by rw [dh (by omega)] at g2;exact Option.some.inj g2))
    | omega
  refine cq E (X:={ i:Nat // i≤l.length∧(l.take i).all bb=true }) (fun x=>[(0,.d (.str l)),(4,.d (.bool false)),(5,.d (.str l)),(6,.d (.int .u64 (a9 (l.take x.1)))),(7,.d (i64 x.1))]) (fun x=>l.length-x.1) rfl ⟨0,by simp,by simp⟩ ?_ ?_
  ·simp only [go_sem]
   simp [a9]
  rintro ⟨i,hi,hall⟩ E'
  simp only [go_sem]
  refine ah E' (fun h6=>?_) (fun h6=>?_)<;>simp only [go_sem]
  ·have hi':i<l.length:=by omega
   have hc:l.getD i 0=l[i]:=by simp [hi']
   refine ⟨⟨by omega,by omega⟩,?_⟩
   refine an E' (fun h7=>?_) (fun h7=>?_)<;>simp only [go_sem]
   ·have:aY l=false:=cj hi' (gG (by rw [← hc];exact h7))
    rw [aJ (aR this)]
   refine ⟨⟨by omega,by omega⟩,?_⟩
   refine ah E' (fun h8=>?_) (fun h8=>?_)<;>simp only [go_sem]
   ·have:aY l=false:=cj hi' (fG (by rw [← hc];exact h8))
    rw [aJ (aR this)]
   have hd:=gU h7 h8
   exact ⟨⟨by omega,by omega⟩,⟨i+1,by omega,fH hi' hall (by rw [← hc];exact hd)⟩,by show l.length-(i+1)<_;omega,by rw [kQ hi' (by omega) hall hd],by rw [ai ⟨by omega,by omega⟩];rfl⟩
  ·have hil:i=l.length:=by omega
   subst hil
   rw [List.take_length] at hall ⊢
   have hv:=lg l hall
   refine an E (fun h7=>?_) (fun h7=>?_)<;>simp only [go_sem]
   ·have:aY l=false:=by
     have:¬ a9 l≤9223372036854775808:=by omega
     simp [aY,this]
    rw [aJ (aR this)]
   have hok:=ft (by omega) hlead hall (by omega)
   refine an E (fun h9=>?_) (fun h9=>?_)<;>simp only [go_sem]
   ·have:bu false l=false:=by simp [bu,hok];omega
    rw [aJ this]
   ·rw [p9 hok (by omega)]
theorem uO (l:List UInt8) (h0:1≤l.length):bm l [126]=decide ((((l.getD 0 0).toNat:Nat):Int)=126):=by
 cases l with
 | nil=>simp at h0
 | cons c r =>
   rw [Bool.eq_iff_iff]
   simp [bm]
   constructor
   ·rintro rfl;rfl
   ·intro h;exact UInt8.toNat_inj.1 (show c.toNat=126 by omega)
theorem qI {G} (l:List UInt8):HP Tryz.prog G 170 [.str l] (fun r=>r=mu l):=by
 unfold mu
 by_cases h0:1≤l.length
 ·rw [uO l h0]
  by_cases hc:(((l.getD 0 0).toNat:Nat):Int)=126
  ·rw [decide_eq_true hc,if_pos rfl]
   cases l with
   | nil=>simp at h0
   | cons c r =>
     have:c=126:=UInt8.toNat_inj.1 (by simp at hc;exact Int.ofNat.inj hc)
     subst this
     exact Co r
  ·rw [decide_eq_false hc,if_neg (by simp)]
   exact AF l h0 hc
 ·have:l=[]:=List.length_eq_zero_iff.1 (by omega)
  subst this
  exact BM
end Go.Proofs.YtejpnabbmgpmaaaGreat

namespace Go.Proofs.YtejpnabbmgpmaaaGreat
open Go.Ab
theorem zK (s:ByteArray) (pos:Nat) (hb:128≤(s.get! (pos+0)).toNat):58≤(Utf8.decode s pos).1:=by
 unfold Utf8.decode
 simp only [Utf8.runeError]
 repeat' split
 all_goals (try simp only [Bool.and_eq_true,decide_eq_true_eq] at *)
 all_goals omega
theorem oG {l:List UInt8} {pos:Nat} (h:pos<l.length):(Utf8.decode ⟨l.toArray⟩ pos=(l[pos].toNat,1))∨(58≤(Utf8.decode ⟨l.toArray⟩ pos).1∧bb l[pos]=false):=by
 have hs:pos<(⟨l.toArray⟩:ByteArray).size:=by simpa [ByteArray.size] using h
 have e:(⟨l.toArray⟩:ByteArray)[pos]'hs=l[pos]:=by rfl
 have e2:(⟨l.toArray⟩:ByteArray).get! (pos+0)=l[pos]:=by
  show (⟨l.toArray⟩:ByteArray).get! pos=_
  simp [ByteArray.get!,getElem!_pos,h]
 by_cases ha:l[pos].toNat<128
 ·have:=decode_ascii ⟨l.toArray⟩ pos hs (by rw [e];exact ha)
  rw [e] at this
  exact .inl this
 ·refine .inr ⟨zK _ _ (by rw [e2];omega),fG (by omega)⟩
def u7 (l:List UInt8):AV:=.tup [.d (i64 (if aY l then -(a9 l:Int) else 0)),.d (i64 (if aY l then 0 else 5))]
theorem fg {l:List UInt8} (h:aY l=false):u7 l=.tup [.d (i64 0),.d (i64 5)]:=by simp [u7,h]
theorem F0 {c:UInt8} (h:bb c=true):w64 (IntKind.i32.wrap (((c.toNat:Nat):Int)-48))=((c.toNat-48:Nat):Int):=by
 simp only [bb,Bool.and_eq_true,decide_eq_true_eq] at h
 have e:IntKind.i32.wrap (((c.toNat:Nat):Int)-48)=((c.toNat-48:Nat):Int):=by
  simp only [IntKind.wrap,IntKind.bits,IntKind.signed]
  simp
  split<;>omega
 rw [e,ai ⟨by omega,by omega⟩]
theorem Ay {d:Nat} (h:d≤9):w64 ((w64 (-9223372036854775808+((d:Nat):Int))).tdiv 10) = -(((9223372036854775808-d) / 10:Nat):Int):=by
 have h1:w64 (-9223372036854775808+((d:Nat):Int)) = -9223372036854775808+((d:Nat):Int):=ai ⟨by omega,by omega⟩
 rw [h1]
 have h2:=Hx (-9223372036854775808+((d:Nat):Int))
 rw [if_pos (by omega)] at h2
 rw [h2,ai ⟨by omega,by omega⟩]
 omega
theorem wj {G} (l:List UInt8):HP Tryz.prog G 298 [.str l] (fun r=>r=u7 l):=by
 refine al Tryz.func298 rfl (by decide +kernel) (by simp [Tryz.ntmps298]) (veil fun E=>?_)
 simp only [go_sem]
 refine bU E (fun h0=>?_) (fun h0=>?_)<;>simp only [go_sem]
 ·have:l=[]:=by simpa using h0
  subst this;rfl
 have h0:1≤l.length:=by
  cases l with
  | nil=>simp at h0
  | cons c r=>simp
 refine an E (fun h1=>?_) (fun h1=>?_)<;>simp only [go_sem]
 ·refine ⟨by omega,?_⟩
  refine ah E (fun h4=>?_) (fun h4=>?_)<;>simp only [go_sem]
  ·have:aY l=false:=kr (by omega) (by rw [dh (by omega)];congr 1;exact (ly (n:=48) (by omega)).1 h4)
   rw [fg this]
  ·refine tU E l (by rw [ti9]) rfl (by simp) (by simp [aa]) ?_
   simp only [go_sem]
   refine bl E (X:={ i:Nat // i≤l.length∧(l.take i).all bb=true∧a9 (l.take i)≤9223372036854775808 }) (fun x=>[(0,.d (.str l)),(4,.d (i64 (-(a9 (l.take x.1):Nat)))),(21,.it [21])]) (fun x=>[([21],.siter l x.1)]) [21] (fun x=>l.length-x.1) ⟨0,by simp,by simp,by simp [a9]⟩ ?_ ?_
   ·simp only [go_sem]
    simp [a9]
   rintro ⟨i,hi,hall,hvi⟩ E0
   refine aC E0 fun Q' hQ E'=>?_
   simp only at hi hall hvi ⊢
   simp only [go_sem]
   refine wY E' [21] l i rfl rfl (by simp) (fun hi'=>?_) (fun hi'=>?_)<;>simp only [go_sem]
   ·rcases oG hi' with e | ⟨e1,e2⟩
    ·rw [e]
     refine an E' (fun h7=>?_) (fun h7=>?_)<;>simp only [go_sem]
     ·rw [hQ]
      simp only [go_sem]
      rw [fg (cj hi' (gG h7))]
     refine ah E' (fun h8=>?_) (fun h8=>?_)<;>simp only [go_sem]
     ·rw [hQ]
      simp only [go_sem]
      rw [fg (cj hi' (fG h8))]
     have hd:=gU h7 h8
     have hdv:l[i].toNat-48≤9:=by
      simp only [bb,Bool.and_eq_true,decide_eq_true_eq] at hd
      omega
     rw [F0 hd,Ay hdv]
     refine ah E' (fun h9=>?_) (fun h9=>?_)<;>simp only [go_sem]
     ·rw [hQ]
      simp only [go_sem]
      rw [fg (pQ (i:=i+1) (by rw [de hi'];omega))]
     ·rw [hQ]
      simp only [go_sem]
      have hle:10*a9 (l.take i)+(l[i].toNat-48)≤9223372036854775808:=by omega
      refine ⟨⟨i+1,by omega,fH hi' hall hd,by rw [de hi'];exact hle⟩,by show l.length-(i+1)<_;omega,?_,rfl⟩
      show AV.d (D.int IntKind.i64 _)=AV.d (i64 (-((a9 (l.take (i+1)):Nat):Int)))
      rw [de hi']
      congr 2
      simp only [nt]
      repeat' split
      all_goals omega
    ·refine an E' (fun h7=>?_) (fun h7=>?_)<;>simp only [go_sem]
     ·omega
     refine ah E' (fun h8=>?_) (fun h8=>?_)<;>simp only [go_sem]
     ·rw [hQ]
      simp only [go_sem]
      rw [fg (cj hi' e2)]
     ·omega
   ·rw [hQ]
    simp only [go_sem]
    have hil:i=l.length:=by omega
    subst hil
    rw [List.take_length] at hall hvi ⊢
    have hlead:¬ (1<l.length∧l.head?=some 48):=by
     rintro ⟨g1,g2⟩
     first
      | exact h4 ((ly (n:=48) (by omega)).2 (by rw [dh (by omega)] at g2;exact Option.some.inj g2))
      | omega
    have hok:=ft h0 hlead hall hvi
    simp [u7,hok]
 ·refine tU E l (by rw [ti9]) rfl (by simp) (by simp [aa]) ?_
  simp only [go_sem]
  refine bl E (X:={ i:Nat // i≤l.length∧(l.take i).all bb=true∧a9 (l.take i)≤9223372036854775808 }) (fun x=>[(0,.d (.str l)),(4,.d (i64 (-(a9 (l.take x.1):Nat)))),(21,.it [21])]) (fun x=>[([21],.siter l x.1)]) [21] (fun x=>l.length-x.1) ⟨0,by simp,by simp,by simp [a9]⟩ ?_ ?_
  ·simp only [go_sem]
   simp [a9]
  rintro ⟨i,hi,hall,hvi⟩ E0
  refine aC E0 fun Q' hQ E'=>?_
  simp only at hi hall hvi ⊢
  simp only [go_sem]
  refine wY E' [21] l i rfl rfl (by simp) (fun hi'=>?_) (fun hi'=>?_)<;>simp only [go_sem]
  ·rcases oG hi' with e | ⟨e1,e2⟩
   ·rw [e]
    refine an E' (fun h7=>?_) (fun h7=>?_)<;>simp only [go_sem]
    ·rw [hQ]
     simp only [go_sem]
     rw [fg (cj hi' (gG h7))]
    refine ah E' (fun h8=>?_) (fun h8=>?_)<;>simp only [go_sem]
    ·rw [hQ]
     simp only [go_sem]
     rw [fg (cj hi' (fG h8))]
    have hd:=gU h7 h8
    have hdv:l[i].toNat-48≤9:=by
     simp only [bb,Bool.and_eq_true,decide_eq_true_eq] at hd
     omega
    rw [F0 hd,Ay hdv]
    refine ah E' (fun h9=>?_) (fun h9=>?_)<;>simp only [go_sem]
    ·rw [hQ]
     simp only [go_sem]
     rw [fg (pQ (i:=i+1) (by rw [de hi'];omega))]
    ·rw [hQ]
     simp only [go_sem]
     have hle:10*a9 (l.take i)+(l[i].toNat-48)≤9223372036854775808:=by omega
     refine ⟨⟨i+1,by omega,fH hi' hall hd,by rw [de hi'];exact hle⟩,by show l.length-(i+1)<_;omega,?_,rfl⟩
     show AV.d (D.int IntKind.i64 _)=AV.d (i64 (-((a9 (l.take (i+1)):Nat):Int)))
     rw [de hi']
     congr 2
     simp only [nt]
     repeat' split
     all_goals omega
   ·refine an E' (fun h7=>?_) (fun h7=>?_)<;>simp only [go_sem]
    ·omega
    refine ah E' (fun h8=>?_) (fun h8=>?_)<;>simp only [go_sem]
    ·rw [hQ]
     simp only [go_sem]
     rw [fg (cj hi' e2)]
    ·omega
  ·rw [hQ]
   simp only [go_sem]
   have hil:i=l.length:=by omega
   subst hil
   rw [List.take_length] at hall hvi ⊢
   have hlead:¬ (1<l.length∧l.head?=some 48):=by
    rintro ⟨g1,g2⟩
    first
     | exact h4 ((ly (n:=48) (by omega)).2 (by rw [dh (by omega)] at g2;exact Option.some.inj g2))
     | omega
   have hok:=ft h0 hlead hall hvi
   simp [u7,hok]
end Go.Proofs.YtejpnabbmgpmaaaGreat

namespace Go.Proofs.YtejpnabbmgpmaaaGreat
open Go.Ab
theorem sX {l:List UInt8} (h:aY l=true):a9 l≤9223372036854775808:=by
 simp only [aY,Bool.and_eq_true,decide_eq_true_eq] at h
 exact h.2
theorem neg_zero {l:List UInt8} (h:a9 l=0):bR true l=.tup [.d (i64 0),.d (i64 5)]:=aJ (by simp [bu,h])
theorem CY {l:List UInt8} (hd:aY l=true) (h:a9 l≠0):bR true l=.tup [.d (i64 (-(a9 l:Int))),.d (i64 0)]:=by
 have:bu true l=true:=by simp [bu,hd,h]
 simp [bR,this]
theorem Hl {G} (s:List UInt8) (hp:bm s [126]=true):HP Tryz.prog G 267 [.str s] (fun r=>r=bR true (s.drop 1)):=by
 refine al Tryz.func267 rfl (by decide +kernel) (by simp [Tryz.ntmps267]) (veil fun E=>?_)
 simp only [go_sem]
 refine ag E (xh s [126]) rfl rfl (by simp) ?_
 rintro _ rfl
 simp only [hp,List.length_cons,List.length_nil]
 simp only [go_sem]
 refine ag E (wj (s.drop 1)) rfl rfl (by simp) ?_
 rintro _ rfl
 simp only [u7]
 by_cases hd:aY (s.drop 1)=true
 ·have hle:=sX hd
  simp only [hd,if_true]
  simp only [go_sem]
  refine an E (fun h1=>?_) (fun h1=>?_)<;>simp only [go_sem]
  ·rw [neg_zero (by omega)]
  ·rw [CY hd (by omega)]
 ·simp only [hd,if_false]
  simp only [go_sem]
  rw [aJ (aR (by simpa using hd))]
theorem Gb {G} (s:List UInt8) (hp:bm s [126]=false):HP Tryz.prog G 267 [.str s] (fun r=>r=bR false s):=by
 refine al Tryz.func267 rfl (by decide +kernel) (by simp [Tryz.ntmps267]) (veil fun E=>?_)
 simp only [go_sem]
 refine ag E (xh s [126]) rfl rfl (by simp) ?_
 rintro _ rfl
 simp only [hp,List.length_cons,List.length_nil]
 simp only [go_sem]
 refine ag E (wj s) rfl rfl (by simp) ?_
 rintro _ rfl
 simp only [u7]
 by_cases hd:aY s=true
 ·have hle:=sX hd
  simp only [hd,if_true]
  simp only [go_sem]
  refine ah E (fun h1=>?_) (fun h1=>?_)<;>simp only [go_sem]
  ·have:bu false s=false:=by simp [bu];intro _;omega
   rw [aJ this]
  ·have:bu false s=true:=by simp [bu,hd];omega
   simp [bR,this]
   rw [ai ⟨by omega,by omega⟩]
 ·simp only [hd,if_false]
  simp only [go_sem]
  rw [aJ (aR (by simpa using hd))]
theorem wx {G} (s:List UInt8):HP Tryz.prog G 267 [.str s] (fun r=>r=mu s):=by
 unfold mu
 cases hp:bm s [126] with
 | true=>exact Hl s hp
 | false=>exact Gb s hp
end Go.Proofs.YtejpnabbmgpmaaaGreat

namespace Go.Proofs.YtejpnabbmgpmaaaGreat
open Go.Ab
theorem BH {c:UInt8} (h1:65≤((c.toNat:Nat):Int)) (h2:((c.toNat:Nat):Int)≤90):gr c=true:=by
 show (decide (65≤((c.toNat:Nat):Int)) && decide (((c.toNat:Nat):Int)≤90))=true
 simp [h1,h2]
theorem B6 {c:UInt8} (h1:¬ 65≤((c.toNat:Nat):Int)):¬ gr c=true:=by
 show ¬ (decide (65≤((c.toNat:Nat):Int)) && decide (((c.toNat:Nat):Int)≤90))=true
 simp [h1]
theorem BY {c:UInt8} (h2:¬ ((c.toNat:Nat):Int)≤90):¬ gr c=true:=by
 show ¬ (decide (65≤((c.toNat:Nat):Int)) && decide (((c.toNat:Nat):Int)≤90))=true
 simp [h2]
theorem DR {G} (s:List UInt8) (n:Nat) (_hl:s.length≤1000000) (h1:1≤n) (hn:n≤s.length):HP Tryz.prog G 216 [.str s,i64 n] (fun r=>r=.d (su (kJ s n))):=by
 refine al Tryz.func216 rfl (by decide +kernel) (by simp [Tryz.ntmps216]) (veil fun E=>?_)
 simp only [go_sem]
 refine ⟨⟨by omega,by omega⟩,?_⟩
 rw [Nat.sub_zero]
 have hw:(s.take n).length=n:=by rw [List.length_take];omega
 obtain ⟨w,hwd⟩:∃ w,w=s.take n:=⟨_,rfl⟩
 rw [← hwd] at hw
 have hdef:kJ s n=if 20<n then dZ 7 else if Cg w then ⟨⟨1,w,0,0⟩,n,0⟩ else if gr (w.getD 0 0) then ⟨⟨3,w,0,0⟩,n,0⟩ else ⟨⟨2,w,0,0⟩,n,0⟩:=by rw [hwd];rfl
 rw [← hwd]
 refine ah E (fun h2=>?_) (fun h2=>?_)<;>simp only [go_sem]
 ·rw [hdef,if_pos (by omega)];rfl
 rw [if_neg (by omega)] at hdef
 refine ag E (xj w) rfl rfl (by simp) ?_
 rintro _ rfl
 simp only [go_sem]
 refine aB E (fun h3=>?_) (fun h3=>?_)<;>simp only [go_sem]
 ·rw [hdef,if_pos h3];rfl
 rw [if_neg (by rw [h3];simp)] at hdef
 refine ⟨by omega,?_⟩
 refine an E (fun h4=>?_) (fun h4=>?_)<;>simp only [go_sem]
 ·refine ⟨by omega,?_⟩
  refine ah E (fun h5=>?_) (fun h5=>?_)<;>simp only [go_sem]
  ·rw [hdef,if_pos (BH h4 h5)];rfl
  ·rw [hdef,if_neg (BY h5)];rfl
 ·rw [hdef,if_neg (B6 h4)];rfl
theorem wU {G} (c:UInt8):HP Tryz.prog G 218 [u8 c] (fun r=>r=.d (.bool (bb c))):=by
 unfold u8
 refine al Tryz.func218 rfl (by decide +kernel) (by simp [Tryz.ntmps218]) (veil fun E=>?_)
 simp only [go_sem]
 repeat (first
  | (apply b6 E;(· simp only [go_sem]);(· intro h;(try simp only [bq] at h);simp only [↓h,go_sem];rfl);simp only [go_sem])
  | (apply ba E;(· simp only [go_sem]);(· intro h;(try simp only [bq] at h);simp only [↓h,go_sem];rfl);(· intro h;(try simp only [bq] at h);simp only [↓h,go_sem];rfl);simp only [go_sem])
  | (apply a8 E;(· simp only [go_sem]);(· rfl);(· intro h h';(try simp only [bq] at h h');simp only [↓h,↓h',go_sem];rfl);simp only [go_sem])
  | (apply aI E;(· simp only [go_sem]);(· rfl);(· intro h h';(try simp only [bq] at h h');simp only [↓h,↓h',go_sem];rfl);(· intro h h';(try simp only [bq] at h h');simp only [↓h,↓h',go_sem];rfl);simp only [go_sem])
  | (apply bV E;(· decide);simp only [go_sem]))
 have hp:(decide (48≤((c.toNat:Nat):Int)) && decide (((c.toNat:Nat):Int)≤57))=bb c:=by
  unfold bb
  rw [Bool.eq_iff_iff];simp;omega
 rw [hp]
theorem Eu {G} (s:List UInt8) (hl:s.length≤1000000):HP Tryz.prog G 220 [.str s] (fun r=>r=.d (su (nP s))):=by
 refine al Tryz.func220 rfl (by decide +kernel) (by simp [Tryz.ntmps220]) (veil fun E=>?_)
 simp only [go_sem]
 refine ag E (EI s hl) rfl rfl (by simp) ?_
 rintro _ rfl
 simp only [go_sem]
 rfl
theorem kI (s:List UInt8):mu s=.tup [.d (i64 (tO s).1),.d (i64 (tO s).2)]:=by
 unfold mu tO
 have key:∀ (b:Bool) (l:List UInt8),bR b l=.tup [.d (i64 (tD b l).1),.d (i64 (tD b l).2)]:=fun b l=>by
  unfold bR tD
  cases bu b l<;>rfl
 split<;>exact key _ _
theorem qh {s:List UInt8} {n:Nat} (h:n<s.length):gP (s.drop n)=if bb (s.getD n 0) then gP (s.drop (n+1))+1 else 0:=by
 rw [List.drop_eq_getElem_cons h,gP]
 simp [h]
theorem FE {G} (s:List UInt8) (hl:s.length≤1000000) (h0:1≤s.length):HP Tryz.prog G 219 [.str s] (fun r=>r=.d (su (vB s))):=by
 refine al Tryz.func219 rfl (by decide +kernel) (by simp [Tryz.ntmps219]) (veil fun E=>?_)
 simp only [go_sem]
 have hle:=mW (s.drop 1)
 rw [List.length_drop] at hle
 refine az E (X:={ n:Nat // 1≤n∧n≤s.length∧n+gP (s.drop n)=gP (s.drop 1)+1 }) (fun x=>[(0,.d (.str s)),(2,.bx [2] 0),(3,.d (i64 x.1))]) (fun x=>[([2],.box [.d (i64 0),.d (.str []),.d (i64 0),.d (i64 0),.d (i64 0),.d (i64 0)])]) [2] (fun x=>s.length-x.1) ⟨1,by omega,by omega,by omega⟩ id ?_ ?_
 ·simp only [go_sem]
  all_goals rfl
 rintro ⟨n,hn1,hn2,hn3⟩ E0
 refine aC E0 fun Q' hQ E'=>?_
 simp only at hn1 hn2 hn3 ⊢
 simp only [go_sem]
 refine an E' (fun h1=>?_) (fun h1=>?_)<;>simp only [go_sem]
 ·have h1':n<s.length:=by omega
  refine ⟨⟨by omega,by omega⟩,?_⟩
  refine ag E' (wU (s.getD n 0)) rfl rfl (by simp) ?_
  rintro _ rfl
  simp only [go_sem]
  have hd:=qh h1'
  refine aB E' (fun h2=>?_) (fun h2=>?_)<;>simp only [go_sem]
  ·rw [ai ⟨by omega,by omega⟩,hQ]
   simp only [go_sem]
   rw [h2,if_pos rfl] at hd
   refine ⟨⟨n+1,by omega,by omega,by omega⟩,by show s.length-(n+1)<_;omega,id,?_⟩
   simp only [go_sem]
   rfl
  ·rw [h2] at hd
   have hn4:n=gP (s.drop 1)+1:=by simp at hd;omega
   rw [hQ]
   simp only [go_sem]
   refine ⟨⟨by omega,by omega⟩,?_⟩
   rw [Nat.sub_zero]
   refine ag E (wx (s.take n)) rfl rfl (by simp) ?_
   rintro _ rfl
   rw [kI]
   simp only [go_sem]
   rw [hn4]
   rfl
 ·have hn4:n=gP (s.drop 1)+1:=by
   have:n=s.length:=by omega
   rw [this,List.drop_length] at hn3
   simp [gP] at hn3
   omega
  rw [hQ]
  simp only [go_sem]
  refine ⟨⟨by omega,by omega⟩,?_⟩
  rw [Nat.sub_zero]
  refine ag E (wx (s.take n)) rfl rfl (by simp) ?_
  rintro _ rfl
  rw [kI]
  simp only [go_sem]
  rw [hn4]
  rfl
theorem Dz {G} (s:List UInt8) (hl:s.length≤1000000) (h0:1≤s.length):HP Tryz.prog G 217 [.str s] (fun r=>r=.d (su (o7 s))):=by
 have hwl:=gT (s.drop 1)
 rw [List.length_drop] at hwl
 refine al Tryz.func217 rfl (by decide +kernel) (by simp [Tryz.ntmps217]) (veil fun E=>?_)
 simp only [go_sem]
 refine ⟨⟨by omega,by omega⟩,?_⟩
 rw [List.take_of_length_le (l:=s.drop 1) (by rw [List.length_drop];omega)]
 refine ag E (rz (s.drop 1) (by rw [List.length_drop];omega)) rfl rfl (by simp) ?_
 rintro _ rfl
 simp only [go_sem]
 have hdef:o7 s=if bH (s.drop 1)=0∨gr (s.getD 1 0) then dZ 5 else if 20<bH (s.drop 1) then dZ 7 else ⟨⟨6,(s.drop 1).take (bH (s.drop 1)),0,0⟩,bH (s.drop 1)+1,0⟩:=rfl
 generalize bH (s.drop 1)=n at hdef hwl
 refine an E (fun h1=>?_) (fun h1=>?_)<;>simp only [go_sem]
 ·rw [hdef,if_pos (.inl (by omega))];rfl
 refine ⟨by omega,?_⟩
 have more:∀ h:¬ gr (s.getD 1 0)=true,o7 s=if 20<n then dZ 7 else ⟨⟨6,(s.drop 1).take n,0,0⟩,n+1,0⟩:=fun h=>by rw [hdef,if_neg (fun e=>e.elim (by omega) h)]
 refine an E (fun h2=>?_) (fun h2=>?_)<;>simp only [go_sem]
 ·refine ⟨by omega,?_⟩
  refine ah E (fun h3=>?_) (fun h3=>?_)<;>simp only [go_sem]
  ·rw [hdef,if_pos (.inr (BH h2 h3))];rfl
  have hm:=more (BY h3)
  refine ah E (fun h4=>?_) (fun h4=>?_)<;>simp only [go_sem]
  ·rw [hm,if_pos (by omega)];rfl
  rw [ai ⟨by omega,by omega⟩]
  refine ⟨⟨by omega,by omega⟩,?_⟩
  rw [hm,if_neg (by omega),show ((n:Int)+1).toNat-1=n by omega]
  rfl
 ·have hm:=more (B6 h2)
  refine ah E (fun h4=>?_) (fun h4=>?_)<;>simp only [go_sem]
  ·rw [hm,if_pos (by omega)];rfl
  rw [ai ⟨by omega,by omega⟩]
  refine ⟨⟨by omega,by omega⟩,?_⟩
  rw [hm,if_neg (by omega),show ((n:Int)+1).toNat-1=n by omega]
  rfl
theorem Dc {G} (s:List UInt8) (hl:s.length≤1000000) (h0:1≤s.length):HP Tryz.prog G 221 [.str s] (fun r=>r=.d (su (ja s))):=by
 refine al Tryz.func221 rfl (by decide +kernel) (by simp [Tryz.ntmps221]) (veil fun E=>?_)
 simp only [go_sem]
 refine ag E (xN s [45,62]) rfl rfl (by simp) ?_
 rintro _ rfl
 simp only [go_sem]
 have hdef:ja s=if bm s [45,62] || bm s [61,61] then ⟨⟨7,s.take 2,0,0⟩,2,0⟩ else if Lib.indexByte bF (s.getD 0 0)<0 then dZ 5 else ⟨⟨7,s.take 1,0,0⟩,1,0⟩:=rfl
 refine bU E (fun h1=>?_) (fun h1=>?_)<;>simp only [go_sem]
 ·have:=ej h1
  simp only [List.length_cons,List.length_nil] at this
  refine ⟨by omega,?_⟩
  rw [hdef,h1];rfl
 refine ag E (xN s [61,61]) rfl rfl (by simp) ?_
 rintro _ rfl
 simp only [go_sem]
 refine aB E (fun h2=>?_) (fun h2=>?_)<;>simp only [go_sem]
 ·have:=ej h2
  simp only [List.length_cons,List.length_nil] at this
  refine ⟨by omega,?_⟩
  rw [hdef,h2,Bool.or_true];rfl
 rw [h1,h2,Bool.or_false,if_neg (by simp)] at hdef
 refine ⟨by omega,?_⟩
 refine ag E (kX bF (s.getD 0 0)) rfl rfl (by simp) ?_
 rintro _ rfl
 simp only [go_sem]
 refine ah E (fun h3=>?_) (fun h3=>?_)<;>simp only [go_sem]
 ·rw [hdef,if_pos h3];rfl
 refine ⟨by omega,?_⟩
 rw [hdef,if_neg h3];rfl
end Go.Proofs.YtejpnabbmgpmaaaGreat

namespace Go.Proofs.YtejpnabbmgpmaaaGreat
open Go.Ab
theorem jk (f:Fnd):su f=.agg [i64 f.t.k,.str f.t.s,i64 f.t.n,i64 f.t.pos,i64 f.n,i64 f.e]:=rfl
theorem EE {G} (s:List UInt8) (hl:s.length≤1000000) (h0:1≤s.length):HP Tryz.prog G 146 [.str s] (fun r=>r=.d (su (cn s))):=by
 have hwl:=gT s
 refine al Tryz.func146 rfl (by decide +kernel) (by simp [Tryz.ntmps146]) (veil fun E=>?_)
 simp only [go_sem]
 refine ag E (rz s (by omega)) rfl rfl (by simp) ?_
 rintro _ rfl
 simp only [go_sem]
 have hdef:cn s=if 0<bH s then kJ s (bH s) else if s.getD 0 0=39 then o7 s else if bb (s.getD 0 0) || decide (s.getD 0 0=126) then vB s else if s.getD 0 0=34 then nP s else ja s:=rfl
 generalize bH s=n at hdef hwl
 generalize hc:s.getD 0 0=c at hdef
 refine ah E (fun h1=>?_) (fun h1=>?_)<;>simp only [go_sem]
 ·refine ag E (DR s n hl (by omega) hwl) rfl rfl (by simp) ?_
  rintro _ rfl
  rw [jk (kJ s n)]
  simp only [go_sem]
  rw [hdef,if_pos (by omega)];rfl
 rw [if_neg (by omega)] at hdef
 refine ⟨by omega,?_⟩
 rw [hc]
 refine ah E (fun h2=>?_) (fun h2=>?_)<;>simp only [go_sem]
 ·refine ag E (Dz s hl h0) rfl rfl (by simp) ?_
  rintro _ rfl
  rw [jk (o7 s)]
  simp only [go_sem]
  rw [hdef,if_pos (bT 39 h2)];rfl
 rw [if_neg (aO 39 h2)] at hdef
 refine ag E (wU c) rfl rfl (by simp) ?_
 rintro _ rfl
 simp only [go_sem]
 repeat (first
  | (apply b6 E;(· simp only [go_sem]);(· intro h;(try simp only [bq] at h);simp only [↓h,go_sem];rfl);simp only [go_sem])
  | (apply ba E;(· simp only [go_sem]);(· intro h;(try simp only [bq] at h);simp only [↓h,go_sem];rfl);(· intro h;(try simp only [bq] at h);simp only [↓h,go_sem];rfl);simp only [go_sem])
  | (apply a8 E;(· simp only [go_sem]);(· rfl);(· intro h h';(try simp only [bq] at h h');simp only [↓h,↓h',go_sem];rfl);simp only [go_sem])
  | (apply aI E;(· simp only [go_sem]);(· rfl);(· intro h h';(try simp only [bq] at h h');simp only [↓h,↓h',go_sem];rfl);(· intro h h';(try simp only [bq] at h h');simp only [↓h,↓h',go_sem];rfl);simp only [go_sem])
  | (apply bV E;(· decide);simp only [go_sem]))
 refine aB E (fun h3=>?_) (fun h3=>?_)<;>simp only [go_sem]
 ·refine ag E (FE s hl h0) rfl rfl (by simp) ?_
  rintro _ rfl
  rw [jk (vB s)]
  simp only [go_sem]
  have h4:(bb c || decide (c=126))=true:=by
   simp only [Bool.or_eq_true,decide_eq_true_eq] at h3 ⊢
   rcases h3 with h3 | h3
   ·exact .inl h3
   ·exact .inr (bT 126 h3)
  rw [hdef,if_pos h4];rfl
 have h4:¬ (bb c || decide (c=126))=true:=by
  simp only [Bool.or_eq_false_iff,decide_eq_false_iff_not] at h3
  simp only [Bool.or_eq_true,decide_eq_true_eq,not_or]
  exact ⟨by rw [h3.1];simp,aO 126 h3.2⟩
 rw [if_neg h4] at hdef
 refine ah E (fun h5=>?_) (fun h5=>?_)<;>simp only [go_sem]
 ·refine ag E (Eu s hl) rfl rfl (by simp) ?_
  rintro _ rfl
  rw [jk (nP s)]
  simp only [go_sem]
  rw [hdef,if_pos (bT 34 h5)];rfl
 rw [if_neg (aO 34 h5)] at hdef
 refine ag E (Dc s hl h0) rfl rfl (by simp) ?_
 rintro _ rfl
 rw [jk (ja s)]
 simp only [go_sem]
 rw [hdef];rfl
theorem wD:∀ l:List UInt8,Lib.indexByte l 10=match dz l with
  | none=>-1
  | some k=>(k:Int)
 | []=>rfl
 | c::r=>by
   unfold Lib.indexByte dz
   by_cases h:c=10
   ·simp [h]
   ·rw [if_neg (by simpa using h),if_neg h,wD r]
    cases dz r with
    | none=>rfl
    | some k =>
      simp only [Option.map_some]
      rw [if_neg (by simp)]
      show (k:Int)+1=((k+1:Nat):Int)
      omega
theorem sg:∀ {l:List UInt8} {k:Nat},dz l=some k→k<l.length
 | [],_,h=>by cases h
 | c::r,k,h=>by
   unfold dz at h
   split at h
   ·cases h;simp
   ·obtain ⟨j,hj,rfl⟩:=Option.map_eq_some_iff.1 h
    have:=sg hj
    simp only [List.length_cons];omega
theorem nR {c:UInt8} {r:List UInt8} {k:Nat} (hc:¬ c=10) (h:dz (c::r)=some k):1≤k:=by
 unfold dz at h
 rw [if_neg hc] at h
 obtain ⟨j,_,rfl⟩:=Option.map_eq_some_iff.1 h
 omega
theorem tj (c:UInt8):0≤Lib.indexByte uT c↔c=32∨c=9∨c=10:=by
 unfold uT
 by_cases h1:c=32
 ·subst h1;decide
 by_cases h2:c=9
 ·subst h2;decide
 by_cases h3:c=10
 ·subst h3;decide
 simp [Lib.indexByte,Ne.symm h1,Ne.symm h2,Ne.symm h3,h1,h2,h3]
structure PaI (s:List UInt8) (n m:Nat):Prop where
 hn:n≤s.length
 hm:(s.drop n).length<m
 he:n+eQ m (s.drop n)=bc s
theorem PaI.init (s:List UInt8):PaI s 0 s.length.succ:=⟨Nat.zero_le _,by simp,by simp [bc]⟩
theorem PaI.fin {s:List UInt8} {n m:Nat} (h:PaI s n m) (hn:s.length≤n):bc s=n:=by
 rw [← h.he,List.drop_eq_nil_of_le hn]
 cases m<;>rfl
theorem PaI.cases {s:List UInt8} {n m:Nat} (h:PaI s n m) (hi:n<s.length):∃ m',m=m'+1∧s.drop n=s.getD n 0::s.drop (n+1):=by
 obtain ⟨m',rfl⟩:∃ m',m=m'+1:=⟨m-1,by have:=h.hm;omega⟩
 exact ⟨m',rfl,by rw [List.drop_eq_getElem_cons hi];simp [hi]⟩
theorem PaI.blank {s:List UInt8} {n m:Nat} (h:PaI s n m) (hi:n<s.length) (hb:s.getD n 0=32∨s.getD n 0=9∨s.getD n 0=10):PaI s (n+1) (m-1):=by
 obtain ⟨m',rfl,hd⟩:=h.cases hi
 have hm:=h.hm
 rw [List.length_drop] at hm
 refine ⟨by omega,by rw [List.length_drop];omega,?_⟩
 rw [← h.he,hd,eQ,if_pos hb,Nat.add_sub_cancel]
 omega
theorem PaI.stop {s:List UInt8} {n m:Nat} (h:PaI s n m) (hi:n<s.length) (hb:¬ (s.getD n 0=32∨s.getD n 0=9∨s.getD n 0=10)) (hr:¬ s.getD n 0=35):bc s=n:=by
 obtain ⟨m',rfl,hd⟩:=h.cases hi
 rw [← h.he,hd,eQ,if_neg hb,if_neg hr]
 omega
theorem PaI.none {s:List UInt8} {n m:Nat} (h:PaI s n m) (hi:n<s.length) (hb:¬ (s.getD n 0=32∨s.getD n 0=9∨s.getD n 0=10)) (hr:s.getD n 0=35) (hf:dz (s.drop n)=none):bc s=s.length:=by
 obtain ⟨m',rfl,hd⟩:=h.cases hi
 rw [hd] at hf
 rw [← h.he,hd,eQ,if_neg hb,if_pos hr,hf,← hd]
 simp only [List.length_drop]
 omega
theorem PaI.some {s:List UInt8} {n m k:Nat} (h:PaI s n m) (hi:n<s.length) (hb:¬ (s.getD n 0=32∨s.getD n 0=9∨s.getD n 0=10)) (hr:s.getD n 0=35) (hf:dz (s.drop n)=some k):PaI s (n+k) (m-1)∧1≤k:=by
 obtain ⟨m',rfl,hd⟩:=h.cases hi
 have hk:=sg hf
 have h1:1≤k:=by
  rw [hd] at hf
  exact nR (by rw [hr];decide) hf
 have hm:=h.hm
 rw [List.length_drop] at hm hk
 refine ⟨⟨by omega,by rw [List.length_drop];omega,?_⟩,h1⟩
 rw [hd] at hf
 rw [← h.he,hd,eQ,if_neg hb,if_pos hr,hf,← hd]
 simp only [List.drop_drop,Nat.add_sub_cancel]
 omega
theorem w6 {G} (s:List UInt8) (hl:s.length≤1000000):HP Tryz.prog G 145 [.str s] (fun r=>r=.d (i64 (bc s))):=by
 refine al Tryz.func145 rfl (by decide +kernel) (by simp [Tryz.ntmps145]) (veil fun E=>?_)
 simp only [go_sem]
 refine az E (X:={ x:Nat × Nat // PaI s x.1 x.2 }) (fun x=>[(0,.d (.str s)),(3,.d (i64 x.1.1))]) (fun _=>[]) [] (fun x=>s.length-x.1.1) ⟨(0,_),PaI.init s⟩ id ?_ ?_
 ·simp only [go_sem]
  all_goals rfl
 rintro ⟨⟨n,m⟩,hI⟩ E0
 refine aC E0 fun Q' hQ E'=>?_
 simp only at hI ⊢
 have hn:=hI.hn
 simp only [go_sem]
 refine ah E' (fun h1=>?_) (fun h1=>?_)<;>simp only [go_sem]
 rotate_left
 ·rw [hQ]
  simp only [go_sem]
  rw [hI.fin (by omega)]
 have h1':n<s.length:=by omega
 refine ⟨⟨by omega,by omega⟩,?_⟩
 refine ag E' (kX uT (s.getD n 0)) rfl rfl (by simp) ?_
 rintro _ rfl
 simp only [go_sem]
 refine ah E' (fun h2=>?_) (fun h2=>?_)<;>simp only [go_sem]
 ·have hI2:=hI.blank h1' ((tj _).1 h2)
  rw [ai ⟨by omega,by omega⟩,hQ]
  simp only [go_sem]
  refine ⟨⟨(n+1,m-1),hI2⟩,by show s.length-(n+1)<_;omega,id,?_⟩
  simp only [go_sem]
  rfl
 have h2n:¬ (s.getD n 0=32∨s.getD n 0=9∨s.getD n 0=10):=fun h=>h2 ((tj _).2 h)
 refine ⟨⟨by omega,by omega⟩,?_⟩
 refine ah E' (fun h3=>?_) (fun h3=>?_)<;>simp only [go_sem]
 rotate_left
 ·rw [hQ]
  simp only [go_sem]
  rw [hI.stop h1' h2n (aO 35 h3)]
 have h3y:=bT 35 h3
 refine ⟨⟨by omega,by omega⟩,?_⟩
 rw [List.take_of_length_le (l:=s.drop n) (by rw [List.length_drop];omega)]
 refine ag E' (kX (s.drop n) 10) rfl rfl (by simp) ?_
 rintro _ rfl
 rw [wD]
 cases hf:dz (s.drop n) with
 | none =>
   simp only [go_sem]
   rw [hQ]
   simp only [go_sem]
   rw [hI.none h1' h2n h3y hf]
 | some k =>
   have ⟨hI2,hk⟩:=hI.some h1' h2n h3y hf
   have hn2:=hI2.hn
   simp only [go_sem]
   refine ah E' (fun h4=>?_) (fun h4=>?_)<;>simp only [go_sem]
   ·omega
   rw [ai ⟨by omega,by omega⟩,hQ]
   simp only [go_sem]
   refine ⟨⟨(n+k,m-1),hI2⟩,by show s.length-(n+k)<_;omega,id,?_⟩
   simp only [go_sem]
   rfl
end Go.Proofs.YtejpnabbmgpmaaaGreat

namespace Go.Ab
section
variable {P:Program} {F:Fence} {n:Nat} {ops:Array Oper} {Q Q':Exit→Act→World→Prop}
theorem vl {o:Oper} {a:Act} {w:World} {K K':Act→World→Prop} (h:∀ a w,K a w→K' a w) (hq:∀ e a w,Q e a w→Q' e a w) (hh:o.wpIn F n P a w K Q):o.wpIn F n P a w K' Q':=by
 unfold Oper.wpIn at *
 refine ⟨hh.1,?_⟩
 have hh:=hh.2
 generalize (o.semAt F.round a.eval).run P w=r at *
 cases r with
 | ok x w' =>
   cases x<;>simp only [Oper.uponIn] at hh ⊢ <;>
    first
     | exact h _ _ hh
     | exact ⟨hh.1,CallsIn.mono hh.2 (fun e w'' he=>by cases e<;>first | exact h _ _ he | exact hq _ _ _ he | exact he.elim fun a he=>he.elim fun w he=>⟨a,w,hq _ _ _ he⟩ | exact he)⟩
     | exact ⟨hh.1,RowsIn.mono hh.2 (fun _ _ he=>h _ _ he)⟩
     | exact ⟨hh.1,RoundIn.mono hh.2 (fun e w'' he=>by cases e<;>first | exact h _ _ he | exact hq _ _ _ he | exact he.elim fun a he=>he.elim fun w he=>⟨a,w,hq _ _ _ he⟩ | exact he)⟩
 | halt x w'=>cases x<;>simp only [Oper.uponIn] at hh ⊢<;>first | exact hq _ _ _ hh | exact hh
theorem eG (hq:∀ e a w,Q e a w→Q' e a w):∀ (l:List Nat) (a:Act) (w:World),wpOpsIn F n P ops Q l a w→wpOpsIn F n P ops Q' l a w
 | [],_,_,h=>hq _ _ _ h
 | i::r,a,w,h=>by
   simp only [wpOpsIn] at h ⊢
   split
   ·rename_i hn
    simp only [hn] at h
    exact eG hq r a w h
   ·rename_i o ho
    simp only [ho] at h
    split
    ·rename_i hw
     simp only [hw,if_true] at h
     exact vl (fun a w=>eG hq r a w) hq h
    ·rename_i hw
     simp only [hw] at h
     exact ⟨h.1,eG hq r _ w h.2⟩
end
section
variable {P:Program} {cf:Cf} {Φ:Exit→Act→World→Prop} {I:Base→List Deferred→Prop} {k:List It} {s:St}
theorem rb {all:Array Oper} {r:List Oper} (h:∀ E:Eng P cf (yq P cf Φ I k),E.run [.ops all r] s):ARY P cf Φ I (.ops all r::k) s:=by
 have h1:run P cf [.ops all r] (yq P cf Φ I k) s:=veil h
 intro B hB ds β a w hds hI hs l hl
 have h2:=aW h1 B hB ds β a w hds hs l hl
 exact eG (fun _ _ _ hq=>xB hB hI hq) l a w h2
theorem C2 {B0:Base} {X:Type} {Iv:X→St} {fr0 fr:List (Nat × AV)} {hp0 hp:List (Name × Ob)} {u0 u:List Nat} (hl:LKL (mk fr0 hp0 u0) hp) (h:ARX cf Φ (CI B0) .ret (mk fr0 hp u)):rq P cf Φ B0 k Iv (mk fr0 hp0 u0) .ret (mk fr hp u):=⟨qs (gY hl),h⟩
end
end Go.Ab

namespace Go.Proofs.YtejpnabbmgpmaaaGreat
open Go.Ab
theorem BB {G} (s:List UInt8):HP Tryz.prog G 89 [.str s] (fun r=>r=.d (.clo 144 [.ptr (.str s)])):=by
 have h:HCall Tryz.prog G 89 [.d (.str s)] [] [] (fun r hp'=>r=.clo 144 [.bx [1] 0]∧hp'=[([1],.box [.d (.str s)])]):=by
  refine aq Tryz.func89 rfl (by decide +kernel) (by simp [Tryz.ntmps89]) (veil fun E=>?_)
  simp only [go_sem]
  refine ⟨_,_,[1],id,⟨rfl,rfl⟩,?_⟩
  simp only [go_sem]
 have h2:=HCall.fB (Q':=fun r hp'=>r=.d (.clo 144 [.ptr (.str s)])∧hp'=[]) h [1] (.str s) (by
  rintro r hp' ⟨rfl,rfl⟩
  refine ⟨rfl,rfl,?_,?_⟩
  ·simp only [go_sem]
  ·simp only [go_sem])
 exact h2.mono fun r hp' ⟨h1,h3⟩=>⟨h1,by rw [h1];rfl,h3⟩
theorem nK:∀ (m:Nat) (s:List UInt8),eQ m s≤s.length
 | 0,_=>Nat.zero_le _
 | _+1,[]=>Nat.le_refl _
 | m+1,c::r=>by
   unfold eQ
   split
   ·have:=nK m r
    simp only [List.length_cons];omega
   split
   ·split
    ·exact Nat.le_refl _
    ·rename_i k hk
     have:=sg hk
     have h2:=nK m ((c::r).drop k)
     rw [List.length_drop] at h2
     omega
   ·exact Nat.zero_le _
theorem xq (s:List UInt8):bc s≤s.length:=nK _ _
structure TI (s:List UInt8) (j p:Nat):Prop where
 hj:j≤(aE s).length
 hp:p≤s.length
 he:∃ m q,q≤s.length∧(s.drop q).length<m∧p=q+bc (s.drop q)∧(aE s).drop j=eO m (s.drop q) q
theorem TI.init (s:List UInt8):TI s 0 (bc s):=⟨Nat.zero_le _,xq s,s.length.succ,0,Nat.zero_le _,by simp,by simp,by simp [aE]⟩
theorem TI.next {s:List UInt8} {j p:Nat} (h:TI s j p):(s.length≤p∧(aE s).drop j=[]) ∨
  (p<s.length∧(aE s)[j]?=some (p,cn (s.drop p))∧(((cn (s.drop p)).e≠0∧(aE s).length=j+1) ∨
   ((cn (s.drop p)).e=0∧p+(cn (s.drop p)).n≤s.length∧1≤(cn (s.drop p)).n∧TI s (j+1) (p+(cn (s.drop p)).n+bc (s.drop (p+(cn (s.drop p)).n)))))):=by
 obtain ⟨m,q,hq,hm,rfl,he⟩:=h.he
 have hpl:=h.hp
 cases m with
 | zero=>omega
 | succ m =>
   have hdd:(s.drop q).drop (bc (s.drop q))=s.drop (q+bc (s.drop q)):=by rw [List.drop_drop]
   unfold eO at he
   rw [hdd] at he
   obtain ⟨p,hp⟩:∃ p,p=q+bc (s.drop q):=⟨_,rfl⟩
   rw [← hp] at he hpl ⊢
   by_cases h0:s.drop p=[]
   ·rw [if_pos h0] at he
    refine .inl ⟨?_,he⟩
    exact List.drop_eq_nil_iff.1 h0
   rw [if_neg h0] at he
   have hlt:p<s.length:=by
    rcases Nat.lt_or_ge p s.length with h1 | h1
    ·exact h1
    ·exact absurd (List.drop_eq_nil_of_le h1) h0
   refine .inr ⟨hlt,?_⟩
   have hget:∀ x r,(aE s).drop j=x::r→(aE s)[j]?=some x:=fun x r h=>by
    have:((aE s).drop j)[0]?=some x:=by rw [h];rfl
    simpa using this
   by_cases h1:(cn (s.drop p)).e=0
   ·rw [if_neg (by simpa using h1)] at he
    have hn:=A9 h0 h1
    rw [List.length_drop] at hn hm
    refine ⟨hget _ _ he,.inr ⟨h1,by omega,hn.1,?_⟩⟩
    have hpq:=xq (s.drop (p+(cn (s.drop p)).n))
    rw [List.length_drop] at hpq
    have hj1:=(List.getElem?_eq_some_iff.1 (hget _ _ he)).1
    refine ⟨by omega,by omega,m,p+(cn (s.drop p)).n,by omega,by rw [List.length_drop];omega,rfl,?_⟩
    have h2:(aE s).drop (j+1)=((aE s).drop j).drop 1:=by rw [List.drop_drop]
    rw [h2,he,List.drop_succ_cons,List.drop_zero,List.drop_drop]
   ·rw [if_pos h1] at he
    refine ⟨hget _ _ he,.inl ⟨h1,?_⟩⟩
    have h2:=congrArg List.length he
    rw [List.length_drop] at h2
    simp at h2
    omega
def CS (s:List UInt8) (n:Nat):List D:=[i64 ((aE s).getD n (0,dZ 0)).1,su ((aE s).getD n (0,dZ 0)).2]
set_option maxHeartbeats 1000000 in
theorem xc {G} (s:List UInt8) (hl:s.length≤1000000):ItC Tryz.prog G 144 [.ptr (.str s)] (aE s).length (CS s):=by
 refine wJ Tryz.func144 rfl (by decide +kernel) (by simp [Tryz.ntmps144]) rfl fun z hz=>?_
 refine aA (ao fun E=>?_)
 simp only [go_sem]
 refine ag E (w6 s hl) rfl rfl (by simp) ?_
 rintro _ rfl
 simp only [go_sem]
 refine im (BJ (X:={ x:Nat × Nat // TI s x.1 x.2 }) (fun x=>mk [(0,.d (.yl z.l)),(1,.d (.ptr (.str s))),(3,.d (i64 x.1.2))] [] []) (fun x=>II z x.1.1) (fun x=>s.length-x.1.2) ⟨(0,bc s),.init s⟩ ⟨id,LeL.le ?_⟩ (fun _ _ h=>h) ?_)
 ·simp only [go_sem]
  all_goals rfl
 rintro ⟨⟨j,p⟩,hT⟩
 have hpl:=hT.hp
 simp only at hT hpl ⊢
 generalize hΦ:lpY _ _ _ _ _ _ _ _=Φ'
 refine aA (ao fun E=>?_)
 simp only [go_sem]
 refine ah E (fun h1=>?_) (fun h1=>?_)<;>simp only [go_sem]
 ·obtain ⟨hlt,hget,hcase⟩:=hT.next.resolve_left (fun h=>by omega)
  have hj:j<(aE s).length:=(List.getElem?_eq_some_iff.1 hget).1
  have hgd:(aE s).getD j (0,dZ 0)=(p,cn (s.drop p)):=by rw [List.getD_eq_getElem?_getD,hget];rfl
  generalize hF:cn (s.drop p)=F at hget hcase hgd
  refine aA (im (aA (ao fun E=>?_)))
  simp only [go_sem]
  refine ⟨⟨by omega,by omega⟩,?_⟩
  rw [List.take_of_length_le (l:=s.drop p) (by rw [List.length_drop];omega)]
  refine ag E (EE (s.drop p) (by rw [List.length_drop];omega) (by rw [List.length_drop];omega)) rfl rfl (by simp) ?_
  rintro _ rfl
  rw [hF,jk F]
  simp only [go_sem]
  refine aA (aA (nV (ub rfl ?_)))
  simp only [go_sem]
  refine ub rfl ?_
  simp only [go_sem]
  refine ub rfl ?_
  simp only [go_sem]
  refine FC hz hj (by simp) rfl (by simp only [go_sem];rw [show CS s j=[i64 p,su F] by unfold CS;rw [hgd]];rfl) ?_ ?_
  ·refine rb fun E=>?_
   simp only [go_sem]
   refine ao fun E=>?_
   simp only [go_sem]
   refine ah E (fun h2=>?_) (fun h2=>?_)<;>simp only [go_sem]
   ·rcases hcase with ⟨_,h3⟩ | ⟨h3,_⟩
    ·rw [← h3]
     subst hΦ
     exact j8 (vW hz (.inr rfl))
    ·exact absurd h3 h2
   ·rcases hcase with ⟨h3,_⟩ | ⟨h3,h4,h5,h6⟩
    ·exact absurd h3 h2
    refine ao fun E=>?_
    simp only [go_sem]
    rw [ai ⟨by omega,by omega⟩]
    refine pJ (ao fun E=>?_)
    simp only [go_sem]
    have hpo:=h6.hp
    refine ⟨⟨by omega,by omega⟩,?_⟩
    rw [show ((p:Int)+(F.n:Nat)).toNat=p+F.n by omega,List.take_of_length_le (l:=s.drop (p+F.n)) (by rw [List.length_drop];omega)]
    refine ag E (w6 (s.drop (p+F.n)) (by rw [List.length_drop];omega)) rfl rfl (by simp) ?_
    rintro _ rfl
    simp only [go_sem]
    rw [ai ⟨by omega,by omega⟩]
    subst hΦ
    refine gl (show { x:Nat × Nat // TI s x.1 x.2 } from ⟨(j+1,p+F.n+bc (s.drop (p+F.n))),h6⟩) ?_ id (LeL.le ?_) (fun _ _ h=>h)
    ·show s.length-(p+F.n+bc (s.drop (p+F.n)))<s.length-p
     omega
    ·simp only [go_sem]
     rfl
  ·refine rb fun E=>?_
   simp only [go_sem]
   refine ao fun E=>?_
   simp only [go_sem]
   subst hΦ
   exact j8 (Ag hz (.inr rfl))
 ·subst hΦ
  refine mI ?_
  simp only [go_sem]
  refine F1 ?_
  have hj:=hT.hj
  rcases hT.next with ⟨_,h2⟩ | ⟨h2,_⟩
  ·have h3:=List.drop_eq_nil_iff.1 h2
   have:j=(aE s).length:=by omega
   subst this
   exact vW hz (.inl rfl)
  ·omega
end Go.Proofs.YtejpnabbmgpmaaaGreat

namespace Go.Proofs.YtejpnabbmgpmaaaGreat
open Go.Ab
theorem sn:∀ (m:Nat) (s:List UInt8) (at' i:Nat),i+1<(eO m s at').length→((eO m s at').getD i (0,dZ 0)).2.e=0
 | 0,_,_,_,h=>by simp [eO] at h
 | m+1,s,at',i,h=>by
   unfold eO at h ⊢
   split at h
   ·simp at h
   rename_i h0
   rw [if_neg h0]
   split at h
   ·simp at h
   rename_i h1
   rw [if_neg h1]
   cases i with
   | zero=>simpa using h1
   | succ i =>
     simp only [List.length_cons] at h
     rw [List.getD_cons_succ]
     exact sn m _ _ i (by omega)
theorem pX:∀ {l:List (Nat × Fnd)},gD l=none→∀ q∈l,q.2.e=0
 | [],_,q,h=>by cases h
 | a::r,hb,q,h=>by
   unfold gD at hb
   split at hb
   ·cases hb
   rename_i h1
   rcases List.mem_cons.1 h with rfl | h
   ·simpa using h1
   ·exact pX hb q h
theorem qw:∀ {l:List (Nat × Fnd)} {i:Nat} {e:Int},(∀ k,k+1<l.length→(l.getD k (0,dZ 0)).2.e=0)→gD l=some (i,e)→0<l.length∧(l.getD (l.length-1) (0,dZ 0)).1=i∧(l.getD (l.length-1) (0,dZ 0)).2.e=e∧e≠0
 | [],_,_,_,h=>by cases h
 | [a],i,e,_,h=>by
   unfold gD at h
   split at h
   ·rename_i h1;cases h;exact ⟨by simp,rfl,rfl,h1⟩
   ·cases h
 | a::b::r,i,e,hk,h=>by
   have ha:a.2.e=0:=hk 0 (by simp)
   unfold gD at h
   rw [if_neg (by simpa using ha)] at h
   obtain ⟨_,h2,h3,h4⟩:=qw (l:=b::r) (fun k hk'=>by
    have:=hk (k+1) (by simp only [List.length_cons] at hk' ⊢;omega)
    simpa using this) h
   refine ⟨by simp,?_,?_,h4⟩
   ·simpa using h2
   ·simpa using h3
def D6:St:=mk [] [([0],.map [])] []
theorem wo {P:Program} {cf:Cf} {Φ:Exit→Act→World→Prop} {I:Base→List Deferred→Prop} {k:List It}:ARY P cf Φ I k D6:=by
 intro B hB ds β a w hds hI hs
 obtain ⟨⟨_,_,_,h⟩,_⟩:=hs.objs [0] _ rfl
 cases h
def sB (s:List UInt8) (n:Nat):St:=mk [(0,.d (.str s)),(2,.bx [2] 0),(3,.bx [3] 0),(4,.bx [4] 0),(5,.bx [5] 0)] [([2],.box [.d .nils]),([3],.box [.d (i64 0)]),([4],.box [.d (i64 0)]),([5],.box [.vw [99] 0 n]),([99],.arr (some 4) (((aE s).take n).map fun q=>ck (fP q)))] [2,3,4,5,99]
theorem td (s:List UInt8) {n:Nat} (hn:n<(aE s).length) {q:Nat × Fnd} (hq:q=(aE s).getD n (0,dZ 0)) :
  List.take n (List.map (fun q=>ck (fP q)) (List.take n (aE s)))++[.agg [i64 q.2.t.k,.str q.2.t.s,i64 q.2.t.n,.int .i64 (q.1:Nat)]]=List.map (fun q=>ck (fP q)) (List.take (n+1) (aE s)):=by
 have hq2:q=(aE s)[n]:=by rw [hq];simp [hn]
 rw [List.take_of_length_le (by simp;omega),List.take_succ_eq_append_getElem hn,List.map_append,← hq2]
 rfl
set_option maxHeartbeats 1000000 in
theorem Ho {G} (s:List UInt8) (hl:s.length≤1000000) (hb:gD (aE s)=none):HP Tryz.prog G 51 [.str s] (fun r=>r=.tup [.d (.sl (some 4) ((bM s).1.map ck)),.d (i64 (bM s).2.1),.d (i64 (bM s).2.2)]):=by
 have hok:=pX hb
 have hfew:(aE s).length≤s.length:=lh s.length.succ s 0
 have hlex:bM s=((aE s).map fP,s.length,0):=by unfold bM;rw [hb]
 refine gf Tryz.func51 rfl (by decide +kernel) (by simp [Tryz.ntmps51]) fun B0 hB0=>?_
 refine aA (ao fun E=>?_)
 simp only [go_sem]
 refine aA (ao fun E=>?_)
 simp only [go_sem]
 refine aA (aA (ao fun E=>?_))
 simp only [go_sem]
 refine ag E (BB s) rfl rfl (by simp) ?_
 rintro _ rfl
 simp only [go_sem]
 refine rA [5] 0 99 (some 4) [.d .nils] rfl rfl (by rw [aa];decide) ?_
 simp only [go_sem]
 refine im (ra rfl (xc s hl) rfl (X:=Unit) (fun n _=>sB s n) (by simp) (fun n hn=>rfl) ⟨(),id,LeL.le ?_⟩ ?_ ?_)
 ·simp only [go_sem]
  all_goals rfl
 ·rintro n ⟨⟩ hn lb
  unfold sB CS
  obtain ⟨q,hq⟩:∃ q,q=(aE s).getD n (0,dZ 0):=⟨_,rfl⟩
  have hqm:q∈aE s:=by rw [hq];simp [hn]
  have hqe:=hok q hqm
  rw [← hq,jk]
  refine veil fun E=>?_
  simp only [go_sem]
  refine EV fun E=>?_
  simp only [go_sem]
  refine ah E (fun h1=>absurd hqe h1) (fun h1=>?_)<;>simp only [go_sem]
  rw [td s hn hq]
  refine ⟨by omega,?_⟩
  refine FZ ?_ () (tau [([99],[25])]) rfl ?_
  ·simp only [go_sem]
  ·simp only [go_sem]
 ·rintro ⟨⟩
  refine pJ ?_
  unfold sB
  rw [List.take_length]
  refine ao fun E=>?_
  simp only [go_sem]
  refine eW (.inl rfl) hB0 ?_
  simp only [go_sem]
  refine ⟨[([99],some 4,(aE s).map fun q=>ck (fP q))],?_⟩
  simp only [go_sem]
  rw [hlex,List.map_map]
  rfl
set_option maxHeartbeats 1000000 in
theorem EG {G} (s:List UInt8) (hl:s.length≤1000000) {i:Nat} {e:Int} (hb:gD (aE s)=some (i,e)):HP Tryz.prog G 51 [.str s] (fun r=>r=.tup [.d .nils,.d (i64 i),.d (i64 e)]):=by
 obtain ⟨h0,hi,he,hne⟩:=qw (sn _ _ _) hb
 have hok:∀ n,n+1<(aE s).length→((aE s).getD n (0,dZ 0)).2.e=0:=sn _ _ _
 have hfew:(aE s).length≤s.length:=lh s.length.succ s 0
 change 0<(aE s).length at h0
 change ((aE s).getD ((aE s).length-1) (0,dZ 0)).1=i at hi
 change ((aE s).getD ((aE s).length-1) (0,dZ 0)).2.e=e at he
 refine gf Tryz.func51 rfl (by decide +kernel) (by simp [Tryz.ntmps51]) fun B0 hB0=>?_
 refine aA (ao fun E=>?_)
 simp only [go_sem]
 refine aA (ao fun E=>?_)
 simp only [go_sem]
 refine aA (aA (ao fun E=>?_))
 simp only [go_sem]
 refine ag E (BB s) rfl rfl (by simp) ?_
 rintro _ rfl
 simp only [go_sem]
 refine rA [5] 0 99 (some 4) [.d .nils] rfl rfl (by rw [aa];decide) ?_
 simp only [go_sem]
 refine im (ra rfl (xc s hl) rfl (X:=Unit) (fun n _=>if n<(aE s).length then sB s n else D6) (by simp) (fun n hn=>rfl) ⟨(),id,?_⟩ ?_ ?_)
 ·rw [if_pos h0]
  refine LeL.le ?_
  simp only [go_sem]
  all_goals rfl
 ·rintro n ⟨⟩ hn lb
  simp only [if_pos hn]
  have hlast:n+1<(aE s).length∨n=(aE s).length-1:=by omega
  obtain ⟨q,hq⟩:∃ q,q=(aE s).getD n (0,dZ 0):=⟨_,rfl⟩
  have hcase:(q.2.e=0∧n+1<(aE s).length)∨(q.1=i∧q.2.e=e):=by
   rcases hlast with h | h
   ·exact .inl ⟨by rw [hq];exact hok n h,h⟩
   ·refine .inr ⟨?_,?_⟩
    ·rw [hq,h];exact hi
    ·rw [hq,h];exact he
  unfold CS
  rw [← hq,jk]
  unfold sB
  refine veil fun E=>?_
  simp only [go_sem]
  refine EV fun E=>?_
  simp only [go_sem]
  refine ah E (fun h1=>?_) (fun h1=>?_)<;>simp only [go_sem]
  ·obtain ⟨hq1,hq2⟩:=hcase.resolve_left (fun h=>h1 h.1)
   refine ak mixed E fun X=>?_
   simp only [go_sem]
   refine ⟨by decide +kernel,?_⟩
   refine C2 ?_ (eW (.inl rfl) hB0 ?_)
   ·simp only [go_sem]
    exact Nat.le_refl _
   ·simp only [go_sem]
    refine ⟨[],?_⟩
    simp only [go_sem]
    rw [hq1,hq2]
  ·rcases hcase with ⟨_,h2⟩ | ⟨_,h2⟩
   ·rw [td s hn hq]
    refine ⟨by omega,?_⟩
    simp only [if_pos h2]
    refine FZ ?_ () (tau [([99],[25])]) rfl ?_
    ·simp only [go_sem]
    ·simp only [go_sem]
   ·exact absurd h2 (fun h=>by omega)
 ·rintro ⟨⟩
  rw [if_neg (Nat.lt_irrefl _)]
  exact wo
end Go.Proofs.YtejpnabbmgpmaaaGreat

