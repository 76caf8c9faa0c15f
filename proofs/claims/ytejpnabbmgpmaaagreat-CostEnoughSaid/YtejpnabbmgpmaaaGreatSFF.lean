/-
  The generic layer, part 86: builders of texts: variables and arrays whose types are told; pointers compared, and turned; what is called in place. (with the parts that follow it)
-/
import Derived.Test.YtejpnabbmgpmaaaGreatSFE
import Derived.Test.YtejpnabbmgpmaaaGreatSFD
import Derived.Test.YtejpnabbmgpmaaaGreatSFC
import Derived.Lib.Builder
import Derived.LaidEqlPtr
import Derived.Laws.Pointers
import Derived.Laws.Externs
import Derived.Lib.UnsafeStr
import Derived.Lib.ItoaLen
import Derived.Lib.Bytealg
set_option linter.all false
namespace Go.Ab
section
variable {P:Program} {cf:Cf} {Q:Exit→St→Prop} {s:St} {k:List It} {B:Base} {β:Name→Option Blk} {tm:Array Value} {w:World}
theorem Sim.HT (h:Sim B β s tm w) {p:Name} {ob:Ob} {k:Blk} (hp:s.hp p=some ob) (hk:β p=some k) {w':World} (hio:wio w'=wio w) (hsz:w'.heap.size=w.heap.size) (hw:∀ b,b≠k.b→w'.heap[b]?=w.heap[b]?):Sim B β (s.set p none) tm w':=by
 have hsub:∀ q o,(s.set p none).hp q=some o→q≠p∧s.hp q=some o:=by
  intro q o ho
  by_cases e:q=p
  ·subst e;simp [St.set,aE] at ho
  ·exact ⟨e,by simpa [St.set,aE,e] using ho⟩
 have hne:∀ q,(s.set p none).hp q≠none→s.hp q≠none:=by
  intro q hq e
  cases ho:(s.set p none).hp q with
  | none=>exact hq ho
  | some o=>rw [(hsub q o ho).2] at e;cases e
 have hr:∀ v d,Rep w.heap (s.own B.A β) v d→Rep w'.heap ((s.set p none).own B.A β) v d:=fun v d hd=>hd.mono (fun b hb _=>hw b fun e=>hb (.inr ⟨p,k,by rw [hp];simp,hk,e.symm⟩)) (by
  rintro b _ (hA | ⟨q,k,hq,hk,e⟩)
  ·exact .inl hA
  ·exact .inr ⟨q,k,hne q hq,hk,e⟩)
 have hst:∀ q,nm s.used q→Stays s.hp (s.set p none).hp β β q:=fun q _ o' ho'=>⟨o',(hsub q o' ho').2,Ob.cE _,rfl⟩
 refine { tms:=h.tms,io:=hio.trans h.io,size:=by rw [hsz];exact h.size,frame:=fun b hb hn=>?_,slots:=fun i=>(h.slots i).mono hr (fun _ h=>h) hst,objs:=?_,blocks:=fun q k hq hk=>(by rw [hsz];exact h.blocks q k (hne q hq) hk), inj:=fun q q' k l hq hq' hk hl e=>h.inj q q' k l (hne q hq) (hne q' hq') hk hl e,us:=h.us,stay:=h.stay }
 ·rw [hw b ?_]
  ·exact h.frame b hb hn
  ·intro e
   obtain ⟨_,_,h3⟩:=h.blocks p k (by rw [hp];simp) hk
   rcases h3 with h3 | h3
   ·omega
   ·exact hn (e ▸ h3)
 ·intro q o ho
  obtain ⟨hqp,ho'⟩:=hsub q o ho
  obtain ⟨h1,h2⟩:=h.objs q o ho'
  exact ⟨h1,h2.mono hr (fun _ h=>h) hst rfl fun l hl=>hw l.b fun e=>hqp (h.inj q p l k (by rw [ho'];simp) (by rw [hp];simp) hl hk e)⟩
theorem Fs (E:Eng P cf Q) {o:Oper} (p:Name) (j n:Nat) (ty tg:Option Nat) (w:W) (cs:List AV) (hp:s.hp p=some (.boxT ty cs)) (hj:cs[j]?=some (.d .nils)) (hn:n ∉ s.used) (h:E.stp o ((s.add n (.arrT tg w [])).set p (some (.boxT ty (cs.set j (.vw [n] 0 0))))) k .no):E.stp o s k .no:=by
 rw [aN] at h ⊢
 intro B hB ds β a w' hds hs Q'
 have h1:=hs.gu hn tg w
 have hpn:p≠[n]:=iF (hs.objs p _ hp).1 hn
 refine h B hB ds (aE β [n] none) a w' hds (h1.rebox (cs:=cs) (by simpa [St.add,aE,hpn] using hp) (by simp) fun v i x x' hx hx' hv=>?_) Q'
 by_cases e:j=i
 ·subst e
  rw [hj] at hx
  cases hx
  rw [List.getElem?_set_self (List.getElem?_eq_some_iff.1 hj).1] at hx'
  cases hx'
  have:=hv.toD
  cases this
  exact .vw _ _ _ _ ⟨n,[],rfl,List.mem_cons_self⟩ rfl fun ty' w' xs hx=>by
   have:some (Ob.arrT tg w [])=some (.arrT ty' w' xs):=by rw [← hx];simp [St.add,aE]
   cases this
   exact ⟨Nat.le_refl _,none,0,rfl,.inl ⟨rfl,rfl⟩⟩
 ·rw [List.getElem?_set_ne e,hx] at hx'
  cases hx'
  exact hv
theorem qC (E:Eng P cf Q) {d t e:Nat} {x y:Operand} {ty:TypeId} {pos:String} {af:Array Edge} (tg:Option Nat) (p q:Name) (xs ys:List D) (hk:(P.ti t).k=.slice e) (hz:(P.ti e).zOk=true) (hw:(P.ti e).isW (P.ti e).w=true) (hew:(P.ti e).w=none)
  (htg:tg.getD e=e) (hd:d<cf.n∧d ∉ s.used) (hx:ev s x=.vw p 0 xs.length) (hp:s.hp p=some (.arrT tg none xs)) (hy:ev s y=.vw q 0 ys.length) (hq:s.hp q=some (.arr none ys)) (hl:(xs.length+ys.length)*(P.ti e).by1≤140737488355328)
  (h:E.run k (((s.set p none).add d (.arrT tg none (xs++ys))).put d (.vw [d] 0 (xs.length+ys.length)))) :
  E.stp { dst:=some d,op:=.call { callee:=.builtin .append,args:=#[x,y],argTypes:=#[t,t] },type:=ty,pos:=pos,after:=af,guard:=none } s k .no:=by
 rw [aN]
 rw [E.run_eq] at h
 intro B hB ds β a w hds hs Q'
 have hvx:=hs.ev x
 have hvy:=hs.ev y
 rw [hx] at hvx
 rw [hy] at hvy
 have key:=j2 (P:=P) (t:=t) hs hvx hvy hk hz hw ty (some d) tg htg
 have e1:jX tg B.n (P.ti e) (some d) s (.vw p 0 xs.length) (.vw q 0 ys.length)=.need ((xs.length+ys.length)*(P.ti e).by1≤140737488355328) (.ok (((s.set p none).add d (.arrT tg none (xs++ys))).put d (.vw [d] 0 (xs.length+ys.length)))):=by
  unfold jX
  have hlo:cF (P.ti e).w s.hp (.vw q 0 ys.length)=some ys:=by simp [cF,hq,hew]
  rw [hlo]
  simp only [hp]
  rw [if_pos ⟨trivial,hew.symm⟩]
  have hd2:d<B.n∧d ∉ (s.set p none).used:=⟨by rw [hB.1];exact hd.1,hd.2⟩
  unfold gT
  simp only
  rw [if_pos hd2]
  simp
 rw [e1] at key
 obtain ⟨dd,v,w',β',hdd,hrun,hsim⟩:=key hl
 cases hdd
 exact aL (v:=v) (by simp) (by simp [execOp,resolve,invoke,builtin,hrun]) (.inl rfl) ⟨hds,_,β',aW h,hsim⟩
end
section
variable {P:Program} {cf:Cf} {Q:Exit→St→Prop} {s:St} {k:List It}
theorem iS {o:Oper} {d:Nat} {x:AV} (hd:o.dst=some d) (hdn:d<cf.n) (hnd:∀ c,o.op≠.defer c)
  (hrun:∀ (B:Base) (β:Name→Option Blk) (a:Act) (w:World),Sim B β s a.tmps w→∃ v,(execOp a.eval o).run P w=.ok (.value v) w∧VR w.heap (s.own B.A β) s.used s.hp β v x) (h:run P cf k Q (s.put d x)):AOk P cf o s k Q:=by
 intro B hB ds β a w hds hs Q'
 obtain ⟨v,h1,h2⟩:=hrun B β a w hs
 refine aL (v:=v) hnd h1 (.inl rfl) ?_
 rw [hd]
 exact ⟨hds,_,β,aW h,hs.put (by rw [hB.1];exact hdn) h2⟩
theorem jo (E:Eng P cf Q) {o:Oper} {d:Nat} {x:AV} (hd:o.dst=some d) (hdn:d<cf.n) (hnd:∀ c,o.op≠.defer c)
  (hrun:∀ (B:Base) (β:Name→Option Blk) (a:Act) (w:World),Sim B β s a.tmps w→∃ v,(execOp a.eval o).run P w=.ok (.value v) w∧VR w.heap (s.own B.A β) s.used s.hp β v x) (h:E.run k (s.put d x)):E.stp o s k .no:=by
 rw [aN]
 rw [E.run_eq] at h
 exact iS hd hdn hnd hrun h
theorem rZ {t e:Nat} (h:(P.ti t).k=.ptr e):P.underlying t=some (.pointer e):=by
 obtain ⟨i,d,_,hd,hk,_⟩:=dE (P:=P) (t:=t) (by rw [h];rfl)
 rw [h] at hk
 cases d<;>simp [tk] at hk
 rw [hd,hk]
def C7 (hp:Name→Option Ob):AV→Option Bool
 | .d .nilp=>some true
 | .d (.ptr _)=>some false
 | .bx p _=>match hp p with
   | some (.boxT _ _)=>some false
   | _=>none
 | _=>none
theorem vh {H:Array Obj} {own:Nat→Prop} {used:List Nat} {hp:Name→Option Ob} {β:Name→Option Blk} {v:Value} {x:AV} {b:Bool} (h:VR H own used hp β v x) (hn:C7 hp x=some b):∃ ad,v=.pointer ad∧ad.isNone=b:=by
 cases x with
 | d z =>
   cases z<;>simp [C7] at hn
   ·subst hn
    have:=h.toD
    cases this;exact ⟨none,rfl,rfl⟩
   ·subst hn
    have:=h.toD
    cases this;exact ⟨_,rfl,rfl⟩
 | bx p c =>
   simp only [C7] at hn
   split at hn
   ·rename_i ty cs ho
    cases hn
    cases h with
    | bx _ _ _ _ _ hx =>
      obtain ⟨k,_,_,rfl⟩:=hx _ _ ho
      exact ⟨_,rfl,rfl⟩
   ·cases hn
 | _=>simp [C7] at hn
theorem ri (E:Eng P cf Q) {t e:TypeId} {x:Operand} {yt:TypeId} {dst:Nat} {ty:TypeId} {ps:String} {af:Array Edge} (b:Bool) (hk:(P.ti t).k=.ptr e) (hd:dst<cf.n) (hx:C7 s.hp (ev s x)=some b) (h:E.run k (s.put dst (.d (.bool b)))) :
  E.stp { dst:=some dst,op:=.binOp .eql t x (.const (.pointer none)) yt,type:=ty,pos:=ps,after:=af,guard:=none } s k .no:=by
 refine jo E rfl hd (by simp) (fun B β a w hs=>⟨.bool b,?_,.d _ _ (.bool _)⟩) h
 obtain ⟨ad,hv,rfl⟩:=vh (hs.ev x) hx
 have hu:=rZ hk
 refine iZ ?_ ?_
 ·rw [hv];rfl
 ·rw [hv]
  exact run_eql_pointer_nil w t ad (by rw [hu];simp [Program.pointee,hu])
theorem run_neq_ptr_same {tp te:TypeId} {j:TypeInfo} (w:World) (a:Addr) (hp:P.underlying tp=some (.pointer te)) (hte:P.info? te=some j):(binOp .neq tp (.pointer (some a)) (.pointer (some a))).run P w=.ok (.bool false) w:=by
 have h:∀ d:Nat,(Op.equalIn (d+1) tp (.pointer (some a)) (.pointer (some a))).run P w=.ok true w:=fun d=>by
  simp [Op.equalIn,run_underlying hp,sizeOf,typeInfo,hte,run_sameAddr_same]
 simp only [binOp]
 simp [Op.equal,Op.maxDepth,h 9999]
theorem DD (E:Eng P cf Q) {t e:TypeId} {x y:Operand} {yt:TypeId} {dst:Nat} {ty:TypeId} {ps:String} {af:Array Edge} (p:Name) (c:Nat) (hk:(P.ti t).k=.ptr e) (he:(P.info? e).isSome=true) (hd:dst<cf.n) (hx:ev s x=.bx p c) (hy:ev s y=.bx p c) (hp:(match s.hp p with | some (.boxT _ _)=>true | _=>false)=true)
  (h:E.run k (s.put dst (.d (.bool false)))):E.stp { dst:=some dst,op:=.binOp .neq t x y yt,type:=ty,pos:=ps,after:=af,guard:=none } s k .no:=by
 refine jo E rfl hd (by simp) (fun B β a w hs=>⟨.bool false,?_,.d _ _ (.bool _)⟩) h
 split at hp
 rotate_left
 ·cases hp
 rename_i ty' cs ho
 obtain ⟨k,hkk⟩:∃ k:Blk,∀ v,VR w.heap (s.own B.A β) s.used s.hp β v (.bx p c)→v=.pointer (some ⟨k.b,c,none⟩):=by
  obtain ⟨k,_,_,hk,_⟩:=(hs.objs p _ ho).2
  refine ⟨k,fun v hv=>?_⟩
  cases hv with
  | bx _ _ _ _ _ hx =>
    obtain ⟨k',hk',_,rfl⟩:=hx _ _ ho
    rw [hk] at hk';cases hk';rfl
 have h1:=hkk _ (hx ▸ hs.ev x)
 have h2:=hkk _ (hy ▸ hs.ev y)
 obtain ⟨j,hj⟩:=Option.isSome_iff_exists.1 he
 refine iZ ?_ ?_
 ·rw [h1,h2];rfl
 ·rw [h1,h2]
  exact run_neq_ptr_same w _ (rZ hk) hj
theorem Cd {B:Base} {β:Name→Option Blk} {tm:Array Value} {w:World} (hs:Sim B β s tm w) {p:Name} {t:Nat} {cs:List AV} (hp:s.hp p=some (.boxT (some t) cs)):∃ k:Blk,(∀ v c,VR w.heap (s.own B.A β) s.used s.hp β v (.bx p c)→v=.pointer (some ⟨k.b,c,none⟩))∧w.shape? k.b=some (t,cs.length):=by
 obtain ⟨k,c,e,hk,_,hc,_,hl,_⟩:=(hs.objs p _ hp).2
 refine ⟨k,fun v c hv=>?_,by simp [World.shape?,hc,hl]⟩
 cases hv with
 | bx _ _ _ _ _ hx =>
   obtain ⟨k',hk',_,rfl⟩:=hx _ _ hp
   rw [hk] at hk';cases hk';rfl
theorem HY (E:Eng P cf Q) {a' b' e:TypeId} {x:Operand} {dst:Nat} {ty:TypeId} {ps:String} {af:Array Edge} (p:Name) (c t:Nat) (cs:List AV) (hk:(P.ti a').k=.ptr e) (hu:P.underlying b'=some .unsafePointer) (he:(P.info? e).any (fun j=>j.size != 0)=true) (hd:dst<cf.n) (hx:ev s x=.bx p c)
  (hp:s.hp p=some (.boxT (some t) cs)) (hc:c<cs.length) (h:E.run k (s.put dst (.bx p c))):E.stp { dst:=some dst,op:=.convert a' b' x,type:=ty,pos:=ps,after:=af,guard:=none } s k .no:=by
 refine jo E (x:=.bx p c) rfl hd (by simp) (fun B β a w hs=>⟨a.eval x,?_,hx ▸ hs.ev x⟩) h
 obtain ⟨k,hkk,hsh⟩:=Cd hs hp
 have h1:=hkk _ _ (hx ▸ hs.ev x)
 rw [Option.any_eq_true] at he
 obtain ⟨j,hj,hj0⟩:=he
 have:=Lib.run_to_unsafe (P:=P) w (src:=a') (dst:=b') (⟨k.b,c,none⟩:Addr) (rZ hk) hu hj (by simpa using hj0) hsh hc
 simp [execOp,h1,this]
theorem Ii (E:Eng P cf Q) {a' b' e:TypeId} {x:Operand} {dst:Nat} {ty:TypeId} {ps:String} {af:Array Edge} (p:Name) (c t:Nat) (cs:List AV) (hk:(P.ti b').k=.ptr e) (hu:P.underlying a'=some .unsafePointer) (he:(P.info? e).isSome=true) (hd:dst<cf.n) (hx:ev s x=.bx p c)
  (hp:s.hp p=some (.boxT (some t) cs)) (m:Nat) (hm:cs.length=m) (hl:liesAt P P.depth t (m / P.cellsOf t) c e 1=true) (h:E.run k (s.put dst (.bx p c))):E.stp { dst:=some dst,op:=.convert a' b' x,type:=ty,pos:=ps,after:=af,guard:=none } s k .no:=by
 refine jo E (x:=.bx p c) rfl hd (by simp) (fun B β a w hs=>⟨a.eval x,?_,hx ▸ hs.ev x⟩) h
 obtain ⟨k,hkk,hsh⟩:=Cd hs hp
 have h1:=hkk _ _ (hx ▸ hs.ev x)
 obtain ⟨j,hj⟩:=Option.isSome_iff_exists.1 he
 rw [hm] at hsh
 have:=Lib.run_from_unsafe (P:=P) w (src:=a') (dst:=b') (⟨k.b,c,none⟩:Addr) hu (rZ hk) hj hsh hl
 simp [execOp,h1,this]
theorem DS (E:Eng P cf Q) {fv x:Operand} {at':Array TypeId} {dst:Nat} {ty:TypeId} {ps:String} {af:Array Edge} (f:FuncId) (y:AV) (hr:∀ v w,(callFunc f #[v]).run P w=.ok (.value v) w) (hd:dst<cf.n) (hf:ev s fv=.clo f []) (hx:ev s x=y) (h:E.run k (s.put dst y)) :
  E.stp { dst:=some dst,op:=.call { callee:=.value fv,args:=#[x],argTypes:=at' },type:=ty,pos:=ps,after:=af,guard:=none } s k .no:=by
 refine jo E (x:=y) rfl hd (by simp) (fun B β a w hs=>⟨a.eval x,?_,hx ▸ hs.ev x⟩) h
 have hf':=hs.ev fv
 rw [hf] at hf'
 generalize hfv:a.eval fv=fval at hf'
 cases hf' with
 | clo _ cvs _ hcs hcv =>
 have hc0:cvs=#[]:=Array.eq_empty_of_size_eq_zero (by simpa using hcs)
 subst hc0
 have e:(execOp a.eval { dst:=some dst,op:=.call { callee:=.value fv,args:=#[x],argTypes:=at' },type:=ty,pos:=ps,after:=af,guard:=none }:Sem Next)=callFunc f (#[]++#[x].map a.eval++#[]):=by
  show (do let d ← (Deferred.ofValue (a.eval fv) (#[x].map a.eval));invoke d.target d.args:Sem Next)=_
  rw [hfv];rfl
 rw [e]
 simpa using hr (a.eval x) w
theorem Ee {fv:Operand} {args:Array Operand} {at':Array TypeId} {dst:Nat} {ty:TypeId} {ps:String} {af:Array Edge} {g:Option (Nat × Bool)} (f:FuncId) (ds:List D) (vs:List Value) (r:D) (v:Value) (hv:vals ds=some vs) (hrv:r.val=some v) (hr:∀ w,(callFunc f vs.toArray).run P w=.ok (.value v) w) (hd:dst<cf.n) (hf:ev s fv=.clo f [])
  (hx:args.toList.map (ev s)=ds.map .d) (h:run P cf k Q (s.put dst (.d r))):AOk P cf { dst:=some dst,op:=.call { callee:=.value fv,args:=args,argTypes:=at' },type:=ty,pos:=ps,after:=af,guard:=g } s k Q:=by
 refine iS (x:=.d r) rfl hd (by simp) (fun B β a w hs=>⟨v,?_,.d _ _ (D.FQ hrv)⟩) h
 have hf':=hs.ev fv
 rw [hf] at hf'
 generalize hfv:a.eval fv=fval at hf'
 cases hf' with
 | clo _ cvs _ hcs hcv =>
 have hc0:cvs=#[]:=Array.eq_empty_of_size_eq_zero (by simpa using hcs)
 subst hc0
 have e:(execOp a.eval { dst:=some dst,op:=.call { callee:=.value fv,args:=args,argTypes:=at' },type:=ty,pos:=ps,after:=af,guard:=g }:Sem Next)=callFunc f (#[]++args.map a.eval++#[]):=by
  show (do let d ← (Deferred.ofValue (a.eval fv) (args.map a.eval));invoke d.target d.args:Sem Next)=_
  rw [hfv];rfl
 have e2:#[]++args.map a.eval++#[]=vs.toArray:=by
  obtain ⟨g1,g2⟩:=uL hv
  have hsz:args.size=ds.length:=by have:=congrArg List.length hx;simpa using this
  apply Array.ext
  ·simp [hsz,g1]
  ·intro i hi hi'
   have hia:i<args.size:=by simpa using hi
   have hid:i<ds.length:=by omega
   have h1:(args.toList.map (ev s))[i]?=(ds.map AV.d)[i]?:=by rw [hx]
   simp only [List.getElem?_map,Array.getElem?_toList,Array.getElem?_eq_getElem hia,List.getElem?_eq_getElem hid,Option.map_some,Option.some.injEq] at h1
   have h2:=hs.ev args[i]
   rw [h1] at h2
   have h3:=h2.toD.val (g2 i _ (List.getElem?_eq_getElem hid) ▸ List.getElem?_eq_getElem (by omega:i<vs.length))
   simpa using h3
 rw [e,e2]
 exact hr w
theorem IL (E:Eng P cf Q) {fv:Operand} {args:Array Operand} {at':Array TypeId} {dst:Nat} {ty:TypeId} {ps:String} {af:Array Edge} (f:FuncId) (ds:List D) (vs:List Value) (r:D) (v:Value) (hv:vals ds=some vs) (hrv:r.val=some v) (hr:∀ w,(callFunc f vs.toArray).run P w=.ok (.value v) w) (hd:dst<cf.n) (hf:ev s fv=.clo f [])
  (hx:args.toList.map (ev s)=ds.map .d) (h:E.run k (s.put dst (.d r))):E.stp { dst:=some dst,op:=.call { callee:=.value fv,args:=args,argTypes:=at' },type:=ty,pos:=ps,after:=af,guard:=none } s k .no:=by
 rw [aN]
 rw [E.run_eq] at h
 exact Ee f ds vs r v hv hrv hr hd hf hx h
end
end Go.Ab

namespace Go.Ab
theorem vW {P:Program} {e:TypeId} (hc:P.cellsOf e=1) (count o n:Nat) (hn:o+n≤count):liesAt P P.depth e count o e n=true:=by
 have hd:P.depth=(2*(P.types.size+Made.depth)+1)+1:=rfl
 rw [hd]
 simp only [liesAt,Bool.or_eq_true]
 left
 rw [hd]
 simp [rowAt,hc,hn,sameLayout,Nat.mod_one]
theorem iT {P:Program} (w:World) (pt it ty e:TypeId) (hp:P.underlying pt=some (.pointer e)) (hc:P.cellsOf e=1) (g o cells:Nat) (hsh:w.shape? g=some (e,cells)) (l:List UInt8) (h0:l≠[]) (hn:o+l.length≤cells) (h63:l.length≤9223372036854775807)
  (hcell:∀ j x,l[j]?=some x→w.cell? ((⟨g,o,none⟩:Addr).add j)=some (.int .u8 x.toNat)) :
  (Builtin.unsafeString_ #[pt,it] ty #[.pointer (some ⟨g,o,none⟩),.int .i64 l.length]).run P w=.ok (.string ⟨l.toArray⟩) (w.freeze ⟨g,o,none⟩ l.length):=by
 have hl:l.length≠0:=by simpa using h0
 have hlb:=Lib.run_loadBytes (P:=P) w l ⟨g,o,none⟩ .empty hcell
 have hlies:=vW (P:=P) hc (cells / P.cellsOf e) o l.length (by rw [hc];simpa using hn)
 have h63':¬ (9223372036854775807:Int)<(l.length:Int):=by omega
 obtain ⟨z1,z2,z3,hdef⟩:∃ z1 z2 z3,Builtin.unsafeString_ #[pt,it] ty #[.pointer (some ⟨g,o,none⟩),.int .i64 l.length] =
  (do
   let n ← asInt (.int .i64 l.length)
   if n<0 then runtimePanic (.error z1)
   if n > IntKind.i64.max then unsupported (.unsafePointer z2)
   if n=0 then pure (.string .empty)
   else if ← variablesAt ⟨g,o,none⟩ (← elemOf pt) n.toNat then do
    let s ← loadBytes ⟨g,o,none⟩ .empty n.toNat
    freeze ⟨g,o,none⟩ n.toNat
    pure (.string s)
   else unsupported (.unsafePointer z3)):=⟨_,_,_,rfl⟩
 rw [hdef]
 have hmax:IntKind.i64.max=9223372036854775807:=rfl
 have hneg:¬ (l.length:Int)<0:=by omega
 simp [asInt,asIntOf,hmax,h63',hneg,hl,variablesAt,hsh,elemOf,run_underlying hp,hlies,hlb]
def byD (c:UInt8):D:=.int .u8 (c.toNat:Nat)
section
variable {P:Program} {cf:Cf} {Q:Exit→St→Prop} {s:St} {k:List It}
theorem A8 {d:Nat} {x:Operand} {at':Array TypeId} {ty:TypeId} {pos:String} {af:Array Edge} {g:Option (Nat × Bool)} (hd:d<cf.n) (hx:ev s x=.d .nils) (h:run P cf k Q (s.put d (.d .nilp))) :
  AOk P cf { dst:=some d,op:=.call { callee:=.builtin .unsafeSliceData,args:=#[x],argTypes:=at' },type:=ty,pos:=pos,after:=af,guard:=g } s k Q:=by
 refine iS rfl hd (by simp) (fun B β a w hs=>⟨.pointer none,?_,.d _ _ .nilp⟩) h
 have hv:=hs.ev x
 rw [hx] at hv
 have hv:=hv.nils
 simp [execOp,resolve,invoke,builtin,hv,Lib.run_unsafeSliceData_nil]
theorem Fk {d:Nat} {x:Operand} {at':Array TypeId} {ty:TypeId} {pos:String} {af:Array Edge} {g:Option (Nat × Bool)} (p:Name) (tg:Option Nat) (w0:W) (xs:List D) (l:Nat) (hd:d<cf.n) (hx:ev s x=.vw p 0 l) (hp:s.hp p=some (.arrT tg w0 xs)) (hl:0<l) (h:run P cf k Q (s.put d (.el p 0 0))) :
  AOk P cf { dst:=some d,op:=.call { callee:=.builtin .unsafeSliceData,args:=#[x],argTypes:=at' },type:=ty,pos:=pos,after:=af,guard:=g } s k Q:=by
 refine iS rfl hd (by simp) (fun B β a w hs=>?_) h
 have hv:=hs.ev x
 rw [hx] at hv
 generalize hax:a.eval x=vx at hv
 cases hv with
 | vw _ _ _ _ hn h1 hx' =>
   obtain ⟨hle,a0,cap,rfl,hc⟩:=hx' _ _ _ hp
   rcases hc with ⟨h0,_⟩ | ⟨k,hk,rfl,hcap,hz⟩
   ·omega
   ·refine ⟨.pointer (some ⟨k.b,k.o+0*wd w0,none⟩),?_,.el _ _ _ _ hn rfl fun ty' w' xs' hp'=>?_⟩
    ·obtain ⟨oo,hoo⟩:∃ oo,k.o+0*wd w0=oo:=⟨_,rfl⟩
     rw [hoo] at hax ⊢
     have:=Lib.run_unsafeSliceData_row (P:=P) w at' ty ⟨k.b,oo,none⟩ l cap (by omega)
     simp [execOp,resolve,invoke,builtin,hax,this]
    ·rw [hp] at hp';cases hp'
     exact ⟨by omega,k,hk,rfl⟩
theorem DO (E:Eng P cf Q) {d pt it:Nat} {x y:Operand} {ty:TypeId} {pos:String} {af:Array Edge} (hd:d<cf.n) (hx:ev s x=.d .nilp) (hy:ev s y=.d (.int .i64 0)) (h:E.run k (s.put d (.d (.str [])))) :
  E.stp { dst:=some d,op:=.call { callee:=.builtin .unsafeString,args:=#[x,y],argTypes:=#[pt,it] },type:=ty,pos:=pos,after:=af,guard:=none } s k .no:=by
 rw [aN]
 rw [E.run_eq] at h
 refine iS rfl hd (by simp) (fun B β a w hs=>⟨.string .empty,?_,.d _ _ (.str [])⟩) h
 have hv:=hs.ev x
 rw [hx] at hv
 have hv:=hv.toD
 have hw:=hs.ev y
 rw [hy] at hw
 have hw:=hw.int
 generalize hax:a.eval x=vx at hv
 cases hv
 have:=Lib.run_unsafeString_none (P:=P) w pt it ty none
 simp [execOp,resolve,invoke,builtin,hax,hw,this]
theorem Gx (E:Eng P cf Q) {d pt it e:Nat} {x y:Operand} {ty:TypeId} {pos:String} {af:Array Edge} (p:Name) (l:List UInt8) (hd:d<cf.n) (hpt:P.underlying pt=some (.pointer e)) (hc:P.cellsOf e=1) (h0:l≠[]) (h63:l.length≤9223372036854775807)
  (hx:ev s x=.el p 0 0) (hp:s.hp p=some (.arrT (some e) none (l.map byD))) (hy:ev s y=.d (.int .i64 l.length)) (h:E.run k ((s.set p none).put d (.d (.str l)))) :
  E.stp { dst:=some d,op:=.call { callee:=.builtin .unsafeString,args:=#[x,y],argTypes:=#[pt,it] },type:=ty,pos:=pos,after:=af,guard:=none } s k .no:=by
 rw [aN]
 rw [E.run_eq] at h
 intro B hB ds β a w hds hs Q'
 have hv:=hs.ev x
 rw [hx] at hv
 have hw:=hs.ev y
 rw [hy] at hw
 have hw:=hw.int
 generalize hax:a.eval x=vx at hv
 cases hv with
 | el _ _ _ _ hn h1 hx' =>
 obtain ⟨hlt,k0,hk,rfl⟩:=hx' _ _ _ hp
 rcases (hs.objs p _ hp).2 with ⟨_,h0'⟩ | ⟨k1,c,e',hk1,hh,hz,hl,hok,hrep⟩
 ·simp at h0';exact absurd h0' h0
 rw [hk] at hk1
 cases hk1
 simp only [wd,Nat.mul_one,List.length_map] at hl
 have hsh:w.shape? k0.b=some (e,c.size):=by simp [World.shape?,hh]
 have hcell:∀ j x,l[j]?=some x→w.cell? ((⟨k0.b,k0.o+0*wd none+0,none⟩:Addr).add j)=some (.int .u8 x.toNat):=fun j x hj=>by
  have hjl:=(List.getElem?_eq_some_iff.1 hj).1
  have h2:=hrep j (byD x) 0 (byD x) (by simp [hj]) rfl
  have h3:k0.o+j<c.size:=by omega
  rw [show k0.o+j*wd none+0=k0.o+j by simp [wd]] at h2
  simp only [Array.getD_eq_getD_getElem?,Array.getElem?_eq_getElem h3,Option.getD_some] at h2
  have h4:c[k0.o+j]=.int .u8 x.toNat:=by
   generalize c[k0.o+j]=v at h2
   cases h2;rfl
  rw [bO]
  simp [World.cell?,hh,wd,h3,h4]
 have hrun:=iT (P:=P) w pt it ty e hpt hc k0.b (k0.o+0*wd none+0) c.size hsh l h0 (by simp [wd];omega) h63 hcell
 obtain ⟨oo,hoo⟩:∃ oo,k0.o+0*wd none+0=oo:=⟨_,rfl⟩
 rw [hoo] at hrun hax
 refine aL (v:=.string ⟨l.toArray⟩) (w':=w.freeze ⟨k0.b,oo,none⟩ l.length) (by simp) (by simp [execOp,resolve,invoke,builtin,hax,hw,hrun]) (.inl rfl) ⟨hds,_,β,aW h,?_⟩
 refine Sim.put (hs.HT hp hk (w':=w.freeze ⟨k0.b,oo,none⟩ l.length) ?_ ?_ fun b hb=>?_) (by rw [hB.1];exact hd) (.d _ _ (.str l))
 ·unfold World.freeze;split<;>rfl
 ·unfold World.freeze;split<;>simp
 ·unfold World.freeze
  split
  ·rfl
  ·simp only [Array.getElem?_modify]
   rw [if_neg (fun e=>hb e.symm)]
section
variable {ops:Array Oper} {K:St→Ns→Prop} {r:List Oper} {ns:Ns}
theorem cz (E:XEng P cf ops K) {d:Nat} {x:Operand} {ty:TypeId} {pos:String} {af:Array Edge} (p:Name) (c:Nat) (ty':Option Nat) (cs:List AV) (hd:d<cf.n) (hx:ev s x=.bx p c) (hp:s.hp p=some (.boxT ty' cs)) (h:E.run r (s.put d (.bx p c)) (ns++[([p],[],[])])) :
  E.stp { dst:=some d,op:=.nilCheck x,type:=ty,pos:=pos,after:=af,guard:=none } r s ns .no:=by
 refine nI E (x:=.bx p c) [p] (fun t ht=>by rw [Option.mem_def,Option.some.injEq] at ht;rw [← ht];exact hd) (fun s' hh he=>?_) h
 have h1:ev s' x=.bx p c:=(he x (by simp [Op.operands])).trans hx
 have h2:s'.hp p=some (.boxT ty' cs):=(hh p (by simp)).trans hp
 refine dI (o:={ dst:=some d,op:=.nilCheck x,type:=ty,pos:=pos,after:=af,guard:=none }) rfl ?_
 have h3:opR P.ti cf.n (.nilCheck x) (some d) s'=.ok (s'.put d (.bx p c)):=by
  unfold opR Db
  simp only [h1,h2]
  simp [R.bind,b8,hd]
 unfold stp
 simp only [h3,R.run]
 rw [ee];rfl
theorem Hq (E:XEng P cf ops K) {d:Nat} {x:Operand} {at':Array TypeId} {ty:TypeId} {pos:String} {af:Array Edge} {g:Option (Nat × Bool)} (hd:d<cf.n) (hx:ev s x=.d .nils) (h:E.run r (s.put d (.d .nilp)) (ns++[([],[],[])])) :
  E.stp { dst:=some d,op:=.call { callee:=.builtin .unsafeSliceData,args:=#[x],argTypes:=at' },type:=ty,pos:=pos,after:=af,guard:=g } r s ns .no:=by
 refine nI E (x:=.d .nilp) [] (fun t ht=>by rw [Option.mem_def,Option.some.injEq] at ht;rw [← ht];exact hd) (fun s' _ he=>?_) h
 exact A8 hd ((he x (by simp [Op.operands,Call.operands])).trans hx) (by rw [ee];rfl)
theorem IY (E:XEng P cf ops K) {d:Nat} {x:Operand} {at':Array TypeId} {ty:TypeId} {pos:String} {af:Array Edge} {g:Option (Nat × Bool)} (p:Name) (tg:Option Nat) (w0:W) (xs:List D) (l:Nat) (hd:d<cf.n) (hx:ev s x=.vw p 0 l) (hp:s.hp p=some (.arrT tg w0 xs)) (hl:0<l)
  (h:E.run r (s.put d (.el p 0 0)) (ns++[([p],[],[])])) :
  E.stp { dst:=some d,op:=.call { callee:=.builtin .unsafeSliceData,args:=#[x],argTypes:=at' },type:=ty,pos:=pos,after:=af,guard:=g } r s ns .no:=by
 refine nI E (x:=.el p 0 0) [p] (fun t ht=>by rw [Option.mem_def,Option.some.injEq] at ht;rw [← ht];exact hd) (fun s' hh he=>?_) h
 exact Fk p tg w0 xs l hd ((he x (by simp [Op.operands,Call.operands])).trans hx) ((hh p (by simp)).trans hp) hl (by rw [ee];rfl)
end
end
theorem rn (tf:Nat→TI) (dd:Option Nat) (s:St) (x:Operand):opE tf (.nilCheck x) dd s=.no:=rfl
attribute [go_sem] rn
end Go.Ab

namespace Go.Proofs.YtejpnabbmgpmaaaGreat
open Go.Ab
def ew:List (Name × Ob):=[([0],.boxT (some 316) [.d .nilp,.d .nils])]
def tL (l:List UInt8):List (Name × Ob):=[([0],.boxT (some 316) [.bx [0] 0,.vw [2] 0 l.length]),([2],.arrT (some 5) none (l.map byD))]
def dz (l:List UInt8):List (Name × Ob):=[([0],.boxT (some 316) [.bx [0] 0,.vw [1] 0 l.length]),([1],.arrT (some 5) none (l.map byD))]
theorem noesc (v:Value) (w:World):(callFunc 339 #[v]).run Tryz.prog w=.ok (.value v) w:=by
 rw [run_callFunc_extern Tryz.func339 (by kernel_rfl) (by kernel_rfl) (by kernel_rfl) (e:=Extern.AbiNoEscape.same) (by kernel_rfl)]
 rw [Lib.run_noEscape]
 rfl
theorem H4:(Tryz.prog.ti 349).k=.oth:=by kernel_rfl
theorem H2:Tryz.prog.underlying 349=some .unsafePointer:=by kernel_rfl
theorem Be {G}:HCall Tryz.prog G 328 [.bx [0] 0] [([0],.boxT (some 316) [.d .nilp,.vw [1] 0 0]),([1],.arrT (some 5) none [])] [0,1] (fun r hp'=>r=.tup []∧hp'=[([0],.boxT (some 316) [.bx [0] 0,.vw [1] 0 0]),([1],.arrT (some 5) none [])]):=by
 refine ar Tryz.func328 rfl (by decide +kernel) (by simp [Tryz.ntmps328]) (veil fun E=>?_)
 simp only [go_sem]
 refine ri E (e:=316) true (by rw [p6]) (by simp only [go_sem]) rfl ?_
 simp only [go_sem]
 refine HY E (e:=316) [0] 0 316 [.d .nilp,.vw [1] 0 0] (by rw [p6]) H2 (by kernel_rfl) (by simp only [go_sem]) rfl rfl (by decide) ?_
 simp only [go_sem]
 refine DS E 339 (.bx [0] 0) noesc (by simp only [go_sem]) rfl rfl ?_
 simp only [go_sem]
 simp only [H4]
 simp only [go_sem]
 refine Ii E (e:=316) [0] 0 316 [.d .nilp,.vw [1] 0 0] (by rw [p6]) H2 (by kernel_rfl) (by simp only [go_sem]) rfl rfl 2 rfl (by kernel_rfl) ?_
 simp only [go_sem]
 refine ⟨_,_,[0,1],id,⟨rfl,rfl⟩,?_⟩
 simp only [go_sem]
theorem zY {G} (l:List UInt8):HCall Tryz.prog G 328 [.bx [0] 0] (dz l) [0,1] (fun r hp'=>r=.tup []∧hp'=dz l):=by
 unfold dz
 refine ar Tryz.func328 rfl (by decide +kernel) (by simp [Tryz.ntmps328]) (veil fun E=>?_)
 simp only [go_sem]
 refine ri E (e:=316) false (by rw [p6]) (by simp only [go_sem]) rfl ?_
 simp only [go_sem]
 refine DD E (e:=316) [0] 0 (by rw [p6]) (by kernel_rfl) (by simp only [go_sem]) rfl rfl rfl ?_
 simp only [go_sem]
 refine ⟨_,_,[0,1],id,⟨rfl,rfl⟩,?_⟩
 simp only [go_sem]
theorem uf {G} (c:UInt8):HCall Tryz.prog G 302 [.bx [0] 0,.d (byD c)] ew [0] (fun r hp'=>r=.d .nili∧hp'=tL [c]):=by
 have h0:=Be (G:=G)
 unfold ew tL byD
 refine ar Tryz.func302 rfl (by decide +kernel) (by simp [Tryz.ntmps302]) (veil fun E=>?_)
 simp only [go_sem]
 refine Fs E [0] 1 1 (some 316) (some 5) none [.d .nilp,.d .nils] rfl rfl (by rw [aa];decide) ?_
 refine ab E [.bx [0] 0] [([0],.boxT (some 316) [.d .nilp,.vw [1] 0 0]),([1],.arrT (some 5) none [])] [0,1] h0 rfl rfl ⟨by simp only [go_sem],by show ¬ _∈[1,0];decide⟩ rfl (by simp only [go_sem]) (by simp only [go_sem]) ?_
 rintro _ _ ⟨rfl,rfl⟩
 simp only [go_sem]
 refine qC E (e:=5) (some 5) [1] [13] [] [.int .u8 (c.toNat:Nat)] (by rw [BD]) (by rw [ti5];rfl) (by rw [ti5];rfl) (by rw [ti5];rfl) rfl ⟨by simp only [go_sem],by rw [aa];decide⟩ rfl rfl rfl rfl (by rw [ti5];simp [TI.by1]) ?_
 simp only [go_sem]
 refine ⟨_,_,[0,1,2],tau [([2],[14])],⟨rfl,rfl⟩,?_⟩
 simp only [go_sem]
theorem sQ {G} (l:List UInt8) (c:UInt8) (hl:l.length≤1000000):HCall Tryz.prog G 302 [.bx [0] 0,.d (byD c)] (dz l) [0,1] (fun r hp'=>r=.d .nili∧hp'=tL (l++[c])):=by
 have h0:=zY (G:=G) l
 unfold dz at *
 unfold tL
 refine ar Tryz.func302 rfl (by decide +kernel) (by simp [Tryz.ntmps302]) (veil fun E=>?_)
 simp only [go_sem]
 refine ab E [.bx [0] 0] [([0],.boxT (some 316) [.bx [0] 0,.vw [1] 0 l.length]),([1],.arrT (some 5) none (l.map byD))] [0,1] h0 rfl rfl ⟨by simp only [go_sem],by rw [aa];decide⟩ rfl (by simp only [go_sem]) (by simp only [go_sem]) ?_
 rintro _ _ ⟨rfl,rfl⟩
 simp only [go_sem]
 rw [show byD c=.int .u8 (c.toNat:Nat) from rfl]
 simp only [go_sem]
 refine ⟨Nat.le_refl _,?_⟩
 have hlm:(l.map byD).length=l.length:=by simp
 refine qC E (d:=14) (e:=5) (some 5) [1] [13] (l.map byD) [.int .u8 (c.toNat:Nat)] (by rw [BD]) (by rw [ti5];rfl) (by rw [ti5];rfl) (by rw [ti5];rfl) rfl ⟨by simp only [go_sem],by rw [aa];decide⟩ (by rw [hlm];rfl) rfl rfl rfl (by rw [ti5,hlm];simp [TI.by1];omega) ?_
 rw [hlm,show l.map byD++[.int .u8 (c.toNat:Nat)]=(l++[c]).map byD by simp [byD]]
 simp only [go_sem]
 refine ⟨_,_,[0,1,2],tau [([2],[14])],⟨rfl,rfl⟩,?_⟩
 rw [show (l++[c]).length=l.length+1 by simp]
 simp only [go_sem]
theorem Co {G}:HCall Tryz.prog G 299 [.bx [0] 0] ew [0] (fun r hp'=>r=.d (i64 0)∧hp'=ew):=by
 unfold ew
 refine ar Tryz.func299 rfl (by decide +kernel) (by simp [Tryz.ntmps299]) (veil fun E=>?_)
 simp only [go_sem]
 refine ⟨_,_,[0],id,⟨rfl,rfl⟩,?_⟩
 simp only [go_sem]
theorem A9 {G} (l:List UInt8):HCall Tryz.prog G 299 [.bx [0] 0] (dz l) [0,1] (fun r hp'=>r=.d (i64 l.length)∧hp'=dz l):=by
 unfold dz
 refine ar Tryz.func299 rfl (by decide +kernel) (by simp [Tryz.ntmps299]) (veil fun E=>?_)
 simp only [go_sem]
 refine ⟨_,_,[0,1],id,⟨rfl,rfl⟩,?_⟩
 simp only [go_sem]
theorem Bn {G}:HCall Tryz.prog G 300 [.bx [0] 0] ew [0] (fun r hp'=>r=.d (.str [])∧hp'=ew):=by
 unfold ew
 refine ar Tryz.func300 rfl (by decide +kernel) (by simp [Tryz.ntmps300]) (veil fun E=>?_)
 simp only [go_sem]
 refine kn 10 mixed E (by simp only [List.take_succ_cons,List.take_zero];exact rfl) (by simp only [List.drop_succ_cons,List.drop_zero];exact rfl) rfl rfl (by decide +kernel) fun X=>?_
 simp only [go_sem]
 refine cz X (d:=4) [0] 0 (some 316) [.d .nilp,.d .nils] (by simp only [go_sem]) rfl rfl ?_
 simp only [go_sem]
 refine Hq X (d:=7) (by simp only [go_sem]) rfl ?_
 simp only [go_sem]
 refine cz X (d:=9) [0] 0 (some 316) [.d .nilp,.d .nils] (by simp only [go_sem]) rfl rfl ?_
 simp only [go_sem]
 refine ⟨by decide +kernel,?_⟩
 refine DO E (by simp only [go_sem]) rfl rfl ?_
 simp only [go_sem]
 refine ⟨_,_,[0],id,⟨rfl,rfl⟩,?_⟩
 simp only [go_sem]
theorem HH:Tryz.prog.cellsOf 5=1:=by kernel_rfl
theorem Ji:Tryz.prog.underlying 341=some (.pointer 5):=by kernel_rfl
theorem C1 {G} (l:List UInt8) (h0:l≠[]) (hl:l.length≤1000000):HCall Tryz.prog G 300 [.bx [0] 0] (dz l) [0,1] (fun r hp'=>r=.d (.str l)∧hp'=[]):=by
 unfold dz
 refine ar Tryz.func300 rfl (by decide +kernel) (by simp [Tryz.ntmps300]) (veil fun E=>?_)
 simp only [go_sem]
 refine kn 10 mixed E (by simp only [List.take_succ_cons,List.take_zero];exact rfl) (by simp only [List.drop_succ_cons,List.drop_zero];exact rfl) rfl rfl (by decide +kernel) fun X=>?_
 simp only [go_sem]
 refine cz X (d:=4) [0] 0 (some 316) [.bx [0] 0,.vw [1] 0 l.length] (by simp only [go_sem]) rfl rfl ?_
 simp only [go_sem]
 refine IY X (d:=7) [1] (some 5) none (l.map byD) l.length (by simp only [go_sem]) rfl rfl (List.length_pos_iff.2 h0) ?_
 simp only [go_sem]
 refine cz X (d:=9) [0] 0 (some 316) [.bx [0] 0,.vw [1] 0 l.length] (by simp only [go_sem]) rfl rfl ?_
 simp only [go_sem]
 refine ⟨by decide +kernel,?_⟩
 refine Gx E (e:=5) [1] l (by simp only [go_sem]) Ji HH h0 (by omega) rfl rfl rfl ?_
 simp only [go_sem]
 refine ⟨_,_,[0,1],id,⟨rfl,rfl⟩,?_⟩
 simp only [go_sem]
end Go.Proofs.YtejpnabbmgpmaaaGreat

namespace Go.Proofs.YtejpnabbmgpmaaaGreat
open Go.Ab
end Go.Proofs.YtejpnabbmgpmaaaGreat

namespace Go.Proofs.YtejpnabbmgpmaaaGreat
open Go.Ab
def bm (s p:List UInt8):Bool:=decide (p.length≤s.length) && (s.take p.length == p)
theorem w7 {G} (s p:List UInt8):HP Tryz.prog G 304 [.str s,.str p] (fun r=>r=.d (.bool (bm s p))):=by
 refine al Tryz.func304 rfl (by decide +kernel) (by simp [Tryz.ntmps304]) (veil fun E=>?_)
 simp only [go_sem]
 refine ao E (fun h=>?_) (fun h=>?_)<;>simp only [go_sem]
 ·have hl:p.length≤s.length:=by simpa using h
  refine ⟨by simpa using hl,?_⟩
  simp [bm,hl,IB]
 ·have hl:¬ p.length≤s.length:=by simpa using h
  simp [bm,hl]
theorem zg {s p:List UInt8} (h:bm s p=true):p.length≤s.length:=by
 simp only [bm,Bool.and_eq_true,decide_eq_true_eq] at h
 exact h.1
theorem FD {G} (s p:List UInt8):HP Tryz.prog G 327 [.str s,.str p] (fun r=>r=.tup [.d (.str (if bm s p then s.drop p.length else s)),.d (.bool (bm s p))]):=by
 refine al Tryz.func327 rfl (by decide +kernel) (by simp [Tryz.ntmps327]) (veil fun E=>?_)
 simp only [go_sem]
 refine ag E (w7 s p) rfl rfl (by simp) ?_
 rintro _ rfl
 simp only [go_sem]
 refine aD E (fun h=>?_) (fun h=>?_)<;>simp only [go_sem]
 ·have h:bm s p=false:=by simpa using h
  simp [h]
 ·have h:bm s p=true:=by simpa using h
  have:=zg h
  simp [h]
  refine ⟨by omega,?_⟩
  rw [List.take_of_length_le]
  simp
theorem w9 {G} (s p:List UInt8):HP Tryz.prog G 297 [.str s,.str p] (fun r=>r=.tup [.d (.str (if bm s p then s.drop p.length else s)),.d (.bool (bm s p))]):=by
 refine al Tryz.func297 rfl (by decide +kernel) (by simp [Tryz.ntmps297]) (veil fun E=>?_)
 simp only [go_sem]
 refine ag E (FD s p) rfl rfl (by simp) ?_
 rintro _ rfl
 simp only [go_sem]
end Go.Proofs.YtejpnabbmgpmaaaGreat

namespace Go.Proofs.YtejpnabbmgpmaaaGreat
open Go.Ab
def IK (k a b:Int):Int:=if k=1 then w64 (a+b) else if k=2 then w64 (a-b) else if k=3 then w64 (a*b) else if k=4 then Jd a b else if k=5 then (if a<b then 1 else 0) else if k=6 then (if a=b then 1 else 0) else 0
def ID (k b:Int):Int:=if k=1 then 0 else if k=2 then 0 else if k=3 then 0 else if k=4 then Jc b else if k=5 then 0 else if k=6 then 0 else 2
end Go.Proofs.YtejpnabbmgpmaaaGreat

namespace Go.Proofs.YtejpnabbmgpmaaaGreat
open Go.Ab
def dd (u:Nat):List UInt8:=if u=0 then [] else Lib.decDigits u
theorem Hd (m:Int):m.tdiv 10=if m<0 then -((m.natAbs / 10:Nat):Int) else ((m.natAbs / 10:Nat):Int):=by
 cases m with
 | ofNat k=>rw [if_neg (show ¬ Int.ofNat k<0 from Int.not_lt.2 (Int.natCast_nonneg k))];rfl
 | negSucc k=>rw [if_pos (Int.negSucc_lt_zero k)];rfl
end Go.Proofs.YtejpnabbmgpmaaaGreat

namespace Go.Proofs.YtejpnabbmgpmaaaGreat
open Go.Ab
def bc (c:UInt8):Bool:=decide (48≤c.toNat) && decide (c.toNat≤57)
def ba (l:List UInt8):Nat:=l.foldl (fun v c=>10*v+(c.toNat-48)) 0
theorem qt (l:List UInt8) (c:UInt8):ba (l++[c])=10*ba l+(c.toNat-48):=by simp [ba]
theorem qn {l:List UInt8} {i:Nat} (h:i<l.length):l.take (i+1)=l.take i++[l[i]]:=by simp
theorem dq {l:List UInt8} {i:Nat} (h:i<l.length):ba (l.take (i+1))=10*ba (l.take i)+(l[i].toNat-48):=by
 rw [qn h,qt]
theorem yW (l:List UInt8) (i:Nat):ba (l.take i)≤ba l:=by
 suffices h:∀ r m:List UInt8,ba m≤ba (m++r) by
  have:=h (l.drop i) (l.take i)
  rwa [List.take_append_drop] at this
 intro r
 induction r with
 | nil=>intro m;simp
 | cons c r ih =>
   intro m
   have h1:=ih (m++[c])
   rw [qt,List.append_assoc] at h1
   have h2:ba (m++c::r)=ba (m++([c]++r)):=rfl
   rw [h2];omega
theorem kJ (l:List UInt8) (h:l.all bc=true):ba l<10 ^ l.length:=by
 suffices hh:∀ i,i≤l.length→ba (l.take i)<10 ^ i by
  have:=hh l.length (Nat.le_refl _)
  rwa [List.take_length] at this
 intro i
 induction i with
 | zero=>intro _;simp [ba]
 | succ i ih =>
   intro hi
   have h1:=ih (by omega)
   rw [dq (by omega),Nat.pow_succ]
   have hd:=List.all_eq_true.1 h (l[i]) (List.getElem_mem _)
   simp only [bc,Bool.and_eq_true,decide_eq_true_eq] at hd
   omega
theorem wx (l:List UInt8) (h:l.all bc=true) (h0:¬ l.head?=some 48):l.length=0∨10 ^ (l.length-1)≤ba l:=by
 cases l with
 | nil=>exact .inl rfl
 | cons c r =>
   refine .inr ?_
   suffices hh:∀ i,i≤r.length→10 ^ i≤ba ((c::r).take (i+1)) by
    have:=hh r.length (Nat.le_refl _)
    rwa [show r.length+1=(c::r).length from rfl,List.take_length] at this
   intro i
   induction i with
   | zero =>
     intro _
     have hd:=List.all_eq_true.1 h c List.mem_cons_self
     simp only [bc,Bool.and_eq_true,decide_eq_true_eq] at hd
     have:c.toNat≠48:=fun e=>h0 (by
      have:c=48:=UInt8.toNat_inj.1 (by rw [e];rfl)
      subst this;rfl)
     simp [ba];omega
   | succ i ih =>
     intro hi
     rw [dq (by simp;omega),Nat.pow_succ]
     have:=ih (by omega)
     omega
def aY (l:List UInt8):Bool:=!l.isEmpty && !(decide (1<l.length) && l.head? == some 48) && l.all bc && decide (ba l≤9223372036854775808)
def bx (neg:Bool) (l:List UInt8):Bool:=aY l && !(neg && decide (ba l=0)) && !(!neg && decide (ba l=9223372036854775808))
def bS (neg:Bool) (l:List UInt8):AV:=.tup [.d (i64 (if bx neg l then (if neg then -(ba l:Int) else ba l) else 0)),.d (i64 (if bx neg l then 0 else 5))]
def lP (s:List UInt8):AV:=if bm s [126] then bS true (s.drop 1) else bS false s
theorem qH {l:List UInt8} (h:aY l=true):1≤l.length∧l.length≤19:=by
 simp only [aY,Bool.and_eq_true,Bool.not_eq_true',decide_eq_true_eq,Bool.and_eq_false_iff,decide_eq_false_iff_not,beq_eq_false_iff_ne] at h
 obtain ⟨⟨⟨h1,h2⟩,h3⟩,h4⟩:=h
 have h0:l.length≠0:=by
  intro e;rw [List.length_eq_zero_iff.1 e] at h1;simp at h1
 refine ⟨by omega,?_⟩
 rcases h2 with h2 | h2
 ·omega
 ·rcases wx l h3 h2 with h5 | h5
  ·omega
  ·apply Decidable.byContradiction;intro h6
   have:10 ^ 19≤10 ^ (l.length-1):=Nat.pow_le_pow_right (by omega) (by omega)
   omega
theorem cl {l:List UInt8} {i:Nat} (hi:i<l.length) (h:bc l[i]=false):aY l=false:=by
 cases hd:aY l with
 | false=>rfl
 | true =>
   simp only [aY,Bool.and_eq_true] at hd
   have:=List.all_eq_true.1 hd.1.2 _ (List.getElem_mem hi)
   rw [h] at this;cases this
theorem ku {l:List UInt8} (h1:1<l.length) (h:l.head?=some 48):aY l=false:=by
 simp [aY,h1,h]
theorem qE {l:List UInt8} {i:Nat} (h:9223372036854775808<ba (l.take i)):aY l=false:=by
 have:=yW l i
 have:¬ ba l≤9223372036854775808:=by omega
 simp [aY,this]
theorem aS {neg:Bool} {l:List UInt8} (h:aY l=false):bx neg l=false:=by simp [bx,h]
theorem aJ {neg:Bool} {l:List UInt8} (h:bx neg l=false):bS neg l=.tup [.d (i64 0),.d (i64 5)]:=by simp [bS,h]
theorem fF {l:List UInt8} (h0:1≤l.length) (hlead:¬ (1<l.length∧l.head?=some 48)) (hall:l.all bc=true) (hv:ba l≤9223372036854775808):aY l=true:=by
 simp only [aY,Bool.and_eq_true,Bool.not_eq_true',decide_eq_true_eq,Bool.and_eq_false_iff,decide_eq_false_iff_not,beq_eq_false_iff_ne]
 refine ⟨⟨⟨?_,?_⟩,hall⟩,hv⟩
 ·cases l with
  | nil=>simp at h0
  | cons c r=>rfl
 ·by_cases h:1<l.length
  ·exact .inr fun e=>hlead ⟨h,e⟩
  ·exact .inl h
theorem wX {l:List UInt8} (h0:1≤l.length) (hlead:¬ (1<l.length∧l.head?=some 48)) (hne:l≠[48]) (hall:l.all bc=true):1≤ba l:=by
 have hh:¬ l.head?=some 48:=by
  intro e
  have h1:¬ 1<l.length:=fun h=>hlead ⟨h,e⟩
  cases l with
  | nil=>simp at h0
  | cons c r =>
    cases r with
    | nil=>simp at e;subst e;exact hne rfl
    | cons d r=>simp at h1
 rcases wx l hall hh with h | h
 ·omega
 ·exact Nat.le_trans (Nat.one_le_pow _ _ (by omega)) h
theorem fY {l:List UInt8} {i:Nat} (hi:i<l.length) (hall:(l.take i).all bc=true) (h:bc l[i]=true):(l.take (i+1)).all bc=true:=by
 rw [qn hi,List.all_append,hall]
 simp [h]
theorem Ia {n:Nat} (h:n≤19):(10:Nat) ^ n≤10000000000000000000:=Nat.le_trans (Nat.pow_le_pow_right (by omega) h) (by decide)
theorem lH {l:List UInt8} {i:Nat} (hi:i<l.length) (hlen:l.length≤19) (hall:(l.take i).all bc=true) (h:bc (l.getD i 0)=true) :
  u64 (u64 (10*((ba (l.take i):Nat):Int))+u64 (IntKind.u8.wrap (((l.getD i 0).toNat:Nat)-48)))=((ba (l.take (i+1)):Nat):Int):=by
 have hc:l.getD i 0=l[i]:=by simp [hi]
 rw [hc] at h ⊢
 have h1:=kJ _ (fY hi hall h)
 rw [List.length_take] at h1
 have h2:=Ia (n:=min (i+1) l.length) (by omega)
 rw [dq hi] at h1 ⊢
 simp only [bc,Bool.and_eq_true,decide_eq_true_eq] at h
 have e:IntKind.u8.wrap (((l[i].toNat:Nat):Int)-48)=((l[i].toNat-48:Nat):Int):=by
  simp only [IntKind.wrap,IntKind.bits,IntKind.signed]
  simp
  omega
 rw [e]
 simp only [wZ]
 omega
end Go.Proofs.YtejpnabbmgpmaaaGreat

namespace Go.Proofs.YtejpnabbmgpmaaaGreat
open Go.Ab
structure Tok where
 k:Int
 s:List UInt8
 n:Int
 pos:Int
 deriving Inhabited,DecidableEq
structure Fnd where
 t:Tok
 n:Nat
 e:Int
 deriving DecidableEq
def noT:Tok:=⟨0,[],0,0⟩
def eh (e:Int):Fnd:=⟨noT,0,e⟩
def ck (t:Tok):D:=.agg [i64 t.k,.str t.s,i64 t.n,i64 t.pos]
def rv (f:Fnd):D:=.agg [i64 f.t.k,.str f.t.s,i64 f.t.n,i64 f.t.pos,i64 f.n,i64 f.e]
def gx (c:UInt8):Bool:=decide (32≤c.toNat) && decide (c.toNat≤126) && decide (c.toNat≠34) && decide (c.toNat≠92)
def dA:List UInt8:=[48,49,50,51,52,53,54,55,56,57,97,98,99,100,101,102]
def gB:List UInt8→UInt8 × Nat
 | []=>(0,0)
 | c::r =>
   if c=34∨c=92 then (c,1)
   else if c=110 then (10,1)
   else if c=116 then (9,1)
   else if c=120 then
    match r with
    | a::b::_=>if Lib.indexByte dA a<0∨Lib.indexByte dA b<0 then (0,0) else (UInt8.ofNat (16*Lib.indexByte dA a+Lib.indexByte dA b).toNat,3)
    | _=>(0,0)
   else (0,0)
def eu:Nat→List UInt8→Nat→List UInt8→List UInt8 × Nat × Int
 | 0,_,_,_=>([],0,5)
 | _+1,[],_,_=>([],0,5)
 | m+1,c::r,i,acc =>
   if c=34 then (if 200<acc.length then ([],0,7) else (acc,i+1,0))
   else if c=92 then (if (gB r).2=0 then ([],0,5) else eu m (r.drop (gB r).2) (i+(gB r).2+1) (acc++[(gB r).1]))
   else if gx c then eu m r (i+1) (acc++[c])
   else ([],0,5)
def cK:List UInt8→List UInt8 × Nat × Int
 | []=>([],0,5)
 | c::r=>if c=34 then eu r.length.succ r 1 [] else ([],0,5)
def gW:List UInt8→Nat
 | []=>0
 | c::r=>if bc c then gW r+1 else 0
def bF:List UInt8:=[59,58,44,46,61,60,62,43,45,42,47,94,40,41,123,125,91,93,124,38]
def kY (s:List UInt8) (n:Nat):Fnd :=
 if 20<n then eh 7 else if CL (s.take n) then ⟨⟨1,s.take n,0,0⟩,n,0⟩ else if gr ((s.take n).getD 0 0) then ⟨⟨3,s.take n,0,0⟩,n,0⟩ else ⟨⟨2,s.take n,0,0⟩,n,0⟩
def pI (s:List UInt8):Fnd :=
 if bI (s.drop 1)=0∨gr (s.getD 1 0) then eh 5 else if 20<bI (s.drop 1) then eh 7 else ⟨⟨6,(s.drop 1).take (bI (s.drop 1)),0,0⟩,bI (s.drop 1)+1,0⟩
def sX (neg:Bool) (l:List UInt8):Int × Int:=if bx neg l then (if neg then -(ba l:Int) else ba l,0) else (0,5)
def tC (s:List UInt8):Int × Int:=if bm s [126] then sX true (s.drop 1) else sX false s
def vv (s:List UInt8):Fnd :=
 ⟨⟨4,[],(tC (s.take (gW (s.drop 1)+1))).1,0⟩,gW (s.drop 1)+1,(tC (s.take (gW (s.drop 1)+1))).2⟩
def oC (s:List UInt8):Fnd:=⟨⟨5,(cK s).1,0,0⟩,(cK s).2.1,(cK s).2.2⟩
def iO (s:List UInt8):Fnd :=
 if bm s [45,62] || bm s [61,61] then ⟨⟨7,s.take 2,0,0⟩,2,0⟩ else if Lib.indexByte bF (s.getD 0 0)<0 then eh 5 else ⟨⟨7,s.take 1,0,0⟩,1,0⟩
def cq (s:List UInt8):Fnd :=
 if 0<bI s then kY s (bI s)
 else if s.getD 0 0=39 then pI s
 else if bc (s.getD 0 0) || decide (s.getD 0 0=126) then vv s
 else if s.getD 0 0=34 then oC s
 else iO s
def vn:List UInt8:=[32,9,10]
def dC:List UInt8→Option Nat
 | []=>none
 | c::r=>if c=10 then some 0 else (dC r).map (·+1)
def eS:Nat→List UInt8→Nat
 | 0,_=>0
 | _+1,[]=>0
 | m+1,c::r =>
   if c=32∨c=9∨c=10 then eS m r+1
   else if c=35 then
    match dC (c::r) with
    | none=>(c::r).length
    | some k=>k+eS m ((c::r).drop k)
   else 0
def bd (s:List UInt8):Nat:=eS s.length.succ s
def eO:Nat→List UInt8→Nat→List (Nat × Fnd)
 | 0,_,_=>[]
 | m+1,s,at' =>
   if s.drop (bd s)=[] then []
   else if (cq (s.drop (bd s))).e≠0 then [(at'+bd s,cq (s.drop (bd s)))]
   else (at'+bd s,cq (s.drop (bd s)))::eO m ((s.drop (bd s)).drop (cq (s.drop (bd s))).n) (at'+bd s+(cq (s.drop (bd s))).n)
def aF (s:List UInt8):List (Nat × Fnd):=eO s.length.succ s 0
def ia:List (Nat × Fnd)→Option (Nat × Int)
 | []=>none
 | q::r=>if q.2.e≠0 then some (q.1,q.2.e) else ia r
def gh (q:Nat × Fnd):Tok:={ q.2.t with pos:=q.1 }
def bo (s:List UInt8):List Tok × Nat × Int :=
 match ia (aF s) with
 | some (i,e)=>([],i,e)
 | none=>((aF s).map gh,s.length,0)
end Go.Proofs.YtejpnabbmgpmaaaGreat

namespace Go.Proofs.YtejpnabbmgpmaaaGreat
open Go.Ab
theorem rm (r:List UInt8):(gB r).2≤r.length:=by
 unfold gB
 (repeat' split)<;>simp
theorem u9:∀ (m:Nat) (r:List UInt8) (i:Nat) (acc:List UInt8),(eu m r i acc).2.2=0→i+1≤(eu m r i acc).2.1∧(eu m r i acc).2.1≤i+r.length
 | 0,_,_,_,h=>by simp [eu] at h
 | _+1,[],_,_,h=>by simp [eu] at h
 | m+1,c::r,i,acc,h=>by
   unfold eu at h ⊢
   split at h
   ·rename_i hc
    rw [if_pos hc]
    split at h
    ·simp at h
    ·rename_i h2;rw [if_neg h2];simp only [List.length_cons];omega
   rename_i hc
   rw [if_neg hc]
   split at h
   ·rename_i h1
    rw [if_pos h1]
    split at h
    ·simp at h
    ·rename_i h2
     rw [if_neg h2]
     have ih:=u9 m _ _ _ h
     have:=rm r
     rw [List.length_drop] at ih
     simp only [List.length_cons];omega
   rename_i h1
   rw [if_neg h1]
   split at h
   ·rename_i h2
    rw [if_pos h2]
    have ih:=u9 m _ _ _ h
    simp only [List.length_cons];omega
   ·simp at h
theorem DG {s:List UInt8} (h:(cK s).2.2=0):1≤(cK s).2.1∧(cK s).2.1≤s.length:=by
 cases s with
 | nil=>simp [cK] at h
 | cons c r =>
   simp only [cK] at h ⊢
   by_cases hc:c=34
   ·rw [if_pos hc] at h ⊢
    have:=u9 _ _ _ _ h
    simp only [List.length_cons];omega
   ·rw [if_neg hc] at h;simp at h
theorem gM (l:List UInt8):bI l≤l.length:=by
 cases l with
 | nil=>simp [bI]
 | cons c r =>
   rw [dL (by simp)]
   have:=yh ((c::r).drop 1)
   split
   ·simp only [List.drop_succ_cons,List.drop_zero] at this;simp;omega
   ·omega
theorem nz:∀ l:List UInt8,gW l≤l.length
 | []=>Nat.le_refl _
 | c::r=>by
   unfold gW
   have:=nz r
   split<;>simp
   omega
theorem eJ {s p:List UInt8} (h:bm s p=true):p.length≤s.length:=by
 simp only [bm,Bool.and_eq_true,decide_eq_true_eq] at h
 exact h.1
theorem Av {s:List UInt8} (hs:s≠[]) (h:(cq s).e=0):1≤(cq s).n∧(cq s).n≤s.length:=by
 have h0:=List.length_pos_iff.2 hs
 unfold cq at h ⊢
 split at h
 ·rename_i hw
  rw [if_pos hw]
  unfold kY at h ⊢
  have:=gM s
  split at h
  ·simp [eh] at h
  rename_i h1
  rw [if_neg h1]
  (repeat' split)<;>(simp only;omega)
 rename_i hw
 rw [if_neg hw]
 split at h
 ·rename_i h1
  rw [if_pos h1]
  unfold pI at h ⊢
  split at h
  ·simp [eh] at h
  rename_i h2
  rw [if_neg h2]
  split at h
  ·simp [eh] at h
  rename_i h3
  rw [if_neg h3]
  have:=gM (s.drop 1)
  rw [List.length_drop] at this
  have h4:¬ bI (s.drop 1)=0:=fun e=>h2 (.inl e)
  simp only;omega
 rename_i h1
 rw [if_neg h1]
 split at h
 ·rename_i h2
  rw [if_pos h2]
  unfold vv
  have:=nz (s.drop 1)
  rw [List.length_drop] at this
  simp only;omega
 rename_i h2
 rw [if_neg h2]
 split at h
 ·rename_i h3
  rw [if_pos h3]
  exact DG h
 rename_i h3
 rw [if_neg h3]
 unfold iO at h ⊢
 split at h
 ·rename_i h4
  rw [if_pos h4]
  simp only [Bool.or_eq_true] at h4
  rcases h4 with h4 | h4
  ·have:=eJ h4;simp at this;simp only;omega
  ·have:=eJ h4;simp at this;simp only;omega
 rename_i h4
 rw [if_neg h4]
 split at h
 ·simp [eh] at h
 ·rename_i h5;rw [if_neg h5];simp only;omega
theorem wa:∀ (m:Nat) (s:List UInt8) (at':Nat),∀ q∈eO m s at',q.1≤at'+s.length
 | 0,_,_,_,h=>by simp [eO] at h
 | m+1,s,at',q,h=>by
   unfold eO at h
   split at h
   ·cases h
   rename_i hd
   have h0:=List.length_pos_iff.2 hd
   rw [List.length_drop] at h0
   split at h
   ·rw [List.mem_singleton.1 h];simp only;omega
   rename_i he
   have hn:=Av hd (by simpa using he)
   rw [List.length_drop] at hn
   rcases List.mem_cons.1 h with rfl | h
   ·simp only;omega
   ·have:=wa m _ _ q h
    simp only [List.length_drop] at this
    omega
theorem ll:∀ (m:Nat) (s:List UInt8) (at':Nat),(eO m s at').length≤s.length
 | 0,_,_=>by simp [eO]
 | m+1,s,at'=>by
   unfold eO
   split
   ·simp
   rename_i hd
   have h0:=List.length_pos_iff.2 hd
   rw [List.length_drop] at h0
   split
   ·simp;omega
   rename_i he
   have hn:=Av hd (by simpa using he)
   rw [List.length_drop] at hn
   have:=ll m ((s.drop (bd s)).drop (cq (s.drop (bd s))).n) (at'+bd s+(cq (s.drop (bd s))).n)
   simp only [List.length_drop,List.length_cons] at this ⊢
   omega
theorem uM:∀ {l:List (Nat × Fnd)} {q:Nat × Int},ia l=some q→∃ x∈l,x.1=q.1
 | [],_,h=>by cases h
 | a::r,q,h=>by
   unfold ia at h
   split at h
   ·cases h;exact ⟨a,List.mem_cons_self,rfl⟩
   ·obtain ⟨x,hx,e⟩:=uM h
    exact ⟨x,List.mem_cons_of_mem _ hx,e⟩
theorem q8:∀ {l:List (Nat × Fnd)} {q:Nat × Int},ia l=some q→q.2≠0
 | [],_,h=>by cases h
 | a::r,q,h=>by
   unfold ia at h
   split at h
   ·rename_i g;cases h;exact g
   ·exact q8 h
theorem mc (s:List UInt8):(bo s).2.1≤s.length∧(∀ t∈(bo s).1,0≤t.pos∧t.pos≤s.length)∧(bo s).1.length≤s.length∧((bo s).2.2=0→(bo s).2.1=s.length):=by
 have hin:=wa s.length.succ s 0
 unfold bo
 split
 ·rename_i i e h
  obtain ⟨x,hx,hxe⟩:=uM h
  have:=hin x hx
  have:=q8 h
  refine ⟨by simp only at *;omega,fun _ h=>(by cases h),Nat.zero_le _,fun h=>absurd h this⟩
 ·refine ⟨Nat.le_refl _,fun t ht=>?_,?_,fun _=>rfl⟩
  ·obtain ⟨q,hq,rfl⟩:=List.mem_map.1 ht
   have:=hin q hq
   show 0≤(q.1:Int)∧(q.1:Int)≤_
   omega
  ·rw [List.length_map];exact ll _ _ _
end Go.Proofs.YtejpnabbmgpmaaaGreat

namespace Go.Proofs.YtejpnabbmgpmaaaGreat
open Go.Ab
theorem Gs (l:List UInt8) (c:UInt8) (w:World):(callFunc 296 #[.string ⟨l.toArray⟩,.int .u8 (c.toNat:Nat)]).run Tryz.prog w=.ok (.value (.int .i64 (Lib.indexByte l c))) w:=by
 rw [run_callFunc_extern Tryz.func296 (by kernel_rfl) (by kernel_rfl) (by kernel_rfl) (e:=Extern.BytealgIndexByte.indexByte) (by kernel_rfl)]
 rw [Lib.run_indexByteString]
 simp [Result.andThen]
theorem ES {G} (l:List UInt8) (c:UInt8):HP Tryz.prog G 265 [.str l,u8 c] (fun r=>r=.d (i64 (Lib.indexByte l c))):=by
 unfold u8
 refine al Tryz.func265 rfl (by decide +kernel) (by simp [Tryz.ntmps265]) (veil fun E=>?_)
 simp only [go_sem]
 refine IL E 296 [.str l,.int .u8 (c.toNat:Nat)] [.string ⟨l.toArray⟩,.int .u8 (c.toNat:Nat)] (.int .i64 (Lib.indexByte l c)) (.int .i64 (Lib.indexByte l c)) rfl rfl (Gs l c) (by simp only [go_sem]) rfl rfl ?_
 simp only [go_sem]
theorem kG {G} (l:List UInt8) (c:UInt8):HP Tryz.prog G 214 [.str l,u8 c] (fun r=>r=.d (i64 (Lib.indexByte l c))):=by
 refine al Tryz.func214 rfl (by decide +kernel) (by simp [Tryz.ntmps214]) (veil fun E=>?_)
 simp only [go_sem]
 refine ag E (ES l c) rfl rfl (by simp) ?_
 rintro _ rfl
 simp only [go_sem]
theorem x7 {G} (s p:List UInt8):HP Tryz.prog G 269 [.str s,.str p] (fun r=>r=.d (.bool (bm s p))):=by
 refine al Tryz.func269 rfl (by decide +kernel) (by simp [Tryz.ntmps269]) (veil fun E=>?_)
 simp only [go_sem]
 refine ag E (w7 s p) rfl rfl (by simp) ?_
 rintro _ rfl
 simp only [go_sem]
theorem xO {G} (c:UInt8):HP Tryz.prog G 303 [u8 c] (fun r=>r=.d (.bool (gx c))):=by
 unfold u8
 refine al Tryz.func303 rfl (by decide +kernel) (by simp [Tryz.ntmps303]) (veil fun E=>?_)
 simp only [go_sem]
 repeat (first
  | (apply b6 E;(· simp only [go_sem]);(· intro h;(try simp only [bq] at h);simp only [↓h,go_sem];rfl);simp only [go_sem])
  | (apply a9 E;(· simp only [go_sem]);(· intro h;(try simp only [bq] at h);simp only [↓h,go_sem];rfl);(· intro h;(try simp only [bq] at h);simp only [↓h,go_sem];rfl);simp only [go_sem])
  | (apply a8 E;(· simp only [go_sem]);(· rfl);(· intro h h';(try simp only [bq] at h h');simp only [↓h,↓h',go_sem];rfl);simp only [go_sem])
  | (apply aK E;(· simp only [go_sem]);(· rfl);(· intro h h';(try simp only [bq] at h h');simp only [↓h,↓h',go_sem];rfl);(· intro h h';(try simp only [bq] at h h');simp only [↓h,↓h',go_sem];rfl);simp only [go_sem])
  | (apply bY E;(· decide);simp only [go_sem]))
 have hp:(((decide (32≤((c.toNat:Nat):Int)) && decide (((c.toNat:Nat):Int)≤126)) && decide (¬ ((c.toNat:Nat):Int)=34)) && decide (¬ ((c.toNat:Nat):Int)=92))=gx c:=by
  unfold gx
  rw [Bool.eq_iff_iff];simp;omega
 rw [hp]
theorem bV {c:UInt8} (d:UInt8) (h:((c.toNat:Nat):Int)=(d.toNat:Nat)):c=d:=UInt8.toNat_inj.1 (by omega)
theorem aQ {c:UInt8} (d:UInt8) (h:¬ ((c.toNat:Nat):Int)=(d.toNat:Nat)):¬ c=d:=fun e=>h (by rw [e])
def yV (c:UInt8) (r:List UInt8):UInt8 × Nat:=if c=110 then (10,1) else if c=116 then (9,1) else if c=120 then (match r with | a::b::_=>if Lib.indexByte dA a<0∨Lib.indexByte dA b<0 then (0,0) else (UInt8.ofNat (16*Lib.indexByte dA a+Lib.indexByte dA b).toNat,3) | _=>(0,0)) else (0,0)
theorem AN (c:UInt8) (r:List UInt8):gB (c::r)=if c=34∨c=92 then (c,1) else yV c r:=rfl
theorem xZ (c:UInt8) (r:List UInt8) (h:c=34∨c=92):gB (c::r)=(c,1):=by rw [AN,if_pos h]
theorem wK (c:UInt8) (r:List UInt8) (h:¬ (c=34∨c=92)):gB (c::r)=yV c r:=by rw [AN,if_neg h]
theorem Gb (c:UInt8):∀ l:List UInt8,Lib.indexByte l c<l.length∨l=[]
 | []=>.inr rfl
 | b::l=>by
   left
   have:=Gb c l
   unfold Lib.indexByte
   split
   ·simp only [List.length_cons];omega
   split
   ·simp only [List.length_cons];omega
   ·rcases this with h | h
    ·simp only [List.length_cons];omega
    ·rename_i h1 h2
     subst h
     exact absurd rfl h2
theorem Bq (c:UInt8):Lib.indexByte dA c<16:=by
 rcases Gb c dA with h | h
 ·exact h
 ·cases h
theorem xr {G} (s:List UInt8) (hl:s.length≤1000000):HP Tryz.prog G 301 [.str s] (fun r=>r=.tup [.d (u8 (gB s).1),.d (i64 (gB s).2)]):=by
 unfold u8
 refine al Tryz.func301 rfl (by decide +kernel) (by simp [Tryz.ntmps301]) (veil fun E=>?_)
 simp only [go_sem]
 refine aD E (fun h=>?_) (fun h=>?_)<;>simp only [go_sem]
 ·have h0:s=[]:=by simpa using h
  subst h0
  rfl
 cases s with
 | nil=>simp at h
 | cons c r =>
 have hc0:(c::r).getD 0 0=c:=rfl
 simp only [List.length_cons] at hl
 refine ⟨by simp,?_⟩
 rw [hc0]
 have key1:c=34∨c=92→gB (c::r)=(c,1):=xZ c r
 have key0:¬ (c=34∨c=92)→gB (c::r)=yV c r:=wK c r
 refine ah E (fun h1=>?_) (fun h1=>?_)<;>simp only [go_sem]
 ·refine ah E (fun _=>?_) (fun h2=>absurd h1 h2)<;>simp only [go_sem]
  refine ⟨by simp,?_⟩
  rw [key1 (.inl (bV 34 h1))]
  rfl
 refine ah E (fun h2=>?_) (fun h2=>?_)<;>simp only [go_sem]
 ·refine ⟨by simp,?_⟩
  rw [key1 (.inr (bV 92 h2))]
  rfl
 have key:=key0 (fun h=>h.elim (aQ 34 h1) (aQ 92 h2))
 unfold yV at key
 refine ah E (fun h3=>?_) (fun h3=>?_)<;>simp only [go_sem]
 ·rw [key,if_pos (bV 110 h3)];rfl
 rw [if_neg (aQ 110 h3)] at key
 refine ah E (fun h4=>?_) (fun h4=>?_)<;>simp only [go_sem]
 ·rw [key,if_pos (bV 116 h4)];rfl
 rw [if_neg (aQ 116 h4)] at key
 refine ah E (fun h5=>?_) (fun h5=>?_)<;>simp only [go_sem]
 rotate_left
 ·rw [key,if_neg (aQ 120 h5)];rfl
 rw [if_pos (bV 120 h5)] at key
 refine ah E (fun h6=>?_) (fun h6=>?_)<;>simp only [go_sem]
 ·have h7:gB (c::r)=(0,0):=by
   match r,h6,key with
   | [],_,key=>exact key
   | [_],_,key=>exact key
   | _::_::_,h6,_=>simp only [List.length_cons] at h6;omega
  rw [h7];rfl
 obtain ⟨a,b,r',rfl⟩:∃ a b r',r=a::b::r':=by
  match r,h6 with
  | [],h6=>exact absurd (by simp) h6
  | [_],h6=>exact absurd (by simp) h6
  | a::b::r',_=>exact ⟨a,b,r',rfl⟩
 simp only at key
 refine ak mixed E fun X=>?_
 simp only [go_sem]
 have ha:=Bq a
 have hb:=Bq b
 refine ⟨by omega,?_⟩
 rw [show (c::a::b::r').getD 1 0=a from rfl]
 refine bK X (kG dA a) rfl rfl (by simp) ?_
 simp only [go_sem]
 refine ⟨by omega,?_⟩
 rw [show (c::a::b::r').getD 2 0=b from rfl]
 refine bK X (kG dA b) rfl rfl (by simp) ?_
 simp only [go_sem]
 generalize Lib.indexByte dA a=x at ha key
 generalize Lib.indexByte dA b=y at hb key
 refine ⟨by decide +kernel,?_⟩
 repeat (first
  | (apply b6 E;(· simp only [go_sem]);(· intro h;(try simp only [bq] at h);simp only [↓h,go_sem];rfl);simp only [go_sem])
  | (apply a9 E;(· simp only [go_sem]);(· intro h;(try simp only [bq] at h);simp only [↓h,go_sem];rfl);(· intro h;(try simp only [bq] at h);simp only [↓h,go_sem];rfl);simp only [go_sem])
  | (apply a8 E;(· simp only [go_sem]);(· rfl);(· intro h h';(try simp only [bq] at h h');simp only [↓h,↓h',go_sem];rfl);simp only [go_sem])
  | (apply aK E;(· simp only [go_sem]);(· rfl);(· intro h h';(try simp only [bq] at h h');simp only [↓h,↓h',go_sem];rfl);(· intro h h';(try simp only [bq] at h h');simp only [↓h,↓h',go_sem];rfl);simp only [go_sem])
  | (apply bY E;(· decide);simp only [go_sem]))
 refine aD E (fun h7=>?_) (fun h7=>?_)<;>simp only [go_sem]
 ·rw [key,if_pos (by simpa using h7)];rfl
 ·have h8:0≤x∧0≤y:=by
   have:¬ (x<0∨y<0):=by simpa using h7
   omega
  rw [key,if_neg (by omega),ai (n:=16*x) ⟨by omega,by omega⟩,ai ⟨by omega,by omega⟩]
  obtain ⟨n,hn⟩:∃ n:Nat,16*x+y=n:=⟨(16*x+y).toNat,by omega⟩
  rw [hn,Int.toNat_natCast]
  have h9:n<256:=by omega
  have h10:IntKind.u8.wrap (n:Int)=((UInt8.ofNat n).toNat:Nat):=by
   rw [UInt8.toNat_ofNat']
   simp [IntKind.wrap,IntKind.bits,IntKind.signed]
  rw [h10]
  rfl
end Go.Proofs.YtejpnabbmgpmaaaGreat

namespace Go.Proofs.YtejpnabbmgpmaaaGreat
open Go.Ab
def CJ:List UInt8→List (Name × Ob)
 | []=>ew
 | c::r=>dz (c::r)
theorem jD (l:List UInt8) (c:UInt8):CJ (l++[c])=dz (l++[c]):=by cases l<;>rfl
structure TkI (s:List UInt8) (i:Nat) (acc:List UInt8) (m:Nat):Prop where
 h1:1≤i
 hi:i≤s.length
 ha:acc.length≤i
 hm:(s.drop i).length<m
 he:eu m (s.drop i) i acc=cK s
theorem TkI.init {c:UInt8} {r:List UInt8} (hc:c=34):TkI (c::r) 1 [] r.length.succ :=
 ⟨Nat.le_refl _,by simp,by simp,by simp,by simp only [List.drop_succ_cons,List.drop_zero,cK,if_pos hc]⟩
theorem TkI.fin {s:List UInt8} {i m:Nat} {acc:List UInt8} (h:TkI s i acc m) (hi:s.length≤i):cK s=([],0,5):=by
 rw [← h.he,List.drop_eq_nil_of_le hi]
 cases m<;>rfl
theorem TkI.cases {s:List UInt8} {i m:Nat} {acc:List UInt8} (h:TkI s i acc m) (hi:i<s.length):∃ m',m=m'+1∧s.drop i=s.getD i 0::s.drop (i+1):=by
 obtain ⟨m',rfl⟩:∃ m',m=m'+1:=⟨m-1,by have:=h.hm;omega⟩
 exact ⟨m',rfl,by rw [List.drop_eq_getElem_cons hi];simp [hi]⟩
theorem TkI.mark {s:List UInt8} {i m:Nat} {acc:List UInt8} (h:TkI s i acc m) (hi:i<s.length) (hc:s.getD i 0=34):cK s=if 200<acc.length then ([],0,7) else (acc,i+1,0):=by
 obtain ⟨m',rfl,hd⟩:=h.cases hi
 rw [← h.he,hd,eu,if_pos hc]
theorem TkI.bad {s:List UInt8} {i m:Nat} {acc:List UInt8} (h:TkI s i acc m) (hi:i<s.length) (hc:¬ s.getD i 0=34) (hs:s.getD i 0=92) (he:(gB (s.drop (i+1))).2=0):cK s=([],0,5):=by
 obtain ⟨m',rfl,hd⟩:=h.cases hi
 rw [← h.he,hd,eu,if_neg hc,if_pos hs,if_pos he]
theorem TkI.odd {s:List UInt8} {i m:Nat} {acc:List UInt8} (h:TkI s i acc m) (hi:i<s.length) (hc:¬ s.getD i 0=34) (hs:¬ s.getD i 0=92) (hp:gx (s.getD i 0)=false):cK s=([],0,5):=by
 obtain ⟨m',rfl,hd⟩:=h.cases hi
 rw [← h.he,hd,eu,if_neg hc,if_neg hs,if_neg (by rw [hp];simp)]
theorem TkI.esc {s:List UInt8} {i m:Nat} {acc:List UInt8} (h:TkI s i acc m) (hi:i<s.length) (hc:¬ s.getD i 0=34) (hs:s.getD i 0=92) (he:¬ (gB (s.drop (i+1))).2=0) :
  TkI s (i+(gB (s.drop (i+1))).2+1) (acc++[(gB (s.drop (i+1))).1]) (m-1):=by
 obtain ⟨m',rfl,hd⟩:=h.cases hi
 have hl:=rm (s.drop (i+1))
 rw [List.length_drop] at hl
 have hm:=h.hm
 have ha:=h.ha
 rw [List.length_drop] at hm
 refine ⟨by omega,by omega,by simp;omega,by rw [List.length_drop];omega,?_⟩
 rw [← h.he,hd,eu,if_neg hc,if_pos hs,if_neg he,List.drop_drop,Nat.add_sub_cancel]
 congr 2
 omega
theorem TkI.plain {s:List UInt8} {i m:Nat} {acc:List UInt8} (h:TkI s i acc m) (hi:i<s.length) (hc:¬ s.getD i 0=34) (hs:¬ s.getD i 0=92) (hp:gx (s.getD i 0)=true):TkI s (i+1) (acc++[s.getD i 0]) (m-1):=by
 obtain ⟨m',rfl,hd⟩:=h.cases hi
 have hm:=h.hm
 have ha:=h.ha
 rw [List.length_drop] at hm
 refine ⟨by omega,by omega,by simp;omega,by rw [List.length_drop];omega,?_⟩
 rw [← h.he,hd,eu,if_neg hc,if_neg hs,if_pos hp,Nat.add_sub_cancel]
set_option maxHeartbeats 1000000 in
theorem Ek {G} (s:List UInt8) (hl:s.length≤1000000):HP Tryz.prog G 268 [.str s] (fun r=>r=.tup [.d (.str (cK s).1),.d (i64 (cK s).2.1),.d (i64 (cK s).2.2)]):=by
 refine al Tryz.func268 rfl (by decide +kernel) (by simp [Tryz.ntmps268]) (veil fun E=>?_)
 simp only [go_sem]
 cases s with
 | nil =>
   simp only [go_sem]
   rfl
 | cons c r =>
 refine bU E (fun h=>absurd h (by simp)) (fun h=>?_)<;>simp only [go_sem]
 refine ⟨by simp,?_⟩
 refine ah E (fun h1=>?_) (fun h1=>?_)<;>simp only [go_sem]
 ·have h2:cK (c::r)=([],0,5):=by
   unfold cK
   simp only
   rw [if_neg (aQ 34 h1)]
  rw [h2];rfl
 have hc:c=34:=Classical.byContradiction fun h=>h1 (fun e=>h (bV 34 e))
 obtain ⟨s,hs⟩:∃ s,s=c::r:=⟨_,rfl⟩
 have hI0:=TkI.init (r:=r) hc
 rw [← hs] at hl hI0
 simp only [← hs]
 refine aA E (X:={ x:Nat × List UInt8 × Nat // TkI s x.1 x.2.1 x.2.2 }) (fun x=>[(0,.d (.str s)),(5,.bx [0] 0),(6,.d (i64 x.1.1))]) (fun x=>CJ x.1.2.1) [0,1] (fun x=>s.length-x.1.1) ⟨(1,[],r.length.succ),hI0⟩ (tau [([0],[5])]) ?_ ?_
 ·unfold CJ ew
  simp only [go_sem]
 rintro ⟨⟨i,acc,m⟩,hI⟩ E0
 refine aC E0 fun Q' hQ E'=>?_
 simp only at hI ⊢
 have hi:=hI.hi
 have ha:=hI.ha
 cases acc with
 | nil =>
   simp only [CJ]
   unfold ew
   simp only [go_sem]
   refine ah E' (fun h1=>?_) (fun h1=>?_)<;>simp only [go_sem]
   rotate_left
   ·rw [hQ]
    simp only [go_sem]
    rw [← hs,hI.fin (by omega)]
    rfl
   have h1':i<s.length:=by omega
   refine ⟨⟨by omega,by omega⟩,?_⟩
   refine ah E' (fun h2=>?_) (fun h2=>?_)<;>simp only [go_sem]
   ·have hmk:=hI.mark h1' (bV 34 h2)
    refine ab E' [.bx [0] 0] ew [0] Co rfl rfl ⟨by simp only [go_sem],by rw [aa];decide⟩ rfl (by unfold ew;simp only [go_sem]) (by unfold ew;simp only [go_sem]) ?_
    rintro _ _ ⟨rfl,rfl⟩
    unfold ew
    simp only [go_sem]
    refine ab E' [.bx [0] 0] ew [0] Bn rfl rfl ⟨by simp only [go_sem],by rw [aa];decide⟩ rfl (by unfold ew;simp only [go_sem]) (by unfold ew;simp only [go_sem]) ?_
    rintro _ _ ⟨rfl,rfl⟩
    unfold ew
    simp only [go_sem]
    rw [ai ⟨by omega,by omega⟩,hQ]
    simp only [go_sem]
    rw [← hs,hmk]
    rfl
   refine ah E' (fun h3=>?_) (fun h3=>?_)<;>simp only [go_sem]
   ·have h2n:=aQ 34 h2
    have h3y:=bV 92 h3
    rw [ai (n:=(i:Int)+1) ⟨by omega,by omega⟩]
    refine ⟨⟨by omega,by omega⟩,?_⟩
    rw [show ((i:Int)+1).toNat=i+1 by omega,List.take_of_length_le (l:=s.drop (i+1)) (by rw [List.length_drop];omega)]
    have hel:=rm (s.drop (i+1))
    have hbad:=hI.bad h1' h2n h3y
    have hesc:=hI.esc h1' h2n h3y
    rw [List.length_drop] at hel
    refine ag E' (xr (s.drop (i+1)) (by rw [List.length_drop];omega)) rfl rfl (by simp) ?_
    rintro _ rfl
    obtain ⟨y,n,hyn⟩:∃ y n,gB (s.drop (i+1))=(y,n):=⟨_,_,rfl⟩
    rw [hyn] at hel hbad hesc ⊢
    simp only at hel hbad hesc
    simp only [go_sem]
    refine ah E' (fun h4=>?_) (fun h4=>?_)<;>simp only [go_sem]
    ·rw [hQ]
     simp only [go_sem]
     rw [← hs,hbad (by omega)]
     rfl
    ·have hI2:=hesc (by omega)
     refine ab E' [.bx [0] 0,.d (byD y)] ew [0] (uf y ) rfl rfl ⟨by simp only [go_sem],by rw [aa];decide⟩ rfl (by (unfold ew);simp only [go_sem]) (by (unfold ew);simp only [go_sem]) ?_
     rintro _ _ ⟨rfl,rfl⟩
     unfold tL
     (unfold ew)
     simp only [go_sem]
     rw [ai (n:=(n:Int)+1) ⟨by omega,by omega⟩,ai ⟨by omega,by omega⟩,hQ]
     simp only [go_sem]
     refine ⟨⟨(i+n+1,[]++[y],m-1),hI2⟩,by show s.length-(i+n+1)<_;omega,tau [([1],[46,2])],?_⟩
     rw [show (⟨(i+n+1,[]++[y],m-1),hI2⟩:{ x:Nat × List UInt8 × Nat // TkI s x.1 x.2.1 x.2.2 }).1.2.1=[]++[y] from rfl,jD]
     unfold dz
     simp only [go_sem]
     rw [show ((i+n+1:Nat):Int)=(i:Int)+((n:Int)+1) by omega]
   ·have h2n:=aQ 34 h2
    have h3n:=aQ 92 h3
    refine ag E' (xO (s.getD i 0)) rfl rfl (by simp) ?_
    rintro _ rfl
    simp only [go_sem]
    refine aD E' (fun h4=>?_) (fun h4=>?_)<;>simp only [go_sem]
    ·have hI2:=hI.plain h1' h2n h3n h4
     refine ab E' [.bx [0] 0,.d (byD (s.getD i 0))] ew [0] (uf (s.getD i 0) ) rfl rfl ⟨by simp only [go_sem],by rw [aa];decide⟩ rfl (by (unfold ew);simp only [go_sem]) (by (unfold ew);simp only [go_sem]) ?_
     rintro _ _ ⟨rfl,rfl⟩
     unfold tL
     (unfold ew)
     simp only [go_sem]
     rw [ai ⟨by omega,by omega⟩,hQ]
     simp only [go_sem]
     refine ⟨⟨(i+1,[]++[s.getD i 0],m-1),hI2⟩,by show s.length-(i+1)<_;omega,tau [([1],[55,2])],?_⟩
     rw [show (⟨(i+1,[]++[s.getD i 0],m-1),hI2⟩:{ x:Nat × List UInt8 × Nat // TkI s x.1 x.2.1 x.2.2 }).1.2.1=[]++[s.getD i 0] from rfl,jD]
     unfold dz
     simp only [go_sem]
     all_goals rfl
    ·rw [hQ]
     simp only [go_sem]
     rw [← hs,hI.odd h1' h2n h3n h4]
     rfl
 | cons a0 acc0 =>
   simp only [CJ]
   obtain ⟨acc,hacc⟩:∃ acc,acc=a0::acc0:=⟨_,rfl⟩
   have hne:acc≠[]:=by rw [hacc];simp
   rw [← hacc] at hI ha
   simp only [← hacc]
   unfold dz
   simp only [go_sem]
   refine ah E' (fun h1=>?_) (fun h1=>?_)<;>simp only [go_sem]
   rotate_left
   ·rw [hQ]
    simp only [go_sem]
    rw [← hs,hI.fin (by omega)]
    rfl
   have h1':i<s.length:=by omega
   refine ⟨⟨by omega,by omega⟩,?_⟩
   refine ah E' (fun h2=>?_) (fun h2=>?_)<;>simp only [go_sem]
   ·have hmk:=hI.mark h1' (bV 34 h2)
    refine ab E' [.bx [0] 0] (dz acc) [0,1] (A9 acc) rfl rfl ⟨by simp only [go_sem],by rw [aa];decide⟩ rfl (by unfold dz;simp only [go_sem]) (by unfold dz;simp only [go_sem]) ?_
    rintro _ _ ⟨rfl,rfl⟩
    unfold dz
    simp only [go_sem]
    refine ⟨Nat.le_refl _,?_⟩
    refine ah E' (fun h5=>?_) (fun h5=>?_)<;>simp only [go_sem]
    ·rw [hQ]
     simp only [go_sem]
     rw [← hs,hmk,if_pos (by omega)]
     rfl
    refine ab E' [.bx [0] 0] (dz acc) [0,1] (C1 acc hne (by omega)) rfl rfl ⟨by simp only [go_sem],by rw [aa];decide⟩ rfl (by unfold dz;simp only [go_sem]) (by unfold dz;simp only [go_sem]) ?_
    rintro _ _ ⟨rfl,rfl⟩
    unfold dz
    simp only [go_sem]
    rw [ai ⟨by omega,by omega⟩,hQ]
    simp only [go_sem]
    rw [← hs,hmk,if_neg (by omega)]
    rfl
   refine ah E' (fun h3=>?_) (fun h3=>?_)<;>simp only [go_sem]
   ·have h2n:=aQ 34 h2
    have h3y:=bV 92 h3
    rw [ai (n:=(i:Int)+1) ⟨by omega,by omega⟩]
    refine ⟨⟨by omega,by omega⟩,?_⟩
    rw [show ((i:Int)+1).toNat=i+1 by omega,List.take_of_length_le (l:=s.drop (i+1)) (by rw [List.length_drop];omega)]
    have hel:=rm (s.drop (i+1))
    have hbad:=hI.bad h1' h2n h3y
    have hesc:=hI.esc h1' h2n h3y
    rw [List.length_drop] at hel
    refine ag E' (xr (s.drop (i+1)) (by rw [List.length_drop];omega)) rfl rfl (by simp) ?_
    rintro _ rfl
    obtain ⟨y,n,hyn⟩:∃ y n,gB (s.drop (i+1))=(y,n):=⟨_,_,rfl⟩
    rw [hyn] at hel hbad hesc ⊢
    simp only at hel hbad hesc
    simp only [go_sem]
    refine ah E' (fun h4=>?_) (fun h4=>?_)<;>simp only [go_sem]
    ·rw [hQ]
     simp only [go_sem]
     rw [← hs,hbad (by omega)]
     rfl
    ·have hI2:=hesc (by omega)
     refine ab E' [.bx [0] 0,.d (byD y)] (dz acc) [0,1] (sQ acc y (by omega)) rfl rfl ⟨by simp only [go_sem],by rw [aa];decide⟩ rfl (by (unfold dz);simp only [go_sem]) (by (unfold dz);simp only [go_sem]) ?_
     rintro _ _ ⟨rfl,rfl⟩
     unfold tL
     (unfold dz)
     simp only [go_sem]
     rw [ai (n:=(n:Int)+1) ⟨by omega,by omega⟩,ai ⟨by omega,by omega⟩,hQ]
     simp only [go_sem]
     refine ⟨⟨(i+n+1,acc++[y],m-1),hI2⟩,by show s.length-(i+n+1)<_;omega,tau [([1],[46,2])],?_⟩
     rw [show (⟨(i+n+1,acc++[y],m-1),hI2⟩:{ x:Nat × List UInt8 × Nat // TkI s x.1 x.2.1 x.2.2 }).1.2.1=acc++[y] from rfl,jD]
     unfold dz
     simp only [go_sem]
     rw [show ((i+n+1:Nat):Int)=(i:Int)+((n:Int)+1) by omega]
   ·have h2n:=aQ 34 h2
    have h3n:=aQ 92 h3
    refine ag E' (xO (s.getD i 0)) rfl rfl (by simp) ?_
    rintro _ rfl
    simp only [go_sem]
    refine aD E' (fun h4=>?_) (fun h4=>?_)<;>simp only [go_sem]
    ·have hI2:=hI.plain h1' h2n h3n h4
     refine ab E' [.bx [0] 0,.d (byD (s.getD i 0))] (dz acc) [0,1] (sQ acc (s.getD i 0) (by omega)) rfl rfl ⟨by simp only [go_sem],by rw [aa];decide⟩ rfl (by (unfold dz);simp only [go_sem]) (by (unfold dz);simp only [go_sem]) ?_
     rintro _ _ ⟨rfl,rfl⟩
     unfold tL
     (unfold dz)
     simp only [go_sem]
     rw [ai ⟨by omega,by omega⟩,hQ]
     simp only [go_sem]
     refine ⟨⟨(i+1,acc++[s.getD i 0],m-1),hI2⟩,by show s.length-(i+1)<_;omega,tau [([1],[55,2])],?_⟩
     rw [show (⟨(i+1,acc++[s.getD i 0],m-1),hI2⟩:{ x:Nat × List UInt8 × Nat // TkI s x.1 x.2.1 x.2.2 }).1.2.1=acc++[s.getD i 0] from rfl,jD]
     unfold dz
     simp only [go_sem]
     all_goals rfl
    ·rw [hQ]
     simp only [go_sem]
     rw [← hs,hI.odd h1' h2n h3n h4]
     rfl
end Go.Proofs.YtejpnabbmgpmaaaGreat

namespace Go.Proofs.YtejpnabbmgpmaaaGreat
open Go.Ab
theorem kB {c:UInt8} {n:Nat} (hn:n<256):((c.toNat:Nat):Int)=(n:Int)↔c=UInt8.ofNat n:=by
 constructor
 ·intro h
  apply UInt8.toNat_inj.1
  rw [UInt8.toNat_ofNat']
  omega
 ·rintro rfl
  rw [UInt8.toNat_ofNat']
  omega
theorem gQ {c:UInt8} (h:((c.toNat:Nat):Int)<48):bc c=false:=by
 unfold bc;rw [decide_eq_false (by omega)];rfl
theorem fT {c:UInt8} (h:57<((c.toNat:Nat):Int)):bc c=false:=by
 unfold bc;rw [decide_eq_false (p:=c.toNat≤57) (by omega),Bool.and_false]
theorem ib {c:UInt8} (h1:¬ ((c.toNat:Nat):Int)<48) (h2:¬ 57<((c.toNat:Nat):Int)):bc c=true:=by
 unfold bc;rw [decide_eq_true (by omega),decide_eq_true (by omega)];rfl
theorem dt {l:List UInt8} (h:1≤l.length):l.head?=some (l.getD 0 0):=by
 cases l with
 | nil=>simp at h
 | cons c r=>rfl
theorem jz {l:List UInt8} (hok:aY l=true) (hpv:1≤ba l) (hv:ba l≤9223372036854775808):bS true l=.tup [.d (i64 (w64 (u64 (0-(ba l:Int))))),.d (i64 0)]:=by
 have h1:bx true l=true:=by simp [bx,hok];omega
 have h2:w64 (u64 (0-(ba l:Int))) = -(ba l:Int):=by rw [m5,wZ];split<;>omega
 rw [h2]
 simp [bS,h1]
theorem qA {l:List UInt8} (hok:aY l=true) (hv:ba l<9223372036854775808):bS false l=.tup [.d (i64 (w64 (ba l:Int))),.d (i64 0)]:=by
 have h1:bx false l=true:=by simp [bx,hok];omega
 have h2:w64 (ba l:Int)=ba l:=ai ⟨by omega,by omega⟩
 rw [h2]
 simp [bS,h1]
theorem CB {G} (l:List UInt8):HP Tryz.prog G 170 [.str (126::l)] (fun r=>r=bS true l):=by
 refine al Tryz.func170 rfl (by decide +kernel) (by simp [Tryz.ntmps170]) (veil fun E=>?_)
 simp only [go_sem]
 refine ao E (fun h=>?_) (fun h=>absurd (by simp) h)
 simp only [go_sem]
 refine ⟨by simp,by simp;omega,?_⟩
 refine ao E (fun h1=>?_) (fun h1=>?_)<;>simp only [go_sem]
 ·have:l=[]:=List.length_eq_zero_iff.1 (by omega)
  subst this;rfl
 refine ao E (fun h2=>?_) (fun h2=>?_)<;>simp only [go_sem]
 ·have:aY l=false:=by
   cases hd:aY l with
   | false=>rfl
   | true=>have:=qH hd;omega
  rw [aJ (aS this)]
 refine ao E (fun h3=>?_) (fun h3=>?_)<;>simp only [go_sem]
 ·refine ⟨by omega,?_⟩
  refine ao E (fun h4=>?_) (fun h4=>?_)<;>simp only [go_sem]
  ·have:aY l=false:=ku (by omega) (by rw [dt (by omega)];congr 1;exact (kB (n:=48) (by omega)).1 h4)
   rw [aJ (aS this)]
  ·refine aD E (fun h5=>?_) (fun h5=>?_)<;>simp only [go_sem]
   ·have:l=[48]:=by simpa using h5
    subst this;simp at h3
   ·have hne:l≠[48]:=by simpa using h5
    have hlead:¬ (1<l.length∧l.head?=some 48):=by
     rintro ⟨g1,g2⟩
     first
      | exact h4 ((kB (n:=48) (by omega)).2 (by rw [dt (by omega)] at g2;exact Option.some.inj g2))
      | omega
    refine cy E (X:={ i:Nat // i≤l.length∧(l.take i).all bc=true }) (fun x=>[(0,.d (.str (126::l))),(4,.d (.bool true)),(5,.d (.str l)),(6,.d (.int .u64 (ba (l.take x.1)))),(7,.d (i64 x.1))]) (fun x=>l.length-x.1) rfl ⟨0,by simp,by simp⟩ ?_ ?_
    ·simp only [go_sem]
     simp [ba]
    rintro ⟨i,hi,hall⟩ E'
    simp only [go_sem]
    refine ah E' (fun h6=>?_) (fun h6=>?_)<;>simp only [go_sem]
    ·have hi':i<l.length:=by omega
     have hc:l.getD i 0=l[i]:=by simp [hi']
     refine ⟨⟨by omega,by omega⟩,?_⟩
     refine ao E' (fun h7=>?_) (fun h7=>?_)<;>simp only [go_sem]
     ·have:aY l=false:=cl hi' (gQ (by rw [← hc];exact h7))
      rw [aJ (aS this)]
     refine ⟨⟨by omega,by omega⟩,?_⟩
     refine ah E' (fun h8=>?_) (fun h8=>?_)<;>simp only [go_sem]
     ·have:aY l=false:=cl hi' (fT (by rw [← hc];exact h8))
      rw [aJ (aS this)]
     have hd:=ib h7 h8
     exact ⟨⟨by omega,by omega⟩,⟨i+1,by omega,fY hi' hall (by rw [← hc];exact hd)⟩,by show l.length-(i+1)<_;omega,by rw [lH hi' (by omega) hall hd],by rw [ai ⟨by omega,by omega⟩];rfl⟩
    ·have hil:i=l.length:=by omega
     subst hil
     rw [List.take_length] at hall ⊢
     have hv:=kJ l hall
     refine ao E (fun h7=>?_) (fun h7=>?_)<;>simp only [go_sem]
     ·have:aY l=false:=by
       have:¬ ba l≤9223372036854775808:=by omega
       simp [aY,this]
      rw [aJ (aS this)]
     have hok:=fF (by omega) hlead hall (by omega)
     have hpv:=wX (by omega) hlead hne hall
     refine ao E (fun h9=>?_) (fun h9=>?_)<;>simp only [go_sem]
     ·rw [jz hok hpv (by omega)]
     ·rw [jz hok hpv (by omega)]
 ·refine aD E (fun h5=>?_) (fun h5=>?_)<;>simp only [go_sem]
  ·have:l=[48]:=by simpa using h5
   subst this;rfl
  ·have hne:l≠[48]:=by simpa using h5
   have hlead:¬ (1<l.length∧l.head?=some 48):=by
    rintro ⟨g1,g2⟩
    first
     | exact h4 ((kB (n:=48) (by omega)).2 (by rw [dt (by omega)] at g2;exact Option.some.inj g2))
     | omega
   refine cy E (X:={ i:Nat // i≤l.length∧(l.take i).all bc=true }) (fun x=>[(0,.d (.str (126::l))),(4,.d (.bool true)),(5,.d (.str l)),(6,.d (.int .u64 (ba (l.take x.1)))),(7,.d (i64 x.1))]) (fun x=>l.length-x.1) rfl ⟨0,by simp,by simp⟩ ?_ ?_
   ·simp only [go_sem]
    simp [ba]
   rintro ⟨i,hi,hall⟩ E'
   simp only [go_sem]
   refine ah E' (fun h6=>?_) (fun h6=>?_)<;>simp only [go_sem]
   ·have hi':i<l.length:=by omega
    have hc:l.getD i 0=l[i]:=by simp [hi']
    refine ⟨⟨by omega,by omega⟩,?_⟩
    refine ao E' (fun h7=>?_) (fun h7=>?_)<;>simp only [go_sem]
    ·have:aY l=false:=cl hi' (gQ (by rw [← hc];exact h7))
     rw [aJ (aS this)]
    refine ⟨⟨by omega,by omega⟩,?_⟩
    refine ah E' (fun h8=>?_) (fun h8=>?_)<;>simp only [go_sem]
    ·have:aY l=false:=cl hi' (fT (by rw [← hc];exact h8))
     rw [aJ (aS this)]
    have hd:=ib h7 h8
    exact ⟨⟨by omega,by omega⟩,⟨i+1,by omega,fY hi' hall (by rw [← hc];exact hd)⟩,by show l.length-(i+1)<_;omega,by rw [lH hi' (by omega) hall hd],by rw [ai ⟨by omega,by omega⟩];rfl⟩
   ·have hil:i=l.length:=by omega
    subst hil
    rw [List.take_length] at hall ⊢
    have hv:=kJ l hall
    refine ao E (fun h7=>?_) (fun h7=>?_)<;>simp only [go_sem]
    ·have:aY l=false:=by
      have:¬ ba l≤9223372036854775808:=by omega
      simp [aY,this]
     rw [aJ (aS this)]
    have hok:=fF (by omega) hlead hall (by omega)
    have hpv:=wX (by omega) hlead hne hall
    refine ao E (fun h9=>?_) (fun h9=>?_)<;>simp only [go_sem]
    ·rw [jz hok hpv (by omega)]
    ·rw [jz hok hpv (by omega)]
theorem C3 {G}:HP Tryz.prog G 170 [.str []] (fun r=>r=bS false []):=by
 refine al Tryz.func170 rfl (by decide +kernel) (by simp [Tryz.ntmps170]) (veil fun E=>?_)
 simp only [go_sem]
 rfl
theorem A5 {G} (l:List UInt8) (h0:1≤l.length) (hc:¬ (((l.getD 0 0).toNat:Nat):Int)=126):HP Tryz.prog G 170 [.str l] (fun x=>x=bS false l):=by
 refine al Tryz.func170 rfl (by decide +kernel) (by simp [Tryz.ntmps170]) (veil fun E=>?_)
 simp only [go_sem]
 refine ao E (fun h=>?_) (fun h=>absurd (by omega) h)
 simp only [go_sem]
 refine ⟨by omega,?_⟩
 rw [show decide ((((l.getD 0 0).toNat:Nat):Int)=126)=false from decide_eq_false hc]
 simp only [go_sem]
 refine ao E (fun h1=>?_) (fun h1=>?_)<;>simp only [go_sem]
 ·omega
 refine ao E (fun h2=>?_) (fun h2=>?_)<;>simp only [go_sem]
 ·have:aY l=false:=by
   cases hd:aY l with
   | false=>rfl
   | true=>have:=qH hd;omega
  rw [aJ (aS this)]
 refine ao E (fun h3=>?_) (fun h3=>?_)<;>simp only [go_sem]
 ·refine ⟨by omega,?_⟩
  refine ao E (fun h4=>?_) (fun h4=>?_)<;>simp only [go_sem]
  ·have:aY l=false:=ku (by omega) (by rw [dt (by omega)];congr 1;exact (kB (n:=48) (by omega)).1 h4)
   rw [aJ (aS this)]
  ·have hlead:¬ (1<l.length∧l.head?=some 48):=by
    rintro ⟨g1,g2⟩
    first
     | exact h4 ((kB (n:=48) (by omega)).2 (by rw [dt (by omega)] at g2;exact Option.some.inj g2))
     | omega
   refine cy E (X:={ i:Nat // i≤l.length∧(l.take i).all bc=true }) (fun x=>[(0,.d (.str l)),(4,.d (.bool false)),(5,.d (.str l)),(6,.d (.int .u64 (ba (l.take x.1)))),(7,.d (i64 x.1))]) (fun x=>l.length-x.1) rfl ⟨0,by simp,by simp⟩ ?_ ?_
   ·simp only [go_sem]
    simp [ba]
   rintro ⟨i,hi,hall⟩ E'
   simp only [go_sem]
   refine ah E' (fun h6=>?_) (fun h6=>?_)<;>simp only [go_sem]
   ·have hi':i<l.length:=by omega
    have hc:l.getD i 0=l[i]:=by simp [hi']
    refine ⟨⟨by omega,by omega⟩,?_⟩
    refine ao E' (fun h7=>?_) (fun h7=>?_)<;>simp only [go_sem]
    ·have:aY l=false:=cl hi' (gQ (by rw [← hc];exact h7))
     rw [aJ (aS this)]
    refine ⟨⟨by omega,by omega⟩,?_⟩
    refine ah E' (fun h8=>?_) (fun h8=>?_)<;>simp only [go_sem]
    ·have:aY l=false:=cl hi' (fT (by rw [← hc];exact h8))
     rw [aJ (aS this)]
    have hd:=ib h7 h8
    exact ⟨⟨by omega,by omega⟩,⟨i+1,by omega,fY hi' hall (by rw [← hc];exact hd)⟩,by show l.length-(i+1)<_;omega,by rw [lH hi' (by omega) hall hd],by rw [ai ⟨by omega,by omega⟩];rfl⟩
   ·have hil:i=l.length:=by omega
    subst hil
    rw [List.take_length] at hall ⊢
    have hv:=kJ l hall
    refine ao E (fun h7=>?_) (fun h7=>?_)<;>simp only [go_sem]
    ·have:aY l=false:=by
      have:¬ ba l≤9223372036854775808:=by omega
      simp [aY,this]
     rw [aJ (aS this)]
    have hok:=fF (by omega) hlead hall (by omega)
    refine ao E (fun h9=>?_) (fun h9=>?_)<;>simp only [go_sem]
    ·have:bx false l=false:=by simp [bx,hok];omega
     rw [aJ this]
    ·rw [qA hok (by omega)]
 ·have hlead:¬ (1<l.length∧l.head?=some 48):=by
   rintro ⟨g1,g2⟩
   first
    | exact h4 ((kB (n:=48) (by omega)).2 (by rw [dt (by omega)] at g2;exact Option.some.inj g2))
    | omega
  refine cy E (X:={ i:Nat // i≤l.length∧(l.take i).all bc=true }) (fun x=>[(0,.d (.str l)),(4,.d (.bool false)),(5,.d (.str l)),(6,.d (.int .u64 (ba (l.take x.1)))),(7,.d (i64 x.1))]) (fun x=>l.length-x.1) rfl ⟨0,by simp,by simp⟩ ?_ ?_
  ·simp only [go_sem]
   simp [ba]
  rintro ⟨i,hi,hall⟩ E'
  simp only [go_sem]
  refine ah E' (fun h6=>?_) (fun h6=>?_)<;>simp only [go_sem]
  ·have hi':i<l.length:=by omega
   have hc:l.getD i 0=l[i]:=by simp [hi']
   refine ⟨⟨by omega,by omega⟩,?_⟩
   refine ao E' (fun h7=>?_) (fun h7=>?_)<;>simp only [go_sem]
   ·have:aY l=false:=cl hi' (gQ (by rw [← hc];exact h7))
    rw [aJ (aS this)]
   refine ⟨⟨by omega,by omega⟩,?_⟩
   refine ah E' (fun h8=>?_) (fun h8=>?_)<;>simp only [go_sem]
   ·have:aY l=false:=cl hi' (fT (by rw [← hc];exact h8))
    rw [aJ (aS this)]
   have hd:=ib h7 h8
   exact ⟨⟨by omega,by omega⟩,⟨i+1,by omega,fY hi' hall (by rw [← hc];exact hd)⟩,by show l.length-(i+1)<_;omega,by rw [lH hi' (by omega) hall hd],by rw [ai ⟨by omega,by omega⟩];rfl⟩
  ·have hil:i=l.length:=by omega
   subst hil
   rw [List.take_length] at hall ⊢
   have hv:=kJ l hall
   refine ao E (fun h7=>?_) (fun h7=>?_)<;>simp only [go_sem]
   ·have:aY l=false:=by
     have:¬ ba l≤9223372036854775808:=by omega
     simp [aY,this]
    rw [aJ (aS this)]
   have hok:=fF (by omega) hlead hall (by omega)
   refine ao E (fun h9=>?_) (fun h9=>?_)<;>simp only [go_sem]
   ·have:bx false l=false:=by simp [bx,hok];omega
    rw [aJ this]
   ·rw [qA hok (by omega)]
theorem u1 (l:List UInt8) (h0:1≤l.length):bm l [126]=decide ((((l.getD 0 0).toNat:Nat):Int)=126):=by
 cases l with
 | nil=>simp at h0
 | cons c r =>
   rw [Bool.eq_iff_iff]
   simp [bm]
   constructor
   ·rintro rfl;rfl
   ·intro h;exact UInt8.toNat_inj.1 (show c.toNat=126 by omega)
theorem q5 {G} (l:List UInt8):HP Tryz.prog G 170 [.str l] (fun r=>r=lP l):=by
 unfold lP
 by_cases h0:1≤l.length
 ·rw [u1 l h0]
  by_cases hc:(((l.getD 0 0).toNat:Nat):Int)=126
  ·rw [decide_eq_true hc,if_pos rfl]
   cases l with
   | nil=>simp at h0
   | cons c r =>
     have:c=126:=UInt8.toNat_inj.1 (by simp at hc;exact Int.ofNat.inj hc)
     subst this
     exact CB r
  ·rw [decide_eq_false hc,if_neg (by simp)]
   exact A5 l h0 hc
 ·have:l=[]:=List.length_eq_zero_iff.1 (by omega)
  subst this
  exact C3
end Go.Proofs.YtejpnabbmgpmaaaGreat

namespace Go.Proofs.YtejpnabbmgpmaaaGreat
open Go.Ab
theorem y6 (s:ByteArray) (pos:Nat) (hb:128≤(s.get! (pos+0)).toNat):58≤(Utf8.decode s pos).1:=by
 unfold Utf8.decode
 simp only [Utf8.runeError]
 repeat' split
 all_goals (try simp only [Bool.and_eq_true,decide_eq_true_eq] at *)
 all_goals omega
theorem oy {l:List UInt8} {pos:Nat} (h:pos<l.length):(Utf8.decode ⟨l.toArray⟩ pos=(l[pos].toNat,1))∨(58≤(Utf8.decode ⟨l.toArray⟩ pos).1∧bc l[pos]=false):=by
 have hs:pos<(⟨l.toArray⟩:ByteArray).size:=by simpa [ByteArray.size] using h
 have e:(⟨l.toArray⟩:ByteArray)[pos]'hs=l[pos]:=by rfl
 have e2:(⟨l.toArray⟩:ByteArray).get! (pos+0)=l[pos]:=by
  show (⟨l.toArray⟩:ByteArray).get! pos=_
  simp [ByteArray.get!,getElem!_pos,h]
 by_cases ha:l[pos].toNat<128
 ·have:=decode_ascii ⟨l.toArray⟩ pos hs (by rw [e];exact ha)
  rw [e] at this
  exact .inl this
 ·refine .inr ⟨y6 _ _ (by rw [e2];omega),fT (by omega)⟩
def vu (l:List UInt8):AV:=.tup [.d (i64 (if aY l then -(ba l:Int) else 0)),.d (i64 (if aY l then 0 else 5))]
theorem fm {l:List UInt8} (h:aY l=false):vu l=.tup [.d (i64 0),.d (i64 5)]:=by simp [vu,h]
theorem Ga {c:UInt8} (h:bc c=true):w64 (IntKind.i32.wrap (((c.toNat:Nat):Int)-48))=((c.toNat-48:Nat):Int):=by
 simp only [bc,Bool.and_eq_true,decide_eq_true_eq] at h
 have e:IntKind.i32.wrap (((c.toNat:Nat):Int)-48)=((c.toNat-48:Nat):Int):=by
  simp only [IntKind.wrap,IntKind.bits,IntKind.signed]
  simp
  split<;>omega
 rw [e,ai ⟨by omega,by omega⟩]
theorem BM {d:Nat} (h:d≤9):w64 ((w64 (-9223372036854775808+((d:Nat):Int))).tdiv 10) = -(((9223372036854775808-d) / 10:Nat):Int):=by
 have h1:w64 (-9223372036854775808+((d:Nat):Int)) = -9223372036854775808+((d:Nat):Int):=ai ⟨by omega,by omega⟩
 rw [h1]
 have h2:=Hd (-9223372036854775808+((d:Nat):Int))
 rw [if_pos (by omega)] at h2
 rw [h2,ai ⟨by omega,by omega⟩]
 omega
theorem xY {G} (l:List UInt8):HP Tryz.prog G 298 [.str l] (fun r=>r=vu l):=by
 refine al Tryz.func298 rfl (by decide +kernel) (by simp [Tryz.ntmps298]) (veil fun E=>?_)
 simp only [go_sem]
 refine bU E (fun h0=>?_) (fun h0=>?_)<;>simp only [go_sem]
 ·have:l=[]:=by simpa using h0
  subst this;rfl
 have h0:1≤l.length:=by
  cases l with
  | nil=>simp at h0
  | cons c r=>simp
 refine ao E (fun h1=>?_) (fun h1=>?_)<;>simp only [go_sem]
 ·refine ⟨by omega,?_⟩
  refine ah E (fun h4=>?_) (fun h4=>?_)<;>simp only [go_sem]
  ·have:aY l=false:=ku (by omega) (by rw [dt (by omega)];congr 1;exact (kB (n:=48) (by omega)).1 h4)
   rw [fm this]
  ·refine uv E l (by rw [ti9]) rfl (by simp) (by simp [aa]) ?_
   simp only [go_sem]
   refine bl E (X:={ i:Nat // i≤l.length∧(l.take i).all bc=true∧ba (l.take i)≤9223372036854775808 }) (fun x=>[(0,.d (.str l)),(4,.d (i64 (-(ba (l.take x.1):Nat)))),(21,.it [21])]) (fun x=>[([21],.siter l x.1)]) [21] (fun x=>l.length-x.1) ⟨0,by simp,by simp,by simp [ba]⟩ ?_ ?_
   ·simp only [go_sem]
    simp [ba]
   rintro ⟨i,hi,hall,hvi⟩ E0
   refine aC E0 fun Q' hQ E'=>?_
   simp only at hi hall hvi ⊢
   simp only [go_sem]
   refine wQ E' [21] l i rfl rfl (by simp) (fun hi'=>?_) (fun hi'=>?_)<;>simp only [go_sem]
   ·rcases oy hi' with e | ⟨e1,e2⟩
    ·rw [e]
     refine ao E' (fun h7=>?_) (fun h7=>?_)<;>simp only [go_sem]
     ·rw [hQ]
      simp only [go_sem]
      rw [fm (cl hi' (gQ h7))]
     refine ah E' (fun h8=>?_) (fun h8=>?_)<;>simp only [go_sem]
     ·rw [hQ]
      simp only [go_sem]
      rw [fm (cl hi' (fT h8))]
     have hd:=ib h7 h8
     have hdv:l[i].toNat-48≤9:=by
      simp only [bc,Bool.and_eq_true,decide_eq_true_eq] at hd
      omega
     rw [Ga hd,BM hdv]
     refine ah E' (fun h9=>?_) (fun h9=>?_)<;>simp only [go_sem]
     ·rw [hQ]
      simp only [go_sem]
      rw [fm (qE (i:=i+1) (by rw [dq hi'];omega))]
     ·rw [hQ]
      simp only [go_sem]
      have hle:10*ba (l.take i)+(l[i].toNat-48)≤9223372036854775808:=by omega
      refine ⟨⟨i+1,by omega,fY hi' hall hd,by rw [dq hi'];exact hle⟩,by show l.length-(i+1)<_;omega,?_,rfl⟩
      show AV.d (D.int IntKind.i64 _)=AV.d (i64 (-((ba (l.take (i+1)):Nat):Int)))
      rw [dq hi']
      congr 2
      simp only [m5]
      repeat' split
      all_goals omega
    ·refine ao E' (fun h7=>?_) (fun h7=>?_)<;>simp only [go_sem]
     ·omega
     refine ah E' (fun h8=>?_) (fun h8=>?_)<;>simp only [go_sem]
     ·rw [hQ]
      simp only [go_sem]
      rw [fm (cl hi' e2)]
     ·omega
   ·rw [hQ]
    simp only [go_sem]
    have hil:i=l.length:=by omega
    subst hil
    rw [List.take_length] at hall hvi ⊢
    have hlead:¬ (1<l.length∧l.head?=some 48):=by
     rintro ⟨g1,g2⟩
     first
      | exact h4 ((kB (n:=48) (by omega)).2 (by rw [dt (by omega)] at g2;exact Option.some.inj g2))
      | omega
    have hok:=fF h0 hlead hall hvi
    simp [vu,hok]
 ·refine uv E l (by rw [ti9]) rfl (by simp) (by simp [aa]) ?_
  simp only [go_sem]
  refine bl E (X:={ i:Nat // i≤l.length∧(l.take i).all bc=true∧ba (l.take i)≤9223372036854775808 }) (fun x=>[(0,.d (.str l)),(4,.d (i64 (-(ba (l.take x.1):Nat)))),(21,.it [21])]) (fun x=>[([21],.siter l x.1)]) [21] (fun x=>l.length-x.1) ⟨0,by simp,by simp,by simp [ba]⟩ ?_ ?_
  ·simp only [go_sem]
   simp [ba]
  rintro ⟨i,hi,hall,hvi⟩ E0
  refine aC E0 fun Q' hQ E'=>?_
  simp only at hi hall hvi ⊢
  simp only [go_sem]
  refine wQ E' [21] l i rfl rfl (by simp) (fun hi'=>?_) (fun hi'=>?_)<;>simp only [go_sem]
  ·rcases oy hi' with e | ⟨e1,e2⟩
   ·rw [e]
    refine ao E' (fun h7=>?_) (fun h7=>?_)<;>simp only [go_sem]
    ·rw [hQ]
     simp only [go_sem]
     rw [fm (cl hi' (gQ h7))]
    refine ah E' (fun h8=>?_) (fun h8=>?_)<;>simp only [go_sem]
    ·rw [hQ]
     simp only [go_sem]
     rw [fm (cl hi' (fT h8))]
    have hd:=ib h7 h8
    have hdv:l[i].toNat-48≤9:=by
     simp only [bc,Bool.and_eq_true,decide_eq_true_eq] at hd
     omega
    rw [Ga hd,BM hdv]
    refine ah E' (fun h9=>?_) (fun h9=>?_)<;>simp only [go_sem]
    ·rw [hQ]
     simp only [go_sem]
     rw [fm (qE (i:=i+1) (by rw [dq hi'];omega))]
    ·rw [hQ]
     simp only [go_sem]
     have hle:10*ba (l.take i)+(l[i].toNat-48)≤9223372036854775808:=by omega
     refine ⟨⟨i+1,by omega,fY hi' hall hd,by rw [dq hi'];exact hle⟩,by show l.length-(i+1)<_;omega,?_,rfl⟩
     show AV.d (D.int IntKind.i64 _)=AV.d (i64 (-((ba (l.take (i+1)):Nat):Int)))
     rw [dq hi']
     congr 2
     simp only [m5]
     repeat' split
     all_goals omega
   ·refine ao E' (fun h7=>?_) (fun h7=>?_)<;>simp only [go_sem]
    ·omega
    refine ah E' (fun h8=>?_) (fun h8=>?_)<;>simp only [go_sem]
    ·rw [hQ]
     simp only [go_sem]
     rw [fm (cl hi' e2)]
    ·omega
  ·rw [hQ]
   simp only [go_sem]
   have hil:i=l.length:=by omega
   subst hil
   rw [List.take_length] at hall hvi ⊢
   have hlead:¬ (1<l.length∧l.head?=some 48):=by
    rintro ⟨g1,g2⟩
    first
     | exact h4 ((kB (n:=48) (by omega)).2 (by rw [dt (by omega)] at g2;exact Option.some.inj g2))
     | omega
   have hok:=fF h0 hlead hall hvi
   simp [vu,hok]
end Go.Proofs.YtejpnabbmgpmaaaGreat

namespace Go.Proofs.YtejpnabbmgpmaaaGreat
open Go.Ab
theorem uu {l:List UInt8} (h:aY l=true):ba l≤9223372036854775808:=by
 simp only [aY,Bool.and_eq_true,decide_eq_true_eq] at h
 exact h.2
theorem neg_zero {l:List UInt8} (h:ba l=0):bS true l=.tup [.d (i64 0),.d (i64 5)]:=aJ (by simp [bx,h])
theorem Ba {l:List UInt8} (hd:aY l=true) (h:ba l≠0):bS true l=.tup [.d (i64 (-(ba l:Int))),.d (i64 0)]:=by
 have:bx true l=true:=by simp [bx,hd,h]
 simp [bS,this]
theorem Ho {G} (s:List UInt8) (hp:bm s [126]=true):HP Tryz.prog G 267 [.str s] (fun r=>r=bS true (s.drop 1)):=by
 refine al Tryz.func267 rfl (by decide +kernel) (by simp [Tryz.ntmps267]) (veil fun E=>?_)
 simp only [go_sem]
 refine ag E (w9 s [126]) rfl rfl (by simp) ?_
 rintro _ rfl
 simp only [hp,List.length_cons,List.length_nil]
 simp only [go_sem]
 refine ag E (xY (s.drop 1)) rfl rfl (by simp) ?_
 rintro _ rfl
 simp only [vu]
 by_cases hd:aY (s.drop 1)=true
 ·have hle:=uu hd
  simp only [hd,if_true]
  simp only [go_sem]
  refine ao E (fun h1=>?_) (fun h1=>?_)<;>simp only [go_sem]
  ·rw [neg_zero (by omega)]
  ·rw [Ba hd (by omega)]
 ·simp only [hd,if_false]
  simp only [go_sem]
  rw [aJ (aS (by simpa using hd))]
theorem Gj {G} (s:List UInt8) (hp:bm s [126]=false):HP Tryz.prog G 267 [.str s] (fun r=>r=bS false s):=by
 refine al Tryz.func267 rfl (by decide +kernel) (by simp [Tryz.ntmps267]) (veil fun E=>?_)
 simp only [go_sem]
 refine ag E (w9 s [126]) rfl rfl (by simp) ?_
 rintro _ rfl
 simp only [hp,List.length_cons,List.length_nil]
 simp only [go_sem]
 refine ag E (xY s) rfl rfl (by simp) ?_
 rintro _ rfl
 simp only [vu]
 by_cases hd:aY s=true
 ·have hle:=uu hd
  simp only [hd,if_true]
  simp only [go_sem]
  refine ah E (fun h1=>?_) (fun h1=>?_)<;>simp only [go_sem]
  ·have:bx false s=false:=by simp [bx];intro _;omega
   rw [aJ this]
  ·have:bx false s=true:=by simp [bx,hd];omega
   simp [bS,this]
   rw [ai ⟨by omega,by omega⟩]
 ·simp only [hd,if_false]
  simp only [go_sem]
  rw [aJ (aS (by simpa using hd))]
theorem wT {G} (s:List UInt8):HP Tryz.prog G 267 [.str s] (fun r=>r=lP s):=by
 unfold lP
 cases hp:bm s [126] with
 | true=>exact Ho s hp
 | false=>exact Gj s hp
end Go.Proofs.YtejpnabbmgpmaaaGreat

namespace Go.Proofs.YtejpnabbmgpmaaaGreat
open Go.Ab
theorem CN {c:UInt8} (h1:65≤((c.toNat:Nat):Int)) (h2:((c.toNat:Nat):Int)≤90):gr c=true:=by
 show (decide (65≤((c.toNat:Nat):Int)) && decide (((c.toNat:Nat):Int)≤90))=true
 simp [h1,h2]
theorem AX {c:UInt8} (h1:¬ 65≤((c.toNat:Nat):Int)):¬ gr c=true:=by
 show ¬ (decide (65≤((c.toNat:Nat):Int)) && decide (((c.toNat:Nat):Int)≤90))=true
 simp [h1]
theorem Cm {c:UInt8} (h2:¬ ((c.toNat:Nat):Int)≤90):¬ gr c=true:=by
 show ¬ (decide (65≤((c.toNat:Nat):Int)) && decide (((c.toNat:Nat):Int)≤90))=true
 simp [h2]
theorem DR {G} (s:List UInt8) (n:Nat) (_hl:s.length≤1000000) (h1:1≤n) (hn:n≤s.length):HP Tryz.prog G 216 [.str s,i64 n] (fun r=>r=.d (rv (kY s n))):=by
 refine al Tryz.func216 rfl (by decide +kernel) (by simp [Tryz.ntmps216]) (veil fun E=>?_)
 simp only [go_sem]
 refine ⟨⟨by omega,by omega⟩,?_⟩
 rw [Nat.sub_zero]
 have hw:(s.take n).length=n:=by rw [List.length_take];omega
 obtain ⟨w,hwd⟩:∃ w,w=s.take n:=⟨_,rfl⟩
 rw [← hwd] at hw
 have hdef:kY s n=if 20<n then eh 7 else if CL w then ⟨⟨1,w,0,0⟩,n,0⟩ else if gr (w.getD 0 0) then ⟨⟨3,w,0,0⟩,n,0⟩ else ⟨⟨2,w,0,0⟩,n,0⟩:=by rw [hwd];rfl
 rw [← hwd]
 refine ah E (fun h2=>?_) (fun h2=>?_)<;>simp only [go_sem]
 ·rw [hdef,if_pos (by omega)];rfl
 rw [if_neg (by omega)] at hdef
 refine ag E (wy w) rfl rfl (by simp) ?_
 rintro _ rfl
 simp only [go_sem]
 refine aD E (fun h3=>?_) (fun h3=>?_)<;>simp only [go_sem]
 ·rw [hdef,if_pos h3];rfl
 rw [if_neg (by rw [h3];simp)] at hdef
 refine ⟨by omega,?_⟩
 refine ao E (fun h4=>?_) (fun h4=>?_)<;>simp only [go_sem]
 ·refine ⟨by omega,?_⟩
  refine ah E (fun h5=>?_) (fun h5=>?_)<;>simp only [go_sem]
  ·rw [hdef,if_pos (CN h4 h5)];rfl
  ·rw [hdef,if_neg (Cm h5)];rfl
 ·rw [hdef,if_neg (AX h4)];rfl
theorem xN {G} (c:UInt8):HP Tryz.prog G 218 [u8 c] (fun r=>r=.d (.bool (bc c))):=by
 unfold u8
 refine al Tryz.func218 rfl (by decide +kernel) (by simp [Tryz.ntmps218]) (veil fun E=>?_)
 simp only [go_sem]
 repeat (first
  | (apply b6 E;(· simp only [go_sem]);(· intro h;(try simp only [bq] at h);simp only [↓h,go_sem];rfl);simp only [go_sem])
  | (apply a9 E;(· simp only [go_sem]);(· intro h;(try simp only [bq] at h);simp only [↓h,go_sem];rfl);(· intro h;(try simp only [bq] at h);simp only [↓h,go_sem];rfl);simp only [go_sem])
  | (apply a8 E;(· simp only [go_sem]);(· rfl);(· intro h h';(try simp only [bq] at h h');simp only [↓h,↓h',go_sem];rfl);simp only [go_sem])
  | (apply aK E;(· simp only [go_sem]);(· rfl);(· intro h h';(try simp only [bq] at h h');simp only [↓h,↓h',go_sem];rfl);(· intro h h';(try simp only [bq] at h h');simp only [↓h,↓h',go_sem];rfl);simp only [go_sem])
  | (apply bY E;(· decide);simp only [go_sem]))
 have hp:(decide (48≤((c.toNat:Nat):Int)) && decide (((c.toNat:Nat):Int)≤57))=bc c:=by
  unfold bc
  rw [Bool.eq_iff_iff];simp;omega
 rw [hp]
theorem FF {G} (s:List UInt8) (hl:s.length≤1000000):HP Tryz.prog G 220 [.str s] (fun r=>r=.d (rv (oC s))):=by
 refine al Tryz.func220 rfl (by decide +kernel) (by simp [Tryz.ntmps220]) (veil fun E=>?_)
 simp only [go_sem]
 refine ag E (Ek s hl) rfl rfl (by simp) ?_
 rintro _ rfl
 simp only [go_sem]
 rfl
theorem lG (s:List UInt8):lP s=.tup [.d (i64 (tC s).1),.d (i64 (tC s).2)]:=by
 unfold lP tC
 have key:∀ (b:Bool) (l:List UInt8),bS b l=.tup [.d (i64 (sX b l).1),.d (i64 (sX b l).2)]:=fun b l=>by
  unfold bS sX
  cases bx b l<;>rfl
 split<;>exact key _ _
theorem pV {s:List UInt8} {n:Nat} (h:n<s.length):gW (s.drop n)=if bc (s.getD n 0) then gW (s.drop (n+1))+1 else 0:=by
 rw [List.drop_eq_getElem_cons h,gW]
 simp [h]
theorem FJ {G} (s:List UInt8) (hl:s.length≤1000000) (h0:1≤s.length):HP Tryz.prog G 219 [.str s] (fun r=>r=.d (rv (vv s))):=by
 refine al Tryz.func219 rfl (by decide +kernel) (by simp [Tryz.ntmps219]) (veil fun E=>?_)
 simp only [go_sem]
 have hle:=nz (s.drop 1)
 rw [List.length_drop] at hle
 refine aA E (X:={ n:Nat // 1≤n∧n≤s.length∧n+gW (s.drop n)=gW (s.drop 1)+1 }) (fun x=>[(0,.d (.str s)),(2,.bx [2] 0),(3,.d (i64 x.1))]) (fun x=>[([2],.box [.d (i64 0),.d (.str []),.d (i64 0),.d (i64 0),.d (i64 0),.d (i64 0)])]) [2] (fun x=>s.length-x.1) ⟨1,by omega,by omega,by omega⟩ id ?_ ?_
 ·simp only [go_sem]
  all_goals rfl
 rintro ⟨n,hn1,hn2,hn3⟩ E0
 refine aC E0 fun Q' hQ E'=>?_
 simp only at hn1 hn2 hn3 ⊢
 simp only [go_sem]
 refine ao E' (fun h1=>?_) (fun h1=>?_)<;>simp only [go_sem]
 ·have h1':n<s.length:=by omega
  refine ⟨⟨by omega,by omega⟩,?_⟩
  refine ag E' (xN (s.getD n 0)) rfl rfl (by simp) ?_
  rintro _ rfl
  simp only [go_sem]
  have hd:=pV h1'
  refine aD E' (fun h2=>?_) (fun h2=>?_)<;>simp only [go_sem]
  ·rw [ai ⟨by omega,by omega⟩,hQ]
   simp only [go_sem]
   rw [h2,if_pos rfl] at hd
   refine ⟨⟨n+1,by omega,by omega,by omega⟩,by show s.length-(n+1)<_;omega,id,?_⟩
   simp only [go_sem]
   rfl
  ·rw [h2] at hd
   have hn4:n=gW (s.drop 1)+1:=by simp at hd;omega
   rw [hQ]
   simp only [go_sem]
   refine ⟨⟨by omega,by omega⟩,?_⟩
   rw [Nat.sub_zero]
   refine ag E (wT (s.take n)) rfl rfl (by simp) ?_
   rintro _ rfl
   rw [lG]
   simp only [go_sem]
   rw [hn4]
   rfl
 ·have hn4:n=gW (s.drop 1)+1:=by
   have:n=s.length:=by omega
   rw [this,List.drop_length] at hn3
   simp [gW] at hn3
   omega
  rw [hQ]
  simp only [go_sem]
  refine ⟨⟨by omega,by omega⟩,?_⟩
  rw [Nat.sub_zero]
  refine ag E (wT (s.take n)) rfl rfl (by simp) ?_
  rintro _ rfl
  rw [lG]
  simp only [go_sem]
  rw [hn4]
  rfl
theorem Fv {G} (s:List UInt8) (hl:s.length≤1000000) (h0:1≤s.length):HP Tryz.prog G 217 [.str s] (fun r=>r=.d (rv (pI s))):=by
 have hwl:=gM (s.drop 1)
 rw [List.length_drop] at hwl
 refine al Tryz.func217 rfl (by decide +kernel) (by simp [Tryz.ntmps217]) (veil fun E=>?_)
 simp only [go_sem]
 refine ⟨⟨by omega,by omega⟩,?_⟩
 rw [List.take_of_length_le (l:=s.drop 1) (by rw [List.length_drop];omega)]
 refine ag E (rB (s.drop 1) (by rw [List.length_drop];omega)) rfl rfl (by simp) ?_
 rintro _ rfl
 simp only [go_sem]
 have hdef:pI s=if bI (s.drop 1)=0∨gr (s.getD 1 0) then eh 5 else if 20<bI (s.drop 1) then eh 7 else ⟨⟨6,(s.drop 1).take (bI (s.drop 1)),0,0⟩,bI (s.drop 1)+1,0⟩:=rfl
 generalize bI (s.drop 1)=n at hdef hwl
 refine ao E (fun h1=>?_) (fun h1=>?_)<;>simp only [go_sem]
 ·rw [hdef,if_pos (.inl (by omega))];rfl
 refine ⟨by omega,?_⟩
 have more:∀ h:¬ gr (s.getD 1 0)=true,pI s=if 20<n then eh 7 else ⟨⟨6,(s.drop 1).take n,0,0⟩,n+1,0⟩:=fun h=>by rw [hdef,if_neg (fun e=>e.elim (by omega) h)]
 refine ao E (fun h2=>?_) (fun h2=>?_)<;>simp only [go_sem]
 ·refine ⟨by omega,?_⟩
  refine ah E (fun h3=>?_) (fun h3=>?_)<;>simp only [go_sem]
  ·rw [hdef,if_pos (.inr (CN h2 h3))];rfl
  have hm:=more (Cm h3)
  refine ah E (fun h4=>?_) (fun h4=>?_)<;>simp only [go_sem]
  ·rw [hm,if_pos (by omega)];rfl
  rw [ai ⟨by omega,by omega⟩]
  refine ⟨⟨by omega,by omega⟩,?_⟩
  rw [hm,if_neg (by omega),show ((n:Int)+1).toNat-1=n by omega]
  rfl
 ·have hm:=more (AX h2)
  refine ah E (fun h4=>?_) (fun h4=>?_)<;>simp only [go_sem]
  ·rw [hm,if_pos (by omega)];rfl
  rw [ai ⟨by omega,by omega⟩]
  refine ⟨⟨by omega,by omega⟩,?_⟩
  rw [hm,if_neg (by omega),show ((n:Int)+1).toNat-1=n by omega]
  rfl
theorem Du {G} (s:List UInt8) (hl:s.length≤1000000) (h0:1≤s.length):HP Tryz.prog G 221 [.str s] (fun r=>r=.d (rv (iO s))):=by
 refine al Tryz.func221 rfl (by decide +kernel) (by simp [Tryz.ntmps221]) (veil fun E=>?_)
 simp only [go_sem]
 refine ag E (x7 s [45,62]) rfl rfl (by simp) ?_
 rintro _ rfl
 simp only [go_sem]
 have hdef:iO s=if bm s [45,62] || bm s [61,61] then ⟨⟨7,s.take 2,0,0⟩,2,0⟩ else if Lib.indexByte bF (s.getD 0 0)<0 then eh 5 else ⟨⟨7,s.take 1,0,0⟩,1,0⟩:=rfl
 refine bU E (fun h1=>?_) (fun h1=>?_)<;>simp only [go_sem]
 ·have:=eJ h1
  simp only [List.length_cons,List.length_nil] at this
  refine ⟨by omega,?_⟩
  rw [hdef,h1];rfl
 refine ag E (x7 s [61,61]) rfl rfl (by simp) ?_
 rintro _ rfl
 simp only [go_sem]
 refine aD E (fun h2=>?_) (fun h2=>?_)<;>simp only [go_sem]
 ·have:=eJ h2
  simp only [List.length_cons,List.length_nil] at this
  refine ⟨by omega,?_⟩
  rw [hdef,h2,Bool.or_true];rfl
 rw [h1,h2,Bool.or_false,if_neg (by simp)] at hdef
 refine ⟨by omega,?_⟩
 refine ag E (kG bF (s.getD 0 0)) rfl rfl (by simp) ?_
 rintro _ rfl
 simp only [go_sem]
 refine ah E (fun h3=>?_) (fun h3=>?_)<;>simp only [go_sem]
 ·rw [hdef,if_pos h3];rfl
 refine ⟨by omega,?_⟩
 rw [hdef,if_neg h3];rfl
end Go.Proofs.YtejpnabbmgpmaaaGreat

namespace Go.Proofs.YtejpnabbmgpmaaaGreat
open Go.Ab
theorem jb (f:Fnd):rv f=.agg [i64 f.t.k,.str f.t.s,i64 f.t.n,i64 f.t.pos,i64 f.n,i64 f.e]:=rfl
theorem D4 {G} (s:List UInt8) (hl:s.length≤1000000) (h0:1≤s.length):HP Tryz.prog G 146 [.str s] (fun r=>r=.d (rv (cq s))):=by
 have hwl:=gM s
 refine al Tryz.func146 rfl (by decide +kernel) (by simp [Tryz.ntmps146]) (veil fun E=>?_)
 simp only [go_sem]
 refine ag E (rB s (by omega)) rfl rfl (by simp) ?_
 rintro _ rfl
 simp only [go_sem]
 have hdef:cq s=if 0<bI s then kY s (bI s) else if s.getD 0 0=39 then pI s else if bc (s.getD 0 0) || decide (s.getD 0 0=126) then vv s else if s.getD 0 0=34 then oC s else iO s:=rfl
 generalize bI s=n at hdef hwl
 generalize hc:s.getD 0 0=c at hdef
 refine ah E (fun h1=>?_) (fun h1=>?_)<;>simp only [go_sem]
 ·refine ag E (DR s n hl (by omega) hwl) rfl rfl (by simp) ?_
  rintro _ rfl
  rw [jb (kY s n)]
  simp only [go_sem]
  rw [hdef,if_pos (by omega)];rfl
 rw [if_neg (by omega)] at hdef
 refine ⟨by omega,?_⟩
 rw [hc]
 refine ah E (fun h2=>?_) (fun h2=>?_)<;>simp only [go_sem]
 ·refine ag E (Fv s hl h0) rfl rfl (by simp) ?_
  rintro _ rfl
  rw [jb (pI s)]
  simp only [go_sem]
  rw [hdef,if_pos (bV 39 h2)];rfl
 rw [if_neg (aQ 39 h2)] at hdef
 refine ag E (xN c) rfl rfl (by simp) ?_
 rintro _ rfl
 simp only [go_sem]
 repeat (first
  | (apply b6 E;(· simp only [go_sem]);(· intro h;(try simp only [bq] at h);simp only [↓h,go_sem];rfl);simp only [go_sem])
  | (apply a9 E;(· simp only [go_sem]);(· intro h;(try simp only [bq] at h);simp only [↓h,go_sem];rfl);(· intro h;(try simp only [bq] at h);simp only [↓h,go_sem];rfl);simp only [go_sem])
  | (apply a8 E;(· simp only [go_sem]);(· rfl);(· intro h h';(try simp only [bq] at h h');simp only [↓h,↓h',go_sem];rfl);simp only [go_sem])
  | (apply aK E;(· simp only [go_sem]);(· rfl);(· intro h h';(try simp only [bq] at h h');simp only [↓h,↓h',go_sem];rfl);(· intro h h';(try simp only [bq] at h h');simp only [↓h,↓h',go_sem];rfl);simp only [go_sem])
  | (apply bY E;(· decide);simp only [go_sem]))
 refine aD E (fun h3=>?_) (fun h3=>?_)<;>simp only [go_sem]
 ·refine ag E (FJ s hl h0) rfl rfl (by simp) ?_
  rintro _ rfl
  rw [jb (vv s)]
  simp only [go_sem]
  have h4:(bc c || decide (c=126))=true:=by
   simp only [Bool.or_eq_true,decide_eq_true_eq] at h3 ⊢
   rcases h3 with h3 | h3
   ·exact .inl h3
   ·exact .inr (bV 126 h3)
  rw [hdef,if_pos h4];rfl
 have h4:¬ (bc c || decide (c=126))=true:=by
  simp only [Bool.or_eq_false_iff,decide_eq_false_iff_not] at h3
  simp only [Bool.or_eq_true,decide_eq_true_eq,not_or]
  exact ⟨by rw [h3.1];simp,aQ 126 h3.2⟩
 rw [if_neg h4] at hdef
 refine ah E (fun h5=>?_) (fun h5=>?_)<;>simp only [go_sem]
 ·refine ag E (FF s hl) rfl rfl (by simp) ?_
  rintro _ rfl
  rw [jb (oC s)]
  simp only [go_sem]
  rw [hdef,if_pos (bV 34 h5)];rfl
 rw [if_neg (aQ 34 h5)] at hdef
 refine ag E (Du s hl h0) rfl rfl (by simp) ?_
 rintro _ rfl
 rw [jb (iO s)]
 simp only [go_sem]
 rw [hdef];rfl
theorem wA:∀ l:List UInt8,Lib.indexByte l 10=match dC l with
  | none=>-1
  | some k=>(k:Int)
 | []=>rfl
 | c::r=>by
   unfold Lib.indexByte dC
   by_cases h:c=10
   ·simp [h]
   ·rw [if_neg (by simpa using h),if_neg h,wA r]
    cases dC r with
    | none=>rfl
    | some k =>
      simp only [Option.map_some]
      rw [if_neg (by simp)]
      show (k:Int)+1=((k+1:Nat):Int)
      omega
theorem qS:∀ {l:List UInt8} {k:Nat},dC l=some k→k<l.length
 | [],_,h=>by cases h
 | c::r,k,h=>by
   unfold dC at h
   split at h
   ·cases h;simp
   ·obtain ⟨j,hj,rfl⟩:=Option.map_eq_some_iff.1 h
    have:=qS hj
    simp only [List.length_cons];omega
theorem oS {c:UInt8} {r:List UInt8} {k:Nat} (hc:¬ c=10) (h:dC (c::r)=some k):1≤k:=by
 unfold dC at h
 rw [if_neg hc] at h
 obtain ⟨j,_,rfl⟩:=Option.map_eq_some_iff.1 h
 omega
theorem tw (c:UInt8):0≤Lib.indexByte vn c↔c=32∨c=9∨c=10:=by
 unfold vn
 by_cases h1:c=32
 ·subst h1;decide
 by_cases h2:c=9
 ·subst h2;decide
 by_cases h3:c=10
 ·subst h3;decide
 simp [Lib.indexByte,Ne.symm h1,Ne.symm h2,Ne.symm h3,h1,h2,h3]
structure PaI (s:List UInt8) (n m:Nat):Prop where
 hn:n≤s.length
 hm:(s.drop n).length<m
 he:n+eS m (s.drop n)=bd s
theorem PaI.init (s:List UInt8):PaI s 0 s.length.succ:=⟨Nat.zero_le _,by simp,by simp [bd]⟩
theorem PaI.fin {s:List UInt8} {n m:Nat} (h:PaI s n m) (hn:s.length≤n):bd s=n:=by
 rw [← h.he,List.drop_eq_nil_of_le hn]
 cases m<;>rfl
theorem PaI.cases {s:List UInt8} {n m:Nat} (h:PaI s n m) (hi:n<s.length):∃ m',m=m'+1∧s.drop n=s.getD n 0::s.drop (n+1):=by
 obtain ⟨m',rfl⟩:∃ m',m=m'+1:=⟨m-1,by have:=h.hm;omega⟩
 exact ⟨m',rfl,by rw [List.drop_eq_getElem_cons hi];simp [hi]⟩
theorem PaI.blank {s:List UInt8} {n m:Nat} (h:PaI s n m) (hi:n<s.length) (hb:s.getD n 0=32∨s.getD n 0=9∨s.getD n 0=10):PaI s (n+1) (m-1):=by
 obtain ⟨m',rfl,hd⟩:=h.cases hi
 have hm:=h.hm
 rw [List.length_drop] at hm
 refine ⟨by omega,by rw [List.length_drop];omega,?_⟩
 rw [← h.he,hd,eS,if_pos hb,Nat.add_sub_cancel]
 omega
theorem PaI.stop {s:List UInt8} {n m:Nat} (h:PaI s n m) (hi:n<s.length) (hb:¬ (s.getD n 0=32∨s.getD n 0=9∨s.getD n 0=10)) (hr:¬ s.getD n 0=35):bd s=n:=by
 obtain ⟨m',rfl,hd⟩:=h.cases hi
 rw [← h.he,hd,eS,if_neg hb,if_neg hr]
 omega
theorem PaI.none {s:List UInt8} {n m:Nat} (h:PaI s n m) (hi:n<s.length) (hb:¬ (s.getD n 0=32∨s.getD n 0=9∨s.getD n 0=10)) (hr:s.getD n 0=35) (hf:dC (s.drop n)=none):bd s=s.length:=by
 obtain ⟨m',rfl,hd⟩:=h.cases hi
 rw [hd] at hf
 rw [← h.he,hd,eS,if_neg hb,if_pos hr,hf,← hd]
 simp only [List.length_drop]
 omega
theorem PaI.some {s:List UInt8} {n m k:Nat} (h:PaI s n m) (hi:n<s.length) (hb:¬ (s.getD n 0=32∨s.getD n 0=9∨s.getD n 0=10)) (hr:s.getD n 0=35) (hf:dC (s.drop n)=some k):PaI s (n+k) (m-1)∧1≤k:=by
 obtain ⟨m',rfl,hd⟩:=h.cases hi
 have hk:=qS hf
 have h1:1≤k:=by
  rw [hd] at hf
  exact oS (by rw [hr];decide) hf
 have hm:=h.hm
 rw [List.length_drop] at hm hk
 refine ⟨⟨by omega,by rw [List.length_drop];omega,?_⟩,h1⟩
 rw [hd] at hf
 rw [← h.he,hd,eS,if_neg hb,if_pos hr,hf,← hd]
 simp only [List.drop_drop,Nat.add_sub_cancel]
 omega
theorem wJ {G} (s:List UInt8) (hl:s.length≤1000000):HP Tryz.prog G 145 [.str s] (fun r=>r=.d (i64 (bd s))):=by
 refine al Tryz.func145 rfl (by decide +kernel) (by simp [Tryz.ntmps145]) (veil fun E=>?_)
 simp only [go_sem]
 refine aA E (X:={ x:Nat × Nat // PaI s x.1 x.2 }) (fun x=>[(0,.d (.str s)),(3,.d (i64 x.1.1))]) (fun _=>[]) [] (fun x=>s.length-x.1.1) ⟨(0,_),PaI.init s⟩ id ?_ ?_
 ·simp only [go_sem]
  all_goals rfl
 rintro ⟨⟨n,m⟩,hI⟩ E0
 refine aC E0 fun Q' hQ E'=>?_
 simp only at hI ⊢
 have hn:=hI.hn
 simp only [go_sem]
 refine ah E' (fun h1=>?_) (fun h1=>?_)<;>simp only [go_sem]
 rotate_left
 ·rw [hQ]
  simp only [go_sem]
  rw [hI.fin (by omega)]
 have h1':n<s.length:=by omega
 refine ⟨⟨by omega,by omega⟩,?_⟩
 refine ag E' (kG vn (s.getD n 0)) rfl rfl (by simp) ?_
 rintro _ rfl
 simp only [go_sem]
 refine ah E' (fun h2=>?_) (fun h2=>?_)<;>simp only [go_sem]
 ·have hI2:=hI.blank h1' ((tw _).1 h2)
  rw [ai ⟨by omega,by omega⟩,hQ]
  simp only [go_sem]
  refine ⟨⟨(n+1,m-1),hI2⟩,by show s.length-(n+1)<_;omega,id,?_⟩
  simp only [go_sem]
  rfl
 have h2n:¬ (s.getD n 0=32∨s.getD n 0=9∨s.getD n 0=10):=fun h=>h2 ((tw _).2 h)
 refine ⟨⟨by omega,by omega⟩,?_⟩
 refine ah E' (fun h3=>?_) (fun h3=>?_)<;>simp only [go_sem]
 rotate_left
 ·rw [hQ]
  simp only [go_sem]
  rw [hI.stop h1' h2n (aQ 35 h3)]
 have h3y:=bV 35 h3
 refine ⟨⟨by omega,by omega⟩,?_⟩
 rw [List.take_of_length_le (l:=s.drop n) (by rw [List.length_drop];omega)]
 refine ag E' (kG (s.drop n) 10) rfl rfl (by simp) ?_
 rintro _ rfl
 rw [wA]
 cases hf:dC (s.drop n) with
 | none =>
   simp only [go_sem]
   rw [hQ]
   simp only [go_sem]
   rw [hI.none h1' h2n h3y hf]
 | some k =>
   have ⟨hI2,hk⟩:=hI.some h1' h2n h3y hf
   have hn2:=hI2.hn
   simp only [go_sem]
   refine ah E' (fun h4=>?_) (fun h4=>?_)<;>simp only [go_sem]
   ·omega
   rw [ai ⟨by omega,by omega⟩,hQ]
   simp only [go_sem]
   refine ⟨⟨(n+k,m-1),hI2⟩,by show s.length-(n+k)<_;omega,id,?_⟩
   simp only [go_sem]
   rfl
end Go.Proofs.YtejpnabbmgpmaaaGreat

namespace Go.Ab
section
variable {P:Program} {F:Fence} {n:Nat} {ops:Array Oper} {Q Q':Exit→Act→World→Prop}
theorem vz {o:Oper} {a:Act} {w:World} {K K':Act→World→Prop} (h:∀ a w,K a w→K' a w) (hq:∀ e a w,Q e a w→Q' e a w) (hh:o.wpIn F n P a w K Q):o.wpIn F n P a w K' Q':=by
 unfold Oper.wpIn at *
 refine ⟨hh.1,?_⟩
 have hh:=hh.2
 generalize (o.semAt F.round a.eval).run P w=r at *
 cases r with
 | ok x w' =>
   cases x<;>simp only [Oper.uponIn] at hh ⊢ <;>
    first
     | exact h _ _ hh
     | exact ⟨hh.1,CallsIn.mono hh.2 (fun e w'' he=>by cases e<;>first | exact h _ _ he | exact hq _ _ _ he | exact he.elim fun a he=>he.elim fun w he=>⟨a,w,hq _ _ _ he⟩ | exact he)⟩
     | exact ⟨hh.1,RowsIn.mono hh.2 (fun _ _ he=>h _ _ he)⟩
     | exact ⟨hh.1,RoundIn.mono hh.2 (fun e w'' he=>by cases e<;>first | exact h _ _ he | exact hq _ _ _ he | exact he.elim fun a he=>he.elim fun w he=>⟨a,w,hq _ _ _ he⟩ | exact he)⟩
 | halt x w'=>cases x<;>simp only [Oper.uponIn] at hh ⊢<;>first | exact hq _ _ _ hh | exact hh
theorem eL (hq:∀ e a w,Q e a w→Q' e a w):∀ (l:List Nat) (a:Act) (w:World),wpOpsIn F n P ops Q l a w→wpOpsIn F n P ops Q' l a w
 | [],_,_,h=>hq _ _ _ h
 | i::r,a,w,h=>by
   simp only [wpOpsIn] at h ⊢
   split
   ·rename_i hn
    simp only [hn] at h
    exact eL hq r a w h
   ·rename_i o ho
    simp only [ho] at h
    split
    ·rename_i hw
     simp only [hw,if_true] at h
     exact vz (fun a w=>eL hq r a w) hq h
    ·rename_i hw
     simp only [hw] at h
     exact ⟨h.1,eL hq r _ w h.2⟩
end
section
variable {P:Program} {cf:Cf} {Φ:Exit→Act→World→Prop} {I:Base→List Deferred→Prop} {k:List It} {s:St}
theorem sB {all:Array Oper} {r:List Oper} (h:∀ E:Eng P cf (yq P cf Φ I k),E.run [.ops all r] s):ARY P cf Φ I (.ops all r::k) s:=by
 have h1:run P cf [.ops all r] (yq P cf Φ I k) s:=veil h
 intro B hB ds β a w hds hI hs l hl
 have h2:=aW h1 B hB ds β a w hds hs l hl
 exact eL (fun _ _ _ hq=>x8 hB hI hq) l a w h2
theorem BF {B0:Base} {X:Type} {Iv:X→St} {fr0 fr:List (Nat × AV)} {hp0 hp:List (Name × Ob)} {u0 u:List Nat} (hl:LKL (mk fr0 hp0 u0) hp) (h:ARX cf Φ (CI B0) .ret (mk fr0 hp u)):rq P cf Φ B0 k Iv (mk fr0 hp0 u0) .ret (mk fr hp u):=⟨qw (iz hl),h⟩
end
end Go.Ab

namespace Go.Proofs.YtejpnabbmgpmaaaGreat
open Go.Ab
theorem AA {G} (s:List UInt8):HP Tryz.prog G 89 [.str s] (fun r=>r=.d (.clo 144 [.ptr (.str s)])):=by
 have h:HCall Tryz.prog G 89 [.d (.str s)] [] [] (fun r hp'=>r=.clo 144 [.bx [1] 0]∧hp'=[([1],.box [.d (.str s)])]):=by
  refine ar Tryz.func89 rfl (by decide +kernel) (by simp [Tryz.ntmps89]) (veil fun E=>?_)
  simp only [go_sem]
  refine ⟨_,_,[1],id,⟨rfl,rfl⟩,?_⟩
  simp only [go_sem]
 have h2:=HCall.fB (Q':=fun r hp'=>r=.d (.clo 144 [.ptr (.str s)])∧hp'=[]) h [1] (.str s) (by
  rintro r hp' ⟨rfl,rfl⟩
  refine ⟨rfl,rfl,?_,?_⟩
  ·simp only [go_sem]
  ·simp only [go_sem])
 exact h2.mono fun r hp' ⟨h1,h3⟩=>⟨h1,by rw [h1];rfl,h3⟩
theorem nP:∀ (m:Nat) (s:List UInt8),eS m s≤s.length
 | 0,_=>Nat.zero_le _
 | _+1,[]=>Nat.le_refl _
 | m+1,c::r=>by
   unfold eS
   split
   ·have:=nP m r
    simp only [List.length_cons];omega
   split
   ·split
    ·exact Nat.le_refl _
    ·rename_i k hk
     have:=qS hk
     have h2:=nP m ((c::r).drop k)
     rw [List.length_drop] at h2
     omega
   ·exact Nat.zero_le _
theorem w4 (s:List UInt8):bd s≤s.length:=nP _ _
structure TI (s:List UInt8) (j p:Nat):Prop where
 hj:j≤(aF s).length
 hp:p≤s.length
 he:∃ m q,q≤s.length∧(s.drop q).length<m∧p=q+bd (s.drop q)∧(aF s).drop j=eO m (s.drop q) q
theorem TI.init (s:List UInt8):TI s 0 (bd s):=⟨Nat.zero_le _,w4 s,s.length.succ,0,Nat.zero_le _,by simp,by simp,by simp [aF]⟩
theorem TI.next {s:List UInt8} {j p:Nat} (h:TI s j p):(s.length≤p∧(aF s).drop j=[]) ∨
  (p<s.length∧(aF s)[j]?=some (p,cq (s.drop p))∧(((cq (s.drop p)).e≠0∧(aF s).length=j+1) ∨
   ((cq (s.drop p)).e=0∧p+(cq (s.drop p)).n≤s.length∧1≤(cq (s.drop p)).n∧TI s (j+1) (p+(cq (s.drop p)).n+bd (s.drop (p+(cq (s.drop p)).n)))))):=by
 obtain ⟨m,q,hq,hm,rfl,he⟩:=h.he
 have hpl:=h.hp
 cases m with
 | zero=>omega
 | succ m =>
   have hdd:(s.drop q).drop (bd (s.drop q))=s.drop (q+bd (s.drop q)):=by rw [List.drop_drop]
   unfold eO at he
   rw [hdd] at he
   obtain ⟨p,hp⟩:∃ p,p=q+bd (s.drop q):=⟨_,rfl⟩
   rw [← hp] at he hpl ⊢
   by_cases h0:s.drop p=[]
   ·rw [if_pos h0] at he
    refine .inl ⟨?_,he⟩
    exact List.drop_eq_nil_iff.1 h0
   rw [if_neg h0] at he
   have hlt:p<s.length:=by
    rcases Nat.lt_or_ge p s.length with h1 | h1
    ·exact h1
    ·exact absurd (List.drop_eq_nil_of_le h1) h0
   refine .inr ⟨hlt,?_⟩
   have hget:∀ x r,(aF s).drop j=x::r→(aF s)[j]?=some x:=fun x r h=>by
    have:((aF s).drop j)[0]?=some x:=by rw [h];rfl
    simpa using this
   by_cases h1:(cq (s.drop p)).e=0
   ·rw [if_neg (by simpa using h1)] at he
    have hn:=Av h0 h1
    rw [List.length_drop] at hn hm
    refine ⟨hget _ _ he,.inr ⟨h1,by omega,hn.1,?_⟩⟩
    have hpq:=w4 (s.drop (p+(cq (s.drop p)).n))
    rw [List.length_drop] at hpq
    have hj1:=(List.getElem?_eq_some_iff.1 (hget _ _ he)).1
    refine ⟨by omega,by omega,m,p+(cq (s.drop p)).n,by omega,by rw [List.length_drop];omega,rfl,?_⟩
    have h2:(aF s).drop (j+1)=((aF s).drop j).drop 1:=by rw [List.drop_drop]
    rw [h2,he,List.drop_succ_cons,List.drop_zero,List.drop_drop]
   ·rw [if_pos h1] at he
    refine ⟨hget _ _ he,.inl ⟨h1,?_⟩⟩
    have h2:=congrArg List.length he
    rw [List.length_drop] at h2
    simp at h2
    omega
def z6 (s:List UInt8) (n:Nat):List D:=[i64 ((aF s).getD n (0,eh 0)).1,rv ((aF s).getD n (0,eh 0)).2]
set_option maxHeartbeats 1000000 in
theorem xh {G} (s:List UInt8) (hl:s.length≤1000000):ItC Tryz.prog G 144 [.ptr (.str s)] (aF s).length (z6 s):=by
 refine xf Tryz.func144 rfl (by decide +kernel) (by simp [Tryz.ntmps144]) rfl fun z hz=>?_
 refine aB (aq fun E=>?_)
 simp only [go_sem]
 refine ag E (wJ s hl) rfl rfl (by simp) ?_
 rintro _ rfl
 simp only [go_sem]
 refine iC (Bu (X:={ x:Nat × Nat // TI s x.1 x.2 }) (fun x=>mk [(0,.d (.yl z.l)),(1,.d (.ptr (.str s))),(3,.d (i64 x.1.2))] [] []) (fun x=>II z x.1.1) (fun x=>s.length-x.1.2) ⟨(0,bd s),.init s⟩ ⟨id,LeL.le ?_⟩ (fun _ _ h=>h) ?_)
 ·simp only [go_sem]
  all_goals rfl
 rintro ⟨⟨j,p⟩,hT⟩
 have hpl:=hT.hp
 simp only at hT hpl ⊢
 generalize hΦ:lpY _ _ _ _ _ _ _ _=Φ'
 refine aB (aq fun E=>?_)
 simp only [go_sem]
 refine ah E (fun h1=>?_) (fun h1=>?_)<;>simp only [go_sem]
 ·obtain ⟨hlt,hget,hcase⟩:=hT.next.resolve_left (fun h=>by omega)
  have hj:j<(aF s).length:=(List.getElem?_eq_some_iff.1 hget).1
  have hgd:(aF s).getD j (0,eh 0)=(p,cq (s.drop p)):=by rw [List.getD_eq_getElem?_getD,hget];rfl
  generalize hF:cq (s.drop p)=F at hget hcase hgd
  refine aB (iC (aB (aq fun E=>?_)))
  simp only [go_sem]
  refine ⟨⟨by omega,by omega⟩,?_⟩
  rw [List.take_of_length_le (l:=s.drop p) (by rw [List.length_drop];omega)]
  refine ag E (D4 (s.drop p) (by rw [List.length_drop];omega) (by rw [List.length_drop];omega)) rfl rfl (by simp) ?_
  rintro _ rfl
  rw [hF,jb F]
  simp only [go_sem]
  refine aB (aB (nK (tN rfl ?_)))
  simp only [go_sem]
  refine tN rfl ?_
  simp only [go_sem]
  refine tN rfl ?_
  simp only [go_sem]
  refine FA hz hj (by simp) rfl (by simp only [go_sem];rw [show z6 s j=[i64 p,rv F] by unfold z6;rw [hgd]];rfl) ?_ ?_
  ·refine sB fun E=>?_
   simp only [go_sem]
   refine aq fun E=>?_
   simp only [go_sem]
   refine ah E (fun h2=>?_) (fun h2=>?_)<;>simp only [go_sem]
   ·rcases hcase with ⟨_,h3⟩ | ⟨h3,_⟩
    ·rw [← h3]
     subst hΦ
     exact kq (vy hz (.inr rfl))
    ·exact absurd h3 h2
   ·rcases hcase with ⟨h3,_⟩ | ⟨h3,h4,h5,h6⟩
    ·exact absurd h3 h2
    refine aq fun E=>?_
    simp only [go_sem]
    rw [ai ⟨by omega,by omega⟩]
    refine pX (aq fun E=>?_)
    simp only [go_sem]
    have hpo:=h6.hp
    refine ⟨⟨by omega,by omega⟩,?_⟩
    rw [show ((p:Int)+(F.n:Nat)).toNat=p+F.n by omega,List.take_of_length_le (l:=s.drop (p+F.n)) (by rw [List.length_drop];omega)]
    refine ag E (wJ (s.drop (p+F.n)) (by rw [List.length_drop];omega)) rfl rfl (by simp) ?_
    rintro _ rfl
    simp only [go_sem]
    rw [ai ⟨by omega,by omega⟩]
    subst hΦ
    refine gw (show { x:Nat × Nat // TI s x.1 x.2 } from ⟨(j+1,p+F.n+bd (s.drop (p+F.n))),h6⟩) ?_ id (LeL.le ?_) (fun _ _ h=>h)
    ·show s.length-(p+F.n+bd (s.drop (p+F.n)))<s.length-p
     omega
    ·simp only [go_sem]
     rfl
  ·refine sB fun E=>?_
   simp only [go_sem]
   refine aq fun E=>?_
   simp only [go_sem]
   subst hΦ
   exact kq (Bx hz (.inr rfl))
 ·subst hΦ
  refine mE ?_
  simp only [go_sem]
  refine Gg ?_
  have hj:=hT.hj
  rcases hT.next with ⟨_,h2⟩ | ⟨h2,_⟩
  ·have h3:=List.drop_eq_nil_iff.1 h2
   have:j=(aF s).length:=by omega
   subst this
   exact vy hz (.inl rfl)
  ·omega
end Go.Proofs.YtejpnabbmgpmaaaGreat

namespace Go.Proofs.YtejpnabbmgpmaaaGreat
open Go.Ab
theorem qY:∀ (m:Nat) (s:List UInt8) (at' i:Nat),i+1<(eO m s at').length→((eO m s at').getD i (0,eh 0)).2.e=0
 | 0,_,_,_,h=>by simp [eO] at h
 | m+1,s,at',i,h=>by
   unfold eO at h ⊢
   split at h
   ·simp at h
   rename_i h0
   rw [if_neg h0]
   split at h
   ·simp at h
   rename_i h1
   rw [if_neg h1]
   cases i with
   | zero=>simpa using h1
   | succ i =>
     simp only [List.length_cons] at h
     rw [List.getD_cons_succ]
     exact qY m _ _ i (by omega)
theorem qz:∀ {l:List (Nat × Fnd)},ia l=none→∀ q∈l,q.2.e=0
 | [],_,q,h=>by cases h
 | a::r,hb,q,h=>by
   unfold ia at hb
   split at hb
   ·cases hb
   rename_i h1
   rcases List.mem_cons.1 h with rfl | h
   ·simpa using h1
   ·exact qz hb q h
theorem pZ:∀ {l:List (Nat × Fnd)} {i:Nat} {e:Int},(∀ k,k+1<l.length→(l.getD k (0,eh 0)).2.e=0)→ia l=some (i,e)→0<l.length∧(l.getD (l.length-1) (0,eh 0)).1=i∧(l.getD (l.length-1) (0,eh 0)).2.e=e∧e≠0
 | [],_,_,_,h=>by cases h
 | [a],i,e,_,h=>by
   unfold ia at h
   split at h
   ·rename_i h1;cases h;exact ⟨by simp,rfl,rfl,h1⟩
   ·cases h
 | a::b::r,i,e,hk,h=>by
   have ha:a.2.e=0:=hk 0 (by simp)
   unfold ia at h
   rw [if_neg (by simpa using ha)] at h
   obtain ⟨_,h2,h3,h4⟩:=pZ (l:=b::r) (fun k hk'=>by
    have:=hk (k+1) (by simp only [List.length_cons] at hk' ⊢;omega)
    simpa using this) h
   refine ⟨by simp,?_,?_,h4⟩
   ·simpa using h2
   ·simpa using h3
def Ft:St:=mk [] [([0],.map [])] []
theorem wm {P:Program} {cf:Cf} {Φ:Exit→Act→World→Prop} {I:Base→List Deferred→Prop} {k:List It}:ARY P cf Φ I k Ft:=by
 intro B hB ds β a w hds hI hs
 obtain ⟨⟨_,_,_,h⟩,_⟩:=hs.objs [0] _ rfl
 cases h
def ub (s:List UInt8) (n:Nat):St:=mk [(0,.d (.str s)),(2,.bx [2] 0),(3,.bx [3] 0),(4,.bx [4] 0),(5,.bx [5] 0)] [([2],.box [.d .nils]),([3],.box [.d (i64 0)]),([4],.box [.d (i64 0)]),([5],.box [.vw [99] 0 n]),([99],.arr (some 4) (((aF s).take n).map fun q=>ck (gh q)))] [2,3,4,5,99]
theorem tz (s:List UInt8) {n:Nat} (hn:n<(aF s).length) {q:Nat × Fnd} (hq:q=(aF s).getD n (0,eh 0)) :
  List.take n (List.map (fun q=>ck (gh q)) (List.take n (aF s)))++[.agg [i64 q.2.t.k,.str q.2.t.s,i64 q.2.t.n,.int .i64 (q.1:Nat)]]=List.map (fun q=>ck (gh q)) (List.take (n+1) (aF s)):=by
 have hq2:q=(aF s)[n]:=by rw [hq];simp [hn]
 rw [List.take_of_length_le (by simp;omega),List.take_succ_eq_append_getElem hn,List.map_append,← hq2]
 rfl
set_option maxHeartbeats 1000000 in
theorem HG {G} (s:List UInt8) (hl:s.length≤1000000) (hb:ia (aF s)=none):HP Tryz.prog G 51 [.str s] (fun r=>r=.tup [.d (.sl (some 4) ((bo s).1.map ck)),.d (i64 (bo s).2.1),.d (i64 (bo s).2.2)]):=by
 have hok:=qz hb
 have hfew:(aF s).length≤s.length:=ll s.length.succ s 0
 have hlex:bo s=((aF s).map gh,s.length,0):=by unfold bo;rw [hb]
 refine gl Tryz.func51 rfl (by decide +kernel) (by simp [Tryz.ntmps51]) fun B0 hB0=>?_
 refine aB (aq fun E=>?_)
 simp only [go_sem]
 refine aB (aq fun E=>?_)
 simp only [go_sem]
 refine aB (aB (aq fun E=>?_))
 simp only [go_sem]
 refine ag E (AA s) rfl rfl (by simp) ?_
 rintro _ rfl
 simp only [go_sem]
 refine rW [5] 0 99 (some 4) [.d .nils] rfl rfl (by rw [aa];decide) ?_
 simp only [go_sem]
 refine iC (rR rfl (xh s hl) rfl (X:=Unit) (fun n _=>ub s n) (by simp) (fun n hn=>rfl) ⟨(),id,LeL.le ?_⟩ ?_ ?_)
 ·simp only [go_sem]
  all_goals rfl
 ·rintro n ⟨⟩ hn lb
  unfold ub z6
  obtain ⟨q,hq⟩:∃ q,q=(aF s).getD n (0,eh 0):=⟨_,rfl⟩
  have hqm:q∈aF s:=by rw [hq];simp [hn]
  have hqe:=hok q hqm
  rw [← hq,jb]
  refine veil fun E=>?_
  simp only [go_sem]
  refine Dr fun E=>?_
  simp only [go_sem]
  refine ah E (fun h1=>absurd hqe h1) (fun h1=>?_)<;>simp only [go_sem]
  rw [tz s hn hq]
  refine ⟨by omega,?_⟩
  refine F5 ?_ () (tau [([99],[25])]) rfl ?_
  ·simp only [go_sem]
  ·simp only [go_sem]
 ·rintro ⟨⟩
  refine pX ?_
  unfold ub
  rw [List.take_length]
  refine aq fun E=>?_
  simp only [go_sem]
  refine fc (.inl rfl) hB0 ?_
  simp only [go_sem]
  refine ⟨[([99],some 4,(aF s).map fun q=>ck (gh q))],?_⟩
  simp only [go_sem]
  rw [hlex,List.map_map]
  rfl
set_option maxHeartbeats 1000000 in
theorem D5 {G} (s:List UInt8) (hl:s.length≤1000000) {i:Nat} {e:Int} (hb:ia (aF s)=some (i,e)):HP Tryz.prog G 51 [.str s] (fun r=>r=.tup [.d .nils,.d (i64 i),.d (i64 e)]):=by
 obtain ⟨h0,hi,he,hne⟩:=pZ (qY _ _ _) hb
 have hok:∀ n,n+1<(aF s).length→((aF s).getD n (0,eh 0)).2.e=0:=qY _ _ _
 have hfew:(aF s).length≤s.length:=ll s.length.succ s 0
 change 0<(aF s).length at h0
 change ((aF s).getD ((aF s).length-1) (0,eh 0)).1=i at hi
 change ((aF s).getD ((aF s).length-1) (0,eh 0)).2.e=e at he
 refine gl Tryz.func51 rfl (by decide +kernel) (by simp [Tryz.ntmps51]) fun B0 hB0=>?_
 refine aB (aq fun E=>?_)
 simp only [go_sem]
 refine aB (aq fun E=>?_)
 simp only [go_sem]
 refine aB (aB (aq fun E=>?_))
 simp only [go_sem]
 refine ag E (AA s) rfl rfl (by simp) ?_
 rintro _ rfl
 simp only [go_sem]
 refine rW [5] 0 99 (some 4) [.d .nils] rfl rfl (by rw [aa];decide) ?_
 simp only [go_sem]
 refine iC (rR rfl (xh s hl) rfl (X:=Unit) (fun n _=>if n<(aF s).length then ub s n else Ft) (by simp) (fun n hn=>rfl) ⟨(),id,?_⟩ ?_ ?_)
 ·rw [if_pos h0]
  refine LeL.le ?_
  simp only [go_sem]
  all_goals rfl
 ·rintro n ⟨⟩ hn lb
  simp only [if_pos hn]
  have hlast:n+1<(aF s).length∨n=(aF s).length-1:=by omega
  obtain ⟨q,hq⟩:∃ q,q=(aF s).getD n (0,eh 0):=⟨_,rfl⟩
  have hcase:(q.2.e=0∧n+1<(aF s).length)∨(q.1=i∧q.2.e=e):=by
   rcases hlast with h | h
   ·exact .inl ⟨by rw [hq];exact hok n h,h⟩
   ·refine .inr ⟨?_,?_⟩
    ·rw [hq,h];exact hi
    ·rw [hq,h];exact he
  unfold z6
  rw [← hq,jb]
  unfold ub
  refine veil fun E=>?_
  simp only [go_sem]
  refine Dr fun E=>?_
  simp only [go_sem]
  refine ah E (fun h1=>?_) (fun h1=>?_)<;>simp only [go_sem]
  ·obtain ⟨hq1,hq2⟩:=hcase.resolve_left (fun h=>h1 h.1)
   refine ak mixed E fun X=>?_
   simp only [go_sem]
   refine ⟨by decide +kernel,?_⟩
   refine BF ?_ (fc (.inl rfl) hB0 ?_)
   ·simp only [go_sem]
    exact Nat.le_refl _
   ·simp only [go_sem]
    refine ⟨[],?_⟩
    simp only [go_sem]
    rw [hq1,hq2]
  ·rcases hcase with ⟨_,h2⟩ | ⟨_,h2⟩
   ·rw [tz s hn hq]
    refine ⟨by omega,?_⟩
    simp only [if_pos h2]
    refine F5 ?_ () (tau [([99],[25])]) rfl ?_
    ·simp only [go_sem]
    ·simp only [go_sem]
   ·exact absurd h2 (fun h=>by omega)
 ·rintro ⟨⟩
  rw [if_neg (Nat.lt_irrefl _)]
  exact wm
end Go.Proofs.YtejpnabbmgpmaaaGreat

