/-
  The generic layer, part 106: arrays and maps whose elements are views of other objects. (with the parts that follow it)
-/
import Derived.Test.YthfodompfpdmgaaGreatDoorSOF
import Derived.Test.YthfodompfpdmgaaGreatDoorSOE
import Derived.Test.YthfodompfpdmgaaGreatDoorSOA
import Derived.Laws.CopyRow
import Derived.Deep.Upon
import Derived.Lib.MakeNoZero
set_option linter.all false
namespace Go.Ab
section
variable {P:Program} {B:Base} {β:Name→Option Blk} {s:St} {tm:Array Value} {w:World} {t:Nat}
theorem Sim.Fi (h:Sim B β s tm w) (ht:t ∉ s.used) {p:Name} {ob:Ob} {k:Blk} (hp:s.hp p=some ob) (hk:β p=some k) (nb:Ob) (o':Nat) {w':World} (hio:wio w'=wio w) (hsz:w'.heap.size=w.heap.size)
  (hw:∀ b,b≠k.b→w'.heap[b]?=w.heap[b]?)
  (hO:∀ β':Name→Option Blk,β' [t]=some ⟨k.b,o',k.z⟩→(∀ v x,VR w.heap (s.own B.A β) s.used s.hp β v x→VR w'.heap (s.own B.A β) (t::s.used) ((s.set p none).add t nb).hp β' v x) →
   OR w'.heap (s.own B.A β) (t::s.used) ((s.set p none).add t nb).hp β' [t] nb) :
  Sim B (ax β [t] (some ⟨k.b,o',k.z⟩)) ((s.set p none).add t nb) tm w':=by
 obtain ⟨β',hβ'⟩:∃ β',ax β [t] (some ⟨k.b,o',k.z⟩)=β':=⟨_,rfl⟩
 obtain ⟨s',hs'⟩:∃ s',(s.set p none).add t nb=s':=⟨_,rfl⟩
 have hnew:β' [t]=some ⟨k.b,o',k.z⟩:=by rw [← hβ'];simp [ax]
 have hold:∀ q,q≠[t]→β' q=β q:=fun q hq=>by rw [← hβ'];simp [ax,hq]
 have hpn:=eo (h.objs p ob hp).1 ht
 have hhn:s'.hp [t]=some nb:=by rw [← hs'];simp [St.add,ax]
 have hhp:s'.hp p=none:=by rw [← hs'];simp [St.add,St.set,ax,hpn]
 have hhq:∀ q,q≠[t]→q≠p→s'.hp q=s.hp q:=fun q h1 h2=>by rw [← hs'];simp [St.add,St.set,ax,h1,h2]
 have hus:s'.used=t::s.used:=by rw [← hs'];rfl
 have hfr:s'.fr=s.fr:=by rw [← hs'];rfl
 have hpne:s.hp p≠none:=by rw [hp];simp
 have hown:s'.own B.A β'=s.own B.A β:=by
  funext b
  refine propext (or_congr_right ⟨?_,?_⟩)
  ·rintro ⟨q,l,hq,hl,rfl⟩
   by_cases e1:q=[t]
   ·subst e1;rw [hnew] at hl;cases hl;exact ⟨p,k,hpne,hk,rfl⟩
   ·by_cases e2:q=p
    ·subst e2;exact absurd hhp hq
    ·rw [hold q e1] at hl;rw [hhq q e1 e2] at hq;exact ⟨q,l,hq,hl,rfl⟩
  ·rintro ⟨q,l,hq,hl,rfl⟩
   by_cases e2:q=p
   ·subst e2;rw [hk] at hl;cases hl;exact ⟨[t],_,by rw [hhn];simp,hnew,rfl⟩
   ·cases ho:s.hp q with
    | none=>exact absurd ho hq
    | some o =>
      have e1:=eo (h.objs q o ho).1 ht
      exact ⟨q,l,by rw [hhq q e1 e2];exact hq,by rw [hold q e1];exact hl,rfl⟩
 have hr:∀ v d,Rep w.heap (s.own B.A β) v d→Rep w'.heap (s.own B.A β) v d:=fun v d hd=>hd.mono (fun b hb _=>hw b fun e=>hb (.inr ⟨p,k,hpne,hk,e.symm⟩)) (fun _ _ h=>h)
 have hst:∀ q,nm s.used q→Stays s.hp s'.hp β β' q:=by
  intro q hq o ho
  have e1:=eo hq ht
  have e2:q≠p:=by rintro rfl;rw [hhp] at ho;cases ho
  exact ⟨o,by rwa [hhq q e1 e2] at ho,Ob.br _,hold q e1⟩
 have hu:∀ x∈s.used,x∈s'.used:=fun x hx=>by rw [hus];exact List.mem_cons_of_mem _ hx
 have hO':=hO β' hnew (fun v x hx=>by rw [hs',← hus];exact hx.mono hr hu hst)
 rw [hs',← hus] at hO'
 rw [hβ',hs']
 refine { tms:=h.tms,io:=hio.trans h.io,size:=by rw [hsz];exact h.size,frame:=?_,slots:=fun i=>?_,objs:=?_,blocks:=?_,inj:=?_,us:=fun x hx=>hu x (h.us x hx), stay:=fun p hp=>(hold p (eo (hp.mono h.us) ht)).trans (h.stay p hp) }
 ·intro b hb hn
  rw [hw b ?_]
  ·exact h.frame b hb hn
  ·rintro rfl
   rcases (h.blocks p k hpne hk).2.2 with h3 | h3
   ·omega
   ·exact hn h3
 ·rw [hown,hfr];exact (h.slots i).mono hr hu hst
 ·intro q o ho
  rw [hown]
  by_cases e1:q=[t]
  ·subst e1
   rw [hhn] at ho;cases ho
   exact ⟨⟨t,[],rfl,by rw [hus];exact List.mem_cons_self⟩,hO'⟩
  ·have e2:q≠p:=by rintro rfl;rw [hhp] at ho;cases ho
   rw [hhq q e1 e2] at ho
   obtain ⟨h1,h2⟩:=h.objs q o ho
   refine ⟨h1.mono hu,h2.mono hr hu hst (hold q e1) fun l hl=>hw l.b fun e=>?_⟩
   exact e2 (h.inj q p l k (by rw [ho];simp) hpne hl hk e)
 ·intro q l hq hl
  rw [hsz]
  by_cases e1:q=[t]
  ·subst e1;rw [hnew] at hl;cases hl;exact h.blocks p k hpne hk
  ·have e2:q≠p:=by rintro rfl;exact hq hhp
   rw [hold q e1] at hl;rw [hhq q e1 e2] at hq
   exact h.blocks q l hq hl
 ·intro q q' l l' hq hq' hl hl' e
  have key:∀ q l,s'.hp q≠none→β' q=some l→∃ r,(q=[t]∧r=p∨q≠[t]∧r=q∧q≠p)∧s.hp r≠none∧∃ m,β r=some m∧m.b=l.b:=by
   intro q l hq hl
   by_cases e1:q=[t]
   ·subst e1;rw [hnew] at hl;cases hl;exact ⟨p,.inl ⟨rfl,rfl⟩,hpne,k,hk,rfl⟩
   ·have e2:q≠p:=by rintro rfl;exact hq hhp
    rw [hold q e1] at hl;rw [hhq q e1 e2] at hq
    exact ⟨q,.inr ⟨e1,rfl,e2⟩,hq,l,hl,rfl⟩
  obtain ⟨r,h1,h2,m,h3,h4⟩:=key q l hq hl
  obtain ⟨r',g1,g2,m',g3,g4⟩:=key q' l' hq' hl'
  have:r=r':=h.inj r r' m m' h2 g2 h3 g3 (by rw [h4,g4,e])
  rcases h1 with ⟨rfl,rfl⟩ | ⟨h1,rfl,h5⟩<;>rcases g1 with ⟨rfl,rfl⟩ | ⟨g1,rfl,g5⟩
  ·rfl
  ·exact absurd this.symm g5
  ·exact absurd this h5
  ·exact this
end
section
variable {P:Program} {cf:Cf} {Q:Exit→St→Prop} {s:St} {k:List It}
theorem Bh (E:Eng P cf Q) {d:Option Nat} {op:Op} {ty:TypeId} {ps:String} {af:Array Edge} (x:AV) (f:Fp) (hq:QE P cf { dst:=d,op:=op,type:=ty,pos:=ps,after:=af,guard:=none } s x f) (hu:∀ y∈f.2.nu,y ∉ s.used) (hk:E.run k (s.go d x f.2)) :
  E.stp { dst:=d,op:=op,type:=ty,pos:=ps,after:=af,guard:=none } s k .no:=by
 rw [aK]
 rw [E.run_eq] at hk
 intro B hB ds β a w hds hs Q'
 refine Oper.wpIn_mono ?_ (hq s hu (fun _ _=>rfl) (fun _ _=>rfl) B hB ds β a w hds hs Q')
 rintro a' w' ⟨hd',β',hs'⟩
 exact ⟨hd',_,β',aV hk,hs'⟩
theorem zu {ops:Array Oper} {K:St→Ns→Prop} {r:List Oper} {ns:Ns} (E:XEng P cf ops K) {d:Option Nat} {op:Op} {ty:TypeId} {ps:String} {af:Array Edge} (x:AV) (f:Fp)
  (hq:QE P cf { dst:=d,op:=op,type:=ty,pos:=ps,after:=af,guard:=none } s x f) (hu:∀ y∈f.2.nu,y ∉ s.used) (hk:E.pt d x r f.2 s (ns++[fpN f])) :
  E.stp { dst:=d,op:=op,type:=ty,pos:=ps,after:=af,guard:=none } r s ns .no:=by
 rw [E.stp_eq]
 rw [E.pt_eq] at hk
 exact ⟨x,f,hq,hu,hk.1,hk.2⟩
theorem uw {d:Option Nat} {op:Op} {ty:TypeId} {ps:String} {af:Array Edge} {x:AV} {rd:List Name} (hnd:∀ c,op≠.defer c) (hd:∀ t∈d,t<cf.n)
  (h:∀ (B:Base) (s':St) (β:Name→Option Blk) (a:Act) (w:World),(∀ p∈rd,s'.hp p=s.hp p)→(∀ y∈op.operands,ev s' y=ev s y)→Sim B β s' a.tmps w →
   ∃ v,(execOp a.eval { dst:=d,op:=op,type:=ty,pos:=ps,after:=af,guard:=none }).run P w=.ok (.value v) w∧VR w.heap (s'.own B.A β) s'.used s'.hp β v x) :
  QE P cf { dst:=d,op:=op,type:=ty,pos:=ps,after:=af,guard:=none } s x (rd,ef0):=by
 intro s' _ hh he B hB ds β a w hds hs Q'
 obtain ⟨v,hrun,hv⟩:=h B s' β a w hh he hs
 refine az hnd hrun (.inl rfl) ⟨by cases d<;>exact hds,β,?_⟩
 rw [tK]
 exact hs.putd (fun t ht=>by rw [hB.1];exact hd t ht) hv
theorem Ig (s:St) (d:Option Nat) (x:AV):s.go d x ef0=s.dA d x:=qM s d x
theorem ku (s:St) (x:AV) (p:Name) (q:Option Ob):s.go none x ⟨[(p,q)],[]⟩=s.set p q:=by unfold St.go;rw [jS];rfl
variable {κ:Type} [DecidableEq κ] {ke:κ→D} {kv:κ→Value}
theorem iz {kt:TypeId} (K:fJ P kt ke kv) {H:Array Obj} {own:Nat→Prop} {used:List Nat} {hp:Name→Option Ob} {β:Name→Option Blk} {ks:List κ} {es:List (D × AV)} {ents:Array MapEntry} (hk:es.map (·.1)=ks.map ke) (hsz:ents.size=es.length)
  (h:∀ (i:Nat) (x:D × AV),es[i]?=some x→∃ en:MapEntry,ents[i]?=some en∧Rep H own en.key x.1∧VR H own used hp β en.val x.2):ents.toList.map (·.key)=ks.map kv:=by
 have hl:es.length=ks.length:=by simpa using congrArg List.length hk
 apply List.ext_getElem (by simp [hsz,hl])
 intro i h1 h2
 have hi:i<ks.length:=by simpa using h2
 obtain ⟨en,he,hr,_⟩:=h i (es[i]'(by omega)) (List.getElem?_eq_getElem (by omega))
 have hke:(es[i]'(by omega)).1=ke ks[i]:=by
  have:=congrArg (·[i]?) hk
  simp only [List.getElem?_map,List.getElem?_eq_getElem (show i<es.length by omega),List.getElem?_eq_getElem hi,Option.map_some,Option.some.injEq] at this
  exact this
 rw [hke] at hr
 have hie:i<ents.size:=by omega
 simp [hie] at he
 simp [he,K.val hr]
theorem wW {ents:Array MapEntry} (i:Nat) (f:MapEntry→MapEntry) (hf:∀ e,(f e).born=e.born):(ents.modify i f).toList.map (·.born)=ents.toList.map (·.born):=by
 refine List.ext_getElem? fun j=>?_
 rw [List.getElem?_map,List.getElem?_map,Array.getElem?_toList,Array.getElem?_toList,Array.getElem?_modify]
 split
 ·cases ents[j]? with
  | none=>rfl
  | some x=>simp [hf]
 ·rfl
end
end Go.Ab

namespace Go.Ab
def dk (h:Nat):Nat→List (Option (List D))→List (Name × Ob)
 | _,[]=>[]
 | i,none::r=>dk h (i+1) r
 | i,some ys::r=>([h,i],.arr none ys)::dk h (i+1) r
def eZ (h:Nat) (xs:List (Option (List D))) (r:List (Name × Ob)):List (Name × Ob):=dk h 0 xs++r
def vwL (h:Nat):Nat→List (Option (List D))→List AV
 | _,[]=>[]
 | i,none::r=>.un::vwL h (i+1) r
 | i,some ys::r=>.vw [h,i] 0 ys.length::vwL h (i+1) r
def Ic (h:Nat) (xs:List (Option (List D))):Name→Option (List D)
 | [a,i]=>if a=h then (xs.getD i none) else none
 | _=>none
theorem Fh (h:Nat) (xs:List (Option (List D))) (a:Nat):Ic h xs [a]=none:=rfl
theorem cF (h:Nat):∀ (xs:List (Option (List D))) (i:Nat) (q:Name × Ob),q∈dk h i xs↔∃ j ys,xs[j]?=some (some ys)∧q=([h,i+j],.arr none ys)
 | [],i,q=>by simp [dk]
 | none::r,i,q=>by
   rw [dk,cF h r]
   constructor
   ·rintro ⟨j,ys,h1,rfl⟩
    exact ⟨j+1,ys,by simpa using h1,by rw [show i+1+j=i+(j+1) by omega]⟩
   ·rintro ⟨j,ys,h1,rfl⟩
    cases j with
    | zero=>simp at h1
    | succ j=>exact ⟨j,ys,by simpa using h1,by rw [show i+1+j=i+(j+1) by omega]⟩
 | some zs::r,i,q=>by
   rw [dk,List.mem_cons,cF h r]
   constructor
   ·rintro (rfl | ⟨j,ys,h1,rfl⟩)
    ·exact ⟨0,zs,rfl,rfl⟩
    ·exact ⟨j+1,ys,by simpa using h1,by rw [show i+1+j=i+(j+1) by omega]⟩
   ·rintro ⟨j,ys,h1,rfl⟩
    cases j with
    | zero=>simp at h1;subst h1;exact .inl rfl
    | succ j=>exact .inr ⟨j,ys,by simpa using h1,by rw [show i+1+j=i+(j+1) by omega]⟩
theorem cw (h:Nat):∀ (xs:List (Option (List D))) (i:Nat),(vwL h i xs).length=xs.length
 | [],_=>rfl
 | none::r,i=>by simp [vwL,cw h r]
 | some _::r,i=>by simp [vwL,cw h r]
theorem eQ (h:Nat):∀ (xs:List (Option (List D))) (i j:Nat),(vwL h i xs)[j]?=(xs[j]?).map fun o=>match o with
  | some ys=>.vw [h,i+j] 0 ys.length
  | none=>.un
 | [],i,j=>by simp [vwL]
 | none::r,i,0=>by simp [vwL]
 | some _::r,i,0=>by simp [vwL]
 | none::r,i,j+1=>by
   rw [vwL,List.getElem?_cons_succ,List.getElem?_cons_succ,eQ h r,show i+1+j=i+(j+1) by omega]
 | some _::r,i,j+1=>by
   rw [vwL,List.getElem?_cons_succ,List.getElem?_cons_succ,eQ h r,show i+1+j=i+(j+1) by omega]
theorem mg (h a:Nat) (t:Name) (hn:(a == h)=false):∀ (xs:List (Option (List D))) (i:Nat) (r:List (Name × Ob)),lkA none ((dk h i xs++r).map fun q=>(q.1,some q.2)) (a::t)=lkA none (r.map fun q=>(q.1,some q.2)) (a::t)
 | [],i,r=>rfl
 | none::xs,i,r=>by rw [dk,mg h a t hn xs]
 | some _::xs,i,r=>by
   have:a≠h:=by simpa using hn
   rw [dk,List.cons_append,List.map_cons,lkA,if_neg (by simp [this]),mg h a t hn xs]
theorem kP (h a:Nat) (t:Name) (o:Ob) (hn:(a == h)=false):∀ (xs:List (Option (List D))) (i:Nat) (r:List (Name × Ob)),fY (dk h i xs++r) (a::t) o=dk h i xs++fY r (a::t) o
 | [],i,r=>rfl
 | none::xs,i,r=>by rw [dk,kP h a t o hn xs]
 | some _::xs,i,r=>by
   have:a≠h:=by simpa using hn
   rw [dk,List.cons_append,fY,if_neg (by simp [this]),kP h a t o hn xs,List.cons_append]
theorem kT (h a:Nat) (t:Name) (hn:(a == h)=false):∀ (xs:List (Option (List D))) (i:Nat) (r:List (Name × Ob)),eX (dk h i xs++r) (a::t)=dk h i xs++eX r (a::t)
 | [],i,r=>rfl
 | none::xs,i,r=>by rw [dk,kT h a t hn xs]
 | some _::xs,i,r=>by
   have:a≠h:=by simpa using hn
   rw [dk,List.cons_append,eX,if_neg (by simp [this]),kT h a t hn xs,List.cons_append]
theorem wi (h a:Nat) (t:Name) (xs:List (Option (List D))) (r:List (Name × Ob)) (hn:(a == h)=false):lkA none ((eZ h xs r).map fun q=>(q.1,some q.2)) (a::t)=lkA none (r.map fun q=>(q.1,some q.2)) (a::t):=mg h a t hn xs 0 r
theorem AN (h a:Nat) (t:Name) (o:Ob) (xs:List (Option (List D))) (r:List (Name × Ob)) (hn:(a == h)=false):fY (eZ h xs r) (a::t) o=eZ h xs (fY r (a::t) o):=kP h a t o hn xs 0 r
theorem zi (h a:Nat) (t:Name) (xs:List (Option (List D))) (r:List (Name × Ob)) (hn:(a == h)=false):eX (eZ h xs r) (a::t)=eZ h xs (eX r (a::t)):=kT h a t hn xs 0 r
attribute [go_sem] wi AN zi ku Ig Nat.reduceBEq Nat.beq_eq_true_eq Fh
section
variable {U:List Nat} {τ:Name→Name} {s:St} {u:List Nat} {h:Nat} {xs:List (Option (List D))} {r:List (Name × Ob)}
theorem qy:∀ {a b:List (Name × Ob)},hpL τ u s a→hpL τ u s b→hpL τ u s (a++b)
 | [],_,_,hb=>hb
 | _::_,_,ha,hb=>⟨ha.1,qy ha.2 hb⟩
theorem yS:∀ {a:List (Name × Ob)},(∀ q∈a,s.hp (τ q.1)=some (q.2.ren τ)∧q.2.inU u=true∧nmb u q.1=true)→hpL τ u s a
 | [],_=>trivial
 | q::_,h=>⟨h q List.mem_cons_self,yS fun x hx=>h x (List.mem_cons_of_mem _ hx)⟩
theorem kp:∀ {a b:List (Name × Ob)},gP U τ a→gP U τ b→gP U τ (a++b)
 | [],_,_,hb=>hb
 | _::_,_,ha,hb=>⟨ha.1,kp ha.2 hb⟩
theorem kl:∀ {a:List (Name × Ob)},(∀ q∈a,nmb U q.1=true→τ q.1=q.1)→gP U τ a
 | [],_=>trivial
 | q::_,h=>⟨h q List.mem_cons_self,kl fun x hx=>h x (List.mem_cons_of_mem _ hx)⟩
theorem wj (hu:u.contains h=true) (hf:∀ i ys,xs[i]?=some (some ys)→s.hp (τ [h,i])=some (.arr none ys)) (hr:hpL τ u s r):hpL τ u s (eZ h xs r):=by
 refine qy (yS fun q hq=>?_) hr
 obtain ⟨j,ys,h1,rfl⟩:=(cF h xs 0 q).1 hq
 rw [Nat.zero_add]
 exact ⟨hf j ys h1,rfl,hu⟩
theorem xx (hU:U.contains h=false) (hr:gP U τ r):gP U τ (eZ h xs r):=by
 refine kp (kl fun q hq hn=>?_) hr
 obtain ⟨j,ys,h1,rfl⟩:=(cF h xs 0 q).1 hq
 have:U.contains h=true:=hn
 rw [hU] at this
 cases this
theorem hI {fr:List (Nat × AV)} {i:Nat} {ys:List D} (hi:xs[i]?=some (some ys)):(mk fr (eZ h xs r) u).hp [h,i]=some (.arr none ys):=by
 rw [Ae]
 have go:∀ (xs:List (Option (List D))) (m i:Nat),xs[i]?=some (some ys)→lkA none ((dk h m xs++r).map fun q=>(q.1,some q.2)) [h,m+i]=some (.arr none ys):=by
  intro xs
  induction xs with
  | nil=>intro m i hi;simp at hi
  | cons o xs ih =>
    intro m i hi
    cases i with
    | zero =>
      simp at hi
      subst hi
      rw [dk,List.cons_append,List.map_cons,lkA,if_pos (by simp)]
    | succ i =>
      have hi':xs[i]?=some (some ys):=by simpa using hi
      have:=ih (m+1) i hi'
      rw [show m+1+i=m+(i+1) by omega] at this
      cases o with
      | none=>exact this
      | some zs =>
        rw [dk,List.cons_append,List.map_cons,lkA,if_neg (by simp),this]
 have:=go xs 0 i hi
 rwa [Nat.zero_add] at this
theorem DQ {fr:List (Nat × AV)} {g:Nat} {ws:List (Option (List D))} {i:Nat} {ys:List D} (hg:g≠h) (hi:xs[i]?=some (some ys)):(mk fr (eZ g ws (eZ h xs r)) u).hp [h,i]=some (.arr none ys):=by
 rw [Ae,wi g h [i] ws _ (by simpa using Ne.symm hg)]
 exact hI (fr:=fr) (u:=u) hi
end
section
variable {P:Program} {cf:Cf} {Q:Exit→St→Prop} {s:St} {k:List It}
theorem ix (E:Eng P cf Q) {c:Code} {τ:Name→Name} {s2:St} (hle:Le cf.U τ s s2) (h:cV E c s2 k):cV E c s k:=by
 intro B hB ds β a w hds hs
 obtain ⟨β2,hs2,_⟩:=hs.le (τ:=τ) (by rw [hB.2.1];exact hle)
 exact h B hB ds β2 a w hds hs2
theorem C5 {B:Base} {β:Name→Option Blk} {s:St} {tm:Array Value} {w:World} (h:Sim B β s tm w) {t:Nat} (ht:t ∉ s.used):∃ β',Sim B β' (s.add t (.mapA 0 [] [])) tm (w.alloc (.map #[] 0))∧β' [t]=some ⟨w.heap.size,0,0⟩:=by
 obtain ⟨hsim,_⟩:=h.alloc ht (.map #[] 0) (.mapA 0 [] []) 0 (fun β' hβ _=>⟨_,#[],hβ,by show (w.heap.push _)[w.heap.size]?=_;rw [Array.getElem?_push_size],⟨rfl,by simp [Borns],rfl⟩,fun i x hi=>by simp at hi⟩)
 exact ⟨_,hsim,by simp [ax]⟩
theorem tD {t0 d:Nat} {ty:TypeId} {ps:String} {af:Array Edge} (hd:d<cf.n∧d ∉ s.used) :
  QE P cf { dst:=some d,op:=.makeMap t0 none,type:=ty,pos:=ps,after:=af,guard:=none } s (.ma [d]) ([],⟨[([d],some (.mapA 0 [] []))],[d]⟩):=by
 intro s' hu _ _ B hB ds β a w hds hs Q'
 have hrun:(execOp a.eval { dst:=some d,op:=.makeMap t0 none,type:=ty,pos:=ps,after:=af,guard:=none }).run P w=.ok (.value (.map (some w.heap.size))) (w.alloc (.map #[] 0)):=by
  simp only [execOp,Instr.makeMap]
  rfl
 obtain ⟨β',hsim,hb⟩:=C5 hs (t:=d) (hu d (by simp))
 refine az (by simp) hrun (.inl rfl) ⟨hds,β',?_⟩
 have e:s'.go (some d) (.ma [d]) ⟨[([d],some (.mapA 0 [] []))],[d]⟩=(s'.add d (.mapA 0 [] [])).put d (.ma [d]):=by unfold St.go;rw [j5];rfl
 rw [e]
 exact hsim.put (by rw [hB.1];exact hd.1) (.ma _ _ ⟨d,[],rfl,List.mem_cons_self⟩ rfl fun _ _ _ _=>⟨_,hb,rfl⟩)
theorem oM (s:St) (t:Nat) (x:AV) (u:Nat) (ob:Ob):s.go (some t) x ⟨[([u],some ob)],[u]⟩=(s.add u ob).put t x:=by unfold St.go;rw [j5];rfl
attribute [go_sem] oM
end
end Go.Ab

namespace Go.Ab
section
variable {P:Program} {cf:Cf} {Q:Exit→St→Prop} {s:St} {k:List It}
theorem tE {t e d:Nat} {x:Operand} {ty:TypeId} {ps:String} {af:Array Edge} (hk:(P.ti t).k=.slice e) (hd:d<cf.n) (hx:ev s x=.d .nils) :
  QE P cf { dst:=some d,op:=.call { callee:=.builtin .cap,args:=#[x],argTypes:=#[t] },type:=ty,pos:=ps,after:=af,guard:=none } s (.d (.int .i64 0)) ([],ef0):=by
 refine uw (by simp) (fun t' ht=>by cases ht;exact hd) fun B s' β a w hh he hs=>?_
 have hv:=hs.ev x
 rw [he x (by simp [Op.operands,Call.operands]),hx] at hv
 have hv:=hv.nils
 exact ⟨.int .i64 0,by simp [execOp,resolve,invoke,builtin,hv,Builtin.cap_,run_underlying (aW hk),goInt],.d _ _ (.int _ _)⟩
set_option maxRecDepth 100000 in
theorem Gb {t ti e d n:Nat} {kk:IntKind} {x y:Operand} {ty:TypeId} {ps:String} {af:Array Edge} (z:D) (hk:(P.ti t).k=.slice e) (hti:(P.ti ti).k=.int kk) (hez:(P.ti e).z=some [z]) (hw:(P.ti e).isW none=true) (hd:d<cf.n∧d ∉ s.used)
  (hx:ev s x=.d .nils) (hy:ev s y=.d (.int .i64 n)) (hn:0<n) (hb:n*(P.ti e).by1≤140737488355328) :
  QE P cf { dst:=some d,op:=.call { callee:=.builtin .append,args:=#[x,y],argTypes:=#[t,ti] },type:=ty,pos:=ps,after:=af,guard:=none } s (.vw [d] 0 n) ([],⟨[([d],some (.arr none (List.replicate n z)))],[d]⟩):=by
 intro s' hu' hh he' B hB ds β a w hds hs Q'
 have hud:d ∉ s'.used:=hu' d (by simp)
 have hxv:=hs.ev x
 rw [he' x (by simp [Op.operands,Call.operands]),hx] at hxv
 have hxv:=hxv.nils
 have hyv:=hs.ev y
 rw [he' y (by simp [Op.operands,Call.operands]),hy] at hyv
 have hyv:=hyv.int
 obtain ⟨hg,hwd,hwf⟩:=bm hw
 obtain ⟨zv,hr0,hm,it,hi,hiz,his,hib⟩:=b0 hez
 obtain ⟨m1,m2,m3,m4⟩:=dU (H:=w.heap) (own:=s'.own B.A β) hm
 have hund:=aW hk
 have hb2:n*it.bytes≤140737488355328∧n≤140737488355328:=by
  unfold TI.by1 at hb
  rw [hib]
  split at hb
  ·rename_i h0;rw [h0];simp at hb ⊢;omega
  ·exact ⟨hb,Nat.le_trans (Nat.le_mul_of_pos_right _ (by omega)) hb⟩
 have hs1:it.size=1:=by rw [his,← hwd];rfl
 have hfits:Builtin.nextslicecap n 0*it.bytes≤281474976710656:=growslice_fits (old:=0) hn hb2.1
 have hwr:IntKind.i64.wrap (n:Int)=n:=by
  rw [show IntKind.i64.wrap (n:Int)=w64 n from rfl,ab ⟨by omega,by omega⟩]
 obtain ⟨zc,hzc⟩:∃ zc,Builtin.zeroCells zv.cells n++Builtin.zeroCells zv.cells (grownCap w n 0 e-n)=zc:=⟨_,rfl⟩
 have hrun:(execOp a.eval { dst:=some d,op:=.call { callee:=.builtin .append,args:=#[x,y],argTypes:=#[t,ti] },type:=ty,pos:=ps,after:=af,guard:=none }).run P w=.ok (.value (.slice (some ⟨w.heap.size,0,none⟩) n (grownCap w n 0 e))) (w.drew.alloc (.cells zc e)):=by
  have h1:¬ ((n:Int)<0):=by omega
  have h2:¬ (281474976710656<(n:Int)*(it.bytes:Int)):=by
   have:((n*it.bytes:Nat):Int)≤((140737488355328:Nat):Int):=Int.ofNat_le.2 hb2.1
   rw [Int.natCast_mul] at this;omega
  have h3:¬ n=0:=by omega
  have h4:¬ ((9223372036854775807:Int)<(n:Int)):=by omega
  have h5:¬ (281474976710656<Builtin.nextslicecap n 0*it.bytes):=by omega
  have h6:¬ n≤0:=by omega
  subst hzc
  have hz1:(underlying ti).run P w=.ok (.int kk) w:=run_underlying (e8 hti) w
  have hap:(Builtin.append_ #[t,ti] ty #[.slice none 0 0,.int .i64 n]).run P w=.ok (.slice (some ⟨w.heap.size,0,none⟩) n (grownCap w n 0 e)) (w.drew.alloc (.cells (Builtin.zeroCells zv.cells n++Builtin.zeroCells zv.cells (grownCap w n 0 e-n)) e)):=by
   unfold Builtin.append_
   simp [run_underlying hund,run_underlying (e8 hti),sizeOf,typeInfo,hi,hs1,asInt,asIntOf,hwr,h1,h2,h3,h4,h5,h6,zeroValue,hiz,Builtin.firstCells,Question.forced,newRow,grownCap]
  simp [execOp,resolve,invoke,builtin,hxv,hyv,hap]
 have hzs:zv.cells.size=1:=by simpa using m1.symm
 have hcap:n≤grownCap w n 0 e:=by simpa using grownCap_ge w n 0 e
 have hzcs:zc.size=grownCap w n 0 e:=by
  rw [← hzc]
  simp only [Array.size_append,size_zeroCells,hzs];omega
 obtain ⟨u,hu,hrep⟩:=m4 0 z rfl
 have hzd:∀ i,i<n→zc.getD i undef=u:=by
  intro i hi'
  have hu0:zv.cells[0]?=some u:=by simpa using hu
  have hu1:zv.cells[0]'(by omega)=u:=(Array.getElem?_eq_some_iff.1 hu0).2
  rw [← hzc]
  have h7:i<n*zv.cells.size:=by rw [hzs];omega
  simp [Array.getD_eq_getD_getElem?,Array.getElem?_append,Builtin.zeroCells,hzs,hi',Nat.mod_one,hu1]
 have hrow:∀ i x j d',(List.replicate n z)[i]?=some x→x.cells[j]?=some d'→Rep w.heap (s'.own B.A β) (zc.getD (i*wd none+j) undef) d':=by
  intro i x j d' hi' hj
  obtain rfl:x=z:=List.eq_of_mem_replicate (List.mem_of_getElem? hi')
  have hil:i<n:=by have:=(List.getElem?_eq_some_iff.1 hi').1;simpa using this
  have hc:x.cells=[x]:=by have:=m2 x (by simp);cases x<;>first | rfl | simp [D.scal] at this
  rw [hc] at hj
  cases j with
  | zero =>
    simp at hj
    subst hj
    rw [show i*wd none+0=i from by simp [wd],hzd i hil]
    exact hrep
  | succ j=>simp at hj
 obtain ⟨β',hs2⟩:=cz (hs.gb (w':=w.drew) rfl rfl) (by rw [hB.1];exact hd.1) hud (c:=zc) (wf:=none) (xs:=List.replicate n z) (cap:=grownCap w n 0 e) (by simpa using hcap) (by rw [hzcs];simp [wd])
  (fun x hx=>by rw [List.eq_of_mem_replicate hx];exact m2 z (by simp)) hrow e none rfl
 refine az (by simp) hrun (.inl rfl) ⟨hds,β',?_⟩
 rw [oM]
 rw [List.length_replicate] at hs2
 exact hs2
def clA:List AV→Option (List D)
 | []=>some []
 | .d x::r=>(clA r).map (x::·)
 | .clo g cs::r=>match fo cs with
   | some ds=>(clA r).map (.clo g ds::·)
   | none=>none
 | _::_=>none
theorem vY:∀ {l:List AV} {ds:List D},clA l=some ds→l.length=ds.length∧∀ (i:Nat) y,ds[i]?=some y→∃ x,l[i]?=some x∧(x=.d y∨∃ g cs es,x=.clo g cs∧fo cs=some es∧y=.clo g es)
 | [],ds,h=>by
   simp only [clA,Option.some.injEq] at h
   subst h
   exact ⟨rfl,fun i y hi=>by simp at hi⟩
 | x::r,ds,h=>by
   have key:∀ z:D,(x=.d z∨∃ g cs es,x=.clo g cs∧fo cs=some es∧z=.clo g es)→(clA r).map (z::·)=some ds→(x::r).length=ds.length∧∀ (i:Nat) y,ds[i]?=some y→∃ u,(x::r)[i]?=some u∧(u=.d y∨∃ g cs es,u=.clo g cs∧fo cs=some es∧y=.clo g es):=by
    intro z hz h
    obtain ⟨es,h1,rfl⟩:=Option.map_eq_some_iff.1 h
    obtain ⟨h2,h3⟩:=vY h1
    refine ⟨by simp [h2],fun i y hi=>?_⟩
    cases i with
    | zero=>simp at hi;subst hi;exact ⟨x,rfl,hz⟩
    | succ i=>simpa using h3 i y (by simpa using hi)
   cases x with
   | d z=>exact key z (.inl rfl) h
   | clo g cs =>
     unfold clA at h
     split at h
     ·rename_i es he
      exact key _ (.inr ⟨g,cs,es,rfl,he,rfl⟩) h
     ·cases h
   | _=>cases h
theorem rn {s:St} {k:List It} {Q:Exit→St→Prop} {dst:Option Nat} {fv:Operand} {args:Array Operand} {at':Array TypeId} {ty:TypeId} {pos:String} {af:Array Edge} {g:Option (Nat × Bool)}
  {f:FuncId} {caps:List AV} {ds:List D} {Q0:AV→Prop} (hc:HP P cf.G f ds Q0)
  (hev:ev s fv=.clo f caps) (hargs:clA (args.toList.map (ev s)++caps)=some ds) (hdst:∀ t∈dst,t<cf.n) (hk:∀ r,Q0 r→run P cf k Q (s.dA dst r)) :
  AOk P cf { dst:=dst,op:=.call { callee:=.value fv,args:=args,argTypes:=at' },type:=ty,pos:=pos,after:=af,guard:=g } s k Q:=by
 intro B hB ds' β a w hds h Q'
 refine ⟨fun _ _=>trivial,?_⟩
 obtain ⟨d,hd⟩:=kD s.used
 have hf:=h.ev fv
 rw [hev] at hf
 generalize hfv:a.eval fv=fval at hf
 cases hf with
 | clo _ cvs _ hcs hcv =>
 have hrun:∀ vs,vs=(args.toList.map a.eval).toArray++cvs→(execOp a.eval { dst:=dst,op:=.call { callee:=.value fv,args:=args,argTypes:=at' },type:=ty,pos:=pos,after:=af,guard:=g }).run P w=.ok (.enter f vs) w:=by
  intro vs hvs
  have e:(execOp a.eval { dst:=dst,op:=.call { callee:=.value fv,args:=args,argTypes:=at' },type:=ty,pos:=pos,after:=af,guard:=g }:Sem Next)=callFunc f (#[]++args.map a.eval++cvs):=by
   show (do let d ← (Deferred.ofValue (a.eval fv) (args.map a.eval));invoke d.target d.args:Sem Next)=_
   rw [hfv];rfl
  rw [e,← hc.1 vs w,hvs]
  congr 2
  apply Array.ext'
  simp
 rw [Oper.semAt_eq _ _ _ (by simp),hrun _ rfl,Oper.uponIn_enter]
 refine ⟨fun hdep=>by simp [il] at hdep,?_⟩
 obtain ⟨hlen0,hget⟩:=vY hargs
 have hlen:(ds.map AV.d).length=args.size+caps.length:=by
  rw [List.length_map,← hlen0]
  simp
 have hvs:((args.toList.map a.eval).toArray++cvs).size=(ds.map AV.d).length:=by simp [hcs] at hlen ⊢;omega
 have hv:∀ (i:Nat) x,(ds.map AV.d)[i]?=some x→VR w.heap (s.own B.A β) s.used s.hp β (((args.toList.map a.eval).toArray++cvs).getD i undef) (x.ren id):=by
  intro i x hi
  rw [AV.cZ id (fun _=>rfl)]
  rw [List.getElem?_map,Option.map_eq_some_iff] at hi
  obtain ⟨y,hy,rfl⟩:=hi
  obtain ⟨z,hz,hzy⟩:=hget i y hy
  have key:VR w.heap (s.own B.A β) s.used s.hp β (((args.toList.map a.eval).toArray++cvs).getD i undef) z:=by
   by_cases hlt:i<args.size
   ·have hx':(args.toList.map (ev s))[i]?=some z:=by rw [← hz,List.getElem?_append_left (by simpa using hlt)]
    have:=ej h args.toList i _ hx'
    rw [show ((args.toList.map a.eval).toArray++cvs).getD i undef=(args.toList.map a.eval).toArray.getD i undef by simp [Array.getD_eq_getD_getElem?,Array.getElem?_append,hlt]]
    exact this
   ·have hx':caps[i-args.size]?=some z:=by rw [← hz,List.getElem?_append_right (by simpa using Nat.le_of_not_lt hlt)];simp
    have:=hcv _ _ hx'
    rw [show ((args.toList.map a.eval).toArray++cvs).getD i undef=cvs.getD (i-args.size) undef by simp [Array.getD_eq_getD_getElem?,Array.getElem?_append,hlt]]
    exact this
  generalize ((args.toList.map a.eval).toArray++cvs).getD i undef=v at key
  rcases hzy with rfl | ⟨g,cs,es,rfl,he,rfl⟩
  ·exact key
  ·have e:=iT he
   subst e
   cases key with
   | clo _ vs' _ hs hc=>exact .d _ _ (.clo _ _ _ (by simpa using hs) (fun i d hd=>(hc i (.d d) (by simp [hd])).toD))
 have hcall:=np (P:=P) h (σ:=id) (d:=d) hd (chp:=[]) (cu:=[]) trivial trivial (mB _ _) hvs hv (by rw [hB.2.2];exact hc)
 have hcall':CallsIn (Fw cf.ro) (0-1) P f ((args.toList.map a.eval).toArray++cvs) w _:=hcall
 refine hcall'.mono ?_
 rintro e w' ⟨v,rfl,r,hp',⟨hQ,hru,rfl⟩,hl⟩
 obtain ⟨β2,hs2,hv2⟩:=hl trivial
 rw [AV.jU _ r hru] at hv2
 have hru':=AV.jN s.used r hru
 refine ⟨by cases dst<;>exact hds,s.dA dst r,?_⟩
 cases dst with
 | none =>
   obtain ⟨β3,h3⟩:=h.unuse hs2 rfl (t0:=0) (x0:=s.fr 0) (fun _=>.inr rfl) rfl (h.slots 0).inU
   exact ⟨β3,aV (hk r hQ),h3⟩
 | some t =>
   have h2:=hs2.put (t:=t) (by rw [hB.1];exact hdst t rfl) hv2
   obtain ⟨β3,h3⟩:=h.unuse h2 rfl (t0:=t) (x0:=r) (fun u=>by
    by_cases e:u=t
    ·exact .inl e
    ·exact .inr (by show bS _ _ _ _=_;simp [bS,e])) (by show bS _ _ _ _=_;simp [bS]) hru'
   exact ⟨β3,aV (hk r hQ),h3⟩
theorem iC (E:Eng P cf Q) {dst:Option Nat} {fv:Operand} {args:Array Operand} {at':Array TypeId} {ty:TypeId} {pos:String} {af:Array Edge}
  {f:FuncId} {caps:List AV} {ds:List D} {Q0:AV→Prop} (hc:HP P cf.G f ds Q0)
  (hev:ev s fv=.clo f caps) (hargs:clA (args.toList.map (ev s)++caps)=some ds) (hdst:∀ t∈dst,t<cf.n) (hk:∀ r,Q0 r→E.run k (s.dA dst r)) :
  E.stp { dst:=dst,op:=.call { callee:=.value fv,args:=args,argTypes:=at' },type:=ty,pos:=pos,after:=af,guard:=none } s k .no:=by
 rw [E.stp_eq,pn]
 exact rn hc hev hargs hdst fun r hr=>by rw [← E.run_eq];exact hk r hr
theorem Cp {ops:Array Oper} {K:St→Ns→Prop} {r:List Oper} {ns:Ns} (E:XEng P cf ops K) {dst:Option Nat} {fv:Operand} {args:Array Operand} {at':Array TypeId} {ty:TypeId} {pos:String} {af:Array Edge} {g:Option (Nat × Bool)}
  {f:FuncId} {caps:List AV} {ds:List D} {x:AV} (hc:HP P cf.G f ds (fun r=>r=x))
  (hev:ev s fv=.clo f caps) (hargs:clA (args.toList.map (ev s)++caps)=some ds) (hdst:∀ t∈dst,t<cf.n) (hk:E.run r (s.dA dst x) (ns++[([],[],[])])) :
  E.stp { dst:=dst,op:=.call { callee:=.value fv,args:=args,argTypes:=at' },type:=ty,pos:=pos,after:=af,guard:=g } r s ns .no:=by
 refine eW E [] hdst (fun s' _ he=>?_) hk
 have hm:∀ y,y=fv∨y∈args→ev s' y=ev s y:=fun y hy=>he y (by
  simp only [Op.operands,Call.operands]
  rcases hy with rfl | hy<;>simp_all)
 exact rn (k:=[]) (Q:=fun _ s2=>s2=s'.dA dst x) hc ((hm fv (.inl rfl)).trans hev)
  (by rw [ni (s:=s) (s':=s') fun y hy=>hm y (.inr (by simpa using hy))];exact hargs) hdst (fun r hr=>by subst hr;rw [bG])
attribute [go_sem] clA
end
end Go.Ab

namespace Go.Ab
section
variable {P:Program} {κ:Type} [DecidableEq κ]
end
section
variable {P:Program}
abbrev KIS:=Int × List UInt8
abbrev KISI:=KIS × Int
end
section
variable {P:Program} {cf:Cf} {s:St} {κ:Type} [DecidableEq κ] {ke:κ→D} {kv:κ→Value}
end
end Go.Ab

namespace Go.Ab
def AV.frS (g:Name→Option (W × List D)):AV→AV
 | .vw q o l=>match g q with
   | some x=>.d (.sl x.1 ((x.2.drop o).take l))
   | none=>.vw q o l
 | x=>x
def Ob.frS (g:Name→Option (W × List D)):Ob→Ob
 | .arrA xs=>.arrA (xs.map (AV.frS g))
 | .mapA clk bs es=>.mapA clk bs (es.map fun x=>(x.1,x.2.frS g))
 | o=>o
def St.frS (s:St) (g:Name→Option (W × List D)):St:={ fr:=s.fr,hp:=fun q=>match g q with | some _=>none | none=>(s.hp q).map (Ob.frS g),used:=s.used }
theorem Ob.AD (g:Name→Option (W × List D)) (o:Ob):o.like (o.frS g):=by
 cases o<;>simp [Ob.frS,Ob.like]
section
variable {B:Base} {β:Name→Option Blk} {s:St} {tm:Array Value} {w:World}
theorem Sim.frS (h:Sim B β s tm w) (g:Name→Option (W × List D)) (hg:∀ q x,g q=some x→s.hp q=some (.arr x.1 x.2)):Sim B β (s.frS g) tm w:=by
 have hsub:∀ q o',(s.frS g).hp q=some o'→g q=none∧∃ o,s.hp q=some o∧o'=o.frS g:=by
  intro q o' ho
  simp only [St.frS] at ho
  split at ho
  ·cases ho
  ·rename_i e
   obtain ⟨o,h1,h2⟩:=Option.map_eq_some_iff.1 ho
   exact ⟨e,o,h1,h2.symm⟩
 have hne:∀ q,(s.frS g).hp q≠none→s.hp q≠none∧g q=none:=by
  intro q hq
  cases ho:(s.frS g).hp q with
  | none=>exact absurd ho hq
  | some o' =>
    obtain ⟨e,o,h1,_⟩:=hsub q o' ho
    exact ⟨by rw [h1];simp,e⟩
 have hr:∀ v d',Rep w.heap (s.own B.A β) v d'→Rep w.heap ((s.frS g).own B.A β) v d':=fun v d' hd=>hd.mono (fun _ _ _=>rfl) (by
  rintro b _ (hA | ⟨q,k,hq,hk,e⟩)
  ·exact .inl hA
  ·exact .inr ⟨q,k,(hne q hq).1,hk,e⟩)
 have hst:∀ q,nm s.used q→Stays s.hp (s.frS g).hp β β q:=fun q _ o' ho'=>by
  obtain ⟨_,o,h1,rfl⟩:=hsub q o' ho'
  exact ⟨o,h1,Ob.AD g o,rfl⟩
 have hno:∀ p x,g p=some x→∀ k,β p=some k→¬ (s.frS g).own B.A β k.b:=by
  intro p x hgp k hk hown
  have hp:=hg p x hgp
  rcases hown with hA | ⟨q,k',hq,hk',e⟩
  ·exact (h.blocks p k (by rw [hp];simp) hk).2.1 hA
  ·have e2:=h.inj q p k' k (hne q hq).1 (by rw [hp];simp) hk' hk e
   have:=(hne q hq).2
   rw [e2,hgp] at this
   cases this
 have hv1:∀ {v:Value} {x:AV},VR w.heap (s.own B.A β) s.used s.hp β v x→VR w.heap ((s.frS g).own B.A β) s.used (s.frS g).hp β v x:=fun hv=>hv.mono hr (fun _ h=>h) hst
 have hv2:∀ {v:Value} {x:AV},VR w.heap (s.own B.A β) s.used s.hp β v x→VR w.heap ((s.frS g).own B.A β) s.used (s.frS g).hp β v (x.frS g):=by
  intro v x hv
  cases x with
  | vw q o l =>
    cases hgq:g q with
    | none=>simp only [AV.frS,hgq];exact hv1 hv
    | some y =>
      have:=VR.frz (p:=q) (w:=y.1) (xs:=y.2) hr hst (hg q y hgq) (h.objs q _ (hg q y hgq)).2 (hno q y hgq) hv
      simpa [AV.frS,hgq,AV.frz] using this
  | _=>exact hv1 hv
 refine { tms:=h.tms,io:=h.io,size:=h.size,frame:=h.frame,slots:=fun i=>hv1 (h.slots i),objs:=fun q o' ho'=>?_,blocks:=fun q k hq hk=>h.blocks q k (hne q hq).1 hk,inj:=fun q q' k k' hq hq'=>h.inj q q' k k' (hne q hq).1 (hne q' hq').1,us:=h.us,stay:=h.stay }
 obtain ⟨_,o,h1,rfl⟩:=hsub q o' ho'
 obtain ⟨g1,g2⟩:=h.objs q o h1
 refine ⟨g1,?_⟩
 cases o with
 | arrA xs =>
   rcases g2 with ⟨a1,rfl⟩ | ⟨k,c,e,a1,a2,a3,a4,a5,a6⟩
   ·exact .inl ⟨a1,rfl⟩
   ·refine .inr ⟨k,c,e,a1,a2,a3,by simpa using a4,by simpa using a5,fun j x hj=>?_⟩
    rw [List.getElem?_map,Option.map_eq_some_iff] at hj
    obtain ⟨y,hy,rfl⟩:=hj
    exact hv2 (a6 j y hy)
 | mapA clk bs es =>
   obtain ⟨k,ents,a1,a2,a3,a4⟩:=g2
   refine ⟨k,ents,a1,a2,by simpa using a3,fun j x hj=>?_⟩
   rw [List.getElem?_map,Option.map_eq_some_iff] at hj
   obtain ⟨y,hy,rfl⟩:=hj
   obtain ⟨en,b1,b2,b3⟩:=a4 j y hy
   exact ⟨en,b1,hr _ _ b2,hv2 b3⟩
 | _=>exact g2.mono hr (fun _ h=>h) hst rfl fun _ _=>rfl
end
section
variable {P:Program} {cf:Cf} {s:St}
end
end Go.Ab

namespace Go.Ab
def gw (zs:List D) (off len:Nat) (z:D):List D:=zs.take off++(List.replicate len z++zs.drop (off+len))
theorem j4 {zs:List D} {off len:Nat} {z:D} (h:off+len≤zs.length):(gw zs off len z).length=zs.length:=by
 unfold gw
 simp only [List.length_append,List.length_take,List.length_drop,List.length_replicate]
 omega
theorem zf {zs:List D} {off len:Nat} {z:D} (h:off+len≤zs.length) (i:Nat):(gw zs off len z)[i]?=if i<off then zs[i]? else if i<off+len then some z else zs[i]?:=by
 unfold gw
 by_cases c1:i<off
 ·rw [if_pos c1,List.getElem?_append_left (by simp;omega),List.getElem?_take_of_lt c1]
 rw [if_neg c1,List.getElem?_append_right (by simp;omega),List.length_take,Nat.min_eq_left (by omega)]
 by_cases c2:i<off+len
 ·rw [if_pos c2,List.getElem?_append_left (by simp;omega),List.getElem?_replicate,if_pos (by omega)]
 ·rw [if_neg c2,List.getElem?_append_right (by simp;omega),List.length_replicate,List.getElem?_drop]
  congr 1;omega
theorem BZ {c1:Array Value} {q m:Nat} {u:Value} (hq:q+m≤c1.size) (i:Nat):(c1.toList.take q++List.replicate m u++c1.toList.drop (q+m)).toArray.getD i undef=if i<q then c1.getD i undef else if i<q+m then u else c1.getD i undef:=by
 rw [Array.getD_eq_getD_getElem?,List.getElem?_toArray]
 by_cases h1:i<q
 ·rw [if_pos h1,List.append_assoc,List.getElem?_append_left (by simp;omega),List.getElem?_take_of_lt h1]
  simp [Array.getD_eq_getD_getElem?]
 rw [if_neg h1]
 by_cases h2:i<q+m
 ·rw [if_pos h2,List.getElem?_append_left (by rw [List.length_append,List.length_replicate,List.length_take];simp;omega),List.getElem?_append_right (by simp;omega),List.length_take,Array.length_toList,Nat.min_eq_left (by omega),List.getElem?_replicate,if_pos (by omega)]
  rfl
 ·rw [if_neg h2,List.getElem?_append_right (by rw [List.length_append,List.length_replicate,List.length_take];simp;omega),List.length_append,List.length_replicate,List.length_take,Array.length_toList,Nat.min_eq_left (by omega),List.getElem?_drop]
  rw [show q+m+(i-(q+m))=i by omega]
  simp [Array.getD_eq_getD_getElem?]
section
variable {P:Program} {cf:Cf} {Q:Exit→St→Prop} {s:St} {k:List It}
theorem vB (E:Eng P cf Q) {x:Operand} {t e:Nat} {ty:TypeId} {pos:String} {af:Array Edge} {p:Name} {off len:Nat} {zs:List D} (z:D) (hk:(P.ti t).k=.slice e) (hez:(P.ti e).z=some [z])
  (hx:ev s x=.vw p off len) (hp:s.hp p=some (.arr none zs)) (h:E.run k (s.set p (some (.arr none (gw zs off len z))))) :
  E.stp { dst:=none,op:=.call { callee:=.builtin .clear,args:=#[x],argTypes:=#[t] },type:=ty,pos:=pos,after:=af,guard:=none } s k .no:=by
 rw [aK]
 rw [E.run_eq] at h
 intro B hB ds β a w hds hs Q'
 have hund:=aW hk
 obtain ⟨zv,hr0,hm,it,hi,hiz,his,hib⟩:=b0 hez
 have hvx:=hs.ev x
 rw [hx] at hvx
 generalize hax:a.eval x=vx at hvx
 cases hvx with
 | vw _ _ _ _ hn h1' hx' =>
 obtain ⟨hle,a0,cap,rfl,hx''⟩:=hx' _ _ _ hp
 have hexec:∀ v w',(Builtin.clear_ #[t] ty #[.slice a0 len cap]).run P w=.ok v w'→(execOp a.eval { dst:=none,op:=.call { callee:=.builtin .clear,args:=#[x],argTypes:=#[t] },type:=ty,pos:=pos,after:=af,guard:=none }).run P w=.ok (.value v) w':=by
  intro v w' hr
  simp [execOp,resolve,invoke,builtin,hax,hr,Result.andThen]
 by_cases hl0:len=0
 ·subst hl0
  have hr:(Builtin.clear_ #[t] ty #[.slice a0 0 cap]).run P w=.ok (.tuple #[]) w:=by
   cases a0<;>simp [Builtin.clear_,run_underlying hund]
  have hzs:gw zs off 0 z=zs:=by simp [gw]
  have hself:s.set p (some (.arr none (gw zs off 0 z)))=s:=by
   rw [hzs]
   cases s
   simp only [St.set,St.mk.injEq,true_and,and_true]
   funext q
   by_cases e:q=p
   ·subst e;simp [ax];exact hp.symm
   ·simp [ax,e]
  rw [hself] at h
  exact az (v:=.tuple #[]) (by simp) (hexec _ _ hr) (.inl rfl) ⟨hds,_,β,aV h,hs⟩
 ·rcases hx'' with ⟨hl1,_⟩ | ⟨k0,hk0,rfl,hcap,hkz⟩
  ·exact absurd hl1 hl0
  rcases (hs.objs p _ hp).2 with ⟨hq,_⟩ | ⟨k1,c1,e1,hk1,hc1,hz1,hl1,hw1,hcs1⟩
  ·rw [hk0] at hq;cases hq
  rw [hk0] at hk1;cases hk1
  simp only [wd,Nat.mul_one] at hkz hl1
  obtain ⟨m1,m2,m3,m4⟩:=dU (H:=w.heap) (own:=s.own B.A β) hm
  have hzs:zv.cells.size=1:=by simpa using m1.symm
  obtain ⟨u,hu,hrep⟩:=m4 0 z rfl
  have hzc:z.scal=true:=m2 z (by simp)
  have hu0:zv.cells[0]?=some u:=by simpa using hu
  have hu1:u.oneCell'=true:=hrep.iL hzc
  have hze:(Builtin.zeroCells zv.cells len).toList=List.replicate len u:=by
   have hg:zv.cells=#[u]:=by
    generalize zv.cells=cc at hzs hu0
    obtain ⟨l⟩:=cc
    match l,hzs,hu0 with
    | [y],_,h=>simp at h;rw [h]
   rw [hg]
   apply List.ext_getElem
   ·simp [Builtin.zeroCells]
   ·intro i h1 h2
    simp [Builtin.zeroCells,Nat.mod_one]
  have hst:=run_storeCells_at P k0.b (k0.o+off*wd none) e1 (List.replicate len u) 0 c1 w hc1 (by simp [wd];omega) (fun v hv=>by rw [List.eq_of_mem_replicate hv];exact hu1)
  simp only [Nat.add_zero,List.length_replicate] at hst
  have hr:(Builtin.clear_ #[t] ty #[.slice (some ⟨k0.b,k0.o+off*wd none,none⟩) len cap]).run P w=.ok (.tuple #[]) (w.setRow k0.b (c1.toList.take (k0.o+off*wd none)++List.replicate len u++c1.toList.drop (k0.o+off*wd none+len)).toArray):=by
   obtain ⟨n,rfl⟩:∃ n,len=n+1:=⟨len-1,by omega⟩
   simp [Builtin.clear_,run_underlying hund,hr0,hze,hst]
  have hwd1:off*wd none=off:=by simp [wd]
  obtain ⟨hsim,_⟩:=hs.modify (p:=p) (ob':=.arr none (gw zs off len z)) hp ⟨⟨rfl,rfl⟩,by rw [j4 hle];exact Nat.le_refl _⟩ (w':=w.setRow k0.b (c1.toList.take (k0.o+off*wd none)++List.replicate len u++c1.toList.drop (k0.o+off*wd none+len)).toArray) rfl (by simp) (fun b hb=>setRow_other w k0.b b _ (hb k0 hk0))
   (fun _ hrr=>.inr ⟨k0,_,e1,hk0,setRow_heap w k0.b c1 _ e1 (0,0) hc1,by simp;omega,by rw [j4 hle];simpa [wd] using hl1,fun x hx=>(by
    unfold gw at hx
    rcases List.mem_append.1 hx with hx | hx
    ·exact hw1 _ (List.mem_of_mem_take hx)
    rcases List.mem_append.1 hx with hx | hx
    ·rw [List.eq_of_mem_replicate hx];exact hzc
    ·exact hw1 _ (List.mem_of_mem_drop hx)),fun i x j d hi hj=>by
    have hsx:x.scal=true:=by
     unfold gw at hi
     have hx:=List.mem_of_getElem? hi
     rcases List.mem_append.1 hx with hx | hx
     ·exact hw1 _ (List.mem_of_mem_take hx)
     rcases List.mem_append.1 hx with hx | hx
     ·rw [List.eq_of_mem_replicate hx];exact hzc
     ·exact hw1 _ (List.mem_of_mem_drop hx)
    have hxy:j=0∧d=x:=by
     cases x<;>simp [D.scal] at hsx<;>(cases j<;>simp [D.cells] at hj<;>simp [hj])
    obtain ⟨rfl,rfl⟩:=hxy
    rw [show k0.o+i*wd none+0=k0.o+i by simp [wd],BZ (by omega)]
    rw [zf hle] at hi
    have old:∀ x,zs[i]?=some x→x.scal=true→Rep _ _ (c1.getD (k0.o+i) undef) x:=fun x hz hsx=>by
     have:=hcs1 i x 0 x hz (by cases x<;>simp [D.scal] at hsx<;>rfl)
     rw [show k0.o+i*wd none+0=k0.o+i by simp [wd]] at this
     exact hrr _ _ this
    by_cases g1:i<off
    ·rw [if_pos g1] at hi
     rw [if_pos (by omega)]
     exact old _ hi hsx
    rw [if_neg g1] at hi
    rw [if_neg (by omega)]
    by_cases g2:i<off+len
    ·rw [if_pos g2] at hi
     rw [if_pos (by omega)]
     cases hi
     exact hrr _ _ hrep
    ·rw [if_neg g2] at hi
     rw [if_neg (by omega)]
     exact old _ hi hsx⟩)
  exact az (v:=.tuple #[]) (by simp) (hexec _ _ hr) (.inl rfl) ⟨hds,_,β,aV h,hsim⟩
end
end Go.Ab

namespace Go.Ab
inductive Lz where
 | A (p:Name) (w:W) (xs:List D)
 | B (p:Name) (d:D)
 | U (p:Name) (ds:List D)
def AV.one:AV→Bool
 | .d x=>x.scal
 | .vw _ _ _=>true
 | .bx _ _=>true
 | .el _ _ _=>true
 | .mp _=>true
 | .it _=>true
 | .va _ _ _=>true
 | .ea _ _=>true
 | .ma _=>true
 | _=>false
def wkU:List AV→List D→Prop
 | [],[]=>True
 | x::r,d::s=>(x=.d d∨(d=.unk∧x.one=true))∧wkU r s
 | _,_=>False
theorem wa:∀ {cs:List AV} {ds:List D},wkU cs ds→ds.length=cs.length
 | [],[],_=>rfl
 | _::_,_::_,h=>by simp [wa h.2]
 | [],_::_,h=>h.elim
 | _::_,[],h=>h.elim
theorem vc:∀ {cs:List AV} {ds:List D},wkU cs ds→∀ (i:Nat) x d,cs[i]?=some x→ds[i]?=some d→x=.d d∨(d=.unk∧x.one=true)
 | [],[],_,i,x,d,h,_=>by simp at h
 | _::_,_::_,h,0,x,d,h1,h2=>by simp at h1 h2;subst h1;subst h2;exact h.1
 | _::_,_::_,h,i+1,x,d,h1,h2=>vc h.2 i x d (by simpa using h1) (by simpa using h2)
 | [],_::_,h,_,_,_,_,_=>h.elim
 | _::_,[],h,_,_,_,_,_=>h.elim
def St.lz (s:St):Lz→St
 | .A p w xs=>s.da p w xs
 | .B p d=>s.frB p d
 | .U p ds=>s.set p (some (.box (ds.map .d)))
def Lz.ok (s:St):Lz→Prop
 | .A p w xs=>s.hp p=some (.arr w xs)
 | .B p d=>s.hp p=some (.box (d.cells.map .d))∧(d.cells.all D.scal)=true
 | .U p ds=>∃ cs,s.hp p=some (.box cs)∧wkU cs ds
def St.lzL (s:St):List Lz→St
 | []=>s
 | q::L=>(s.lz q).lzL L
def mG (s:St):List Lz→Prop
 | []=>True
 | q::L=>q.ok s∧mG (s.lz q) L
theorem CF (s:St):s.lzL []=s:=rfl
theorem GO (s:St) (p:Name) (w:W) (xs:List D) (L:List Lz):s.lzL (.A p w xs::L)=(s.da p w xs).lzL L:=rfl
theorem Hh (s:St) (p:Name) (d:D) (L:List Lz):s.lzL (.B p d::L)=(s.frB p d).lzL L:=rfl
theorem G9 (s:St) (p:Name) (ds:List D) (L:List Lz):s.lzL (.U p ds::L)=(s.set p (some (.box (ds.map .d)))).lzL L:=rfl
theorem AW (s:St):mG s []=True:=rfl
theorem A3 (s:St) (p:Name) (w:W) (xs:List D) (L:List Lz):mG s (.A p w xs::L)=(s.hp p=some (.arr w xs)∧mG (s.da p w xs) L):=rfl
theorem zR (s:St) (p:Name) (d:D) (L:List Lz):mG s (.B p d::L)=((s.hp p=some (.box (d.cells.map .d))∧(d.cells.all D.scal)=true)∧mG (s.frB p d) L):=rfl
theorem AS (s:St) (p:Name) (ds:List D) (L:List Lz):mG s (.U p ds::L)=((∃ cs,s.hp p=some (.box cs)∧wkU cs ds)∧mG (s.set p (some (.box (ds.map .d)))) L):=rfl
theorem FI {H:Array Obj} {own:Nat→Prop} {used:List Nat} {hp:Name→Option Ob} {β:Name→Option Blk} {v:Value} {x:AV} (h:VR H own used hp β v x) (h1:x.one=true):VR H own used hp β v (.d .unk):=by
 cases h with
 | d _ _ hd=>exact .d _ _ (.unk _ (hd.iL h1))
 | vw _ _ _ _ _ ho _=>exact .d _ _ (.unk _ ho)
 | bx _ _ _ _ ho _=>exact .d _ _ (.unk _ ho)
 | el _ _ _ _ _ ho _=>exact .d _ _ (.unk _ ho)
 | mp _ _ _ ho _=>exact .d _ _ (.unk _ ho)
 | its _ _ _ ho _ _=>exact .d _ _ (.unk _ ho)
 | va _ _ _ _ _ ho _=>exact .d _ _ (.unk _ ho)
 | ea _ _ _ _ ho _=>exact .d _ _ (.unk _ ho)
 | ma _ _ _ ho _=>exact .d _ _ (.unk _ ho)
 | un=>cases h1
 | agg=>cases h1
 | tup=>cases h1
 | clo=>cases h1
theorem lO {B:Base} {β:Name→Option Blk} {tm:Array Value} {w:World}:∀ (L:List Lz) (s:St),Sim B β s tm w→mG s L→Sim B β (s.lzL L) tm w
 | [],_,h,_=>h
 | .A p wf xs::L,s,h,hl=>by
   rw [A3] at hl
   exact lO L _ (h.da hl.1) hl.2
 | .B p d::L,s,h,hl=>by
   rw [zR] at hl
   exact lO L _ (h.frB hl.1.1 fun x hx=>by simpa using List.all_eq_true.1 hl.1.2 x hx) hl.2
 | .U p ds::L,s,h,hl=>by
   rw [AS] at hl
   obtain ⟨⟨cs,hp,hw⟩,h2⟩:=hl
   refine lO L _ (h.rebox hp (by simp [wa hw]) fun v j x x' hx hx' hv=>?_) h2
   rw [List.getElem?_map,Option.map_eq_some_iff] at hx'
   obtain ⟨d,hd,rfl⟩:=hx'
   rcases vc hw j x d hx hd with rfl | ⟨rfl,h1⟩
   ·exact hv
   ·exact FI hv h1
section
variable {P:Program} {cf:Cf} {Q:Exit→St→Prop} {s:St} {k:List It}
theorem mu:∀ l:List (Name × Ob),iy [] l
 | []=>trivial
 | _::r=>⟨trivial,mu r⟩
theorem yL {dst:Option Nat} {fv:Operand} {args:Array Operand} {at':Array TypeId} {ty:TypeId} {pos:String} {af:Array Edge} {g:Option (Nat × Bool)}
  (L:List Lz) (hL:mG s L) (d:Nat) (hd:d ∉ s.used) {f:FuncId} {caps:List AV} {ds:List D} {Q0:AV→List (Name × Ob)→Prop} (hc:HCall P cf.G f (ds.map .d) [] [] Q0) (hflat:∀ r hp',Q0 r hp'→r.flat=true∧bT hp'=true)
  (hev:ev (s.lzL L) fv=.clo f caps) (hargs:args.toList.map (ev (s.lzL L))++caps=ds.map .d) (hdst:∀ t∈dst,t<cf.n∧t=d) (hk:∀ r hp',Q0 r hp'→run P cf k Q (B8 s id d dst [] hp' r)) :
  AOk P cf { dst:=dst,op:=.call { callee:=.value fv,args:=args,argTypes:=at' },type:=ty,pos:=pos,after:=af,guard:=g } s k Q:=by
 intro B hB ds' β a w hds h Q'
 refine ⟨fun _ _=>trivial,?_⟩
 have h':=(lO L s h hL).noO
 rw [← qT] at hev
 rw [show args.toList.map (ev (s.lzL L))=args.toList.map (ev (s.lzL L).noO) from List.map_congr_left fun y _=>(qT _ y).symm] at hargs
 obtain ⟨s',hs'⟩:∃ s',s'=(s.lzL L).noO:=⟨_,rfl⟩
 have hno:∀ p,s'.hp p=none:=fun p=>by rw [hs'];rfl
 rw [← hs'] at h' hev hargs
 have hf:=h'.ev fv
 rw [hev] at hf
 generalize hfv:a.eval fv=fval at hf
 cases hf with
 | clo _ cvs _ hcs hcv =>
 have hrun:∀ vs,vs=(args.toList.map a.eval).toArray++cvs→(execOp a.eval { dst:=dst,op:=.call { callee:=.value fv,args:=args,argTypes:=at' },type:=ty,pos:=pos,after:=af,guard:=g }).run P w=.ok (.enter f vs) w:=by
  intro vs hvs
  have e:(execOp a.eval { dst:=dst,op:=.call { callee:=.value fv,args:=args,argTypes:=at' },type:=ty,pos:=pos,after:=af,guard:=g }:Sem Next)=callFunc f (#[]++args.map a.eval++cvs):=by
   show (do let d ← (Deferred.ofValue (a.eval fv) (args.map a.eval));invoke d.target d.args:Sem Next)=_
   rw [hfv];rfl
  rw [e,← hc.1 vs w,hvs]
  congr 2
  apply Array.ext'
  simp
 rw [Oper.semAt_eq _ _ _ (by simp),hrun _ rfl,Oper.uponIn_enter]
 refine ⟨fun hdep=>by simp [il] at hdep,?_⟩
 have hlen:(ds.map AV.d).length=args.size+caps.length:=by
  have:=congrArg List.length hargs
  simpa using this.symm
 have hvs:((args.toList.map a.eval).toArray++cvs).size=(ds.map AV.d).length:=by simp [hcs] at hlen ⊢;omega
 have hv:∀ (i:Nat) x,(ds.map AV.d)[i]?=some x→VR w.heap (s'.own B.A β) s'.used s'.hp β (((args.toList.map a.eval).toArray++cvs).getD i undef) (x.ren id):=by
  intro i x hi
  rw [AV.cZ id (fun _=>rfl)]
  have hx:=hi
  rw [← hargs] at hx
  by_cases hlt:i<args.size
  ·have hx':(args.toList.map (ev s'))[i]?=some x:=by rw [← hx,List.getElem?_append_left (by simpa using hlt)]
   have:=ej h' args.toList i _ hx'
   rw [show ((args.toList.map a.eval).toArray++cvs).getD i undef=(args.toList.map a.eval).toArray.getD i undef by simp [Array.getD_eq_getD_getElem?,Array.getElem?_append,hlt]]
   exact this
  ·have hx':caps[i-args.size]?=some x:=by rw [← hx,List.getElem?_append_right (by simpa using Nat.le_of_not_lt hlt)];simp
   have:=hcv _ _ hx'
   rw [show ((args.toList.map a.eval).toArray++cvs).getD i undef=cvs.getD (i-args.size) undef by simp [Array.getD_eq_getD_getElem?,Array.getElem?_append,hlt]]
   exact this
 have hcall:=oC (P:=P) h h' (fun p o ho=>by rw [hno p] at ho;cases ho) (σ:=id) (d:=d) hd (chp:=[]) (cu:=[]) trivial trivial (mB _ _) hvs hv (by rw [hB.2.2];exact hc) hflat
 have hcall':CallsIn (Fw cf.ro) (0-1) P f ((args.toList.map a.eval).toArray++cvs) w _:=hcall
 refine hcall'.mono ?_
 rintro e w' ⟨v,rfl,r,hp',hQ,hl⟩
 obtain ⟨β2,hs2,hv2⟩:=hl (mu hp')
 refine ⟨by cases dst<;>exact hds,B8 s id d dst [] hp' r,β2,aV (hk r hp' hQ),?_⟩
 cases dst with
 | none=>exact hs2
 | some t =>
   obtain ⟨ht,rfl⟩:=hdst t rfl
   exact hs2.put (by rw [hB.1];exact ht) hv2
theorem bA (E:Eng P cf Q) {d:Nat} {fv:Operand} {args:Array Operand} {at':Array TypeId} {ty:TypeId} {pos:String} {af:Array Edge}
  (L:List Lz) {f:FuncId} {caps:List AV} (ds:List D) {Q0:AV→List (Name × Ob)→Prop} (hc:HCall P cf.G f (ds.map .d) [] [] Q0) (hflat:∀ r hp',Q0 r hp'→r.flat=true∧bT hp'=true) (hL:mG s L)
  (hev:ev (s.lzL L) fv=.clo f caps) (hargs:args.toList.map (ev (s.lzL L))++caps=ds.map .d) (hd:d<cf.n∧d ∉ s.used) (hk:∀ r hp',Q0 r hp'→E.run k (aft s id d [] hp' r)) :
  E.stp { dst:=some d,op:=.call { callee:=.value fv,args:=args,argTypes:=at' },type:=ty,pos:=pos,after:=af,guard:=none } s k .no:=by
 rw [aK]
 refine yL L hL d hd.2 hc hflat hev hargs (fun t ht=>?_) fun r hp' hr=>by rw [← E.run_eq];exact hk r hp' hr
 obtain rfl:=Option.some.inj ht
 exact ⟨hd.1,rfl⟩
attribute [go_sem] CF GO Hh G9 AW A3 zR AS wkU AV.one
end
end Go.Ab

namespace Go.Proofs.YthfodompfpdmgaaGreatDoor
open Go.Ab
theorem q9:(Tryz.prog.ti 3).z=some [i64 0]:=by rw [ti3]
theorem Dg {l:List Int} {p:Int→Bool} {i:Nat} (h:(l.take i).any p=false):∀ x∈l.take i,p x=false:=fun x hx=>by simpa using List.any_eq_false.1 h x hx
structure Del (l:List Int) (p:Int→Bool) (i j:Nat) (zs:List D):Prop where
 le:j≤l.length
 len:zs.length=l.length
 i':((l.take j).filter fun x=>!p x).length=i
 tk:zs.take i=((l.take j).filter fun x=>!p x).map i64
 dr:zs.drop j=(l.drop j).map i64
theorem Del.ij {l:List Int} {p:Int→Bool} {i j:Nat} {zs:List D} (h:Del l p i j zs):i≤j:=by
 have h1:=List.length_filter_le (fun x=>!p x) (l.take j)
 rw [h.i',List.length_take] at h1
 omega
theorem Del.get {l:List Int} {p:Int→Bool} {i j:Nat} {zs:List D} (h:Del l p i j zs) (hj:j<l.length):zs.getD j .nilp=i64 l[j]:=by
 have:=congrArg (fun L:List D=>L.getD 0 .nilp) h.dr
 simp only [List.getD_eq_getElem?_getD,List.getElem?_drop,List.getElem?_map,Nat.add_zero,List.getElem?_eq_getElem hj] at this ⊢
 exact this
theorem Del.skip {l:List Int} {p:Int→Bool} {i j:Nat} {zs:List D} (h:Del l p i j zs) (hj:j<l.length) (hp:p l[j]=true):Del l p i (j+1) zs:=by
 have e:(l.take (j+1)).filter (fun x=>!p x)=(l.take j).filter fun x=>!p x:=by
  rw [List.take_succ_eq_append_getElem hj,List.filter_append]
  simp [hp]
 refine ⟨hj,h.len,by rw [e];exact h.i',by rw [e];exact h.tk,?_⟩
 have:=congrArg (List.drop 1) h.dr
 rw [List.drop_drop,← List.map_drop,List.drop_drop] at this
 exact this
theorem Del.keep {l:List Int} {p:Int→Bool} {i j:Nat} {zs:List D} (h:Del l p i j zs) (hj:j<l.length) (hp:p l[j]=false):Del l p (i+1) (j+1) (zs.set i (i64 l[j])):=by
 have hij:=h.ij
 have e:(l.take (j+1)).filter (fun x=>!p x)=((l.take j).filter fun x=>!p x)++[l[j]]:=by
  rw [List.take_succ_eq_append_getElem hj,List.filter_append]
  simp [hp]
 have hlen:=h.len
 refine ⟨hj,by simpa using h.len,by rw [e];simp [h.i'],?_,?_⟩
 ·rw [e,List.map_append,← h.tk]
  apply List.ext_getElem?
  intro n
  by_cases c:n<i
  ·rw [List.getElem?_take_of_lt (by omega),List.getElem?_set_ne (by omega),List.getElem?_append_left (by rw [List.length_take];omega),List.getElem?_take_of_lt c]
  ·by_cases c2:n=i
   ·subst c2
    rw [List.getElem?_take_of_lt (by omega),List.getElem?_set_self (by omega),List.getElem?_append_right (by rw [List.length_take];omega),List.length_take,Nat.min_eq_left (by omega)]
    simp
   ·rw [List.getElem?_eq_none (by rw [List.length_take];omega),List.getElem?_eq_none (by simp;omega)]
 ·have:=congrArg (List.drop 1) h.dr
  rw [List.drop_drop,← List.map_drop,List.drop_drop] at this
  rw [List.drop_set_of_lt (by omega)]
  exact this
theorem o7 {l:List D} {i:Nat} {n:Int} (h:aS l=true):aS (l.set i (i64 n))=true:=by
 induction l generalizing i with
 | nil=>rfl
 | cons x r ih =>
   simp only [aS,Bool.and_eq_true] at h
   cases i with
   | zero=>simp [aS,D.flat,i64,h.2]
   | succ i=>simp [aS,h.1,ih h.2]
theorem bU (l:List Int):aS (l.map i64)=true:=by
 induction l with
 | nil=>rfl
 | cons x r ih=>simp [aS,D.flat,i64,ih]
theorem oQ {a b:List D} (ha:aS a=true) (hb:aS b=true):aS (a++b)=true:=by
 induction a with
 | nil=>exact hb
 | cons x r ih =>
   simp only [aS,Bool.and_eq_true] at ha
   simp [aS,ha.1,ih ha.2]
theorem uc {l:List D} (h:aS l=true) (n:Nat):aS (l.take n)=true:=by
 induction l generalizing n with
 | nil=>simp [aS]
 | cons x r ih =>
   simp only [aS,Bool.and_eq_true] at h
   cases n with
   | zero=>rfl
   | succ n=>simp [aS,h.1,ih h.2]
theorem ux {l:List D} (h:aS l=true) (n:Nat):aS (l.drop n)=true:=by
 induction l generalizing n with
 | nil=>simp [aS]
 | cons x r ih =>
   cases n with
   | zero=>exact h
   | succ n =>
     simp only [aS,Bool.and_eq_true] at h
     simpa using ih h.2 n
theorem xe (n:Nat) (z:Int):aS (List.replicate n (i64 z))=true:=by
 induction n with
 | zero=>rfl
 | succ n ih=>simp [List.replicate_succ,aS,D.flat,i64,ih]
theorem o8 {l:List D} (h:aS l=true) (o n:Nat) (z:Int):aS (gw l o n (i64 z))=true:=oQ (uc h _) (oQ (xe _ _) (ux h _))
theorem qX {zs:List D} {o n:Nat} {z:D} (h:o≤zs.length):(gw zs o n z).take o=zs.take o:=by
 unfold gw
 rw [List.take_append_of_le_length (by rw [List.length_take];omega),List.take_take,Nat.min_self]
theorem Af {l:List Int} {p:Int→Bool} {j:Nat} (hj:j≤l.length) (h:∀ x∈l.take j,p x=false):Del l p j j (l.map i64):=by
 have e:(l.take j).filter (fun x=>!p x)=l.take j:=List.filter_eq_self.2 fun x hx=>by simp [h x hx]
 exact ⟨hj,by simp,by rw [e];simp;omega,by rw [e,List.map_take],by rw [List.map_drop]⟩
def Idx (l:List Int) (p:Int→Bool) (z:Int):Prop:=(z = -1∧l.any p=false)∨∃ i,∃ h:i<l.length,z=(i:Int)∧p l[i]=true∧(l.take i).any p=false
theorem yk {G} (l:List Int) (p:Int→Bool) (f:Nat) (caps:List D) (hl:l.length≤1000000) (hc:∀ x∈l,HP Tryz.prog G f (i64 x::caps) (fun r=>r=.d (.bool (p x)))) :
  HP Tryz.prog G 102 [aj l,.clo f caps] (fun r=>∃ z:Int,r=.d (i64 z)∧Idx l p z):=by
 unfold aj
 have hget:∀ {i:Nat} (h:i<l.length),(l.map i64).getD i .nilp=i64 l[i]:=fun h=>aD h
 refine ao Tryz.func102 rfl (by decide +kernel) (by simp [Tryz.ntmps102]) (veil fun E=>?_)
 simp only [go_sem]
 refine bc E (X:={ i:Nat // i≤l.length∧(l.take i).any p=false }) (fun x=>[(0,.d (.sl none (l.map i64))),(1,.d (.clo f caps)),(6,.d (.sl none (l.map i64))),(7,.d (i64 l.length)),(8,.d (i64 x.1))]) (fun x=>l.length-x.1) rfl ⟨0,Nat.zero_le _,by simp⟩ ?_ ?_
 ·simp only [go_sem]
  all_goals rfl
 rintro ⟨i,hi,hab⟩ E'
 simp only [go_sem]
 refine ai E' (fun h1=>?_) (fun h1=>?_)<;>simp only [go_sem]
 ·have h1':i<l.length:=by omega
  refine ⟨by omega,?_⟩
  rw [hget h1']
  simp only [go_sem]
  refine jZ E' (hc l[i] (List.getElem_mem h1')) rfl rfl (by simp) ?_
  rintro _ rfl
  simp only [go_sem]
  refine aX E' (fun h2=>?_) (fun h2=>?_)<;>simp only [go_sem]
  ·exact ⟨_,rfl,.inr ⟨i,h1',rfl,h2,hab⟩⟩
  ·refine ⟨⟨i+1,by omega,gG h1' hab h2⟩,by show l.length-(i+1)<_;omega,?_⟩
   rw [ab ⟨by omega,by omega⟩];rfl
 ·have h3:i=l.length:=by omega
  subst h3
  rw [List.take_length] at hab
  exact ⟨_,rfl,.inl ⟨rfl,hab⟩⟩
set_option maxHeartbeats 2000000 in
theorem Er {G} (l:List Int) (p:Int→Bool) (f:Nat) (caps:List D) (hl:l.length≤1000000) (hc:∀ x∈l,HP Tryz.prog G f (i64 x::caps) (fun r=>r=.d (.bool (p x)))) :
  HCall Tryz.prog G 88 [.vw [0] 0 l.length,.d (.clo f caps)] [([0],.arr none (l.map i64))] [0] (fun r hp'=>∃ zs,r=.vw [0] 0 (l.filter fun x=>!p x).length∧hp'=[([0],.arr none zs)]∧zs.take (l.filter fun x=>!p x).length=(l.filter fun x=>!p x).map i64∧aS zs=true∧zs.length=l.length):=by
 have c1:=yk (G:=G) l p f caps hl hc
 unfold aj at c1
 refine aL Tryz.func88 rfl (by decide +kernel) (by simp [Tryz.ntmps88]) (veil fun E=>?_)
 simp only [go_sem]
 refine Dz E [.A [0] none (l.map i64)] c1 (fun r ⟨z,h,_⟩=>by rw [h];rfl) (by simp only [go_sem]) rfl (by simp only [go_sem]) (by simp) ?_
 rintro _ ⟨z,rfl,hz⟩
 simp only [go_sem]
 rcases hz with ⟨rfl,hno⟩ | ⟨i0,hi0,rfl,hpi,hab⟩
 ·have hf:l.filter (fun x=>!p x)=l:=List.filter_eq_self.2 fun x hx=>by
   have:=List.any_eq_false.1 hno x hx
   simpa using this
  simp only [go_sem]
  refine ⟨.vw [0] 0 l.length,[([0],.arr none (l.map i64))],[0],id,⟨l.map i64,by rw [hf],rfl,by rw [hf,List.take_of_length_le (by simp)],bU l,by simp⟩,?_⟩
  simp only [go_sem]
 ·have hd0:Del l p i0 (i0+1) (l.map i64):=(Af (Nat.le_of_lt hi0) (Dg hab)).skip hi0 hpi
  refine ai E (fun h=>absurd h (by omega)) (fun _=>?_)
  simp only [go_sem]
  rw [ab ⟨by omega,by omega⟩]
  refine au E (X:={ x:(Nat × Nat) × List D // Del l p x.1.1 x.1.2 x.2∧aS x.2=true }) (fun x=>[(0,.vw [0] 0 l.length),(1,.d (.clo f caps)),(5,.d (i64 x.1.1.1)),(6,.d (i64 x.1.1.2))])
   (fun x=>[([0],.arr none x.1.2)]) [0] (fun x=>l.length-x.1.1.2) ⟨((i0,i0+1),l.map i64),hd0,bU l⟩ id ?_ ?_
  ·simp only [go_sem]
   all_goals first | rfl | ((repeat' apply And.intro)<;>first | rfl | trivial)
  rintro ⟨⟨⟨i,j⟩,zs⟩,hd,hfl⟩ E0
  refine aR E0 fun Q' hQ E'=>?_
  simp only at hd hfl ⊢
  have hij:=hd.ij
  have hjl:=hd.le
  have hzl:=hd.len
  simp only [go_sem]
  refine ai E' (fun h1=>?_) (fun h1=>?_)<;>simp only [go_sem]
  ·have hj:j<l.length:=by omega
   refine ⟨by omega,?_⟩
   rw [hd.get hj]
   simp only [go_sem]
   refine jZ E' (hc l[j] (List.getElem_mem hj)) rfl rfl (by simp) ?_
   rintro _ rfl
   simp only [go_sem]
   cases hpj:p l[j] with
   | true =>
     simp only [go_sem]
     rw [hQ]
     simp only [go_sem]
     refine ⟨⟨((i,j+1),zs),hd.skip hj hpj,hfl⟩,by show l.length-(j+1)<l.length-j;omega,id,?_⟩
     simp only [go_sem]
     rw [ab ⟨by omega,by omega⟩]
     (repeat' apply And.intro)<;>first | rfl | trivial
   | false =>
     simp only [go_sem]
     refine ⟨by omega,?_⟩
     rw [hQ]
     simp only [go_sem]
     refine ⟨⟨((i+1,j+1),zs.set i (i64 l[j])),hd.keep hj hpj,o7 hfl⟩,by show l.length-(j+1)<l.length-j;omega,id,?_⟩
     simp only [go_sem]
     rw [ab ⟨by omega,by omega⟩,ab ⟨by omega,by omega⟩]
     (repeat' apply And.intro)<;>first | rfl | trivial
  ·have hje:j=l.length:=by omega
   subst hje
   have hi:=hd.i'
   have htk:=hd.tk
   rw [List.take_length] at hi htk
   rw [hQ]
   simp only [go_sem]
   refine ⟨by omega,?_⟩
   refine vB E (i64 0) (by rw [tZ]) q9 rfl rfl ?_
   simp only [go_sem]
   refine ⟨⟨by omega,by omega⟩,.vw [0] 0 i,[([0],.arr none (gw zs i (l.length-i) (i64 0)))],[0],id,⟨gw zs i (l.length-i) (i64 0),by rw [hi],rfl,by rw [hi,qX (by omega),htk],o8 hfl _ _ _,by rw [j4 (by omega)];exact hzl⟩,?_⟩
   simp only [go_sem]
   rfl
def cA:List Int→List Int
 | []=>[]
 | [x]=>[x]
 | x::y::r=>if x=y then cA (y::r) else x::cA (y::r)
theorem oz:∀ (a:List Int) (x y:Int),cA (a++[x,y])=if x=y then cA (a++[x]) else cA (a++[x])++[y]
 | [],x,y=>by
   simp only [List.nil_append,cA]
   split
   ·rename_i e;rw [e]
   ·rfl
 | [z],x,y=>by
   simp only [List.cons_append,List.nil_append,cA]
   by_cases e1:z=x<;>by_cases e2:x=y<;>simp [e1,e2]
 | z::w::a,x,y=>by
   have ih:=oz (w::a) x y
   simp only [List.cons_append] at ih ⊢
   rw [cA,ih,cA]
   by_cases e:z=w
   ·rw [if_pos e,if_pos e]
   ·rw [if_neg e,if_neg e]
    split<;>rfl
theorem kF {l:List Int} {m:Nat} (hm:m<l.length) (h0:0<m):cA (l.take (m+1))=if l[m]=l[m-1] then cA (l.take m) else cA (l.take m)++[l[m]]:=by
 obtain ⟨k,rfl⟩:∃ k,m=k+1:=⟨m-1,by omega⟩
 have e1:l.take (k+1+1)=l.take k++[l[k],l[k+1]]:=by
  rw [List.take_succ_eq_append_getElem hm,List.take_succ_eq_append_getElem (show k<l.length by omega),List.append_assoc]
  rfl
 have e2:l.take (k+1)=l.take k++[l[k]]:=List.take_succ_eq_append_getElem (by omega)
 rw [e1,e2,oz]
 show (if l[k]=l[k+1] then _ else _)=if l[k+1]=l[k] then _ else _
 by_cases e:l[k]=l[k+1]
 ·rw [if_pos e,if_pos e.symm]
 ·rw [if_neg e,if_neg fun h=>e h.symm]
theorem iB:∀ {l:List Int},(∀ m,∀ h:m+1<l.length,l[m+1]≠l[m])→cA l=l
 | [],_=>rfl
 | [_],_=>rfl
 | x::y::r,h=>by
   rw [cA,if_neg (fun e=>h 0 (by simp) e.symm),iB (l:=y::r) fun m hm=>h (m+1) (by simpa using hm)]
structure Cmp (l:List Int) (i m:Nat) (zs:List D):Prop where
 le:m≤l.length
 m0:0<m
 im:i<m
 len:zs.length=l.length
 i':(cA (l.take m)).length=i
 tk:zs.take i=(cA (l.take m)).map i64
 dr:zs.drop (m-1)=(l.drop (m-1)).map i64
theorem Cmp.get {l:List Int} {i m:Nat} {zs:List D} (h:Cmp l i m zs) {j:Nat} (hj:j<l.length) (hm:m-1≤j):zs.getD j .nilp=i64 l[j]:=by
 have:=congrArg (fun L:List D=>L.getD (j-(m-1)) .nilp) h.dr
 simp only [List.getD_eq_getElem?_getD,List.getElem?_drop,List.getElem?_map,show m-1+(j-(m-1))=j by omega,List.getElem?_eq_getElem hj] at this ⊢
 exact this
theorem Cmp.Eh {l:List Int} {i m:Nat} {zs:List D} (h:Cmp l i m zs):zs.drop m=(l.drop m).map i64:=by
 have:=congrArg (List.drop 1) h.dr
 have h0:=h.m0
 rw [List.drop_drop,← List.map_drop,List.drop_drop,show m-1+1=m by omega] at this
 exact this
theorem Cmp.skip {l:List Int} {i m:Nat} {zs:List D} (h:Cmp l i m zs) (hm:m<l.length) (he:l[m]=l[m-1]):Cmp l i (m+1) zs:=by
 have e:cA (l.take (m+1))=cA (l.take m):=by rw [kF hm h.m0,if_pos he]
 exact ⟨hm,by omega,by have:=h.im;omega,h.len,by rw [e];exact h.i',by rw [e];exact h.tk,h.Eh⟩
theorem Cmp.keep {l:List Int} {i m:Nat} {zs:List D} (h:Cmp l i m zs) (hm:m<l.length) (he:¬ l[m]=l[m-1]):Cmp l (i+1) (m+1) (zs.set i (i64 l[m])):=by
 have e:cA (l.take (m+1))=cA (l.take m)++[l[m]]:=by rw [kF hm h.m0,if_neg he]
 have him:=h.im
 have hlen:=h.len
 refine ⟨hm,by omega,by omega,by simpa using h.len,by rw [e];simp [h.i'],?_,?_⟩
 ·rw [e,List.map_append,← h.tk]
  apply List.ext_getElem?
  intro n
  by_cases c:n<i
  ·rw [List.getElem?_take_of_lt (by omega),List.getElem?_set_ne (by omega),List.getElem?_append_left (by rw [List.length_take];omega),List.getElem?_take_of_lt c]
  ·by_cases c2:n=i
   ·subst c2
    rw [List.getElem?_take_of_lt (by omega),List.getElem?_set_self (by omega),List.getElem?_append_right (by rw [List.length_take];omega),List.length_take,Nat.min_eq_left (by omega)]
    simp
   ·rw [List.getElem?_eq_none (by rw [List.length_take];omega),List.getElem?_eq_none (by simp;omega)]
 ·rw [show m+1-1=m by omega,List.drop_set_of_lt (by omega)]
  exact h.Eh
theorem BC {l:List Int} {i:Nat} (hi:i<l.length) (h0:0<i) (hn:∀ m,∀ h:m+1<i,l[m+1]≠l[m]) (he:l[i]=l[i-1]):Cmp l i (i+1) (l.map i64):=by
 have e1:cA (l.take i)=l.take i:=iB fun m hm=>by
  rw [List.length_take] at hm
  rw [List.getElem_take,List.getElem_take]
  exact hn m (by omega)
 have e:cA (l.take (i+1))=l.take i:=by rw [kF hi h0,if_pos he,e1]
 exact ⟨hi,by omega,by omega,by simp,by rw [e];simp;omega,by rw [e,List.map_take],by rw [List.map_drop]⟩
set_option maxHeartbeats 4000000 in
theorem EF {G} (l:List Int) (hl:l.length≤1000000) :
  HCall Tryz.prog G 91 [.vw [0] 0 l.length] [([0],.arr none (l.map i64))] [0] (fun r hp'=>∃ zs,r=.vw [0] 0 (cA l).length∧hp'=[([0],.arr none zs)]∧zs.take (cA l).length=(cA l).map i64∧aS zs=true∧zs.length=l.length):=by
 have hg:∀ {j:Nat} (h:j<l.length),(l.map i64).getD j .nilp=i64 l[j]:=fun h=>aD h
 refine aL Tryz.func91 rfl (by decide +kernel) (by simp [Tryz.ntmps91]) (veil fun E=>?_)
 simp only [go_sem]
 refine ai E (fun h2=>?_) (fun h2=>?_)<;>simp only [go_sem]
 ·have hf:cA l=l:=iB fun m hm=>by omega
  refine ⟨.vw [0] 0 l.length,[([0],.arr none (l.map i64))],[0],id,⟨l.map i64,by rw [hf],rfl,by rw [hf,List.take_of_length_le (by simp)],bU l,by simp⟩,?_⟩
  simp only [go_sem]
 refine au E (X:={ i:Nat // 1≤i∧i≤l.length∧∀ m,∀ h:m+1<l.length,m+1<i→l[m+1]≠l[m] }) (fun x=>[(0,.vw [0] 0 l.length),(3,.d (i64 x.1))])
  (fun x=>[([0],.arr none (l.map i64))]) [0] (fun x=>l.length-x.1) ⟨1,Nat.le_refl _,by omega,fun m _ h=>by omega⟩ id ?_ ?_
 ·simp only [go_sem]
  all_goals first | rfl | ((repeat' apply And.intro)<;>first | rfl | trivial)
 rintro ⟨i,hi1,hi,hno⟩ E0
 refine aR E0 fun Q' hQ E'=>?_
 simp only at hi1 hi hno ⊢
 simp only [go_sem]
 refine ai E' (fun h1=>?_) (fun h1=>?_)<;>simp only [go_sem]
 ·have hil:i<l.length:=by omega
  refine ag mixed E' fun X=>?_
  simp only [go_sem]
  refine ⟨by omega,?_⟩
  rw [hg hil]
  simp only [go_sem]
  rw [ab ⟨by omega,by omega⟩]
  refine ⟨by omega,?_⟩
  rw [show ((i:Int)-1).toNat=i-1 by omega,hg (show i-1<l.length by omega)]
  simp only [go_sem]
  refine ⟨by decide +kernel,?_⟩
  refine ai E' (fun h3=>?_) (fun h3=>?_)<;>simp only [go_sem]
  ·refine ⟨by omega,?_⟩
   refine au E' (X:={ x:(Nat × Nat) × List D // Cmp l x.1.1 x.1.2 x.2∧aS x.2=true∧i<x.1.2 }) (fun x=>[(0,.vw [0] 0 l.length),(3,.d (i64 x.1.1.1)),(4,.vw [0] i (l.length-i)),(5,.d (i64 (x.1.1.2-i:Nat)))])
    (fun x=>[([0],.arr none x.1.2)]) [0] (fun x=>l.length-x.1.1.2) ⟨((i,i+1),l.map i64),BC hil hi1 (fun m hm=>hno m (Nat.lt_trans hm hil) hm) h3,bU l,Nat.lt_succ_self i⟩ id ?_ ?_
   ·simp only [go_sem]
    rw [show i+1-i=1 by omega]
    rfl
   rintro ⟨⟨⟨q,m⟩,zs⟩,hd,hfl,hlm⟩ E1
   refine aR E1 fun Q1 hQ1 E2=>?_
   simp only at hd hfl hlm ⊢
   have him:=hd.im
   have hle:=hd.le
   have hzl:=hd.len
   simp only [go_sem]
   refine ai E2 (fun h4=>?_) (fun h4=>?_)<;>simp only [go_sem]
   ·have hml:m<l.length:=by omega
    refine ag mixed E2 fun X=>?_
    simp only [go_sem]
    refine ⟨by omega,?_⟩
    rw [show i+(m-i)=m by omega,hd.get hml (by omega)]
    simp only [go_sem]
    rw [show ((m-i:Nat):Int)-1=((m-1-i:Nat):Int) by omega,ab ⟨by omega,by omega⟩]
    refine ⟨by omega,?_⟩
    rw [Int.toNat_natCast,show i+(m-1-i)=m-1 by omega,hd.get (show m-1<l.length by omega) (by omega)]
    simp only [go_sem]
    refine ⟨by decide +kernel,?_⟩
    refine ai E2 (fun h5=>?_) (fun h5=>?_)<;>simp only [go_sem]
    ·refine ⟨by omega,?_⟩
     rw [show i+(m-i)=m by omega,hd.get hml (by omega)]
     simp only [go_sem]
     refine ⟨by omega,?_⟩
     rw [hQ1]
     simp only [go_sem]
     refine ⟨⟨((q+1,m+1),zs.set q (i64 l[m])),hd.keep hml h5,o7 hfl,Nat.lt_succ_of_lt hlm⟩,by show l.length-(m+1)<l.length-m;omega,id,?_⟩
     simp only [go_sem]
     rw [ab ⟨by omega,by omega⟩,ab ⟨by omega,by omega⟩,show ((m-i:Nat):Int)+1=((m+1-i:Nat):Int) by omega]
     (repeat' apply And.intro)<;>first | rfl | trivial
    ·rw [hQ1]
     simp only [go_sem]
     refine ⟨⟨((q,m+1),zs),hd.skip hml (by simpa using h5),hfl,Nat.lt_succ_of_lt hlm⟩,by show l.length-(m+1)<l.length-m;omega,id,?_⟩
     simp only [go_sem]
     rw [ab ⟨by omega,by omega⟩,show ((m-i:Nat):Int)+1=((m+1-i:Nat):Int) by omega]
   ·have hme:m=l.length:=by omega
    subst hme
    have hq:=hd.i'
    have htk:=hd.tk
    rw [List.take_length] at hq htk
    rw [hQ1]
    simp only [go_sem]
    refine ⟨by omega,?_⟩
    refine vB E' (i64 0) (by rw [tZ]) q9 rfl rfl ?_
    simp only [go_sem]
    refine ⟨by omega,?_⟩
    rw [hQ]
    simp only [go_sem]
    refine ⟨.vw [0] 0 q,[([0],.arr none (gw zs q (l.length-q) (i64 0)))],[0],id,⟨gw zs q (l.length-q) (i64 0),by rw [hq],rfl,by rw [hq,qX (by omega),htk],o8 hfl _ _ _,by rw [j4 (by omega)];exact hzl⟩,?_⟩
    simp only [go_sem]
    rfl
  ·rw [hQ]
   simp only [go_sem]
   refine ⟨⟨i+1,by omega,by omega,fun m hm hmi=>?_⟩,by show l.length-(i+1)<l.length-i;omega,id,?_⟩
   ·by_cases e:m+1=i
    ·subst e
     intro e2
     exact h3 e2
    ·exact hno m hm (by omega)
   ·simp only [go_sem]
    rw [ab ⟨by omega,by omega⟩]
    (repeat' apply And.intro)<;>first | rfl | trivial
 ·have hiN:i=l.length:=by omega
  subst hiN
  rw [hQ]
  simp only [go_sem]
  have hf:cA l=l:=iB fun m hm=>hno m hm hm
  refine ⟨.vw [0] 0 l.length,[([0],.arr none (l.map i64))],[0],id,⟨l.map i64,by rw [hf],rfl,by rw [hf,List.take_of_length_le (by simp)],bU l,by simp⟩,?_⟩
  simp only [go_sem]
end Go.Proofs.YthfodompfpdmgaaGreatDoor

namespace Go.Proofs.YthfodompfpdmgaaGreatDoor
open Go.Ab
abbrev Ris (l:List Int):Prop:=l.Pairwise (· < ·)
theorem ql:∀ {a b:List Int},Ris a→Ris b→(∀ x,x∈a↔x∈b)→a=b
 | [],[],_,_,_=>rfl
 | [],y::r,_,_,h=>absurd ((h y).2 List.mem_cons_self) (by simp)
 | x::r,[],_,_,h=>absurd ((h x).1 List.mem_cons_self) (by simp)
 | x::a,y::b,ha,hb,h=>by
   have ha':=List.pairwise_cons.1 ha
   have hb':=List.pairwise_cons.1 hb
   have e:x=y:=by
    rcases List.mem_cons.1 ((h x).1 List.mem_cons_self) with e | hx
    ·exact e
    ·rcases List.mem_cons.1 ((h y).2 List.mem_cons_self) with e | hy
     ·exact e.symm
     ·have:=hb'.1 x hx
      have:=ha'.1 y hy
      omega
   subst e
   rw [ql ha'.2 hb'.2 fun z=>?_]
   constructor
   ·intro hz
    rcases List.mem_cons.1 ((h z).1 (List.mem_cons_of_mem _ hz)) with e | hz'
    ·have:=ha'.1 z hz;omega
    ·exact hz'
   ·intro hz
    rcases List.mem_cons.1 ((h z).2 (List.mem_cons_of_mem _ hz)) with e | hz'
    ·have:=hb'.1 z hz;omega
    ·exact hz'
def srt (l:List Int):List Int:=l.mergeSort fun x y=>decide (x≤y)
theorem uJ (l:List Int):(srt l).Pairwise (·≤·):=by
 have:=List.pairwise_mergeSort (le:=fun x y:Int=>decide (x≤y)) (fun a b c h1 h2=>by simp at *;omega) (fun a b=>by simp;omega) l
 exact this.imp fun h=>by simpa using h
theorem uW (l:List Int) (x:Int):x∈srt l↔x∈l:=List.mem_mergeSort
theorem j6 (l:List Int):(srt l).length=l.length:=List.length_mergeSort _
theorem mX:∀ {l:List Int},l.Pairwise (·≤·)→Ris (cA l)∧∀ x,x∈cA l↔x∈l
 | [],_=>⟨.nil,fun _=>Iff.rfl⟩
 | [x],_=>⟨List.pairwise_singleton _ _,fun _=>Iff.rfl⟩
 | x::y::r,h=>by
   have h':=List.pairwise_cons.1 h
   obtain ⟨i1,i2⟩:=mX h'.2
   rw [cA]
   by_cases e:x=y
   ·rw [if_pos e]
    refine ⟨i1,fun z=>?_⟩
    rw [i2,e]
    simp
   ·rw [if_neg e]
    refine ⟨List.pairwise_cons.2 ⟨fun z hz=>?_,i1⟩,fun z=>?_⟩
    ·rw [i2] at hz
     have hxy:=h'.1 y List.mem_cons_self
     rcases List.mem_cons.1 hz with rfl | hz
     ·omega
     ·have:=h'.1 z (List.mem_cons_of_mem _ hz)
      have hy:=(List.pairwise_cons.1 h'.2).1 z hz
      omega
    ·rw [List.mem_cons,i2,List.mem_cons (a:=z) (b:=x)]
def gp (l:List Int):List Int:=cA (srt l)
theorem jz (l:List Int):Ris (gp l):=(mX (uJ l)).1
theorem nA (l:List Int) (x:Int):x∈gp l↔x∈l:=by rw [gp,(mX (uJ l)).2,uW]
theorem s7:∀ l:List Int,(cA l).length≤l.length
 | []=>Nat.le_refl _
 | [_]=>Nat.le_refl _
 | x::y::r=>by
   have:=s7 (y::r)
   rw [cA]
   split
   ·exact Nat.le_succ_of_le this
   ·simp only [List.length_cons] at this ⊢;omega
theorem sF (l:List Int):(gp l).length≤l.length:=by
 have:=s7 (srt l)
 rw [j6] at this
 exact this
theorem vV {l s:List Int} (h:Ris s) (hm:∀ x,x∈s↔x∈l):gp l=s:=ql (jz l) h fun x=>by rw [nA,hm]
theorem DD {l:List Int} (h:l.Nodup):Ris (srt l):=by
 have hn:(srt l).Nodup:=(List.mergeSort_perm l _).nodup_iff.2 h
 exact ((uJ l).and hn).imp fun {a b} h=>by have:=h.1;have:=h.2;omega
section
variable (ns:List TN)
def cL (i:Int):Bool:=fH (nd ns i.toNat).k
inductive Opn:Int→Int→Prop
 | flat {i:Int} (h:cL ns i=false):Opn i i
 | left {i x:Int} (h:cL ns i=true) (t:Opn (nd ns i.toNat).a x):Opn i x
 | right {i x:Int} (h:cL ns i=true) (t:Opn (nd ns i.toNat).b x):Opn i x
def jo (l out:List Int):Prop:=Ris out∧∀ x,x∈out↔∃ i∈l,Opn ns i x
open Classical in
noncomputable def cM (l:List Int):List Int:=if h:∃ out,jo ns l out then h.choose else []
end
variable {ns:List TN}
theorem xz {l a b:List Int} (ha:jo ns l a) (hb:jo ns l b):a=b:=ql ha.1 hb.1 fun x=>by rw [ha.2,hb.2]
theorem fk {l out:List Int} (h:jo ns l out):cM ns l=out:=by
 have he:∃ out,jo ns l out:=⟨out,h⟩
 unfold cM
 rw [dif_pos he]
 exact xz he.choose_spec h
theorem Opn.self {i x:Int} (h:Opn ns i x) (hf:cL ns i=false):x=i:=by
 cases h with
 | flat=>rfl
 | left h=>rw [hf] at h;cases h
 | right h=>rw [hf] at h;cases h
structure Inn (ns:List TN):Prop where
 len:ns.length≤2000
 lat:rF ns
 ends:∀ i,i<ns.length→Ends ns i
def okP (ns:List TN) (i:Int):Prop:=0≤i∧i<ns.length
theorem Inn.kids (h:Inn ns) {i:Int} (hi:okP ns i) (hl:cL ns i=true):okP ns (nd ns i.toNat).a∧okP ns (nd ns i.toNat).b:=h.lat i.toNat (by have:=hi.1;have:=hi.2;omega) hl
theorem Opn.ok (h:Inn ns) {i x:Int} (ho:Opn ns i x):okP ns i→okP ns x:=by
 induction ho with
 | flat _=>exact id
 | left hl _ ih=>exact fun hi=>ih (h.kids hi hl).1
 | right hl _ ih=>exact fun hi=>ih (h.kids hi hl).2
structure Wlk (ns:List TN) (S seen out:List Int):Prop where
 dn:∀ x∈seen,x∈S∨∀ z,Opn ns x z→z∈out
 fl:∀ z∈out,cL ns z=false∧z∈seen
 nd:out.Nodup
 sn:seen.Nodup
 ok:∀ x∈seen,okP ns x
structure Wto (ns:List TN) (S:List Int) (i:Int) (seen out seen' out':List Int):Prop where
 w:Wlk ns S seen' out'
 all:∀ z,Opn ns i z→z∈out'
 sub:∀ z∈out,z∈out'
 org:∀ z∈out',z∈out∨Opn ns i z
 sub2:∀ x∈seen,x∈seen'
def ek (ns:List TN):Nat→Int→List Int × List Int→List Int × List Int
 | 0,_,s=>s
 | f+1,i,s=>if i∈s.1 then s else if cL ns i then ek ns f (nd ns i.toNat).b (ek ns f (nd ns i.toNat).a (s.1++[i],s.2)) else (s.1++[i],s.2++[i])
inductive Hgt (ns:List TN):Nat→Int→Prop
 | flat {n:Nat} {i:Int} (h:cL ns i=false):Hgt ns (n+1) i
 | both {n:Nat} {i:Int} (h:cL ns i=true) (ha:Hgt ns n (nd ns i.toNat).a) (hb:Hgt ns n (nd ns i.toNat).b):Hgt ns (n+1) i
theorem Hgt.up {n m:Nat} {i:Int} (h:Hgt ns n i) (hm:n≤m):Hgt ns m i:=by
 induction h generalizing m with
 | flat h =>
   obtain ⟨k,rfl⟩:∃ k,m=k+1:=⟨m-1,by omega⟩
   exact .flat h
 | both h _ _ iha ihb =>
   obtain ⟨k,rfl⟩:∃ k,m=k+1:=⟨m-1,by omega⟩
   exact .both h (iha (by omega)) (ihb (by omega))
inductive Down (ns:List TN):Int→Int→Prop
 | a {i:Int} (h:cL ns i=true):Down ns i (nd ns i.toNat).a
 | b {i:Int} (h:cL ns i=true):Down ns i (nd ns i.toNat).b
 | tr {i j k:Int} (h1:Down ns i j) (h2:Down ns j k):Down ns i k
theorem wN {i j k:Nat} (h1:Pth ns i j) (h2:Pth ns j k):Pth ns i k:=by
 induction h1 with
 | one e=>exact .cons e h2
 | cons e _ ih=>exact .cons e (ih h2)
theorem Down.pth (h:Inn ns) {i j:Int} (hd:Down ns i j):okP ns i→okP ns j∧Pth ns i.toNat j.toNat:=by
 induction hd with
 | a hl=>exact fun hi=>⟨(h.kids hi hl).1,.one ⟨hl,.inl rfl⟩⟩
 | b hl=>exact fun hi=>⟨(h.kids hi hl).2,.one ⟨hl,.inr rfl⟩⟩
 | tr _ _ ih1 ih2 =>
   intro hi
   obtain ⟨h1,p1⟩:=ih1 hi
   obtain ⟨h2,p2⟩:=ih2 h1
   exact ⟨h2,wN p1 p2⟩
theorem Down.no (h:Inn ns) {i:Int} (hi:okP ns i):¬ Down ns i i:=fun hd=>(h.ends i.toNat (by have:=hi.1;have:=hi.2;omega)).no (hd.pth h hi).2
theorem jQ (h:Inn ns):∀ (f:Nat) (i:Int) (S seen out:List Int),okP ns i→Hgt ns f i→(∀ s∈S,Down ns s i)→Wlk ns S seen out→Wto ns S i seen out (ek ns f i (seen,out)).1 (ek ns f i (seen,out)).2
 | 0,i,S,seen,out,_,hh,_,_=>by cases hh
 | f+1,i,S,seen,out,hi,hh,hS,hw=>by
   have hiS:i ∉ S:=fun hm=>Down.no h hi (hS i hm)
   rw [ek]
   by_cases hm:i∈seen
   ·rw [if_pos hm]
    exact ⟨hw,fun z hz=>((hw.dn i hm).resolve_left hiS) z hz,fun _ hz=>hz,fun _ hz=>.inl hz,fun _ hx=>hx⟩
   rw [if_neg hm]
   have hsn:(seen++[i]).Nodup:=by
    rw [List.nodup_append]
    exact ⟨hw.sn,by simp,fun a ha b hb e=>hm (by rw [List.mem_singleton.1 hb] at e;exact e ▸ ha)⟩
   have hok:∀ x∈seen++[i],okP ns x:=fun x hx=>by
    rcases List.mem_append.1 hx with hx | hx
    ·exact hw.ok x hx
    ·rw [List.mem_singleton.1 hx];exact hi
   cases hl:cL ns i with
   | false =>
     rw [if_neg (by simp)]
     refine ⟨⟨fun x hx=>?_,fun z hz=>?_,?_,hsn,hok⟩,fun z hz=>?_,fun z hz=>List.mem_append_left _ hz,fun z hz=>?_,fun x hx=>List.mem_append_left _ hx⟩
     ·rcases List.mem_append.1 hx with hx | hx
      ·exact (hw.dn x hx).imp id fun g z hz=>List.mem_append_left _ (g z hz)
      ·rw [List.mem_singleton.1 hx]
       exact .inr fun z hz=>by rw [hz.self hl];simp
     ·rcases List.mem_append.1 hz with hz | hz
      ·exact ⟨(hw.fl z hz).1,List.mem_append_left _ (hw.fl z hz).2⟩
      ·rw [List.mem_singleton.1 hz];exact ⟨hl,by simp⟩
     ·show (out++[i]).Nodup
      rw [List.nodup_append]
      exact ⟨hw.nd,by simp,fun a ha b hb e=>hm (by rw [List.mem_singleton.1 hb] at e;exact e ▸ (hw.fl a ha).2)⟩
     ·rw [hz.self hl];simp
     ·rcases List.mem_append.1 hz with hz | hz
      ·exact .inl hz
      ·rw [List.mem_singleton.1 hz];exact .inr (.flat hl)
   | true =>
     rw [if_pos rfl]
     cases hh with
     | flat hf=>rw [hl] at hf;cases hf
     | both _ ha hb =>
     obtain ⟨ka,kb⟩:=h.kids hi hl
     have hw0:Wlk ns (i::S) (seen++[i]) out:=⟨fun x hx=>by
      rcases List.mem_append.1 hx with hx | hx
      ·exact (hw.dn x hx).imp (List.mem_cons_of_mem _) id
      ·rw [List.mem_singleton.1 hx];exact .inl List.mem_cons_self,fun z hz=>⟨(hw.fl z hz).1,List.mem_append_left _ (hw.fl z hz).2⟩,hw.nd,hsn,hok⟩
     have hSa:∀ s∈i::S,Down ns s (nd ns i.toNat).a:=fun s hs=>by
      rcases List.mem_cons.1 hs with rfl | hs
      ·exact .a hl
      ·exact .tr (hS s hs) (.a hl)
     have hSb:∀ s∈i::S,Down ns s (nd ns i.toNat).b:=fun s hs=>by
      rcases List.mem_cons.1 hs with rfl | hs
      ·exact .b hl
      ·exact .tr (hS s hs) (.b hl)
     have t1:=jQ h f _ (i::S) (seen++[i]) out ka ha hSa hw0
     have t2:=jQ h f _ (i::S) _ _ kb hb hSb t1.w
     generalize ek ns f (nd ns i.toNat).a (seen++[i],out)=r1 at t1 t2 ⊢
     generalize ek ns f (nd ns i.toNat).b (r1.1,r1.2)=r2 at t2 ⊢
     have hall:∀ z,Opn ns i z→z∈r2.2:=fun z hz=>by
      cases hz with
      | flat hf=>rw [hl] at hf;cases hf
      | left _ t=>exact t2.sub z (t1.all z t)
      | right _ t=>exact t2.all z t
     refine ⟨⟨fun x hx=>?_,t2.w.fl,t2.w.nd,t2.w.sn,t2.w.ok⟩,hall,fun z hz=>t2.sub z (t1.sub z hz),fun z hz=>?_,fun x hx=>t2.sub2 x (t1.sub2 x (List.mem_append_left _ hx))⟩
     ·rcases t2.w.dn x hx with g | g
      ·rcases List.mem_cons.1 g with rfl | g
       ·exact .inr hall
       ·exact .inl g
      ·exact .inr g
     ·rcases t2.org z hz with g | g
      ·rcases t1.org z g with g | g
       ·exact .inl g
       ·exact .inr (.left hl g)
      ·exact .inr (.right hl g)
end Go.Proofs.YthfodompfpdmgaaGreatDoor

namespace Go.Ab
structure EA where
 plus:Bool
 al:Bool
 int:Bool
 bool:Bool
 str:Bool
 arr:Bool
 rc:Bool
 tg:Bool
 vars:List Int
 dom:Int
 cod:Int
 fl:List (List UInt8 × Int)
 tl:List (List UInt8 × Int)
 deriving DecidableEq,Inhabited
def EA.next (s:EA):List Int:=(if s.arr then [s.dom,s.cod] else [])++(s.fl.map (·.2)++s.tl.map (·.2))
def EA.self (s:EA):(List Bool × List Int) × List (List UInt8) × List (List UInt8) :=
 (([s.plus,s.al,s.int,s.bool,s.str,s.arr,s.rc,s.tg],s.vars),s.fl.map (·.1),s.tl.map (·.1))
def EA.mv (f:Int→Int) (s:EA):EA :=
 { s with dom:=if s.arr then f s.dom else s.dom,cod:=if s.arr then f s.cod else s.cod,fl:=s.fl.map fun q=>(q.1,f q.2),tl:=s.tl.map fun q=>(q.1,f q.2) }
theorem D3 (f:Int→Int) (s:EA):(s.mv f).self=s.self:=by
 simp [EA.mv,EA.self,List.map_map,Function.comp_def]
def nxA (l:List EA) (i:Nat):List Nat:=(l.getD i default).next.map Int.toNat
def sfA (l:List EA) (i:Nat):=(l.getD i default).self
def HK (l:List EA) (R:Nat→Nat→Prop):Prop:=∀ i j,R i j→sfA l i=sfA l j∧∀ (k a b:Nat),(nxA l i)[k]?=some a→(nxA l j)[k]?=some b→R a b
def alike (l:List EA) (i j:Nat):Prop:=∃ R,HK l R∧R i j
end Go.Ab

namespace Go.Ab
def kU:List Nat→List Nat→List Nat
 | L,[]=>L
 | L,k::r=>kU (if k∈L then L else L++[k]) r
def rL (nx:Nat→List Nat):Nat→Nat→List Nat→List Nat
 | 0,_,L=>L
 | f+1,i,L=>match L[i]? with
   | none=>L
   | some x=>rL nx f (i+1) (kU L (nx x))
theorem nF:∀ (ks L:List Nat),∃ r,kU L ks=L++r∧∀ x∈r,x∈ks
 | [],L=>⟨[],by simp [kU],by simp⟩
 | k::ks,L=>by
   unfold kU
   obtain ⟨r,h,hr⟩:=nF ks (if k∈L then L else L++[k])
   rw [h]
   split
   ·exact ⟨r,rfl,fun x hx=>List.mem_cons_of_mem _ (hr x hx)⟩
   ·exact ⟨k::r,by simp,fun x hx=>by
     rcases List.mem_cons.1 hx with rfl | hx
     ·simp
     ·exact List.mem_cons_of_mem _ (hr x hx)⟩
theorem mD:∀ (ks L:List Nat),L.Nodup→(kU L ks).Nodup
 | [],L,h=>h
 | k::ks,L,h=>by
   unfold kU
   apply mD
   split
   ·exact h
   ·rename_i hk
    rw [List.nodup_append]
    exact ⟨h,by simp,fun a ha b hb e=>hk (by rw [List.mem_singleton.1 hb] at e;exact e ▸ ha)⟩
section
variable {nx:Nat→List Nat}
theorem rY:∀ (f i:Nat) (L:List Nat),∃ r,rL nx f i L=L++r
 | 0,_,L=>⟨[],by simp [rL]⟩
 | f+1,i,L=>by
   unfold rL
   split
   ·exact ⟨[],by simp⟩
   ·obtain ⟨r,h⟩:=rY f (i+1) (kU L (nx ‹_›))
    obtain ⟨r',h',_⟩:=nF (nx ‹_›) L
    exact ⟨r'++r,by rw [h,h',List.append_assoc]⟩
theorem Gk {S:Nat→Prop} {L ks:List Nat} (hL:∀ x∈L,S x) (hk:∀ x∈ks,S x):∀ x∈kU L ks,S x:=by
 obtain ⟨r,h,hr⟩:=nF ks L
 rw [h]
 intro x hx
 rcases List.mem_append.1 hx with hx | hx
 ·exact hL x hx
 ·exact hk x (hr x hx)
theorem eC:∀ {n:Nat} {L:List Nat},L.Nodup→(∀ x∈L,x<n)→L.length≤n
 | 0,L,_,hn=>by
   cases L with
   | nil=>simp
   | cons a r=>exact absurd (hn a (by simp)) (Nat.not_lt_zero _)
 | n+1,L,h,hn=>by
   have h1:=eC (n:=n) (L:=L.erase n) (h.erase n) (fun x hx=>by
    rw [h.mem_erase_iff] at hx
    have:=hn x hx.2
    have:=hx.1
    omega)
   have:=List.length_erase (a:=n) (l:=L)
   split at this<;>omega
end
def Iy (l:List EA) (start:Nat):List Nat:=rL (nxA l) l.length 0 [start]
def InA (l:List EA):Prop:=∀ s∈l,∀ z∈s.next,0≤z∧z<l.length
theorem AP {l:List EA} {i:Nat} (h:i<l.length):l.getD i default∈l:=by
 rw [List.getD_eq_getElem?_getD,List.getElem?_eq_getElem h,Option.getD_some];exact List.getElem_mem h
theorem BL {l:List EA} (h:InA l):∀ x,x<l.length→∀ y∈nxA l x,y<l.length:=by
 intro x hx y hy
 obtain ⟨z,hz,rfl⟩:=List.mem_map.1 hy
 have:=h _ (AP hx) z hz
 omega
section
variable {l:List EA} {start:Nat}
end
end Go.Ab

namespace Go.Proofs.YthfodompfpdmgaaGreatDoor
open Go.Ab
theorem HF:fJ Tryz.prog 3 (fun n:Int=>i64 n) (fun n=>.int .i64 n):=ET (by rw [ti3])
theorem GZ:gA Tryz.prog 4=some (.bool false):=by kernel_rfl
def bD (ns:List TN) (root:Int):D:=.agg [.sl (some 4) (ns.map ah),i64 root,.unk,.unk,.unk]
def seM (seen:List Int):List (Int × D):=seen.map fun x=>(x,.bool true)
theorem q4 (seen:List Int) (x:Int):mlook (seM seen) x=if x∈seen then some (.bool true) else none:=by
 induction seen with
 | nil=>simp [seM,mlook]
 | cons y r ih =>
   simp only [seM,List.map_cons,mlook] at ih ⊢
   by_cases e:y=x
   ·subst e;simp
   ·rw [if_neg e,ih]
    by_cases h:x∈r
    ·simp [h]
    ·have:x≠y:=fun g=>e g.symm
     simp [h,this]
theorem Ck {seen:List Int} {x:Int} (h:x ∉ seen):mset (seM seen) x (.bool true)=seM (seen++[x]):=by
 have hm:mset (seM seen) x (.bool true)=seM seen++[(x,.bool true)]:=by
  induction seen with
  | nil=>rfl
  | cons y r ih =>
    simp only [List.mem_cons,not_or] at h
    simp only [seM,List.map_cons,mset] at ih ⊢
    rw [if_neg (fun e=>h.1 e.symm),ih h.2]
    rfl
 rw [hm]
 simp [seM]
def opA (ns:List TN) (root:Int):List AV:=[.bx [101] 0,.d (.ptr (.ptr (bD ns root))),.bx [103] 0,.bx [104] 0]
def opO (ns:List TN) (root:Int) (p:Name) (s:List Int × List Int):List (Name × Ob) :=
 [([101],.box [.mp [102]]),([102],.map (menc (fun n:Int=>i64 n) (seM s.1))),([103],.box [.clo 86 [.bx [101] 0,.d (.ptr (.ptr (bD ns root))),.bx [103] 0,.bx [104] 0]]),([104],.box [.vw p 0 s.2.length]),(p,.arr none (s.2.map i64))]
theorem nU {n:Nat} {L:List Int} (hd:L.Nodup) (h:∀ x∈L,0≤x∧x<n):L.length≤n:=by
 have hm:(L.map Int.toNat).Nodup:=by
  rw [List.Nodup,List.pairwise_map]
  refine List.Pairwise.imp_of_mem ?_ hd
  intro a b ha hb hab e
  have:=h a ha
  have:=h b hb
  exact hab (by omega)
 have:=eC hm (n:=n) fun x hx=>by
  obtain ⟨y,hy,rfl⟩:=List.mem_map.1 hx
  have:=h y hy
  omega
 simpa using this
theorem Wlk.len {ns:List TN} (h:Inn ns) {S seen out:List Int} (hw:Wlk ns S seen out):out.length≤2000 :=
 Nat.le_trans (nU hw.nd fun x hx=>hw.ok x (hw.fl x hx).2) h.len
open Classical in
noncomputable def A7 (ns:List TN) (i:Int):Nat:=((List.range ns.length).filter fun j:Nat=>decide (Down ns i (j:Int))).length
theorem filter_le {α:Type} {p q:α→Bool}:∀ {l:List α},(∀ x∈l,p x=true→q x=true)→(l.filter p).length≤(l.filter q).length
 | [],_=>Nat.le_refl _
 | x::r,h=>by
   have ih:=filter_le (l:=r) fun y hy=>h y (List.mem_cons_of_mem _ hy)
   have hx:=h x List.mem_cons_self
   rw [List.filter_cons,List.filter_cons]
   cases hp:p x with
   | false=>cases hq:q x<;>simp<;>omega
   | true=>rw [hx hp];simpa using ih
theorem filter_lt {α:Type} {p q:α→Bool} {z:α}:∀ {l:List α},z∈l→(∀ x∈l,p x=true→q x=true)→p z=false→q z=true→(l.filter p).length<(l.filter q).length
 | x::r,hz,h,h1,h2=>by
   rw [List.filter_cons,List.filter_cons]
   have hx:=h x List.mem_cons_self
   rcases List.mem_cons.1 hz with rfl | hz
   ·have:=filter_le (l:=r) (p:=p) (q:=q) fun y hy=>h y (List.mem_cons_of_mem _ hy)
    rw [h1,h2]
    simp
    omega
   ·have ih:=filter_lt hz (fun y hy=>h y (List.mem_cons_of_mem _ hy)) h1 h2
    cases hp:p x with
    | false=>cases hq:q x<;>simp<;>omega
    | true=>rw [hx hp];simpa using ih
theorem vD {ns:List TN} (h:Inn ns) {i j:Int} (hi:okP ns i) (hd:Down ns i j):A7 ns j<A7 ns i:=by
 have hj:=(hd.pth h hi).1
 have e:((j.toNat:Nat):Int)=j:=by have:=hj.1;omega
 unfold A7
 refine filter_lt (z:=j.toNat) (List.mem_range.2 (by have:=hj.1;have:=hj.2;omega)) (fun x _ hx=>?_) ?_ ?_
 ·simp only [decide_eq_true_eq] at hx ⊢
  exact .tr hd hx
 ·simp only [decide_eq_false_iff_not]
  rw [e]
  exact Down.no h hj
 ·simp only [decide_eq_true_eq]
  rw [e]
  exact hd
theorem pb {ns:List TN} (h:Inn ns):∀ (m:Nat) (i:Int),okP ns i→A7 ns i<m→Hgt ns m i
 | 0,_,_,hm=>absurd hm (Nat.not_lt_zero _)
 | m+1,i,hi,hm=>by
   cases hl:cL ns i with
   | false=>exact .flat hl
   | true =>
     have k:=h.kids hi hl
     have ha:=vD h hi (.a hl)
     have hb:=vD h hi (.b hl)
     exact .both hl (pb h m _ k.1 (by omega)) (pb h m _ k.2 (by omega))
theorem px {ns:List TN} (h:Inn ns) {i:Int} (hi:okP ns i):Hgt ns (ns.length+1) i:=by
 refine pb h _ i hi ?_
 unfold A7
 have:=List.length_filter_le (fun j:Nat=>@decide (Down ns i (j:Int)) (Classical.propDecidable _)) (List.range ns.length)
 rw [List.length_range] at this
 omega
theorem Fe {ns:List TN} {S seen out:List Int} {i:Int} (hw:Wlk ns S seen out) (hi:okP ns i) (hm:i ∉ seen):Wlk ns (i::S) (seen++[i]) out :=
 ⟨fun x hx=>by
   rcases List.mem_append.1 hx with hx | hx
   ·exact (hw.dn x hx).imp (List.mem_cons_of_mem _) id
   ·rw [List.mem_singleton.1 hx];exact .inl List.mem_cons_self,
  fun z hz=>⟨(hw.fl z hz).1,List.mem_append_left _ (hw.fl z hz).2⟩,hw.nd,by
   rw [List.nodup_append]
   exact ⟨hw.sn,by simp,fun a ha b hb e=>hm (by rw [List.mem_singleton.1 hb] at e;exact e ▸ ha)⟩,
  fun x hx=>by
   rcases List.mem_append.1 hx with hx | hx
   ·exact hw.ok x hx
   ·rw [List.mem_singleton.1 hx];exact hi⟩
set_option maxHeartbeats 4000000 in
theorem tS {G} (ns:List TN) (root:Int) (h:Inn ns):∀ (f:Nat) (i:Int) (S seen out:List Int),okP ns i→Hgt ns f i→(∀ s∈S,Down ns s i)→Wlk ns S seen out →
  HCall Tryz.prog G 86 (.d (i64 i)::opA ns root) (opO ns root [105] (seen,out)) [101,102,103,104,105] (fun r hp'=>r=.tup []∧hp'=opO ns root [106] (ek ns f i (seen,out)))
 | 0,i,S,seen,out,_,hh,_,_=>by cases hh
 | f+1,i,S,seen,out,hi,hh,hS,hw=>by
   generalize hR:ek ns (f+1) i (seen,out)=R
   rw [ek] at hR
   unfold opA opO bD
   refine aL Tryz.func86 rfl (by decide +kernel) (by simp [Tryz.ntmps86]) (veil fun E=>?_)
   simp only [go_sem]
   refine mU E [102] (seM seen) i (.bool false) (by rw [y5]) HF GZ rfl rfl rfl (by simp) ?_
   by_cases hm:i∈seen
   ·rw [show mlook (seM seen) i=some (.bool true) by rw [q4,if_pos hm]]
    simp only [go_sem]
    refine ⟨.tup [],_,[101,102,103,104,105,106],tau [([106],[105])],⟨rfl,by rw [← hR,if_pos hm]⟩,?_⟩
    simp only [go_sem]
   rw [show mlook (seM seen) i=none by rw [q4,if_neg hm]]
   simp only [go_sem]
   refine gz E [102] (seM seen) i (.bool true) (by rw [y5]) HF rfl rfl rfl rfl rfl ?_
   rw [Ck hm]
   simp only [go_sem]
   refine pf E (by simp) rfl ?_
   simp only [go_sem]
   have hin:i.toNat<ns.length:=by have:=hi.1;have:=hi.2;omega
   have hti:((i.toNat:Nat):Int)=i:=by have:=hi.1;omega
   refine ⟨⟨by have:=hi.1;omega,by have:=hi.2;omega⟩,?_⟩
   rw [bJ hin]
   simp only [go_sem]
   repeat (first
    | (apply a8 E;(· simp only [go_sem]);(· intro h;(try simp only [bq] at h);simp only [↓h,go_sem];rfl);simp only [go_sem])
    | (apply aJ E;(· simp only [go_sem]);(· intro h;(try simp only [bq] at h);simp only [↓h,go_sem];rfl);(· intro h;(try simp only [bq] at h);simp only [↓h,go_sem];rfl);simp only [go_sem])
    | (apply aH E;(· simp only [go_sem]);(· rfl);(· intro h h';(try simp only [bq] at h h');simp only [↓h,↓h',go_sem];rfl);simp only [go_sem])
    | (apply aA E;(· simp only [go_sem]);(· rfl);(· intro h h';(try simp only [bq] at h h');simp only [↓h,↓h',go_sem];rfl);(· intro h h';(try simp only [bq] at h h');simp only [↓h,↓h',go_sem];rfl);simp only [go_sem])
    | (apply bj E;(· decide);simp only [go_sem]))
   refine aX E (fun h1=>?_) (fun h1=>?_)<;>simp only [go_sem]
   ·have hl:cL ns i=true:=by simpa [cL,fH] using h1
    obtain ⟨ka,kb⟩:=h.kids hi hl
    cases hh with
    | flat hf=>rw [hl] at hf;cases hf
    | both _ ha hb =>
    have hw0:Wlk ns (i::S) (seen++[i]) out:=Fe hw hi hm
    have hSa:∀ s∈i::S,Down ns s (nd ns i.toNat).a:=fun s hs=>by
     rcases List.mem_cons.1 hs with rfl | hs
     ·exact .a hl
     ·exact .tr (hS s hs) (.a hl)
    have hSb:∀ s∈i::S,Down ns s (nd ns i.toNat).b:=fun s hs=>by
     rcases List.mem_cons.1 hs with rfl | hs
     ·exact .b hl
     ·exact .tr (hS s hs) (.b hl)
    have t1:=jQ h f _ (i::S) (seen++[i]) out ka ha hSa hw0
    have c1:=tS (G:=G) ns root h f _ (i::S) (seen++[i]) out ka ha hSa hw0
    have c2:=tS (G:=G) ns root h f _ (i::S) _ _ kb hb hSb t1.w
    rw [if_neg hm,if_pos hl] at hR
    obtain ⟨r1,e1⟩:∃ r1,ek ns f (nd ns i.toNat).a (seen++[i],out)=r1:=⟨_,rfl⟩
    rw [e1] at hR c1 c2
    change HCall _ _ _ _ (opO ns root [105] r1) _ (fun r hp'=>r=.tup []∧hp'=opO ns root [106] (ek ns f (nd ns i.toNat).b r1)) at c2
    rw [hR] at c2
    unfold opA opO bD at c1 c2
    refine bn E _ _ _ c1 rfl rfl ⟨by simp only [go_sem],by rw [aa];decide⟩ (by simp only [go_sem]) (by simp only [go_sem]) (by simp only [go_sem]) ?_
    rintro _ _ ⟨rfl,rfl⟩
    refine ⟨by simp only [go_sem];try omega,?_⟩
    simp only [go_sem]
    refine aM E (tau [([105],[31,106])]) _ _ _ c2 rfl rfl ⟨by simp only [go_sem],by rw [aa];decide⟩ rfl (by simp only [go_sem]) (by simp only [go_sem]) ?_
    rintro _ _ ⟨rfl,rfl⟩
    refine ⟨by simp only [go_sem];try omega,?_⟩
    simp only [go_sem]
    refine ⟨.tup [],_,[101,102,103,104,105,106],tau [([106],[35,106])],⟨rfl,rfl⟩,?_⟩
    simp only [go_sem]
   ·have hl:cL ns i=false:=by simpa [cL,fH] using h1
    have hlen:=hw.len h
    refine ⟨by omega,?_⟩
    refine ⟨.tup [],_,[101,102,103,104,105,106],tau [([106],[39])],⟨rfl,by rw [← hR,if_neg hm,if_neg (by rw [hl];simp)]⟩,?_⟩
    simp only [go_sem]
    constructor<;>simp
end Go.Proofs.YthfodompfpdmgaaGreatDoor

namespace Go.Ab
section
variable {l:List EA} {start:Nat} {cls:List Nat}
end
section
variable {l:List EA}
end
end Go.Ab

namespace Go.Ab
end Go.Ab

namespace Go.Ab
structure CH (H:Array Obj) (own:Nat→Prop) (wf:W) (xs:List D) (news:List Value):Prop where
 size:news.length=xs.length*wd wf
 ok:∀ x∈xs,okW wf x
 rep:∀ i x j d,xs[i]?=some x→x.cells[j]?=some d→Rep H own (news.getD (i*wd wf+j) undef) d
theorem ny {H:Array Obj} {own:Nat→Prop} (l:List UInt8):CH H own none (l.map byD) (byteCells ⟨l.toArray⟩):=by
 have hb:byteCells ⟨l.toArray⟩=l.map fun b=>Value.int .u8 b.toNat:=by unfold byteCells;simp
 refine ⟨by rw [hb];simp [wd],fun x hx=>?_,fun i x j d hi hj=>?_⟩
 ·obtain ⟨c,_,rfl⟩:=List.mem_map.1 hx
  rfl
 ·rw [List.getElem?_map] at hi
  cases hc:l[i]? with
  | none=>rw [hc] at hi;cases hi
  | some c =>
    rw [hc] at hi
    obtain rfl:byD c=x:=by simpa using hi
    have hj0:j=0∧d=byD c:=by
     rcases j with _ | j
     ·refine ⟨rfl,?_⟩
      have:some (byD c)=some d:=hj
      exact (Option.some.inj this).symm
     ·have:([byD c]:List D)[j+1]?=some d:=hj
      simp at this
    obtain ⟨rfl,rfl⟩:=hj0
    rw [hb,show i*wd none+0=i by simp [wd],List.getD_eq_getElem?_getD,List.getElem?_map,hc]
    exact .int _ _
section
variable {P:Program} {B:Base} {β:Name→Option Blk} {s:St} {tm:Array Value} {w:World} {t u:TypeId}
section
variable {e:Nat} {i:TypeInfo} {z:Value}
theorem kH (hk:P.underlying t=some (.slice e)) (hi:P.info? e=some i) (hz:i.zero=some z) (ty:TypeId) {own:Nat→Prop} {wf:W} {xv yv:Value} {xs ys:List D} {olds news:List Value} (hs:i.size=wd wf)
  (hx:Seg P w.heap own wf xv xs olds) (hy:Src P i.size u yv ys.length news w) {a:Option Addr} {cap:Nat} (hxv:xv=.slice a xs.length cap) (hgr:cap<xs.length+ys.length) (hb:(xs.length+ys.length)*i.bytes≤140737488355328) (hb':xs.length+ys.length≤140737488355328) :
  ∃ nc,xs.length+ys.length≤nc∧(Builtin.append_ #[t,u] ty #[xv,yv]).run P w =
   .ok (.slice (some ⟨w.heap.size,0,none⟩) (xs.length+ys.length) nc) (w.drew.alloc (.cells (olds.toArray++news.toArray++Builtin.zeroCells z.cells (nc-(xs.length+ys.length))) e)):=by
 subst hxv
 refine ⟨grownCap w (xs.length+ys.length) cap e,grownCap_ge _ _ _ _,?_⟩
 have h:=run_append_grow_src w t u ty e i z hk hi hz a xs.length cap olds (by rw [hs];exact hx.run w.drew rfl) yv ys.length news hy hgr (by omega) (by have:=growslice_fits hgr hb;omega)
 rw [h]
 simp
theorem kA (hk:P.underlying t=some (.slice e)) (hi:P.info? e=some i) (ty:TypeId) {wf:W} {yv:Value} {ys:List D} {news:List Value} (hs:i.size=wd wf)
  (hy:Src P i.size u yv ys.length news w) {b o n cap:Nat} {c:Array Value} {e':TypeId} (hb:w.heap[b]?=some (.cells c e' (0,0))) (hr:n+ys.length≤cap) (hfit:o+n*wd wf+news.length≤c.size) :
  (Builtin.append_ #[t,u] ty #[.slice (some ⟨b,o,none⟩) n cap,yv]).run P w =
   .ok (.slice (some ⟨b,o,none⟩) (n+ys.length) cap) (w.setRow b (splice c.toList (o+n*wd wf) news).toArray):=by
 have hst:=run_storeCells_at (P:=P) b (o+n*wd wf) e' news 0 c w hb (by simpa using hfit) hy.one
 simp only [Nat.add_zero] at hst
 have hc:=hy.cells
 rw [hs] at hc
 rcases hy.kind with ⟨e2,hu⟩ | hu<;>simp [Builtin.append_,run_underlying hk,run_underlying hu,sizeOf,typeInfo,hi,hy.len,hr,hs,hc,bl,hst,splice,List.append_assoc]
end
theorem ph {H:Array Obj} {own:Nat→Prop} {wf:W} {xs ys:List D} {olds news:List Value} {xv:Value} (hx:Seg P H own wf xv xs olds) (hy:CH H own wf ys news) (rest:Array Value) :
  (∀ x∈xs++ys,okW wf x)∧∀ i x j d,(xs++ys)[i]?=some x→x.cells[j]?=some d→Rep H own ((olds.toArray++news.toArray++rest).getD (i*wd wf+j) undef) d:=by
 refine ⟨fun x h=>(List.mem_append.1 h).elim (hx.ok x) (hy.ok x),fun i x j d hi hj=>?_⟩
 have hget:∀ m,(olds.toArray++news.toArray++rest).getD m undef=if m<olds.length then olds.getD m undef else if m<olds.length+news.length then news.getD (m-olds.length) undef else rest.getD (m-(olds.length+news.length)) undef:=by
  intro m
  simp only [Array.getD_eq_getD_getElem?,List.getD_eq_getElem?_getD,Array.getElem?_append,List.size_toArray,Array.size_append,List.getElem?_toArray]
  by_cases h1:m<olds.length
  ·simp [h1,show m<olds.length+news.length by omega]
  ·by_cases h2:m<olds.length+news.length
   ·simp [h1,h2]
   ·simp [h1,h2]
 rw [hget]
 rcases Nat.lt_or_ge i xs.length with hlt | hge
 ·rw [List.getElem?_append_left hlt] at hi
  have hxo:=hx.ok x (List.mem_of_getElem? hi)
  have hjl:j<wd wf:=by rw [← aY hxo];exact (List.getElem?_eq_some_iff.1 hj).1
  have:i*wd wf+wd wf≤xs.length*wd wf:=by rw [← Nat.succ_mul];exact Nat.mul_le_mul_right _ hlt
  rw [if_pos (by rw [hx.size];omega)]
  exact hx.rep i x j d hi hj
 ·rw [List.getElem?_append_right hge] at hi
  have hxo:=hy.ok x (List.mem_of_getElem? hi)
  have hil:=(List.getElem?_eq_some_iff.1 hi).1
  have hjl:j<wd wf:=by rw [← aY hxo];exact (List.getElem?_eq_some_iff.1 hj).1
  have h1:xs.length*wd wf≤i*wd wf:=Nat.mul_le_mul_right _ hge
  have h2:(i-xs.length)*wd wf+wd wf≤ys.length*wd wf:=by rw [← Nat.succ_mul];exact Nat.mul_le_mul_right _ hil
  have h3:i*wd wf=(i-xs.length)*wd wf+xs.length*wd wf:=by rw [← Nat.add_mul];congr 1;omega
  rw [if_neg (by rw [hx.size];omega),if_pos (by rw [hx.size,hy.size];omega),hx.size,show i*wd wf+j-xs.length*wd wf=(i-xs.length)*wd wf+j by omega]
  exact hy.rep _ x j d hi hj
theorem ja (h:Sim B β s tm w) {xv yv:Value} {p:Name} {o l:Nat} {tg:Option Nat} {wf:W} {xs ys:List D} {news:List Value} (hx:VR w.heap (s.own B.A β) s.used s.hp β xv (.vw p o l)) (hp:s.hp p=some (.arrT tg wf xs)) {e:Nat} (hk:(P.ti t).k=.slice e)
  (hz:(P.ti e).zOk=true) (hw:(P.ti e).isW (P.ti e).w=true) (hwf:wf=(P.ti e).w) (ty:TypeId) (htg:tg.getD e=e) {dd:Nat} (hdd:dd<B.n) (hud:dd ∉ s.used) (hb:(l+ys.length)*(P.ti e).by1≤140737488355328)
  (hsy:CH w.heap (s.own B.A β) (P.ti e).w ys news) (hsrc:∀ it,P.info? e=some it→Src P it.size u yv ys.length news w) :
  ∃ v w' β',(Builtin.append_ #[t,u] ty #[xv,yv]).run P w=.ok v w'∧Sim B β' (((s.set p none).add dd (.arrT tg wf ((xs.drop o).take l++ys))).put dd (.vw [dd] 0 (l+ys.length))) (tm.setIfInBounds dd v) w':=by
 obtain ⟨hg,hwd,_⟩:=bm hw
 obtain ⟨z,hz,hzl⟩:∃ z,(P.ti e).z=some z∧z.length=(P.ti e).sz:=by
  unfold TI.zOk at hz
  split at hz
  ·rename_i z h1;exact ⟨z,h1,by simpa using hz⟩
  ·cases hz
 obtain ⟨zv,hr,hm,it,hi,hiz,his,hib⟩:=b0 hz
 have hu:=aW hk
 have hby:∀ m:Nat,m*(P.ti e).by1≤140737488355328→m*it.bytes≤140737488355328∧m≤140737488355328:=by
  intro m hm'
  unfold TI.by1 at hm'
  rw [hib]
  split at hm'
  ·rename_i h0;rw [h0];simp at hm' ⊢;exact hm'
  ·exact ⟨hm',Nat.le_trans (Nat.le_mul_of_pos_right m (by omega)) hm'⟩
 have fresh:∀ (s1:St) (β1:Name→Option Blk) (xs ys:List D) (olds news:List Value) (xv':Value) (dd nc:Nat),Sim B β1 s1 tm w→Seg P w.heap (s1.own B.A β1) (P.ti e).w xv' xs olds→CH w.heap (s1.own B.A β1) (P.ti e).w ys news→dd<B.n→dd ∉ s1.used →
   xs.length+ys.length≤nc→∃ β',Sim B β' ((s1.add dd (.arrT tg (P.ti e).w (xs++ys))).put dd (.vw [dd] 0 (xs.length+ys.length))) (tm.setIfInBounds dd (.slice (some ⟨w.heap.size,0,none⟩) (xs.length+ys.length) nc))
    (w.drew.alloc (.cells (olds.toArray++news.toArray++Builtin.zeroCells zv.cells (nc-(xs.length+ys.length))) e)):=by
  intro s1 β1 xs ys olds news xv' dd nc h1 hsx hsy hdd hud hnc
  obtain ⟨r1,r2⟩:=ph hsx hsy (Builtin.zeroCells zv.cells (nc-(xs.length+ys.length)))
  have hzs:zv.cells.size=wd (P.ti e).w:=by
   have:=(dU (H:=w.heap) (own:=s.own B.A β) hm).1
   simp at this;omega
  have hsz:(olds.toArray++news.toArray++Builtin.zeroCells zv.cells (nc-(xs.length+ys.length))).size=nc*wd (P.ti e).w:=by
   simp only [Array.size_append,List.size_toArray,hsx.size,hsy.size,size_zeroCells,hzs,← Nat.add_mul];congr 1;omega
  have:=cz (h1.gb (w':=w.drew) rfl rfl) hdd hud (c:=olds.toArray++news.toArray++Builtin.zeroCells zv.cells (nc-(xs.length+ys.length))) (wf:=(P.ti e).w) (xs:=xs++ys) (cap:=nc) (by simpa using hnc)
   (by rw [hsz];exact Nat.le_refl _) r1 (fun i x j d hi hj=>r2 i x j d hi hj) e tg htg
  simpa using this
 have hsrc:=hsrc it hi
 obtain ⟨hb1,hb2⟩:=hby _ hb
 have hlx:bW (P.ti e).w s.hp (.vw p o l)=some ((xs.drop o).take l):=by simp [bW,hp,hwf]
 obtain ⟨olds,hsx⟩:=eb (P:=P) h hx hlx
 have hpn:=eo (h.objs p _ hp).1 hud
 have hcomm:∀ ob,(s.set p none).add dd ob=(s.add dd ob).set p none:=by
  intro ob
  unfold St.add St.set
  simp only [St.mk.injEq,true_and,and_true]
  funext q
  simp only [ax]
  by_cases h1:q=[dd]
  ·subst h1;simp [Ne.symm hpn]
  ·simp [h1]
 cases hx with
 | vw _ _ _ _ hn h1 hx =>
   obtain ⟨hle,a,cap,rfl,hx'⟩:=hx _ _ _ hp
   have hlen:((xs.drop o).take l).length=l:=by simp;omega
   by_cases hgr:cap<l+ys.length
   ·-- it grows
    have hgr':cap<((xs.drop o).take l).length+ys.length:=by rw [hlen];exact hgr
    obtain ⟨nc,hnc,hrun⟩:=kH (P:=P) (t:=t) hu hi hiz ty (by rw [his,hwd]) hsx hsrc (a:=a) (cap:=cap) (by rw [hlen]) hgr' (by rw [hlen];exact hb1) (by rw [hlen];exact hb2)
    obtain ⟨β',hs⟩:=fresh s β _ ys olds news _ dd nc h hsx hsy hdd hud hnc
    rw [hlen] at hs hrun
    refine ⟨_,_,β',hrun,?_⟩
    rw [hcomm,hwf]
    have:=hs.drop p
    have e2:((s.add dd (.arrT tg (P.ti e).w ((xs.drop o).take l++ys))).put dd (.vw [dd] 0 (l+ys.length))).set p none=((s.add dd (.arrT tg (P.ti e).w ((xs.drop o).take l++ys))).set p none).put dd (.vw [dd] 0 (l+ys.length)):=rfl
    rwa [e2] at this
   ·-- there is room
    rcases hx' with ⟨rfl,rfl⟩ | ⟨k,hk',rfl,hcap,hz'⟩
    ·have:ys=[]:=List.length_eq_zero_iff.1 (by omega)
     subst this
     have hn0:news=[]:=List.length_eq_zero_iff.1 (by rw [hsy.size];simp)
     subst hn0
     have hsrc0:=hsrc
     have hrun:=run_append_nothing w t u ty e it hu hi a 0 0 (Nat.le_refl 0) yv hsrc0
     refine ⟨_,_,ax β [dd] none,hrun,?_⟩
     rw [hcomm]
     have e3:((xs.drop o).take 0++([]:List D))=[]:=by simp
     rw [e3]
     have:=((h.eU hud tg wf).put hdd (v:=.slice a 0 0) (x:=.vw [dd] 0 0) (.vw _ _ _ _ ⟨dd,[],rfl,List.mem_cons_self⟩ rfl fun ty' w' xs' hp'=>by
      have:w'=wf∧xs'=[]:=And.right (a:=ty'=tg) (by simpa [St.add,ax,eq_comm] using hp')
      obtain ⟨rfl,rfl⟩:=this
      exact ⟨by simp,a,0,rfl,.inl ⟨rfl,rfl⟩⟩)).drop p
     exact this
    ·have hob:=(h.objs p _ hp).2
     rcases hob with ⟨h0,h0'⟩ | ⟨k',c',e',hk'',hc,hzz,hl',hwx,hcs⟩
     ·rw [h0] at hk';cases hk'
     ·rw [hk'] at hk'';cases hk''
      have hmul:(o+cap)*wd wf=o*wd wf+cap*wd wf:=Nat.add_mul _ _ _
      have hle2:(l+ys.length)*wd wf≤cap*wd wf:=Nat.mul_le_mul_right _ (by omega)
      have hmul2:(l+ys.length)*wd wf=l*wd wf+ys.length*wd wf:=Nat.add_mul _ _ _
      have hns:=hsy.size
      rw [← hwf] at hns
      have hfit:k.o+o*wd wf+l*wd wf+news.length≤c'.size:=by omega
      have hrun:=kA (P:=P) (t:=t) hu hi ty (wf:=wf) (by rw [his,hwf,hwd]) hsrc hc (o:=k.o+o*wd wf) (n:=l) (cap:=cap) (by omega) hfit
      refine ⟨_,_,ax β [dd] (some ⟨k.b,k.o+o*wd wf,k.z⟩),hrun,?_⟩
      have hsim:=h.renew hud hp hk' tg wf ((xs.drop o).take l++ys) (k.o+o*wd wf) (w':=w.setRow k.b (splice c'.toList (k.o+o*wd wf+l*wd wf) news).toArray) rfl (by simp)
       (fun b hb=>setRow_other w k.b b _ hb) (fun hr=>?_)
      ·refine hsim.put hdd (.vw _ _ _ _ ⟨dd,[],rfl,List.mem_cons_self⟩ rfl fun ty' w' xs' hp'=>?_)
       have:w'=wf∧xs'=(xs.drop o).take l++ys:=And.right (a:=ty'=tg) (by simpa [St.add,ax,eq_comm] using hp')
       obtain ⟨rfl,rfl⟩:=this
       refine ⟨by simp;omega,_,cap,rfl,.inr ⟨_,by simp [ax];rfl,by simp,by omega,?_⟩⟩
       simp only [Nat.zero_add];omega
      ·have hsp:=bC c'.toList (k.o+o*wd wf+l*wd wf) news (by simpa using hfit)
       refine ⟨_,e',setRow_heap w k.b c' _ _ (0,0) hc,by simp;rw [hsp];simpa using hzz,?_,fun x hx=>?_,fun i x j d hi hj=>?_⟩
       ·rw [List.length_append,hlen];omega
       ·rcases List.mem_append.1 hx with hx | hx
        ·exact hwx x (List.mem_of_mem_drop (List.mem_of_mem_take hx))
        ·rw [hwf];exact hsy.ok x hx
       ·have hgetc:((splice c'.toList (k.o+o*wd wf+l*wd wf) news).toArray).getD (k.o+o*wd wf+i*wd wf+j) undef =
          if k.o+o*wd wf+l*wd wf≤k.o+o*wd wf+i*wd wf+j∧k.o+o*wd wf+i*wd wf+j<k.o+o*wd wf+l*wd wf+news.length then news.getD (k.o+o*wd wf+i*wd wf+j-(k.o+o*wd wf+l*wd wf)) undef else c'.getD (k.o+o*wd wf+i*wd wf+j) undef:=by
         have:=cn c'.toList (k.o+o*wd wf+l*wd wf) news (by simpa using hfit) (k.o+o*wd wf+i*wd wf+j)
         simp only [Array.getElem?_toList] at this
         simp only [Array.getD_eq_getD_getElem?,List.getElem?_toArray,this,List.getD_eq_getElem?_getD]
         split<;>rfl
        rw [hgetc]
        rcases Nat.lt_or_ge i l with hlt | hge
        ·rw [List.getElem?_append_left (by rw [hlen];exact hlt),List.getElem?_take,if_pos hlt,List.getElem?_drop] at hi
         have hxo:=hwx x (List.mem_of_getElem? hi)
         have hjl:j<wd wf:=by rw [← aY hxo];exact (List.getElem?_eq_some_iff.1 hj).1
         have:i*wd wf+wd wf≤l*wd wf:=by rw [← Nat.succ_mul];exact Nat.mul_le_mul_right _ hlt
         rw [if_neg (by omega)]
         have:=hr _ _ (hcs _ x j d hi hj)
         rwa [show k.o+o*wd wf+i*wd wf+j=k.o+(o+i)*wd wf+j by rw [Nat.add_mul];omega]
        ·rw [List.getElem?_append_right (by rw [hlen];exact hge),hlen] at hi
         have hxo:=hsy.ok x (List.mem_of_getElem? hi)
         rw [← hwf] at hxo
         have hil:=(List.getElem?_eq_some_iff.1 hi).1
         have hjl:j<wd wf:=by rw [← aY hxo];exact (List.getElem?_eq_some_iff.1 hj).1
         have g1:l*wd wf≤i*wd wf:=Nat.mul_le_mul_right _ hge
         have g2:(i-l)*wd wf+wd wf≤ys.length*wd wf:=by rw [← Nat.succ_mul];exact Nat.mul_le_mul_right _ hil
         have g3:i*wd wf=(i-l)*wd wf+l*wd wf:=by rw [← Nat.add_mul];congr 1;omega
         rw [if_pos (by omega),show k.o+o*wd wf+i*wd wf+j-(k.o+o*wd wf+l*wd wf)=(i-l)*wd wf+j by omega]
         have:=hsy.rep _ x j d hi hj
         rw [← hwf] at this
         exact hr _ _ this
end
section
variable {P:Program} {cf:Cf} {Q:Exit→St→Prop} {s:St} {k:List It}
theorem xd (E:Eng P cf Q) {d t u e:Nat} {x y:Operand} {ty:TypeId} {pos:String} {af:Array Edge} (tg:Option Nat) (p:Name) (xs:List D) (l:List UInt8) (hk:(P.ti t).k=.slice e) (hu:(P.ti u).k=.str) (hz:(P.ti e).zOk=true) (hw:(P.ti e).isW (P.ti e).w=true) (hew:(P.ti e).w=none)
  (htg:tg.getD e=e) (hd:d<cf.n∧d ∉ s.used) (hx:ev s x=.vw p 0 xs.length) (hp:s.hp p=some (.arrT tg none xs)) (hy:ev s y=.d (.str l)) (hl:(xs.length+l.length)*(P.ti e).by1≤140737488355328)
  (h:E.run k (((s.set p none).add d (.arrT tg none (xs++l.map byD))).put d (.vw [d] 0 (xs.length+l.length)))) :
  E.stp { dst:=some d,op:=.call { callee:=.builtin .append,args:=#[x,y],argTypes:=#[t,u] },type:=ty,pos:=pos,after:=af,guard:=none } s k .no:=by
 rw [aK]
 rw [E.run_eq] at h
 intro B hB ds β a w hds hs Q'
 have hvx:=hs.ev x
 have hvy:=hs.ev y
 rw [hx] at hvx
 rw [hy] at hvy
 have hyv:a.eval y=.string ⟨l.toArray⟩:=by
  have g:∀ v,Rep w.heap (s.own B.A β) v (.str l)→v=.string ⟨l.toArray⟩:=fun v hv=>by
   cases hv with
   | str l=>rfl
  exact g _ hvy.toD
 obtain ⟨hg,hwd,_⟩:=bm hw
 have hus:P.underlying u=some .string:=eB hu
 have key:=ja (P:=P) (t:=t) (u:=u) (ys:=l.map byD) (news:=byteCells ⟨l.toArray⟩) hs hvx hp hk hz hw hew.symm ty htg (by rw [hB.1];exact hd.1) hd.2 (by rw [List.length_map];exact hl) (by rw [hew];exact ny l) (yv:=.string ⟨l.toArray⟩) (fun it hi=>by
  have h1:=Src.ofString (P:=P) w hus ⟨l.toArray⟩
  have h2:it.size=1:=by
   have hz':=hz
   unfold TI.zOk at hz'
   split at hz'
   ·rename_i z hz1
    obtain ⟨_,_,_,it',hi',_,his,_⟩:=b0 hz1
    rw [hi] at hi'
    cases hi'
    rw [his,← hwd,hew];rfl
   ·cases hz'
  rw [h2,List.length_map]
  exact h1)
 obtain ⟨v,w',β',hrun,hsim⟩:=key
 rw [List.drop_zero,List.take_length,List.length_map] at hsim
 refine az (v:=v) (by simp) (by simp [execOp,resolve,invoke,builtin,hyv,hrun]) (.inl rfl) ⟨hds,_,β',aV h,hsim⟩
end
end Go.Ab

namespace Go.Ab
theorem nw:∀ (n t:Nat) (acc:Array Value),(∀ v∈acc,v.oneCell'=true)→∀ v∈Extern.BytealgMakeNoZero.digits n t acc,v.oneCell'=true
 | 0,_,_,h=>h
 | n+1,t,acc,h=>by
   rw [Extern.BytealgMakeNoZero.digits]
   refine nw n _ _ fun v hv=>?_
   rcases Array.mem_push.1 hv with hv | rfl
   ·exact h v hv
   ·rfl
theorem DR {P:Program} (w:World) (ps:Array TypeId) (t e:TypeId) (ht:P.underlying t=some (.slice e)) (n:Nat) (hn:n≤281474976710656) :
  ∃ cs:Array Value,(Extern.BytealgMakeNoZero.makeNoZero ps #[t] #[.int .i64 n]).run P w=.ok (.slice (some ⟨w.heap.size,0,none⟩) n cs.size) (w.drew.drew.alloc (.cells cs e))∧n≤cs.size∧∀ v∈cs,v.oneCell'=true:=by
 obtain ⟨z1,z2,z3,hz3,hdef⟩:∃ (z1 z2:String) (z3:Question),z3.forced=false∧Extern.BytealgMakeNoZero.makeNoZero ps #[t] #[.int .i64 n] =
  (do
   let .slice elem ← underlying t | stuck z1
   if (n:Int)<0 || (n:Int) > 2 ^ 48 then runtimePanic (.error z2)
   let cap ← choose (.appendCap (n:Int).toNat 0 elem)
   askRoom cap
   let bytes ← choose z3
   let a ← newRow elem (Extern.BytealgMakeNoZero.digits cap bytes #[])
   pure (.slice (some a) (n:Int).toNat cap)):=⟨_,_,_,rfl,rfl⟩
 refine ⟨Extern.BytealgMakeNoZero.digits (grownCap w n 0 e) (z3.cut (w.tape (w.drawn+1) z3)) #[],?_,?_,nw _ _ _ fun v hv=>by simp at hv⟩
 ·rw [hdef]
  have h1:¬ (n:Int)<0:=by omega
  have h2:¬ (281474976710656:Int)<(n:Int):=by omega
  simp [run_underlying ht,h1,h2,show ∀ a b c,(Question.appendCap a b c).forced=false from fun _ _ _=>rfl,hz3,newRow,Lib.size_digits,grownCap]
 ·rw [Lib.size_digits]
  simpa using grownCap_ge w n 0 e
section
variable {P:Program} {cf:Cf} {ops:Array Oper} {K:St→Ns→Prop} {r:List Oper} {s:St} {ns:Ns}
theorem Hb (E:XEng P cf ops K) {d e n:Nat} {fv x:Operand} {at':Array TypeId} {ty:TypeId} {pos:String} {af:Array Edge} (f:FuncId)
  (hrun:∀ w:World,∃ cs:Array Value,(callFunc f #[.int .i64 n]).run P w=.ok (.value (.slice (some ⟨w.heap.size,0,none⟩) n cs.size)) (w.drew.drew.alloc (.cells cs e))∧n≤cs.size∧∀ v∈cs,v.oneCell'=true)
  (hd:d<cf.n∧d ∉ s.used) (hf:ev s fv=.clo f []) (hx:ev s x=.d (.int .i64 n))
  (hk:E.run r ((s.add d (.arrT (some e) none (List.replicate n .unk))).put d (.vw [d] 0 n)) (ns++[([],[[d]],[d])])) :
  E.stp { dst:=some d,op:=.call { callee:=.value fv,args:=#[x],argTypes:=at' },type:=ty,pos:=pos,after:=af,guard:=none } r s ns .no:=by
 have hgo:∀ s':St,(s'.add d (.arrT (some e) none (List.replicate n .unk))).put d (.vw [d] 0 n)=s'.go (some d) (.vw [d] 0 n) ⟨[([d],some (.arrT (some e) none (List.replicate n .unk)))],[d]⟩:=fun s'=>by unfold St.go;rw [j5];rfl
 rw [E.stp_eq]
 refine ⟨.vw [d] 0 n,([],⟨[([d],some (.arrT (some e) none (List.replicate n .unk)))],[d]⟩),fun s' hu hh he B hB ds' β a w hds hs Q'=>?_,fun q hq=>?_,hd.1,?_⟩
 ·have h1:ev s' fv=.clo f []:=(he fv (by simp [Op.operands,Call.operands])).trans hf
  have h2:ev s' x=.d (.int .i64 n):=(he x (by simp [Op.operands,Call.operands])).trans hx
  have hf':=hs.ev fv
  rw [h1] at hf'
  have hx':=hs.ev x
  rw [h2] at hx'
  have hx':=hx'.int
  generalize hfv:a.eval fv=fval at hf'
  cases hf' with
  | clo _ cvs _ hcs hcv =>
  have hc0:cvs=#[]:=Array.eq_empty_of_size_eq_zero (by simpa using hcs)
  subst hc0
  obtain ⟨cs,hrn,hle,hone⟩:=hrun w
  have e1:(execOp a.eval { dst:=some d,op:=.call { callee:=.value fv,args:=#[x],argTypes:=at' },type:=ty,pos:=pos,after:=af,guard:=none }:Sem Next)=callFunc f (#[]++#[x].map a.eval++#[]):=by
   show (do let d ← (Deferred.ofValue (a.eval fv) (#[x].map a.eval));invoke d.target d.args:Sem Next)=_
   rw [hfv];rfl
  have hdn:d<B.n:=by rw [hB.1];exact hd.1
  obtain ⟨β',hsim⟩:=cz (hs.gb (w':=w.drew.drew) rfl rfl) hdn (hu d (by simp)) (c:=cs) (wf:=none) (xs:=List.replicate n .unk) (cap:=cs.size) (by simpa using hle) (by simp [wd]) (fun y hy=>by rw [List.eq_of_mem_replicate hy];rfl)
   (fun i y j q hi hj=>by
    have hy:y=.unk:=List.eq_of_mem_replicate (List.mem_of_getElem? hi)
    subst hy
    have hil:i<n:=by have:=(List.getElem?_eq_some_iff.1 hi).1;simpa using this
    have hj0:j=0∧q=.unk:=by
     rcases j with _ | j
     ·have:some D.unk=some q:=hj
      exact ⟨rfl,(Option.some.inj this).symm⟩
     ·have:([D.unk]:List D)[j+1]?=some q:=hj
      simp at this
    obtain ⟨rfl,rfl⟩:=hj0
    refine .unk _ ?_
    have:i*wd none+0<cs.size:=by simp [wd];omega
    rw [Array.getD_eq_getD_getElem?,Array.getElem?_eq_getElem this]
    exact hone _ (Array.getElem_mem this)) e (some e) rfl
  rw [List.length_replicate] at hsim
  refine az (v:=.slice (some ⟨w.heap.size,0,none⟩) n cs.size) (w':=w.drew.drew.alloc (.cells cs e)) (by simp) (by rw [e1];simpa [hx'] using hrn) (.inl rfl) ⟨hds,β',by rw [← hgo];exact hsim⟩
 ·obtain rfl:=List.mem_singleton.1 hq
  exact hd.2
 ·rw [← E.run_eq,← hgo]
  exact hk
theorem y8 (E:XEng P cf ops K) {d t e:Nat} {x:Operand} {ty:TypeId} {pos:String} {af:Array Edge} {g:Option (Nat × Bool)} (hk:(P.ti t).k=.slice e) (hd:d<cf.n) (hx:ev s x=.d .nils) (h:E.run r (s.put d (.d (.int .i64 0))) (ns++[([],[],[])])) :
  E.stp { dst:=some d,op:=.call { callee:=.builtin .cap,args:=#[x],argTypes:=#[t] },type:=ty,pos:=pos,after:=af,guard:=g } r s ns .no:=by
 refine eW E (x:=.d (.int .i64 0)) [] (fun t ht=>by rw [Option.mem_def,Option.some.injEq] at ht;rw [← ht];exact hd) (fun s' _ he=>?_) h
 refine gT rfl hd (by simp) (fun B β a w hs=>⟨.int .i64 0,?_,.d _ _ (.int _ _)⟩) (by rw [bG];rfl)
 have hv:=hs.ev x
 rw [(he x (by simp [Op.operands,Call.operands])).trans hx] at hv
 have hv:=hv.nils
 simp [execOp,resolve,invoke,builtin,hv,Builtin.cap_,run_underlying (aW hk),goInt]
theorem Hd (E:XEng P cf ops K) {d t e n o b:Nat} {x h:Operand} {ty:TypeId} {pos:String} {af:Array Edge} {g:Option (Nat × Bool)} (p:Name) (tg:Option Nat) (wf:W) (xs:List D) (hk:(P.ti t).k=.slice e) (hw:(P.ti e).isW wf=true) (hd:d<cf.n)
  (hx:ev s x=.vw p o n) (hp:s.hp p=some (.arrT tg wf xs)) (hh:ev s h=.d (.int .i64 b)) (hb:b≤n) (hr:E.run r (s.put d (.vw p o b)) (ns++[([p],[],[])])) :
  E.stp { dst:=some d,op:=.slice t x none (some h) none,type:=ty,pos:=pos,after:=af,guard:=g } r s ns .no:=by
 refine eW E (x:=.vw p o b) [p] (fun q hq=>by rw [Option.mem_def,Option.some.injEq] at hq;rw [← hq];exact hd) (fun s' hhp he=>?_) hr
 refine gT rfl hd (by simp) (fun B β a w hs=>?_) (by rw [bG];rfl)
 have hvx:=hs.ev x
 have hvh:=hs.ev h
 rw [(he x (by simp [Op.operands])).trans hx] at hvx
 rw [(he h (by simp [Op.operands])).trans hh] at hvh
 have hp':s'.hp p=some (.arrT tg wf xs):=(hhp p (by simp)).trans hp
 obtain ⟨hg,hwd,_⟩:=bm hw
 have hu:=aW hk
 generalize hax:a.eval x=vx at hvx
 cases hvx with
 | vw _ _ _ _ hn h1' hx =>
   obtain ⟨hle,a0,cap,rfl,hx'⟩:=hx _ _ _ hp'
   have hcap:n≤cap:=by
    rcases hx' with ⟨rfl,rfl⟩ | ⟨k,_,_,h,_⟩
    ·exact Nat.le_refl _
    ·exact h
   have hbd:=db (P:=P) true n cap none (some (.int .i64 b)) 0 b (.inl ⟨rfl,rfl⟩) (.inr ⟨_,rfl⟩) (Int.le_refl 0) (by omega) (by omega) w
   refine ⟨.slice (if cap=0 then a0 else a0.map (·.add (0*(P.ti e).sz))) b cap,?_,.vw _ _ _ _ hn rfl fun ty' w' xs' hp2=>?_⟩
   ·have e1:(Instr.sliceAt t (.slice a0 n cap) none (some (.int .i64 b)) none).run P w=.ok (.slice (if cap=0 then a0 else a0.map (·.add (0*(P.ti e).sz))) b cap) w:=by
     simp [Instr.sliceAt,run_underlying hu,Instr.slice,hbd,run_sizeOf hg]
    simp [execOp,hax,hvh.int,e1]
   ·rw [hp'] at hp2;cases hp2
    refine ⟨by omega,_,_,rfl,?_⟩
    by_cases hc0:cap=0
    ·exact .inl ⟨by omega,hc0⟩
    ·rw [if_neg hc0]
     rcases hx' with ⟨rfl,rfl⟩ | ⟨k,hk',rfl,h3,h4⟩
     ·exact absurd rfl hc0
     ·exact .inr ⟨k,hk',by simp [bl],by omega,h4⟩
end
section
variable {P:Program} {cf:Cf} {Q:Exit→St→Prop} {s:St} {k:List It}
theorem CY (E:Eng P cf Q) {x y:Operand} {d:Nat} {dT sT e0:Nat} {ty:TypeId} {pos:String} {af:Array Edge} {p:Name} {off len:Nat} {tg:Option Nat} {zs:List D} (hd:d<cf.n) (hk:(P.ti dT).k=.slice e0) (hw:(P.ti e0).isW none=true)
  (hx:ev s x=.vw p off len) (hp:s.hp p=some (.arrT tg none zs)) (hy:ev s y=.d .nils) (h:E.run k (s.put d (.d (.int .i64 0)))) :
  E.stp { dst:=some d,op:=.call { callee:=.builtin .copy,args:=#[x,y],argTypes:=#[dT,sT] },type:=ty,pos:=pos,after:=af,guard:=none } s k .no:=by
 obtain ⟨hg,hwd,_⟩:=bm hw
 have hu:=aW hk
 have hsz:(P.info? e0).map (·.size)=some 1:=by
  obtain ⟨i,_,hi,_,_,hsz,_⟩:=cJ hg
  rw [hi]
  simp only [Option.map_some,Option.some.injEq]
  rw [← hsz,← hwd];rfl
 refine jj E (x:=.d (.int .i64 0)) rfl hd (by simp) (fun B β a w hs=>⟨goInt 0,?_,.d _ _ (.int _ _)⟩) h
 have hvx:=hs.ev x
 rw [hx] at hvx
 have hvy:=hs.ev y
 rw [hy] at hvy
 have hvy:=hvy.nils
 generalize hax:a.eval x=vx at hvx
 cases hvx with
 | vw _ _ _ _ hn h1' hx' =>
 obtain ⟨hle,a0,cap,rfl,hx''⟩:=hx' _ _ _ hp
 have hr:=run_copy_none (P:=P) w dT sT ty e0 a0 none len cap 0 0 hu hsz (Nat.min_eq_left (Nat.zero_le _))
 simp [execOp,resolve,invoke,builtin,hax,hvy,hr,Result.andThen]
theorem wR (E:Eng P cf Q) {d t u e:Nat} {x y:Operand} {ty:TypeId} {pos:String} {af:Array Edge} (tg:Option Nat) (p:Name) (xs:List D) (n:Nat) (l:List UInt8) (hk:(P.ti t).k=.slice e) (hu:(P.ti u).k=.str) (hz:(P.ti e).zOk=true) (hw:(P.ti e).isW (P.ti e).w=true) (hew:(P.ti e).w=none)
  (htg:tg.getD e=e) (hd:d<cf.n∧d ∉ s.used) (hx:ev s x=.vw p 0 n) (hp:s.hp p=some (.arrT tg none xs)) (hy:ev s y=.d (.str l)) (hl:(n+l.length)*(P.ti e).by1≤140737488355328)
  (h:E.run k (((s.set p none).add d (.arrT tg none (xs.take n++l.map byD))).put d (.vw [d] 0 (n+l.length)))) :
  E.stp { dst:=some d,op:=.call { callee:=.builtin .append,args:=#[x,y],argTypes:=#[t,u] },type:=ty,pos:=pos,after:=af,guard:=none } s k .no:=by
 rw [aK]
 rw [E.run_eq] at h
 intro B hB ds β a w hds hs Q'
 have hvx:=hs.ev x
 have hvy:=hs.ev y
 rw [hx] at hvx
 rw [hy] at hvy
 have hyv:a.eval y=.string ⟨l.toArray⟩:=by
  have g:∀ v,Rep w.heap (s.own B.A β) v (.str l)→v=.string ⟨l.toArray⟩:=fun v hv=>by
   cases hv with
   | str l=>rfl
  exact g _ hvy.toD
 obtain ⟨hg,hwd,_⟩:=bm hw
 have hus:P.underlying u=some .string:=eB hu
 have key:=ja (P:=P) (t:=t) (u:=u) (ys:=l.map byD) (news:=byteCells ⟨l.toArray⟩) hs hvx hp hk hz hw hew.symm ty htg (by rw [hB.1];exact hd.1) hd.2 (by rw [List.length_map];exact hl) (by rw [hew];exact ny l) (yv:=.string ⟨l.toArray⟩) (fun it hi=>by
  have h1:=Src.ofString (P:=P) w hus ⟨l.toArray⟩
  have h2:it.size=1:=by
   have hz':=hz
   unfold TI.zOk at hz'
   split at hz'
   ·rename_i z hz1
    obtain ⟨_,_,_,it',hi',_,his,_⟩:=b0 hz1
    rw [hi] at hi'
    cases hi'
    rw [his,← hwd,hew];rfl
   ·cases hz'
  rw [h2,List.length_map]
  exact h1)
 obtain ⟨v,w',β',hrun,hsim⟩:=key
 rw [List.drop_zero,List.length_map] at hsim
 refine az (v:=v) (by simp) (by simp [execOp,resolve,invoke,builtin,hyv,hrun]) (.inl rfl) ⟨hds,_,β',aV h,hsim⟩
end
end Go.Ab

namespace Go.Ab
section
variable {P:Program} {cf:Cf} {Q:Exit→St→Prop} {k:List It} {s:St}
end
end Go.Ab

