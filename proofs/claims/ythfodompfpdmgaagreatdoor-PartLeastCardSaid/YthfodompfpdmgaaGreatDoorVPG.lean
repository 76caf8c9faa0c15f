/-
  The generic layer, part 107: families of arrays. (with the parts that follow it)
-/
import Derived.Test.YthfodompfpdmgaaGreatDoorVPF
import Derived.Test.YthfodompfpdmgaaGreatDoorVPE
import Derived.Deep.Upon
import Derived.Lib.MakeNoZero
set_option linter.all false
namespace Go.Ab
def cR (h:Nat):Nat→List (Option (List D))→List (Name × Ob)
 | _,[]=>[]
 | i,none::r=>cR h (i+1) r
 | i,some ys::r=>([h,i],.arr none ys)::cR h (i+1) r
def aS (h:Nat) (xs:List (Option (List D))) (r:List (Name × Ob)):List (Name × Ob):=cR h 0 xs++r
def vwL (h:Nat):Nat→List (Option (List D))→List AV
 | _,[]=>[]
 | i,none::r=>.un::vwL h (i+1) r
 | i,some ys::r=>.vw [h,i] 0 ys.length::vwL h (i+1) r
def FT (h:Nat) (xs:List (Option (List D))):Name→Option (List D)
 | [a,i]=>if a=h then (xs.getD i none) else none
 | _=>none
theorem D1 (h:Nat) (xs:List (Option (List D))) (a:Nat):FT h xs [a]=none:=rfl
theorem bD (h:Nat):∀ (xs:List (Option (List D))) (i:Nat) (q:Name × Ob),q∈cR h i xs↔∃ j ys,xs[j]?=some (some ys)∧q=([h,i+j],.arr none ys)
 | [],i,q=>by simp [cR]
 | none::r,i,q=>by
   rw [cR,bD h r]
   constructor
   ·rintro ⟨j,ys,h1,rfl⟩
    exact ⟨j+1,ys,by simpa using h1,by rw [show i+1+j=i+(j+1) by omega]⟩
   ·rintro ⟨j,ys,h1,rfl⟩
    cases j with
    | zero=>simp at h1
    | succ j=>exact ⟨j,ys,by simpa using h1,by rw [show i+1+j=i+(j+1) by omega]⟩
 | some zs::r,i,q=>by
   rw [cR,List.mem_cons,bD h r]
   constructor
   ·rintro (rfl | ⟨j,ys,h1,rfl⟩)
    ·exact ⟨0,zs,rfl,rfl⟩
    ·exact ⟨j+1,ys,by simpa using h1,by rw [show i+1+j=i+(j+1) by omega]⟩
   ·rintro ⟨j,ys,h1,rfl⟩
    cases j with
    | zero=>simp at h1;subst h1;exact .inl rfl
    | succ j=>exact .inr ⟨j,ys,by simpa using h1,by rw [show i+1+j=i+(j+1) by omega]⟩
theorem aT (h:Nat):∀ (xs:List (Option (List D))) (i:Nat),(vwL h i xs).length=xs.length
 | [],_=>rfl
 | none::r,i=>by simp [vwL,aT h r]
 | some _::r,i=>by simp [vwL,aT h r]
theorem eB (h:Nat):∀ (xs:List (Option (List D))) (i j:Nat),(vwL h i xs)[j]?=(xs[j]?).map fun o=>match o with
  | some ys=>.vw [h,i+j] 0 ys.length
  | none=>.un
 | [],i,j=>by simp [vwL]
 | none::r,i,0=>by simp [vwL]
 | some _::r,i,0=>by simp [vwL]
 | none::r,i,j+1=>by
   rw [vwL,List.getElem?_cons_succ,List.getElem?_cons_succ,eB h r,show i+1+j=i+(j+1) by omega]
 | some _::r,i,j+1=>by
   rw [vwL,List.getElem?_cons_succ,List.getElem?_cons_succ,eB h r,show i+1+j=i+(j+1) by omega]
theorem ng (h a:Nat) (t:Name) (hn:(a == h)=false):∀ (xs:List (Option (List D))) (i:Nat) (r:List (Name × Ob)),lkA none ((cR h i xs++r).map fun q=>(q.1,some q.2)) (a::t)=lkA none (r.map fun q=>(q.1,some q.2)) (a::t)
 | [],i,r=>rfl
 | none::xs,i,r=>by rw [cR,ng h a t hn xs]
 | some _::xs,i,r=>by
   have:a≠h:=by simpa using hn
   rw [cR,List.cons_append,List.map_cons,lkA,if_neg (by simp [this]),ng h a t hn xs]
theorem j6 (h a:Nat) (t:Name) (o:Ob) (hn:(a == h)=false):∀ (xs:List (Option (List D))) (i:Nat) (r:List (Name × Ob)),eX (cR h i xs++r) (a::t) o=cR h i xs++eX r (a::t) o
 | [],i,r=>rfl
 | none::xs,i,r=>by rw [cR,j6 h a t o hn xs]
 | some _::xs,i,r=>by
   have:a≠h:=by simpa using hn
   rw [cR,List.cons_append,eX,if_neg (by simp [this]),j6 h a t o hn xs,List.cons_append]
theorem j9 (h a:Nat) (t:Name) (hn:(a == h)=false):∀ (xs:List (Option (List D))) (i:Nat) (r:List (Name × Ob)),ft (cR h i xs++r) (a::t)=cR h i xs++ft r (a::t)
 | [],i,r=>rfl
 | none::xs,i,r=>by rw [cR,j9 h a t hn xs]
 | some _::xs,i,r=>by
   have:a≠h:=by simpa using hn
   rw [cR,List.cons_append,ft,if_neg (by simp [this]),j9 h a t hn xs,List.cons_append]
theorem u3 (h a:Nat) (t:Name) (xs:List (Option (List D))) (r:List (Name × Ob)) (hn:(a == h)=false):lkA none ((aS h xs r).map fun q=>(q.1,some q.2)) (a::t)=lkA none (r.map fun q=>(q.1,some q.2)) (a::t):=ng h a t hn xs 0 r
theorem yi (h a:Nat) (t:Name) (o:Ob) (xs:List (Option (List D))) (r:List (Name × Ob)) (hn:(a == h)=false):eX (aS h xs r) (a::t) o=aS h xs (eX r (a::t) o):=j6 h a t o hn xs 0 r
theorem yk (h a:Nat) (t:Name) (xs:List (Option (List D))) (r:List (Name × Ob)) (hn:(a == h)=false):ft (aS h xs r) (a::t)=aS h xs (ft r (a::t)):=j9 h a t hn xs 0 r
attribute [go_sem] u3 yi yk j7 j3 py FU Nat.reduceBEq Nat.beq_eq_true_eq D1
section
variable {U:List Nat} {τ:Name→Name} {s:St} {u:List Nat} {h:Nat} {xs:List (Option (List D))} {r:List (Name × Ob)}
theorem lE:∀ {a b:List (Name × Ob)},hpL τ u s a→hpL τ u s b→hpL τ u s (a++b)
 | [],_,_,hb=>hb
 | _::_,_,ha,hb=>⟨ha.1,lE ha.2 hb⟩
theorem ug:∀ {a:List (Name × Ob)},(∀ q∈a,s.hp (τ q.1)=some (q.2.ren τ)∧q.2.inU u=true∧nmb u q.1=true)→hpL τ u s a
 | [],_=>trivial
 | q::_,h=>⟨h q List.mem_cons_self,ug fun x hx=>h x (List.mem_cons_of_mem _ hx)⟩
theorem qW:∀ {a b:List (Name × Ob)},gJ τ a→gJ τ b→(∀ q∈a,∀ x∈b,τ q.1≠τ x.1)→gJ τ (a++b)
 | [],_,_,hb,_=>hb
 | q::_,_,ha,hb,hc=>⟨fun x hx=>(List.mem_append.1 hx).elim (ha.1 x) (hc q List.mem_cons_self x),qW ha.2 hb fun x hx=>hc x (List.mem_cons_of_mem _ hx)⟩
theorem iv:∀ {a:List (Name × Ob)},(∀ q∈a,nmb U q.1=true→τ q.1=q.1)→rv U τ a
 | [],_=>trivial
 | q::_,h=>⟨h q List.mem_cons_self,iv fun x hx=>h x (List.mem_cons_of_mem _ hx)⟩
theorem lB (hu:u.contains h=true) (hf:∀ i ys,xs[i]?=some (some ys)→s.hp (τ [h,i])=some (.arr none ys)) (hr:hpL τ u s r):hpL τ u s (aS h xs r):=by
 refine lE (ug fun q hq=>?_) hr
 obtain ⟨j,ys,h1,rfl⟩:=(bD h xs 0 q).1 hq
 rw [Nat.zero_add]
 exact ⟨hf j ys h1,rfl,hu⟩
theorem wI (hi:∀ i j ys zs,xs[i]?=some (some ys)→xs[j]?=some (some zs)→τ [h,i]=τ [h,j]→i=j):gJ τ (cR h 0 xs):=by
 have go:∀ (m:Nat) (ys:List (Option (List D))),xs.drop m=ys→gJ τ (cR h m ys):=by
  intro m ys
  induction ys generalizing m with
  | nil=>exact fun _=>trivial
  | cons o r ih =>
    intro e
    have e2:xs.drop (m+1)=r:=by rw [← List.drop_drop,e];rfl
    have hget:∀ j,xs[m+j]?=(o::r)[j]?:=fun j=>by rw [← List.getElem?_drop,e]
    cases o with
    | none=>exact ih (m+1) e2
    | some zs =>
      refine ⟨fun x hx=>?_,ih (m+1) e2⟩
      obtain ⟨j,ws,h1,rfl⟩:=(bD h r (m+1) x).1 hx
      intro e'
      have h2:=hget 0
      have h3:=hget (j+1)
      rw [List.getElem?_cons_succ,h1] at h3
      have:=hi m (m+1+j) zs ws (by simpa using h2) (by rw [show m+1+j=m+(j+1) by omega];exact h3) e'
      omega
 exact go 0 xs rfl
theorem sK (hi:∀ i j ys zs,xs[i]?=some (some ys)→xs[j]?=some (some zs)→τ [h,i]=τ [h,j]→i=j) (hc:∀ i ys,xs[i]?=some (some ys)→∀ q∈r,τ [h,i]≠τ q.1) (hr:gJ τ r):gJ τ (aS h xs r):=by
 refine qW (wI hi) hr fun q hq x hx=>?_
 obtain ⟨j,ys,h1,rfl⟩:=(bD h xs 0 q).1 hq
 rw [Nat.zero_add]
 exact hc j ys h1 x hx
theorem aL {fr:List (Nat × AV)} {i:Nat} {ys:List D} (hi:xs[i]?=some (some ys)):(mk fr (aS h xs r) u).hp [h,i]=some (.arr none ys):=by
 rw [AS]
 have go:∀ (xs:List (Option (List D))) (m i:Nat),xs[i]?=some (some ys)→lkA none ((cR h m xs++r).map fun q=>(q.1,some q.2)) [h,m+i]=some (.arr none ys):=by
  intro xs
  induction xs with
  | nil=>intro m i hi;simp at hi
  | cons o xs ih =>
    intro m i hi
    cases i with
    | zero =>
      simp at hi
      subst hi
      rw [cR,List.cons_append,List.map_cons,lkA,if_pos (by simp)]
    | succ i =>
      have hi':xs[i]?=some (some ys):=by simpa using hi
      have:=ih (m+1) i hi'
      rw [show m+1+i=m+(i+1) by omega] at this
      cases o with
      | none=>exact this
      | some zs =>
        rw [cR,List.cons_append,List.map_cons,lkA,if_neg (by simp),this]
 have:=go xs 0 i hi
 rwa [Nat.zero_add] at this
theorem Ch {fr:List (Nat × AV)} {g:Nat} {ws:List (Option (List D))} {i:Nat} {ys:List D} (hg:g≠h) (hi:xs[i]?=some (some ys)):(mk fr (aS g ws (aS h xs r)) u).hp [h,i]=some (.arr none ys):=by
 rw [AS,u3 g h [i] ws _ (by simpa using Ne.symm hg)]
 exact aL (fr:=fr) (u:=u) hi
end
section
variable {P:Program} {cf:Cf} {Q:Exit→St→Prop} {s:St} {k:List It}
theorem xJ (E:Eng P cf Q) {c:Code} {τ:Name→Name} {s2:St} (hle:Le cf.U τ s s2) (h:bM E c s2 k):bM E c s k:=by
 intro B hB ds β a w hds hs
 obtain ⟨β2,hs2,_⟩:=hs.le (τ:=τ) (by rw [hB.2.1];exact hle)
 exact h B hB ds β2 a w hds hs2
theorem Bk {H:Array Obj} {own:Nat→Prop} {used:List Nat} {hp:Name→Option Ob} {β:Name→Option Blk} {v:Value} {p:Name} (hu:nm used p) (ho:hp p=some (.arrA [])) (h:VR H own used hp β v (.d .nils)):VR H own used hp β v (.va p 0 0):=by
 have:=h.toD
 cases this
 exact .va _ _ _ _ hu rfl fun xs hx=>by
  rw [ho] at hx
  cases hx
  exact ⟨Nat.le_refl _,none,0,rfl,.inl ⟨rfl,rfl⟩⟩
theorem A5 (E:Eng P cf Q) {c:Code} (p:Name) (j n:Nat) (ty:Option Nat) (cs:List AV) (hp:s.hp p=some (.boxT ty cs)) (hj:cs[j]?=some (.d .nils)) (hn:n ∉ s.used) (h:bM E c ((s.add n (.arrA [])).set p (some (.boxT ty (cs.set j (.va [n] 0 0))))) k):bM E c s k:=by
 intro B hB ds β a w' hds hs
 have h1:=hs.Az hn
 have hpn:p≠[n]:=cK (hs.objs p _ hp).1 hn
 refine h B hB ds _ a w' hds (h1.rebox (cs:=cs) (by simpa [St.add,aj,hpn] using hp) (by simp) fun v i x x' hx hx' hv=>?_)
 by_cases e:j=i
 ·subst e
  rw [hj] at hx
  cases hx
  rw [List.getElem?_set_self (List.getElem?_eq_some_iff.1 hj).1] at hx'
  cases hx'
  exact Bk ⟨n,[],rfl,List.mem_cons_self⟩ (by simp [St.add,aj]) hv
 ·rw [List.getElem?_set_ne e,hx] at hx'
  cases hx'
  exact hv
theorem B3 (E:Eng P cf Q) {c:Code} (p:Name) (j n:Nat) (w:W) (xs:List AV) (hp:s.hp p=some (.arrA xs)) (hj:xs[j]?=some (.d .nils)) (hn:n ∉ s.used) (h:bM E c ((s.add n (.arr w [])).set p (some (.arrA (xs.set j (.vw [n] 0 0))))) k):bM E c s k:=by
 intro B hB ds β a w' hds hs
 have h1:=hs.dP hn none w
 have hpn:p≠[n]:=cK (hs.objs p _ hp).1 hn
 have hp1:(s.add n (.arr w [])).hp p=some (.arrA xs):=by simpa [St.add,aj,hpn] using hp
 refine h B hB ds _ a w' hds (h1.modify (p:=p) (ob':=.arrA (xs.set j (.vw [n] 0 0))) hp1 (by simp [Ob.like]) (w':=w') rfl rfl (fun _ _=>rfl) (fun hv _=>?_)).1
 rcases (h1.objs p _ hp1).2 with ⟨h2,h3⟩ | ⟨k,c,e,hk,hb,hz,hl,h1c,hc⟩
 ·rw [h3] at hj;simp at hj
 ·refine .inr ⟨k,c,e,hk,hb,hz,by simpa using hl,by simpa using h1c,fun i x hi=>?_⟩
  by_cases e:j=i
  ·subst e
   rw [List.getElem?_set_self (List.getElem?_eq_some_iff.1 hj).1] at hi
   cases hi
   exact hv _ _ (jM (w:=w) ⟨n,[],rfl,List.mem_cons_self⟩ (by simp [St.add,aj]) (hc j _ hj))
  ·rw [List.getElem?_set_ne e] at hi
   exact hv _ _ (hc i x hi)
theorem Bb {B:Base} {β:Name→Option Blk} {s:St} {tm:Array Value} {w:World} (h:Sim B β s tm w) {t:Nat} (ht:t ∉ s.used):∃ β',Sim B β' (s.add t (.mapA 0 [] [])) tm (w.alloc (.map #[] 0))∧β' [t]=some ⟨w.heap.size,0,0⟩:=by
 obtain ⟨hsim,_⟩:=h.alloc ht (.map #[] 0) (.mapA 0 [] []) 0 (fun β' hβ _=>⟨_,#[],hβ,by show (w.heap.push _)[w.heap.size]?=_;rw [Array.getElem?_push_size],⟨rfl,by simp [Borns],rfl⟩,fun i x hi=>by simp at hi⟩)
 exact ⟨_,hsim,by simp [aj]⟩
theorem tL {t0 d:Nat} {ty:TypeId} {ps:String} {af:Array Edge} (hd:d<cf.n∧d ∉ s.used) :
  QE P cf { dst:=some d,op:=.makeMap t0 none,type:=ty,pos:=ps,after:=af,guard:=none } s (.ma [d]) ([],⟨[([d],some (.mapA 0 [] []))],[d]⟩):=by
 intro s' hu _ _ B hB ds β a w hds hs Q'
 have hrun:(execOp a.eval { dst:=some d,op:=.makeMap t0 none,type:=ty,pos:=ps,after:=af,guard:=none }).run P w=.ok (.value (.map (some w.heap.size))) (w.alloc (.map #[] 0)):=by
  simp only [execOp,Instr.makeMap]
  rfl
 obtain ⟨β',hsim,hb⟩:=Bb hs (t:=d) (hu d (by simp))
 refine ao (by simp) hrun (.inl rfl) ⟨hds,β',?_⟩
 have e:s'.go (some d) (.ma [d]) ⟨[([d],some (.mapA 0 [] []))],[d]⟩=(s'.add d (.mapA 0 [] [])).put d (.ma [d]):=by unfold St.go;rw [gD];rfl
 rw [e]
 exact hsim.put (by rw [hB.1];exact hd.1) (.ma _ _ ⟨d,[],rfl,List.mem_cons_self⟩ rfl fun _ _ _ _=>⟨_,hb,rfl⟩)
theorem oO (s:St) (t:Nat) (x:AV) (u:Nat) (ob:Ob):s.go (some t) x ⟨[([u],some ob)],[u]⟩=(s.add u ob).put t x:=by unfold St.go;rw [gD];rfl
attribute [go_sem] oO
end
end Go.Ab

namespace Go.Ab
end Go.Ab

namespace Go.Ab
structure BJ (H:Array Obj) (own:Nat→Prop) (wf:W) (xs:List D) (news:List Value):Prop where
 size:news.length=xs.length*wd wf
 ok:∀ x∈xs,okW wf x
 rep:∀ i x j d,xs[i]?=some x→x.cells[j]?=some d→Rep H own (news.getD (i*wd wf+j) undef) d
theorem ub {H:Array Obj} {own:Nat→Prop} (l:List UInt8):BJ H own none (l.map byD) (byteCells ⟨l.toArray⟩):=by
 have hb:byteCells ⟨l.toArray⟩=l.map fun b=>Value.int .u8 b.toNat:=by unfold byteCells;simp
 refine ⟨by rw [hb];simp [wd],fun x hx=>?_,fun i x j d hi hj=>?_⟩
 ·obtain ⟨c,_,rfl⟩:=List.mem_map.1 hx
  rfl
 ·rw [List.getElem?_map] at hi
  cases hc:l[i]? with
  | none=>rw [hc] at hi;cases hi
  | some c =>
    rw [hc] at hi
    obtain rfl:byD c=x:=by simpa using hi
    have hj0:j=0∧d=byD c:=by
     rcases j with _ | j
     ·refine ⟨rfl,?_⟩
      have:some (byD c)=some d:=hj
      exact (Option.some.inj this).symm
     ·have:([byD c]:List D)[j+1]?=some d:=hj
      simp at this
    obtain ⟨rfl,rfl⟩:=hj0
    rw [hb,show i*wd none+0=i by simp [wd],List.getD_eq_getElem?_getD,List.getElem?_map,hc]
    exact .int _ _
section
variable {P:Program} {B:Base} {β:Name→Option Blk} {s:St} {tm:Array Value} {w:World} {t u:TypeId}
section
variable {e:Nat} {i:TypeInfo} {z:Value}
theorem kz (hk:P.underlying t=some (.slice e)) (hi:P.info? e=some i) (hz:i.zero=some z) (ty:TypeId) {own:Nat→Prop} {wf:W} {xv yv:Value} {xs ys:List D} {olds news:List Value} (hs:i.size=wd wf)
  (hx:Seg P w.heap own wf xv xs olds) (hy:Src P i.size u yv ys.length news w) {a:Option Addr} {cap:Nat} (hxv:xv=.slice a xs.length cap) (hgr:cap<xs.length+ys.length) (hb:(xs.length+ys.length)*i.bytes≤140737488355328) (hb':xs.length+ys.length≤140737488355328) :
  ∃ nc,xs.length+ys.length≤nc∧(Builtin.append_ #[t,u] ty #[xv,yv]).run P w =
   .ok (.slice (some ⟨w.heap.size,0,none⟩) (xs.length+ys.length) nc) (w.drew.alloc (.cells (olds.toArray++news.toArray++Builtin.zeroCells z.cells (nc-(xs.length+ys.length))) e)):=by
 subst hxv
 refine ⟨grownCap w (xs.length+ys.length) cap e,grownCap_ge _ _ _ _,?_⟩
 have h:=run_append_grow_src w t u ty e i z hk hi hz a xs.length cap olds (by rw [hs];exact hx.run w.drew rfl) yv ys.length news hy hgr (by omega) (by have:=growslice_fits hgr hb;omega)
 rw [h]
 simp
theorem kg (hk:P.underlying t=some (.slice e)) (hi:P.info? e=some i) (ty:TypeId) {wf:W} {yv:Value} {ys:List D} {news:List Value} (hs:i.size=wd wf)
  (hy:Src P i.size u yv ys.length news w) {b o n cap:Nat} {c:Array Value} {e':TypeId} (hb:w.heap[b]?=some (.cells c e' (0,0))) (hr:n+ys.length≤cap) (hfit:o+n*wd wf+news.length≤c.size) :
  (Builtin.append_ #[t,u] ty #[.slice (some ⟨b,o,none⟩) n cap,yv]).run P w =
   .ok (.slice (some ⟨b,o,none⟩) (n+ys.length) cap) (w.setRow b (splice c.toList (o+n*wd wf) news).toArray):=by
 have hst:=run_storeCells_at (P:=P) b (o+n*wd wf) e' news 0 c w hb (by simpa using hfit) hy.one
 simp only [Nat.add_zero] at hst
 have hc:=hy.cells
 rw [hs] at hc
 rcases hy.kind with ⟨e2,hu⟩ | hu<;>simp [Builtin.append_,run_underlying hk,run_underlying hu,sizeOf,typeInfo,hi,hy.len,hr,hs,hc,bw,hst,splice,List.append_assoc]
end
theorem qu {H:Array Obj} {own:Nat→Prop} {wf:W} {xs ys:List D} {olds news:List Value} {xv:Value} (hx:Seg P H own wf xv xs olds) (hy:BJ H own wf ys news) (rest:Array Value) :
  (∀ x∈xs++ys,okW wf x)∧∀ i x j d,(xs++ys)[i]?=some x→x.cells[j]?=some d→Rep H own ((olds.toArray++news.toArray++rest).getD (i*wd wf+j) undef) d:=by
 refine ⟨fun x h=>(List.mem_append.1 h).elim (hx.ok x) (hy.ok x),fun i x j d hi hj=>?_⟩
 have hget:∀ m,(olds.toArray++news.toArray++rest).getD m undef=if m<olds.length then olds.getD m undef else if m<olds.length+news.length then news.getD (m-olds.length) undef else rest.getD (m-(olds.length+news.length)) undef:=by
  intro m
  simp only [Array.getD_eq_getD_getElem?,List.getD_eq_getElem?_getD,Array.getElem?_append,List.size_toArray,Array.size_append,List.getElem?_toArray]
  by_cases h1:m<olds.length
  ·simp [h1,show m<olds.length+news.length by omega]
  ·by_cases h2:m<olds.length+news.length
   ·simp [h1,h2]
   ·simp [h1,h2]
 rw [hget]
 rcases Nat.lt_or_ge i xs.length with hlt | hge
 ·rw [List.getElem?_append_left hlt] at hi
  have hxo:=hx.ok x (List.mem_of_getElem? hi)
  have hjl:j<wd wf:=by rw [← aW hxo];exact (List.getElem?_eq_some_iff.1 hj).1
  have:i*wd wf+wd wf≤xs.length*wd wf:=by rw [← Nat.succ_mul];exact Nat.mul_le_mul_right _ hlt
  rw [if_pos (by rw [hx.size];omega)]
  exact hx.rep i x j d hi hj
 ·rw [List.getElem?_append_right hge] at hi
  have hxo:=hy.ok x (List.mem_of_getElem? hi)
  have hil:=(List.getElem?_eq_some_iff.1 hi).1
  have hjl:j<wd wf:=by rw [← aW hxo];exact (List.getElem?_eq_some_iff.1 hj).1
  have h1:xs.length*wd wf≤i*wd wf:=Nat.mul_le_mul_right _ hge
  have h2:(i-xs.length)*wd wf+wd wf≤ys.length*wd wf:=by rw [← Nat.succ_mul];exact Nat.mul_le_mul_right _ hil
  have h3:i*wd wf=(i-xs.length)*wd wf+xs.length*wd wf:=by rw [← Nat.add_mul];congr 1;omega
  rw [if_neg (by rw [hx.size];omega),if_pos (by rw [hx.size,hy.size];omega),hx.size,show i*wd wf+j-xs.length*wd wf=(i-xs.length)*wd wf+j by omega]
  exact hy.rep _ x j d hi hj
theorem nW (h:Sim B β s tm w) {xv yv:Value} {p:Name} {o l:Nat} {tg:Option Nat} {wf:W} {xs ys:List D} {news:List Value} (hx:VR w.heap (s.own B.A β) s.used s.hp β xv (.vw p o l)) (hp:s.hp p=some (.arrT tg wf xs)) {e:Nat} (hk:(P.ti t).k=.slice e)
  (hz:(P.ti e).zOk=true) (hw:(P.ti e).isW (P.ti e).w=true) (hwf:wf=(P.ti e).w) (ty:TypeId) (htg:tg.getD e=e) {dd:Nat} (hdd:dd<B.n) (hud:dd ∉ s.used) (hb:(l+ys.length)*(P.ti e).by1≤140737488355328)
  (hsy:BJ w.heap (s.own B.A β) (P.ti e).w ys news) (hsrc:∀ it,P.info? e=some it→Src P it.size u yv ys.length news w) :
  ∃ v w' β',(Builtin.append_ #[t,u] ty #[xv,yv]).run P w=.ok v w'∧Sim B β' (((s.set p none).add dd (.arrT tg wf ((xs.drop o).take l++ys))).put dd (.vw [dd] 0 (l+ys.length))) (tm.setIfInBounds dd v) w':=by
 obtain ⟨hg,hwd,_⟩:=bE hw
 obtain ⟨z,hz,hzl⟩:∃ z,(P.ti e).z=some z∧z.length=(P.ti e).sz:=by
  unfold TI.zOk at hz
  split at hz
  ·rename_i z h1;exact ⟨z,h1,by simpa using hz⟩
  ·cases hz
 obtain ⟨zv,hr,hm,it,hi,hiz,his,hib⟩:=cS hz
 have hu:=bf hk
 have hby:∀ m:Nat,m*(P.ti e).by1≤140737488355328→m*it.bytes≤140737488355328∧m≤140737488355328:=by
  intro m hm'
  unfold TI.by1 at hm'
  rw [hib]
  split at hm'
  ·rename_i h0;rw [h0];simp at hm' ⊢;exact hm'
  ·exact ⟨hm',Nat.le_trans (Nat.le_mul_of_pos_right m (by omega)) hm'⟩
 have fresh:∀ (s1:St) (β1:Name→Option Blk) (xs ys:List D) (olds news:List Value) (xv':Value) (dd nc:Nat),Sim B β1 s1 tm w→Seg P w.heap (s1.own B.A β1) (P.ti e).w xv' xs olds→BJ w.heap (s1.own B.A β1) (P.ti e).w ys news→dd<B.n→dd ∉ s1.used →
   xs.length+ys.length≤nc→∃ β',Sim B β' ((s1.add dd (.arrT tg (P.ti e).w (xs++ys))).put dd (.vw [dd] 0 (xs.length+ys.length))) (tm.setIfInBounds dd (.slice (some ⟨w.heap.size,0,none⟩) (xs.length+ys.length) nc))
    (w.drew.alloc (.cells (olds.toArray++news.toArray++Builtin.zeroCells zv.cells (nc-(xs.length+ys.length))) e)):=by
  intro s1 β1 xs ys olds news xv' dd nc h1 hsx hsy hdd hud hnc
  obtain ⟨r1,r2⟩:=qu hsx hsy (Builtin.zeroCells zv.cells (nc-(xs.length+ys.length)))
  have hzs:zv.cells.size=wd (P.ti e).w:=by
   have:=(eA (H:=w.heap) (own:=s.own B.A β) hm).1
   simp at this;omega
  have hsz:(olds.toArray++news.toArray++Builtin.zeroCells zv.cells (nc-(xs.length+ys.length))).size=nc*wd (P.ti e).w:=by
   simp only [Array.size_append,List.size_toArray,hsx.size,hsy.size,size_zeroCells,hzs,← Nat.add_mul];congr 1;omega
  have:=dx (h1.fU (w':=w.drew) rfl rfl) hdd hud (c:=olds.toArray++news.toArray++Builtin.zeroCells zv.cells (nc-(xs.length+ys.length))) (wf:=(P.ti e).w) (xs:=xs++ys) (cap:=nc) (by simpa using hnc)
   (by rw [hsz];exact Nat.le_refl _) r1 (fun i x j d hi hj=>r2 i x j d hi hj) e tg htg
  simpa using this
 have hsrc:=hsrc it hi
 obtain ⟨hb1,hb2⟩:=hby _ hb
 have hlx:bt (P.ti e).w s.hp (.vw p o l)=some ((xs.drop o).take l):=by simp [bt,hp,hwf]
 obtain ⟨olds,hsx⟩:=dq (P:=P) h hx hlx
 have hpn:=cK (h.objs p _ hp).1 hud
 have hcomm:∀ ob,(s.set p none).add dd ob=(s.add dd ob).set p none:=by
  intro ob
  unfold St.add St.set
  simp only [St.mk.injEq,true_and,and_true]
  funext q
  simp only [aj]
  by_cases h1:q=[dd]
  ·subst h1;simp [Ne.symm hpn]
  ·simp [h1]
 cases hx with
 | vw _ _ _ _ hn h1 hx =>
   obtain ⟨hle,a,cap,rfl,hx'⟩:=hx _ _ _ hp
   have hlen:((xs.drop o).take l).length=l:=by simp;omega
   by_cases hgr:cap<l+ys.length
   ·-- it grows
    have hgr':cap<((xs.drop o).take l).length+ys.length:=by rw [hlen];exact hgr
    obtain ⟨nc,hnc,hrun⟩:=kz (P:=P) (t:=t) hu hi hiz ty (by rw [his,hwd]) hsx hsrc (a:=a) (cap:=cap) (by rw [hlen]) hgr' (by rw [hlen];exact hb1) (by rw [hlen];exact hb2)
    obtain ⟨β',hs⟩:=fresh s β _ ys olds news _ dd nc h hsx hsy hdd hud hnc
    rw [hlen] at hs hrun
    refine ⟨_,_,β',hrun,?_⟩
    rw [hcomm,hwf]
    have:=hs.drop p
    have e2:((s.add dd (.arrT tg (P.ti e).w ((xs.drop o).take l++ys))).put dd (.vw [dd] 0 (l+ys.length))).set p none=((s.add dd (.arrT tg (P.ti e).w ((xs.drop o).take l++ys))).set p none).put dd (.vw [dd] 0 (l+ys.length)):=rfl
    rwa [e2] at this
   ·-- there is room
    rcases hx' with ⟨rfl,rfl⟩ | ⟨k,hk',rfl,hcap,hz'⟩
    ·have:ys=[]:=List.length_eq_zero_iff.1 (by omega)
     subst this
     have hn0:news=[]:=List.length_eq_zero_iff.1 (by rw [hsy.size];simp)
     subst hn0
     have hsrc0:=hsrc
     have hrun:=run_append_nothing w t u ty e it hu hi a 0 0 (Nat.le_refl 0) yv hsrc0
     refine ⟨_,_,aj β [dd] none,hrun,?_⟩
     rw [hcomm]
     have e3:((xs.drop o).take 0++([]:List D))=[]:=by simp
     rw [e3]
     have:=((h.dP hud tg wf).put hdd (v:=.slice a 0 0) (x:=.vw [dd] 0 0) (.vw _ _ _ _ ⟨dd,[],rfl,List.mem_cons_self⟩ rfl fun ty' w' xs' hp'=>by
      have:w'=wf∧xs'=[]:=And.right (a:=ty'=tg) (by simpa [St.add,aj,eq_comm] using hp')
      obtain ⟨rfl,rfl⟩:=this
      exact ⟨by simp,a,0,rfl,.inl ⟨rfl,rfl⟩⟩)).drop p
     exact this
    ·have hob:=(h.objs p _ hp).2
     rcases hob with ⟨h0,h0'⟩ | ⟨k',c',e',hk'',hc,hzz,hl',hwx,hcs⟩
     ·rw [h0] at hk';cases hk'
     ·rw [hk'] at hk'';cases hk''
      have hmul:(o+cap)*wd wf=o*wd wf+cap*wd wf:=Nat.add_mul _ _ _
      have hle2:(l+ys.length)*wd wf≤cap*wd wf:=Nat.mul_le_mul_right _ (by omega)
      have hmul2:(l+ys.length)*wd wf=l*wd wf+ys.length*wd wf:=Nat.add_mul _ _ _
      have hns:=hsy.size
      rw [← hwf] at hns
      have hfit:k.o+o*wd wf+l*wd wf+news.length≤c'.size:=by omega
      have hrun:=kg (P:=P) (t:=t) hu hi ty (wf:=wf) (by rw [his,hwf,hwd]) hsrc hc (o:=k.o+o*wd wf) (n:=l) (cap:=cap) (by omega) hfit
      refine ⟨_,_,aj β [dd] (some ⟨k.b,k.o+o*wd wf,k.z⟩),hrun,?_⟩
      have hsim:=h.renew hud hp hk' tg wf ((xs.drop o).take l++ys) (k.o+o*wd wf) (w':=w.setRow k.b (splice c'.toList (k.o+o*wd wf+l*wd wf) news).toArray) rfl (by simp)
       (fun b hb=>setRow_other w k.b b _ hb) (fun hr=>?_)
      ·refine hsim.put hdd (.vw _ _ _ _ ⟨dd,[],rfl,List.mem_cons_self⟩ rfl fun ty' w' xs' hp'=>?_)
       have:w'=wf∧xs'=(xs.drop o).take l++ys:=And.right (a:=ty'=tg) (by simpa [St.add,aj,eq_comm] using hp')
       obtain ⟨rfl,rfl⟩:=this
       refine ⟨by simp;omega,_,cap,rfl,.inr ⟨_,by simp [aj];rfl,by simp,by omega,?_⟩⟩
       simp only [Nat.zero_add];omega
      ·have hsp:=bc c'.toList (k.o+o*wd wf+l*wd wf) news (by simpa using hfit)
       refine ⟨_,e',setRow_heap w k.b c' _ _ (0,0) hc,by simp;rw [hsp];simpa using hzz,?_,fun x hx=>?_,fun i x j d hi hj=>?_⟩
       ·rw [List.length_append,hlen];omega
       ·rcases List.mem_append.1 hx with hx | hx
        ·exact hwx x (List.mem_of_mem_drop (List.mem_of_mem_take hx))
        ·rw [hwf];exact hsy.ok x hx
       ·have hgetc:((splice c'.toList (k.o+o*wd wf+l*wd wf) news).toArray).getD (k.o+o*wd wf+i*wd wf+j) undef =
          if k.o+o*wd wf+l*wd wf≤k.o+o*wd wf+i*wd wf+j∧k.o+o*wd wf+i*wd wf+j<k.o+o*wd wf+l*wd wf+news.length then news.getD (k.o+o*wd wf+i*wd wf+j-(k.o+o*wd wf+l*wd wf)) undef else c'.getD (k.o+o*wd wf+i*wd wf+j) undef:=by
         have:=ca c'.toList (k.o+o*wd wf+l*wd wf) news (by simpa using hfit) (k.o+o*wd wf+i*wd wf+j)
         simp only [Array.getElem?_toList] at this
         simp only [Array.getD_eq_getD_getElem?,List.getElem?_toArray,this,List.getD_eq_getElem?_getD]
         split<;>rfl
        rw [hgetc]
        rcases Nat.lt_or_ge i l with hlt | hge
        ·rw [List.getElem?_append_left (by rw [hlen];exact hlt),List.getElem?_take,if_pos hlt,List.getElem?_drop] at hi
         have hxo:=hwx x (List.mem_of_getElem? hi)
         have hjl:j<wd wf:=by rw [← aW hxo];exact (List.getElem?_eq_some_iff.1 hj).1
         have:i*wd wf+wd wf≤l*wd wf:=by rw [← Nat.succ_mul];exact Nat.mul_le_mul_right _ hlt
         rw [if_neg (by omega)]
         have:=hr _ _ (hcs _ x j d hi hj)
         rwa [show k.o+o*wd wf+i*wd wf+j=k.o+(o+i)*wd wf+j by rw [Nat.add_mul];omega]
        ·rw [List.getElem?_append_right (by rw [hlen];exact hge),hlen] at hi
         have hxo:=hsy.ok x (List.mem_of_getElem? hi)
         rw [← hwf] at hxo
         have hil:=(List.getElem?_eq_some_iff.1 hi).1
         have hjl:j<wd wf:=by rw [← aW hxo];exact (List.getElem?_eq_some_iff.1 hj).1
         have g1:l*wd wf≤i*wd wf:=Nat.mul_le_mul_right _ hge
         have g2:(i-l)*wd wf+wd wf≤ys.length*wd wf:=by rw [← Nat.succ_mul];exact Nat.mul_le_mul_right _ hil
         have g3:i*wd wf=(i-l)*wd wf+l*wd wf:=by rw [← Nat.add_mul];congr 1;omega
         rw [if_pos (by omega),show k.o+o*wd wf+i*wd wf+j-(k.o+o*wd wf+l*wd wf)=(i-l)*wd wf+j by omega]
         have:=hsy.rep _ x j d hi hj
         rw [← hwf] at this
         exact hr _ _ this
end
section
variable {P:Program} {cf:Cf} {Q:Exit→St→Prop} {s:St} {k:List It}
theorem xK (E:Eng P cf Q) {d t u e:Nat} {x y:Operand} {ty:TypeId} {pos:String} {af:Array Edge} (tg:Option Nat) (p:Name) (xs:List D) (l:List UInt8) (hk:(P.ti t).k=.slice e) (hu:(P.ti u).k=.str) (hz:(P.ti e).zOk=true) (hw:(P.ti e).isW (P.ti e).w=true) (hew:(P.ti e).w=none)
  (htg:tg.getD e=e) (hd:d<cf.n∧d ∉ s.used) (hx:ev s x=.vw p 0 xs.length) (hp:s.hp p=some (.arrT tg none xs)) (hy:ev s y=.d (.str l)) (hl:(xs.length+l.length)*(P.ti e).by1≤140737488355328)
  (h:E.run k (((s.set p none).add d (.arrT tg none (xs++l.map byD))).put d (.vw [d] 0 (xs.length+l.length)))) :
  E.stp { dst:=some d,op:=.call { callee:=.builtin .append,args:=#[x,y],argTypes:=#[t,u] },type:=ty,pos:=pos,after:=af,guard:=none } s k .no:=by
 rw [aM]
 rw [E.run_eq] at h
 intro B hB ds β a w hds hs Q'
 have hvx:=hs.ev x
 have hvy:=hs.ev y
 rw [hx] at hvx
 rw [hy] at hvy
 have hyv:a.eval y=.string ⟨l.toArray⟩:=by
  have g:∀ v,Rep w.heap (s.own B.A β) v (.str l)→v=.string ⟨l.toArray⟩:=fun v hv=>by
   cases hv with
   | str l=>rfl
  exact g _ hvy.toD
 obtain ⟨hg,hwd,_⟩:=bE hw
 have hus:P.underlying u=some .string:=eW hu
 have key:=nW (P:=P) (t:=t) (u:=u) (ys:=l.map byD) (news:=byteCells ⟨l.toArray⟩) hs hvx hp hk hz hw hew.symm ty htg (by rw [hB.1];exact hd.1) hd.2 (by rw [List.length_map];exact hl) (by rw [hew];exact ub l) (yv:=.string ⟨l.toArray⟩) (fun it hi=>by
  have h1:=Src.ofString (P:=P) w hus ⟨l.toArray⟩
  have h2:it.size=1:=by
   have hz':=hz
   unfold TI.zOk at hz'
   split at hz'
   ·rename_i z hz1
    obtain ⟨_,_,_,it',hi',_,his,_⟩:=cS hz1
    rw [hi] at hi'
    cases hi'
    rw [his,← hwd,hew];rfl
   ·cases hz'
  rw [h2,List.length_map]
  exact h1)
 obtain ⟨v,w',β',hrun,hsim⟩:=key
 rw [List.drop_zero,List.take_length,List.length_map] at hsim
 refine ao (v:=v) (by simp) (by simp [execOp,resolve,invoke,builtin,hyv,hrun]) (.inl rfl) ⟨hds,_,β',aP h,hsim⟩
end
end Go.Ab

namespace Go.Ab
section
variable {P:Program} {cf:Cf} {ops:Array Oper} {K:St→Ns→Prop} {r:List Oper} {s:St} {ns:Ns}
end
section
variable {P:Program} {cf:Cf} {Q:Exit→St→Prop} {s:St} {k:List It}
end
end Go.Ab

namespace Go.Ab
section
variable {P:Program} {cf:Cf} {Q:Exit→St→Prop} {k:List It} {s:St}
end
end Go.Ab

namespace Go.Proofs.YthfodompfpdmgaaGreatDoor
open Go.Ab
def stD (s:EA):D:=.agg [.bool s.plus,.bool s.al,.bool s.int,.bool s.bool,.bool s.str,.bool s.arr,.bool s.rc,.bool s.tg,ay s.vars,i64 s.dom,i64 s.cod,bk s.fl,bk s.tl]
def auD (l:List EA) (start:Int):D:=.agg [.sl (some 13) (l.map stD),i64 start]
theorem bJ {l:List EA} {i:Nat} (h:i<l.length):(l.map stD).getD i .nilp=stD l[i]:=by simp [h]
def onA (l:List EA) (k:Int) (p:Bool):Bool:=(decide (0≤k) && decide (k<l.length)) && ((l.getD k.toNat default).plus == p)
theorem pW {G} (l:List EA) (st k:Int) (p:Bool):HP Tryz.prog G 32 [auD l st,i64 k,.bool p] (fun r=>r=.d (.bool (onA l k p))):=by
 unfold auD
 refine aq Tryz.func32 rfl (by decide +kernel) (by simp [Tryz.ntmps32]) (veil fun E=>?_)
 simp only [go_sem]
 refine aI E (fun h1=>?_) (fun h1=>?_)<;>simp only [go_sem]
 ·refine aI E (fun h2=>?_) (fun h2=>?_)<;>simp only [go_sem]
  ·refine ⟨⟨h1,h2⟩,?_⟩
   have hk:k.toNat<l.length:=by omega
   rw [bJ hk,stD]
   simp only [go_sem]
   simp [onA,h1,h2,hk]
  ·simp [onA,h2]
 ·simp [onA,h1]
def fe (s:EA):Bool :=
 !(s.al && (s.int || s.bool || s.str || s.arr || s.rc || s.tg || !s.vars.isEmpty)) && !(!s.arr && (!decide (s.dom=0) || !decide (s.cod=0))) && ((s.rc || s.fl.isEmpty) && (s.tg || s.tl.isEmpty))
theorem Cw {α:Type} (l:List α):decide ((0:Int)<(l.length:Int))=!l.isEmpty:=by cases l<;>simp
theorem CV {α:Type} (l:List α):decide ((l.length:Int)=0)=l.isEmpty:=by cases l<;>simp;omega
theorem DF {G} (s:EA):HP Tryz.prog G 61 [stD s] (fun r=>r=.d (.bool (fe s))):=by
 unfold stD ay bk
 refine aq Tryz.func61 rfl (by decide +kernel) (by simp [Tryz.ntmps61]) (veil fun E=>?_)
 simp only [go_sem]
 repeat (first
  | (apply fp E;(· simp only [go_sem]);(· intro h;(try simp only [bq] at h);simp only [↓h,go_sem];rfl);simp only [go_sem])
  | (apply cT E;(· simp only [go_sem]);(· intro h;(try simp only [bq] at h);simp only [↓h,go_sem];rfl);(· intro h;(try simp only [bq] at h);simp only [↓h,go_sem];rfl);simp only [go_sem])
  | (apply cV E;(· simp only [go_sem]);(· rfl);(· intro h h';(try simp only [bq] at h h');simp only [↓h,↓h',go_sem];rfl);simp only [go_sem])
  | (apply bH E;(· simp only [go_sem]);(· rfl);(· intro h h';(try simp only [bq] at h h');simp only [↓h,↓h',go_sem];rfl);(· intro h h';(try simp only [bq] at h h');simp only [↓h,↓h',go_sem];rfl);simp only [go_sem])
  | (apply eK E;(· decide);simp only [go_sem]))
 have h0:=Cw s.vars
 have h1:=CV s.fl
 have h2:=CV s.tl
 refine bG E (fun h=>?_) (fun h=>?_)<;>simp only [go_sem]
 ·unfold fe
  rw [h0] at h
  rw [h];rfl
 rw [h0] at h
 repeat (first
  | (apply fp E;(· simp only [go_sem]);(· intro h;(try simp only [bq] at h);simp only [↓h,go_sem];rfl);simp only [go_sem])
  | (apply cT E;(· simp only [go_sem]);(· intro h;(try simp only [bq] at h);simp only [↓h,go_sem];rfl);(· intro h;(try simp only [bq] at h);simp only [↓h,go_sem];rfl);simp only [go_sem])
  | (apply cV E;(· simp only [go_sem]);(· rfl);(· intro h h';(try simp only [bq] at h h');simp only [↓h,↓h',go_sem];rfl);simp only [go_sem])
  | (apply bH E;(· simp only [go_sem]);(· rfl);(· intro h h';(try simp only [bq] at h h');simp only [↓h,↓h',go_sem];rfl);(· intro h h';(try simp only [bq] at h h');simp only [↓h,↓h',go_sem];rfl);simp only [go_sem])
  | (apply eK E;(· decide);simp only [go_sem]))
 refine bG E (fun h3=>?_) (fun h3=>?_)<;>simp only [go_sem]
 ·unfold fe
  rw [h]
  revert h3
  cases s.arr<;>by_cases g1:s.dom=0<;>by_cases g2:s.cod=0<;>simp [g1,g2]
 repeat (first
  | (apply fp E;(· simp only [go_sem]);(· intro h;(try simp only [bq] at h);simp only [↓h,go_sem];rfl);simp only [go_sem])
  | (apply cT E;(· simp only [go_sem]);(· intro h;(try simp only [bq] at h);simp only [↓h,go_sem];rfl);(· intro h;(try simp only [bq] at h);simp only [↓h,go_sem];rfl);simp only [go_sem])
  | (apply cV E;(· simp only [go_sem]);(· rfl);(· intro h h';(try simp only [bq] at h h');simp only [↓h,↓h',go_sem];rfl);simp only [go_sem])
  | (apply bH E;(· simp only [go_sem]);(· rfl);(· intro h h';(try simp only [bq] at h h');simp only [↓h,↓h',go_sem];rfl);(· intro h h';(try simp only [bq] at h h');simp only [↓h,↓h',go_sem];rfl);simp only [go_sem])
  | (apply eK E;(· decide);simp only [go_sem]))
 unfold fe
 rw [h,h1,h2]
 revert h3
 cases s.arr<;>by_cases g1:s.dom=0<;>by_cases g2:s.cod=0<;>simp [g1,g2]
theorem cI {p:Nat→Bool} {i:Nat} (h:(List.range i).all p=true) (hp:p i=true):(List.range (i+1)).all p=true:=by
 rw [List.range_succ,List.all_append,h];simp [hp]
theorem du {p:Nat→Bool} {i n:Nat} (hi:i<n) (hp:p i=false):(List.range n).all p=false:=by
 rw [List.all_eq_false]
 exact ⟨i,List.mem_range.2 hi,by simp [hp]⟩
def jj (l:List Int) (i:Nat):Bool:=(decide (0≤l.getD i 0) && decide (l.getD i 0≤999)) && (decide (i=0) || decide (l.getD (i-1) 0<l.getD i 0))
def kf (l:List Int):Bool:=(List.range l.length).all (jj l)
theorem aN {l:List Int} {i:Nat} (h:i<l.length):(l.map i64).getD i .nilp=i64 (l.getD i 0):=by simp [h]
theorem DZ {G} (l:List Int) (hl:l.length≤1000000):HP Tryz.prog G 62 [ay l] (fun r=>r=.d (.bool (kf l))):=by
 unfold ay
 refine aq Tryz.func62 rfl (by decide +kernel) (by simp [Tryz.ntmps62]) (veil fun E=>?_)
 simp only [go_sem]
 refine aX E (X:={ i:Nat // i≤l.length∧(List.range i).all (jj l)=true }) (fun x=>[(0,.d (.sl none (l.map i64))),(5,.d (.sl none (l.map i64))),(6,.d (i64 l.length)),(7,.d (i64 x.1))]) (fun x=>l.length-x.1) rfl ⟨0,Nat.zero_le _,by simp⟩ ?_ ?_
 ·simp only [go_sem]
  all_goals rfl
 rintro ⟨i,hi,hab⟩ E'
 simp only [go_sem]
 refine ak E' (fun h1=>?_) (fun h1=>?_)<;>simp only [go_sem]
 ·have h1':i<l.length:=by omega
  refine ⟨by omega,?_⟩
  rw [aN h1']
  simp only [go_sem]
  refine aI E' (fun h2=>?_) (fun h2=>?_)<;>simp only [go_sem]
  ·rw [show kf l=false from du h1' (by simp only [jj,Bool.and_eq_false_iff,decide_eq_false_iff_not];exact .inl (.inl (by omega)))]
  refine aI E' (fun h3=>?_) (fun h3=>?_)<;>simp only [go_sem]
  ·rw [show kf l=false from du h1' (by simp only [jj,Bool.and_eq_false_iff,decide_eq_false_iff_not];exact .inl (.inr (by omega)))]
  refine aI E' (fun h4=>?_) (fun h4=>?_)<;>simp only [go_sem]
  ·have hw:w64 ((i:Int)-1)=((i-1:Nat):Int):=by rw [aa ⟨by omega,by omega⟩];omega
   rw [hw]
   refine ⟨by omega,?_⟩
   rw [Int.toNat_natCast,aN (show i-1<l.length by omega)]
   simp only [go_sem]
   refine ak E' (fun h5=>?_) (fun h5=>?_)<;>simp only [go_sem]
   ·rw [show kf l=false from du h1' (by simp only [jj,Bool.and_eq_false_iff,Bool.or_eq_false_iff,decide_eq_false_iff_not];exact .inr ⟨by omega,by omega⟩)]
   ·refine ⟨⟨i+1,by omega,cI hab ?_⟩,by show l.length-(i+1)<_;omega,?_⟩
    ·simp only [jj,Bool.and_eq_true,Bool.or_eq_true,decide_eq_true_eq]
     exact ⟨⟨by omega,by omega⟩,.inr (by omega)⟩
    ·rw [aa ⟨by omega,by omega⟩];rfl
  ·refine ⟨⟨i+1,by omega,cI hab ?_⟩,by show l.length-(i+1)<_;omega,?_⟩
   ·simp only [jj,Bool.and_eq_true,Bool.or_eq_true,decide_eq_true_eq]
    exact ⟨⟨by omega,by omega⟩,.inl (by omega)⟩
   ·rw [aa ⟨by omega,by omega⟩];rfl
 ·have h3:i=l.length:=by omega
  subst h3
  rw [show kf l=true from hab]
def dB (is:List UInt8→Bool) (l:List Fld):Bool:=(List.range l.length).all fun i=>is (fnm l i) && !im l i
theorem yB {G} (l:List Fld) (is:List UInt8→Bool) (f:Nat) (hl:l.length≤1000000) (hs:∀ x∈l,x.1.length≤9223372036854775807) (hf:∀ s:List UInt8,s.length≤9223372036854775807→HP Tryz.prog G f [.str s] (fun r=>r=.d (.bool (is s)))) :
  HP Tryz.prog G 63 [bk l,.clo f []] (fun r=>r=.d (.bool (dB is l && decide (l.length≤30)))):=by
 unfold bk
 refine aq Tryz.func63 rfl (by decide +kernel) (by simp [Tryz.ntmps63]) (veil fun E=>?_)
 simp only [go_sem]
 refine aX E (X:={ i:Nat // i≤l.length∧((List.range i).all fun i=>is (fnm l i) && !im l i)=true }) (fun x=>[(0,.d (.sl (some 2) (l.map au))),(1,.d (.clo f [])),(7,.d (.sl (some 2) (l.map au))),(8,.d (i64 l.length)),(9,.d (i64 x.1))]) (fun x=>l.length-x.1) rfl ⟨0,Nat.zero_le _,by simp⟩ ?_ ?_
 ·simp only [go_sem]
  all_goals rfl
 rintro ⟨i,hi,hab⟩ E'
 simp only [go_sem]
 refine ak E' (fun h1=>?_) (fun h1=>?_)<;>simp only [go_sem]
 ·have h1':i<l.length:=by omega
  have hlen:(fnm l i).length≤9223372036854775807:=by
   have:=hs l[i] (List.getElem_mem h1')
   simp only [fnm,List.getD_eq_getElem?_getD,List.getElem?_eq_getElem h1',Option.getD_some]
   omega
  refine ⟨by omega,?_⟩
  rw [ed h1']
  simp only [go_sem]
  refine ai mixed E' fun X=>?_
  simp only [go_sem]
  refine AY X (ds:=[.str (fnm l i)]) (hf _ hlen) rfl rfl (by simp) rfl (by simp) ?_
  simp only [go_sem]
  refine x2 X (fun h2=>?_) (fun h2=>?_)<;>simp only [go_sem]
  ·refine ⟨by decide +kernel,?_⟩
   have h2:is (fnm l i)=false:=by simpa using h2
   rw [show dB is l=false from du h1' (by simp only [h2,Bool.false_and]),Bool.false_and]
  ·have h2:is (fnm l i)=true:=by simpa using h2
   refine j1 X (fun h3=>?_) (fun h3=>?_)<;>simp only [go_sem]
   ·have hw:w64 ((i:Int)-1)=((i-1:Nat):Int):=by rw [aa ⟨by omega,by omega⟩];omega
    have h4:i-1<l.length:=by omega
    rw [hw]
    refine ⟨by omega,?_⟩
    rw [Int.toNat_natCast,ed h4]
    simp only [go_sem]
    refine ⟨by decide +kernel,?_⟩
    refine bG E' (fun h5=>?_) (fun h5=>?_)<;>simp only [go_sem]
    ·have h5:Op.bytesLess (fnm l (i-1)) (fnm l i)=false:=by simpa using h5
     rw [show dB is l=false from du h1' (by simp only [im,h5,Bool.not_false,Bool.and_true,decide_eq_true h3,Bool.not_true,Bool.and_false,show 0<i by omega,decide_true]),Bool.false_and]
    ·have h5:Op.bytesLess (fnm l (i-1)) (fnm l i)=true:=by simpa using h5
     refine ⟨⟨i+1,by omega,cI hab (by simp only [im,h5,h2,Bool.not_true,Bool.and_false,Bool.not_false,Bool.and_true])⟩,by show l.length-(i+1)<_;omega,?_⟩
     rw [aa ⟨by omega,by omega⟩];rfl
   ·refine ⟨by decide +kernel,?_⟩
    refine ⟨⟨i+1,by omega,cI hab (by simp only [im,h2,show ¬ 0<i by omega,decide_false,Bool.false_and,Bool.not_false,Bool.and_true])⟩,by show l.length-(i+1)<_;omega,?_⟩
    rw [aa ⟨by omega,by omega⟩];rfl
 ·have h3:i=l.length:=by omega
  subst h3
  have:dB is l=true:=hab
  rw [this,Bool.true_and]
  exact congrArg (fun b=>AV.d (.bool b)) (by simp [decide_eq_decide];omega)
theorem qG {G} (l:List Fld) (hl:l.length≤1000000):HP Tryz.prog G 68 [bk l] (fun r=>r=.d (ay (l.map (·.2)))):=by
 refine il ?_
 unfold bk
 refine aV Tryz.func68 rfl (by decide +kernel) (by simp [Tryz.ntmps68]) (veil fun E=>?_)
 simp only [go_sem]
 refine jh E 3 99 none rfl (by rw [ag];decide) ?_
 simp only [go_sem]
 refine an E (X:={ i:Nat // i≤l.length }) (fun x=>[(3,.vw [99] 0 x.1),(6,.d (.sl (some 2) (l.map au))),(7,.d (i64 l.length)),(8,.d (i64 x.1))]) (fun x=>[([99],.arr none ((l.take x.1).map fun f=>i64 f.2))]) [99] (fun x=>l.length-x.1) ⟨0,Nat.zero_le _⟩ id ?_ ?_
 ·simp only [go_sem]
  all_goals rfl
 rintro ⟨i,hi⟩ E'
 simp only [go_sem]
 refine ak E' (fun h1=>?_) (fun h1=>?_)<;>simp only [go_sem]
 ·have h1':i<l.length:=by omega
  have hx:(l.map au).getD i .nilp=.agg [.str l[i].1,i64 l[i].2]:=by simp [h1',au]
  refine ⟨by omega,?_⟩
  rw [hx]
  simp only [go_sem]
  refine ⟨by omega,⟨i+1,by omega⟩,by show l.length-(i+1)<_;omega,tau [([99],[16])],?_⟩
  simp only [go_sem]
  refine ⟨by rw [aa ⟨by omega,by omega⟩];rfl,?_⟩
  rw [List.take_of_length_le (by simp;omega),← yC h1']
 ·refine ⟨[([99],none,(l.take i).map fun f=>i64 f.2)],?_⟩
  simp only [go_sem]
  refine ⟨_,rfl,?_⟩
  have:i=l.length:=by omega
  subst this
  simp only [ay,List.take_length,List.map_map]
  rw [List.take_of_length_le (by simp)]
  exact .refl _
theorem Dd {G} (k:Int) (l:List EA) (st:Int) (s:EA):HP Tryz.prog G 69 [i64 k,.ptr (auD l st),.ptr (stD s)] (fun r=>r=.d (.bool (!onA l k s.plus))):=by
 refine aq Tryz.func69 rfl (by decide +kernel) (by simp [Tryz.ntmps69]) (veil fun E=>?_)
 unfold auD stD
 simp only [go_sem]
 refine ae E (pW l st k s.plus) rfl rfl (by simp) ?_
 rintro _ rfl
 simp only [go_sem]
end Go.Proofs.YthfodompfpdmgaaGreatDoor

namespace Go.Ab
section
variable {P:Program} {cf:Cf} {Q:Exit→St→Prop} {s:St} {k:List It}
theorem tV {t e d:Nat} {x:Operand} {ty:TypeId} {ps:String} {af:Array Edge} (hk:(P.ti t).k=.slice e) (hd:d<cf.n) (hx:ev s x=.d .nils) :
  QE P cf { dst:=some d,op:=.call { callee:=.builtin .cap,args:=#[x],argTypes:=#[t] },type:=ty,pos:=ps,after:=af,guard:=none } s (.d (.int .i64 0)) ([],ef0):=by
 refine mn (by simp) (fun t' ht=>by cases ht;exact hd) fun B s' β a w hh he hs=>?_
 have hv:=hs.ev x
 rw [he x (by simp [Op.operands,Call.operands]),hx] at hv
 have hv:=hv.nils
 exact ⟨.int .i64 0,by simp [execOp,resolve,invoke,builtin,hv,Builtin.cap_,run_underlying (bf hk),goInt],.d _ _ (.int _ _)⟩
set_option maxRecDepth 100000 in
theorem DQ {t ti e d n:Nat} {kk:IntKind} {x y:Operand} {ty:TypeId} {ps:String} {af:Array Edge} (z:D) (hk:(P.ti t).k=.slice e) (hti:(P.ti ti).k=.int kk) (hez:(P.ti e).z=some [z]) (hw:(P.ti e).isW none=true) (hd:d<cf.n∧d ∉ s.used)
  (hx:ev s x=.d .nils) (hy:ev s y=.d (.int .i64 n)) (hn:0<n) (hb:n*(P.ti e).by1≤140737488355328) :
  QE P cf { dst:=some d,op:=.call { callee:=.builtin .append,args:=#[x,y],argTypes:=#[t,ti] },type:=ty,pos:=ps,after:=af,guard:=none } s (.vw [d] 0 n) ([],⟨[([d],some (.arr none (List.replicate n z)))],[d]⟩):=by
 intro s' hu' hh he' B hB ds β a w hds hs Q'
 have hud:d ∉ s'.used:=hu' d (by simp)
 have hxv:=hs.ev x
 rw [he' x (by simp [Op.operands,Call.operands]),hx] at hxv
 have hxv:=hxv.nils
 have hyv:=hs.ev y
 rw [he' y (by simp [Op.operands,Call.operands]),hy] at hyv
 have hyv:=hyv.int
 obtain ⟨hg,hwd,hwf⟩:=bE hw
 obtain ⟨zv,hr0,hm,it,hi,hiz,his,hib⟩:=cS hez
 obtain ⟨m1,m2,m3,m4⟩:=eA (H:=w.heap) (own:=s'.own B.A β) hm
 have hund:=bf hk
 have hb2:n*it.bytes≤140737488355328∧n≤140737488355328:=by
  unfold TI.by1 at hb
  rw [hib]
  split at hb
  ·rename_i h0;rw [h0];simp at hb ⊢;omega
  ·exact ⟨hb,Nat.le_trans (Nat.le_mul_of_pos_right _ (by omega)) hb⟩
 have hs1:it.size=1:=by rw [his,← hwd];rfl
 have hfits:Builtin.nextslicecap n 0*it.bytes≤281474976710656:=growslice_fits (old:=0) hn hb2.1
 have hwr:IntKind.i64.wrap (n:Int)=n:=by
  rw [show IntKind.i64.wrap (n:Int)=w64 n from rfl,aa ⟨by omega,by omega⟩]
 obtain ⟨zc,hzc⟩:∃ zc,Builtin.zeroCells zv.cells n++Builtin.zeroCells zv.cells (grownCap w n 0 e-n)=zc:=⟨_,rfl⟩
 have hrun:(execOp a.eval { dst:=some d,op:=.call { callee:=.builtin .append,args:=#[x,y],argTypes:=#[t,ti] },type:=ty,pos:=ps,after:=af,guard:=none }).run P w=.ok (.value (.slice (some ⟨w.heap.size,0,none⟩) n (grownCap w n 0 e))) (w.drew.alloc (.cells zc e)):=by
  have h1:¬ ((n:Int)<0):=by omega
  have h2:¬ (281474976710656<(n:Int)*(it.bytes:Int)):=by
   have:((n*it.bytes:Nat):Int)≤((140737488355328:Nat):Int):=Int.ofNat_le.2 hb2.1
   rw [Int.natCast_mul] at this;omega
  have h3:¬ n=0:=by omega
  have h4:¬ ((9223372036854775807:Int)<(n:Int)):=by omega
  have h5:¬ (281474976710656<Builtin.nextslicecap n 0*it.bytes):=by omega
  have h6:¬ n≤0:=by omega
  subst hzc
  have hz1:(underlying ti).run P w=.ok (.int kk) w:=run_underlying (eS hti) w
  have hap:(Builtin.append_ #[t,ti] ty #[.slice none 0 0,.int .i64 n]).run P w=.ok (.slice (some ⟨w.heap.size,0,none⟩) n (grownCap w n 0 e)) (w.drew.alloc (.cells (Builtin.zeroCells zv.cells n++Builtin.zeroCells zv.cells (grownCap w n 0 e-n)) e)):=by
   unfold Builtin.append_
   simp [run_underlying hund,run_underlying (eS hti),sizeOf,typeInfo,hi,hs1,asInt,asIntOf,hwr,h1,h2,h3,h4,h5,h6,zeroValue,hiz,Builtin.firstCells,Question.forced,newRow,grownCap]
  simp [execOp,resolve,invoke,builtin,hxv,hyv,hap]
 have hzs:zv.cells.size=1:=by simpa using m1.symm
 have hcap:n≤grownCap w n 0 e:=by simpa using grownCap_ge w n 0 e
 have hzcs:zc.size=grownCap w n 0 e:=by
  rw [← hzc]
  simp only [Array.size_append,size_zeroCells,hzs];omega
 obtain ⟨u,hu,hrep⟩:=m4 0 z rfl
 have hzd:∀ i,i<n→zc.getD i undef=u:=by
  intro i hi'
  have hu0:zv.cells[0]?=some u:=by simpa using hu
  have hu1:zv.cells[0]'(by omega)=u:=(Array.getElem?_eq_some_iff.1 hu0).2
  rw [← hzc]
  have h7:i<n*zv.cells.size:=by rw [hzs];omega
  simp [Array.getD_eq_getD_getElem?,Array.getElem?_append,Builtin.zeroCells,hzs,hi',Nat.mod_one,hu1]
 have hrow:∀ i x j d',(List.replicate n z)[i]?=some x→x.cells[j]?=some d'→Rep w.heap (s'.own B.A β) (zc.getD (i*wd none+j) undef) d':=by
  intro i x j d' hi' hj
  obtain rfl:x=z:=List.eq_of_mem_replicate (List.mem_of_getElem? hi')
  have hil:i<n:=by have:=(List.getElem?_eq_some_iff.1 hi').1;simpa using this
  have hc:x.cells=[x]:=by have:=m2 x (by simp);cases x<;>first | rfl | simp [D.scal] at this
  rw [hc] at hj
  cases j with
  | zero =>
    simp at hj
    subst hj
    rw [show i*wd none+0=i from by simp [wd],hzd i hil]
    exact hrep
  | succ j=>simp at hj
 obtain ⟨β',hs2⟩:=dx (hs.fU (w':=w.drew) rfl rfl) (by rw [hB.1];exact hd.1) hud (c:=zc) (wf:=none) (xs:=List.replicate n z) (cap:=grownCap w n 0 e) (by simpa using hcap) (by rw [hzcs];simp [wd])
  (fun x hx=>by rw [List.eq_of_mem_replicate hx];exact m2 z (by simp)) hrow e none rfl
 refine ao (by simp) hrun (.inl rfl) ⟨hds,β',?_⟩
 rw [oO]
 rw [List.length_replicate] at hs2
 exact hs2
def clA:List AV→Option (List D)
 | []=>some []
 | .d x::r=>(clA r).map (x::·)
 | .clo g cs::r=>match fE cs with
   | some ds=>(clA r).map (.clo g ds::·)
   | none=>none
 | _::_=>none
theorem vm:∀ {l:List AV} {ds:List D},clA l=some ds→l.length=ds.length∧∀ (i:Nat) y,ds[i]?=some y→∃ x,l[i]?=some x∧(x=.d y∨∃ g cs es,x=.clo g cs∧fE cs=some es∧y=.clo g es)
 | [],ds,h=>by
   simp only [clA,Option.some.injEq] at h
   subst h
   exact ⟨rfl,fun i y hi=>by simp at hi⟩
 | x::r,ds,h=>by
   have key:∀ z:D,(x=.d z∨∃ g cs es,x=.clo g cs∧fE cs=some es∧z=.clo g es)→(clA r).map (z::·)=some ds→(x::r).length=ds.length∧∀ (i:Nat) y,ds[i]?=some y→∃ u,(x::r)[i]?=some u∧(u=.d y∨∃ g cs es,u=.clo g cs∧fE cs=some es∧y=.clo g es):=by
    intro z hz h
    obtain ⟨es,h1,rfl⟩:=Option.map_eq_some_iff.1 h
    obtain ⟨h2,h3⟩:=vm h1
    refine ⟨by simp [h2],fun i y hi=>?_⟩
    cases i with
    | zero=>simp at hi;subst hi;exact ⟨x,rfl,hz⟩
    | succ i=>simpa using h3 i y (by simpa using hi)
   cases x with
   | d z=>exact key z (.inl rfl) h
   | clo g cs =>
     unfold clA at h
     split at h
     ·rename_i es he
      exact key _ (.inr ⟨g,cs,es,rfl,he,rfl⟩) h
     ·cases h
   | _=>cases h
theorem sQ {s:St} {k:List It} {Q:Exit→St→Prop} {dst:Option Nat} {fv:Operand} {args:Array Operand} {at':Array TypeId} {ty:TypeId} {pos:String} {af:Array Edge} {g:Option (Nat × Bool)}
  {f:FuncId} {caps:List AV} {ds:List D} {Q0:AV→Prop} (hc:HP P cf.G f ds Q0)
  (hev:ev s fv=.clo f caps) (hargs:clA (args.toList.map (ev s)++caps)=some ds) (hdst:∀ t∈dst,t<cf.n) (hk:∀ r,Q0 r→run P cf k Q (s.ew dst r)) :
  AOk P cf { dst:=dst,op:=.call { callee:=.value fv,args:=args,argTypes:=at' },type:=ty,pos:=pos,after:=af,guard:=g } s k Q:=by
 intro B hB ds' β a w hds h Q'
 refine ⟨fun _ _=>trivial,?_⟩
 obtain ⟨d,hd⟩:=j4 s.used
 have hf:=h.ev fv
 rw [hev] at hf
 generalize hfv:a.eval fv=fval at hf
 cases hf with
 | clo _ cvs _ hcs hcv =>
 have hrun:∀ vs,vs=(args.toList.map a.eval).toArray++cvs→(execOp a.eval { dst:=dst,op:=.call { callee:=.value fv,args:=args,argTypes:=at' },type:=ty,pos:=pos,after:=af,guard:=g }).run P w=.ok (.enter f vs) w:=by
  intro vs hvs
  have e:(execOp a.eval { dst:=dst,op:=.call { callee:=.value fv,args:=args,argTypes:=at' },type:=ty,pos:=pos,after:=af,guard:=g }:Sem Next)=callFunc f (#[]++args.map a.eval++cvs):=by
   show (do let d ← (Deferred.ofValue (a.eval fv) (args.map a.eval));invoke d.target d.args:Sem Next)=_
   rw [hfv];rfl
  rw [e,← hc.1 vs w,hvs]
  congr 2
  apply Array.ext'
  simp
 rw [Oper.semAt_eq _ _ _ (by simp),hrun _ rfl,Oper.uponIn_enter]
 refine ⟨fun hdep=>by simp [fy] at hdep,?_⟩
 obtain ⟨hlen0,hget⟩:=vm hargs
 have hlen:(ds.map AV.d).length=args.size+caps.length:=by
  rw [List.length_map,← hlen0]
  simp
 have hvs:((args.toList.map a.eval).toArray++cvs).size=(ds.map AV.d).length:=by simp [hcs] at hlen ⊢;omega
 have hv:∀ (i:Nat) x,(ds.map AV.d)[i]?=some x→VR w.heap (s.own B.A β) s.used s.hp β (((args.toList.map a.eval).toArray++cvs).getD i undef) (x.ren id):=by
  intro i x hi
  rw [AV.dL id (fun _=>rfl)]
  rw [List.getElem?_map,Option.map_eq_some_iff] at hi
  obtain ⟨y,hy,rfl⟩:=hi
  obtain ⟨z,hz,hzy⟩:=hget i y hy
  have key:VR w.heap (s.own B.A β) s.used s.hp β (((args.toList.map a.eval).toArray++cvs).getD i undef) z:=by
   by_cases hlt:i<args.size
   ·have hx':(args.toList.map (ev s))[i]?=some z:=by rw [← hz,List.getElem?_append_left (by simpa using hlt)]
    have:=eO h args.toList i _ hx'
    rw [show ((args.toList.map a.eval).toArray++cvs).getD i undef=(args.toList.map a.eval).toArray.getD i undef by simp [Array.getD_eq_getD_getElem?,Array.getElem?_append,hlt]]
    exact this
   ·have hx':caps[i-args.size]?=some z:=by rw [← hz,List.getElem?_append_right (by simpa using Nat.le_of_not_lt hlt)];simp
    have:=hcv _ _ hx'
    rw [show ((args.toList.map a.eval).toArray++cvs).getD i undef=cvs.getD (i-args.size) undef by simp [Array.getD_eq_getD_getElem?,Array.getElem?_append,hlt]]
    exact this
  generalize ((args.toList.map a.eval).toArray++cvs).getD i undef=v at key
  rcases hzy with rfl | ⟨g,cs,es,rfl,he,rfl⟩
  ·exact key
  ·have e:=iT he
   subst e
   cases key with
   | clo _ vs' _ hs hc=>exact .d _ _ (.clo _ _ _ (by simpa using hs) (fun i d hd=>(hc i (.d d) (by simp [hd])).toD))
 have hcall:=nj (P:=P) h (σ:=id) (d:=d) hd (chp:=[]) (cu:=[]) trivial trivial (p8 _ _) hvs hv (by rw [hB.2.2];exact hc)
 have hcall':CallsIn (Fw cf.ro) (0-1) P f ((args.toList.map a.eval).toArray++cvs) w _:=hcall
 refine hcall'.mono ?_
 rintro e w' ⟨v,rfl,r,hp',⟨hQ,hru,rfl⟩,hl⟩
 obtain ⟨β2,hs2,hv2⟩:=hl trivial
 rw [AV.jY _ r hru] at hv2
 have hru':=AV.jy s.used r hru
 refine ⟨by cases dst<;>exact hds,s.ew dst r,?_⟩
 cases dst with
 | none =>
   obtain ⟨β3,h3⟩:=h.unuse hs2 rfl (t0:=0) (x0:=s.fr 0) (fun _=>.inr rfl) rfl (h.slots 0).inU
   exact ⟨β3,aP (hk r hQ),h3⟩
 | some t =>
   have h2:=hs2.put (t:=t) (by rw [hB.1];exact hdst t rfl) hv2
   obtain ⟨β3,h3⟩:=h.unuse h2 rfl (t0:=t) (x0:=r) (fun u=>by
    by_cases e:u=t
    ·exact .inl e
    ·exact .inr (by show cg _ _ _ _=_;simp [cg,e])) (by show cg _ _ _ _=_;simp [cg]) hru'
   exact ⟨β3,aP (hk r hQ),h3⟩
theorem iB (E:Eng P cf Q) {dst:Option Nat} {fv:Operand} {args:Array Operand} {at':Array TypeId} {ty:TypeId} {pos:String} {af:Array Edge}
  {f:FuncId} {caps:List AV} {ds:List D} {Q0:AV→Prop} (hc:HP P cf.G f ds Q0)
  (hev:ev s fv=.clo f caps) (hargs:clA (args.toList.map (ev s)++caps)=some ds) (hdst:∀ t∈dst,t<cf.n) (hk:∀ r,Q0 r→E.run k (s.ew dst r)) :
  E.stp { dst:=dst,op:=.call { callee:=.value fv,args:=args,argTypes:=at' },type:=ty,pos:=pos,after:=af,guard:=none } s k .no:=by
 rw [E.stp_eq,qn]
 exact sQ hc hev hargs hdst fun r hr=>by rw [← E.run_eq];exact hk r hr
theorem BY {ops:Array Oper} {K:St→Ns→Prop} {r:List Oper} {ns:Ns} (E:XEng P cf ops K) {dst:Option Nat} {fv:Operand} {args:Array Operand} {at':Array TypeId} {ty:TypeId} {pos:String} {af:Array Edge} {g:Option (Nat × Bool)}
  {f:FuncId} {caps:List AV} {ds:List D} {x:AV} (hc:HP P cf.G f ds (fun r=>r=x))
  (hev:ev s fv=.clo f caps) (hargs:clA (args.toList.map (ev s)++caps)=some ds) (hdst:∀ t∈dst,t<cf.n) (hk:E.run r (s.ew dst x) (ns++[([],[],[])])) :
  E.stp { dst:=dst,op:=.call { callee:=.value fv,args:=args,argTypes:=at' },type:=ty,pos:=pos,after:=af,guard:=g } r s ns .no:=by
 refine jq E [] hdst (fun s' _ he=>?_) hk
 have hm:∀ y,y=fv∨y∈args→ev s' y=ev s y:=fun y hy=>he y (by
  simp only [Op.operands,Call.operands]
  rcases hy with rfl | hy<;>simp_all)
 exact sQ (k:=[]) (Q:=fun _ s2=>s2=s'.ew dst x) hc ((hm fv (.inl rfl)).trans hev)
  (by rw [uK (s:=s) (s':=s') fun y hy=>hm y (.inr (by simpa using hy))];exact hargs) hdst (fun r hr=>by subst hr;rw [cX])
attribute [go_sem] clA
end
end Go.Ab

namespace Go.Proofs.YthfodompfpdmgaaGreatDoor
open Go.Ab
theorem Ed {G}:HP Tryz.prog G 103 [.nils,i64 0] (fun r=>r=.d .nils):=by
 refine aq Tryz.func103 rfl (by decide +kernel) (by simp [Tryz.ntmps103]) (veil fun E=>?_)
 simp only [go_sem]
 refine xi E _ _ (tV (e:=3) (by rw [fm]) (by simp only [go_sem]) rfl) (by simp [ef0]) ?_
 simp only [go_sem]
 rw [show w64 (0-w64 0)=0 from by decide]
 simp only [go_sem]
theorem Ei {G} (n:Nat) (h0:0<n) (hn:n≤10000000):HCall Tryz.prog G 103 [.d .nils,.d (i64 n)] [] [] (fun r hp'=>r=.vw [22] 0 0∧hp'=[([22],.arr none (List.replicate n (i64 0)))]):=by
 refine bQ Tryz.func103 rfl (by decide +kernel) (by simp [Tryz.ntmps103]) (veil fun E=>?_)
 simp only [go_sem]
 refine ak E (fun h=>absurd h (by omega)) (fun _=>?_)
 simp only [go_sem]
 refine xi E _ _ (tV (e:=3) (by rw [fm]) (by simp only [go_sem]) rfl) (by simp [ef0]) ?_
 simp only [go_sem]
 rw [show w64 ((n:Int)-w64 0)=(n:Int) from by rw [show w64 0=0 from by decide,aa ⟨by omega,by omega⟩];omega]
 refine ak E (fun _=>?_) (fun h=>absurd h (by omega))
 simp only [go_sem]
 refine xi E _ _ (tV (e:=3) (by rw [fm]) (by simp only [go_sem]) rfl) (by simp [ef0]) ?_
 simp only [go_sem]
 refine xi E _ _ (DQ (d:=22) (e:=3) (kk:=.i64) (n:=n) (i64 0) (by rw [fm]) (by rw [ti3]) (by rw [ti3]) (by rw [ti3];rfl) ⟨by simp only [go_sem],by rw [ag];decide⟩ rfl rfl h0 (by rw [ti3];simp [TI.by1];omega)) (by rw [ag];simp) ?_
 simp only [go_sem]
 refine ⟨by omega,_,_,[22],id,⟨rfl,rfl⟩,?_⟩
 simp only [go_sem]
theorem fF {α:Type} {ls:List (List α)} {i:Nat} (h:i<ls.length):(ls.take (i+1)).flatten=(ls.take i).flatten++ls[i]:=by
 rw [List.take_succ_eq_append_getElem h,List.flatten_append];simp
theorem iI {α:Type} (ls:List (List α)) (i:Nat):(ls.take i).flatten.length≤ls.flatten.length:=by
 have:=congrArg List.length (congrArg List.flatten (List.take_append_drop i ls))
 rw [List.flatten_append,List.length_append] at this
 omega
theorem mw {ls:List (List Int)} {i:Nat} (h:i<ls.length):(ls.map ay).getD i .nilp=.sl none (ls[i].map i64):=by simp [h,ay]
set_option maxHeartbeats 2000000 in
theorem tF {G} (ls:List (List Int)) (hn:ls.length≤100) (hl:ls.flatten.length≤10000000):HP Tryz.prog G 67 [.sl none (ls.map ay)] (fun r=>r=.d (ay ls.flatten)):=by
 refine il ?_
 refine aV Tryz.func67 rfl (by decide +kernel) (by simp [Tryz.ntmps67]) (veil fun E=>?_)
 simp only [go_sem]
 refine aX E (X:={ i:Nat // i≤ls.length }) (fun x=>[(0,.d (.sl none (ls.map ay))),(3,.d (i64 (ls.take x.1).flatten.length)),(9,.d (.sl none (ls.map ay))),(10,.d (i64 ls.length)),(11,.d (i64 x.1))]) (fun x=>ls.length-x.1) rfl ⟨0,Nat.zero_le _⟩ ?_ ?_
 ·simp only [go_sem]
  all_goals rfl
 rintro ⟨i,hi⟩ E'
 simp only [go_sem]
 refine ak E' (fun h1=>?_) (fun h1=>?_)<;>simp only [go_sem]
 ·have h1':i<ls.length:=by omega
  refine ⟨by omega,?_⟩
  rw [mw h1']
  simp only [go_sem]
  have h2:=iI ls i
  have h3:=iI ls (i+1)
  have h4:=congrArg List.length (fF h1')
  rw [List.length_append] at h4
  rw [aa ⟨by omega,by omega⟩]
  refine ak E' (fun h=>absurd h (by omega)) (fun _=>?_)
  simp only [go_sem]
  refine ⟨⟨i+1,by omega⟩,by show ls.length-(i+1)<_;omega,?_⟩
  rw [aa ⟨by omega,by omega⟩]
  refine ⟨?_,rfl⟩
  show AV.d (i64 _)=AV.d (i64 _)
  refine congrArg (fun z=>AV.d (i64 z)) ?_
  show _=(((ls.take (i+1)).flatten.length:Nat):Int)
  omega
 have h2:i=ls.length:=by omega
 subst h2
 rw [List.take_length]
 by_cases h0:ls.flatten.length=0
 ·rw [h0]
  refine ae E Ed rfl rfl (by simp) ?_
  rintro _ rfl
  simp only [go_sem]
  refine jh E 6 99 none rfl (by rw [ag];decide) ?_
  simp only [go_sem]
  refine an E (X:={ x:Nat × List D // x.1≤ls.length∧(ls.take x.1).flatten.length≤x.2.length∧x.2.take (ls.take x.1).flatten.length=(ls.take x.1).flatten.map i64 }) (fun x=>[(0,.d (.sl none (ls.map ay))),(6,.vw [99] 0 (ls.take x.1.1).flatten.length),(25,.d (.sl none (ls.map ay))),(26,.d (i64 ls.length)),(27,.d (i64 x.1.1))]) (fun x=>[([99],.arr none x.1.2)]) [99] (fun x=>ls.length-x.1.1) ⟨(0,[]),Nat.zero_le _,by simp,by simp⟩ id ?_ ?_
  ·simp only [go_sem]
   all_goals (first | rfl | ((repeat' apply And.intro)<;>first | rfl | trivial))
  rintro ⟨⟨i,c⟩,hi,hc1,hc2⟩ E2
  simp only at hi hc1 hc2 ⊢
  simp only [go_sem]
  refine ak E2 (fun h3=>?_) (fun h3=>?_)<;>simp only [go_sem]
  ·have h3':i<ls.length:=by omega
   refine ⟨by omega,?_⟩
   rw [mw h3']
   simp only [go_sem]
   have h4:=iI ls i
   have h5:=iI ls (i+1)
   have h6:=congrArg List.length (fF h3')
   rw [List.length_append] at h6
   have h7:List.take (ls.take i).flatten.length c++ls[i].map i64=(ls.take (i+1)).flatten.map i64:=by rw [hc2,fF h3',List.map_append]
   refine ⟨by omega,⟨(i+1,(ls.take (i+1)).flatten.map i64),by omega,by rw [List.length_map];exact Nat.le_refl _,List.take_of_length_le (by rw [List.length_map];exact Nat.le_refl _)⟩,by show ls.length-(i+1)<_;omega,tau [([99],[33])],?_⟩
   simp only [go_sem]
   rw [h7,h6,aa ⟨by omega,by omega⟩]
   (repeat' apply And.intro)<;>first | rfl | trivial
  ·have h4:i=ls.length:=by omega
   subst h4
   rw [List.take_length] at hc1 hc2 ⊢
   refine ⟨[([99],none,c)],?_⟩
   simp only [go_sem]
   refine ⟨_,rfl,?_⟩
   rw [hc2]
   exact .refl _
 ·refine bn E [.d .nils,.d (i64 ls.flatten.length)] [] [] (Ei ls.flatten.length (by omega) hl) rfl rfl ⟨by simp only [go_sem],by rw [ag];decide⟩ rfl (by simp only [go_sem]) (by simp only [go_sem]) ?_
  rintro _ _ ⟨rfl,rfl⟩
  simp only [go_sem]
  refine an E (X:={ x:Nat × List D // x.1≤ls.length∧(ls.take x.1).flatten.length≤x.2.length∧x.2.take (ls.take x.1).flatten.length=(ls.take x.1).flatten.map i64 }) (fun x=>[(0,.d (.sl none (ls.map ay))),(6,.vw [99] 0 (ls.take x.1.1).flatten.length),(25,.d (.sl none (ls.map ay))),(26,.d (i64 ls.length)),(27,.d (i64 x.1.1))]) (fun x=>[([99],.arr none x.1.2)]) [99] (fun x=>ls.length-x.1.1) ⟨(0,List.replicate ls.flatten.length (i64 0)),Nat.zero_le _,by simp,by simp⟩ (tau [([99],[24,22])]) ?_ ?_
  ·simp only [go_sem]
   all_goals (first | rfl | ((repeat' apply And.intro)<;>first | rfl | trivial))
  rintro ⟨⟨i,c⟩,hi,hc1,hc2⟩ E2
  simp only at hi hc1 hc2 ⊢
  simp only [go_sem]
  refine ak E2 (fun h3=>?_) (fun h3=>?_)<;>simp only [go_sem]
  ·have h3':i<ls.length:=by omega
   refine ⟨by omega,?_⟩
   rw [mw h3']
   simp only [go_sem]
   have h4:=iI ls i
   have h5:=iI ls (i+1)
   have h6:=congrArg List.length (fF h3')
   rw [List.length_append] at h6
   have h7:List.take (ls.take i).flatten.length c++ls[i].map i64=(ls.take (i+1)).flatten.map i64:=by rw [hc2,fF h3',List.map_append]
   refine ⟨by omega,⟨(i+1,(ls.take (i+1)).flatten.map i64),by omega,by rw [List.length_map];exact Nat.le_refl _,List.take_of_length_le (by rw [List.length_map];exact Nat.le_refl _)⟩,by show ls.length-(i+1)<_;omega,tau [([99],[33])],?_⟩
   simp only [go_sem]
   rw [h7,h6,aa ⟨by omega,by omega⟩]
   (repeat' apply And.intro)<;>first | rfl | trivial
  ·have h4:i=ls.length:=by omega
   subst h4
   rw [List.take_length] at hc1 hc2 ⊢
   refine ⟨[([99],none,c)],?_⟩
   simp only [go_sem]
   refine ⟨_,rfl,?_⟩
   rw [hc2]
   exact .refl _
def dV (s:EA):List Int:=s.fl.map (·.2)++s.tl.map (·.2)
def bu (l:List EA) (s:EA):Bool :=
 (fe s && kf s.vars && (dB bL s.fl && decide (s.fl.length≤30)) && (dB eb s.tl && decide (s.tl.length≤30))) &&
 !(s.arr && (!onA l s.dom (!s.plus) || !onA l s.cod s.plus)) && !(dV s).any fun k=>!onA l k s.plus
structure InS (s:EA):Prop where
 v:s.vars.length≤1000000
 f:s.fl.length≤400000
 t:s.tl.length≤400000
 fs:∀ x∈s.fl,x.1.length≤9223372036854775807
 ts:∀ x∈s.tl,x.1.length≤9223372036854775807
set_option maxHeartbeats 2000000 in
theorem Eh {G} (l:List EA) (st:Int) (s:EA) (hs:InS s):HP Tryz.prog G 35 [auD l st,stD s] (fun r=>r=.d (.bool (bu l s))):=by
 obtain ⟨hv,hf,ht,hfs,hts⟩:=hs
 have c1:=DF (G:=G) s
 have c2:=DZ (G:=G) s.vars hv
 have c3:=yB (G:=G) s.fl bL 64 (by omega) hfs fun x hx=>D8 x hx
 have c4:=yB (G:=G) s.tl eb 65 (by omega) hts fun x hx=>DT x hx
 have c5:=qG (G:=G) s.fl (by omega)
 have c6:=qG (G:=G) s.tl (by omega)
 have c7:=tF (G:=G) [s.fl.map (·.2),s.tl.map (·.2)] (by simp) (by simp;omega)
 rw [show [s.fl.map (·.2),s.tl.map (·.2)].flatten=dV s from by simp [dV]] at c7
 have c8:=D0 (G:=G) (dV s) (fun k=>!onA l k s.plus) 69 [.ptr (auD l st),.ptr (stD s)] (by simp [dV];omega) fun x _=>Dd x l st s
 refine aq Tryz.func35 rfl (by decide +kernel) (by simp [Tryz.ntmps35]) (veil fun E=>?_)
 have c9:=pW (G:=G) l st s.dom (!s.plus)
 have c10:=pW (G:=G) l st s.cod s.plus
 have es:stD s=.agg [.bool s.plus,.bool s.al,.bool s.int,.bool s.bool,.bool s.str,.bool s.arr,.bool s.rc,.bool s.tg,.sl none (s.vars.map i64),i64 s.dom,i64 s.cod,.sl (some 2) (s.fl.map au),.sl (some 2) (s.tl.map au)]:=rfl
 rw [es] at c1 c8 ⊢
 unfold auD ay bk at *
 simp only [go_sem]
 refine ae E (c1) rfl rfl (by simp) ?_
 rintro _ rfl
 simp only [go_sem]
 repeat (first
  | (apply fp E;(· simp only [go_sem]);(· intro h;(try simp only [bq] at h);simp only [↓h,go_sem];rfl);simp only [go_sem])
  | (apply cT E;(· simp only [go_sem]);(· intro h;(try simp only [bq] at h);simp only [↓h,go_sem];rfl);(· intro h;(try simp only [bq] at h);simp only [↓h,go_sem];rfl);simp only [go_sem])
  | (apply cV E;(· simp only [go_sem]);(· rfl);(· intro h h';(try simp only [bq] at h h');simp only [↓h,↓h',go_sem];rfl);simp only [go_sem])
  | (apply bH E;(· simp only [go_sem]);(· rfl);(· intro h h';(try simp only [bq] at h h');simp only [↓h,↓h',go_sem];rfl);(· intro h h';(try simp only [bq] at h h');simp only [↓h,↓h',go_sem];rfl);simp only [go_sem])
  | (apply eK E;(· decide);simp only [go_sem]))
 (first | (apply gQ E;(· simp only [go_sem]);(· intro h hk;(try simp only [bq] at h);refine ae E (c2) rfl (by simp only [↓h,go_sem]<;>rfl) (by simp) ?_;rintro _ rfl;exact hk);simp only [go_sem]) | (apply fu E;(· simp only [go_sem]);(· rfl);(· intro h h' hk;(try simp only [bq] at h h');refine ae E (c2) rfl (by simp only [↓h,↓h',go_sem]<;>rfl) (by simp) ?_;rintro _ rfl;exact hk);simp only [go_sem]))
 repeat (first
  | (apply fp E;(· simp only [go_sem]);(· intro h;(try simp only [bq] at h);simp only [↓h,go_sem];rfl);simp only [go_sem])
  | (apply cT E;(· simp only [go_sem]);(· intro h;(try simp only [bq] at h);simp only [↓h,go_sem];rfl);(· intro h;(try simp only [bq] at h);simp only [↓h,go_sem];rfl);simp only [go_sem])
  | (apply cV E;(· simp only [go_sem]);(· rfl);(· intro h h';(try simp only [bq] at h h');simp only [↓h,↓h',go_sem];rfl);simp only [go_sem])
  | (apply bH E;(· simp only [go_sem]);(· rfl);(· intro h h';(try simp only [bq] at h h');simp only [↓h,↓h',go_sem];rfl);(· intro h h';(try simp only [bq] at h h');simp only [↓h,↓h',go_sem];rfl);simp only [go_sem])
  | (apply eK E;(· decide);simp only [go_sem]))
 (first | (apply gQ E;(· simp only [go_sem]);(· intro h hk;(try simp only [bq] at h);refine iB E (c3) rfl (by simp only [↓h,go_sem]<;>rfl) (by simp) ?_;rintro _ rfl;exact hk);simp only [go_sem]) | (apply fu E;(· simp only [go_sem]);(· rfl);(· intro h h' hk;(try simp only [bq] at h h');refine iB E (c3) rfl (by simp only [↓h,↓h',go_sem]<;>rfl) (by simp) ?_;rintro _ rfl;exact hk);simp only [go_sem]))
 repeat (first
  | (apply fp E;(· simp only [go_sem]);(· intro h;(try simp only [bq] at h);simp only [↓h,go_sem];rfl);simp only [go_sem])
  | (apply cT E;(· simp only [go_sem]);(· intro h;(try simp only [bq] at h);simp only [↓h,go_sem];rfl);(· intro h;(try simp only [bq] at h);simp only [↓h,go_sem];rfl);simp only [go_sem])
  | (apply cV E;(· simp only [go_sem]);(· rfl);(· intro h h';(try simp only [bq] at h h');simp only [↓h,↓h',go_sem];rfl);simp only [go_sem])
  | (apply bH E;(· simp only [go_sem]);(· rfl);(· intro h h';(try simp only [bq] at h h');simp only [↓h,↓h',go_sem];rfl);(· intro h h';(try simp only [bq] at h h');simp only [↓h,↓h',go_sem];rfl);simp only [go_sem])
  | (apply eK E;(· decide);simp only [go_sem]))
 (first | (apply gQ E;(· simp only [go_sem]);(· intro h hk;(try simp only [bq] at h);refine iB E (c4) rfl (by simp only [↓h,go_sem]<;>rfl) (by simp) ?_;rintro _ rfl;exact hk);simp only [go_sem]) | (apply fu E;(· simp only [go_sem]);(· rfl);(· intro h h' hk;(try simp only [bq] at h h');refine iB E (c4) rfl (by simp only [↓h,↓h',go_sem]<;>rfl) (by simp) ?_;rintro _ rfl;exact hk);simp only [go_sem]))
 repeat (first
  | (apply fp E;(· simp only [go_sem]);(· intro h;(try simp only [bq] at h);simp only [↓h,go_sem];rfl);simp only [go_sem])
  | (apply cT E;(· simp only [go_sem]);(· intro h;(try simp only [bq] at h);simp only [↓h,go_sem];rfl);(· intro h;(try simp only [bq] at h);simp only [↓h,go_sem];rfl);simp only [go_sem])
  | (apply cV E;(· simp only [go_sem]);(· rfl);(· intro h h';(try simp only [bq] at h h');simp only [↓h,↓h',go_sem];rfl);simp only [go_sem])
  | (apply bH E;(· simp only [go_sem]);(· rfl);(· intro h h';(try simp only [bq] at h h');simp only [↓h,↓h',go_sem];rfl);(· intro h h';(try simp only [bq] at h h');simp only [↓h,↓h',go_sem];rfl);simp only [go_sem])
  | (apply eK E;(· decide);simp only [go_sem]))
 refine bG E (fun h=>?_) (fun h=>?_)<;>simp only [go_sem]
 ·have:(fe s && kf s.vars && (dB bL s.fl && decide (s.fl.length≤30)) && (dB eb s.tl && decide (s.tl.length≤30)))=false:=by
   rw [← Bool.not_eq_true',← h]
   simp only [Bool.not_and]
  rw [bu,this]
  rfl
 have h':(fe s && kf s.vars && (dB bL s.fl && decide (s.fl.length≤30)) && (dB eb s.tl && decide (s.tl.length≤30)))=true:=by
  rw [← Bool.not_eq_false',← h]
  simp only [Bool.not_and]
 repeat (first
  | (apply fp E;(· simp only [go_sem]);(· intro h;(try simp only [bq] at h);simp only [↓h,go_sem];rfl);simp only [go_sem])
  | (apply cT E;(· simp only [go_sem]);(· intro h;(try simp only [bq] at h);simp only [↓h,go_sem];rfl);(· intro h;(try simp only [bq] at h);simp only [↓h,go_sem];rfl);simp only [go_sem])
  | (apply cV E;(· simp only [go_sem]);(· rfl);(· intro h h';(try simp only [bq] at h h');simp only [↓h,↓h',go_sem];rfl);simp only [go_sem])
  | (apply bH E;(· simp only [go_sem]);(· rfl);(· intro h h';(try simp only [bq] at h h');simp only [↓h,↓h',go_sem];rfl);(· intro h h';(try simp only [bq] at h h');simp only [↓h,↓h',go_sem];rfl);simp only [go_sem])
  | (apply eK E;(· decide);simp only [go_sem]))
 (first | (apply gQ E;(· simp only [go_sem]);(· intro h hk;(try simp only [bq] at h);refine ae E (c9) rfl (by simp only [↓h,go_sem]<;>rfl) (by simp) ?_;rintro _ rfl;exact hk);simp only [go_sem]) | (apply fu E;(· simp only [go_sem]);(· rfl);(· intro h h' hk;(try simp only [bq] at h h');refine ae E (c9) rfl (by simp only [↓h,↓h',go_sem]<;>rfl) (by simp) ?_;rintro _ rfl;exact hk);simp only [go_sem]))
 repeat (first
  | (apply fp E;(· simp only [go_sem]);(· intro h;(try simp only [bq] at h);simp only [↓h,go_sem];rfl);simp only [go_sem])
  | (apply cT E;(· simp only [go_sem]);(· intro h;(try simp only [bq] at h);simp only [↓h,go_sem];rfl);(· intro h;(try simp only [bq] at h);simp only [↓h,go_sem];rfl);simp only [go_sem])
  | (apply cV E;(· simp only [go_sem]);(· rfl);(· intro h h';(try simp only [bq] at h h');simp only [↓h,↓h',go_sem];rfl);simp only [go_sem])
  | (apply bH E;(· simp only [go_sem]);(· rfl);(· intro h h';(try simp only [bq] at h h');simp only [↓h,↓h',go_sem];rfl);(· intro h h';(try simp only [bq] at h h');simp only [↓h,↓h',go_sem];rfl);simp only [go_sem])
  | (apply eK E;(· decide);simp only [go_sem]))
 (first | (apply gQ E;(· simp only [go_sem]);(· intro h hk;(try simp only [bq] at h);refine ae E (c10) rfl (by simp only [↓h,go_sem]<;>rfl) (by simp) ?_;rintro _ rfl;exact hk);simp only [go_sem]) | (apply fu E;(· simp only [go_sem]);(· rfl);(· intro h h' hk;(try simp only [bq] at h h');refine ae E (c10) rfl (by simp only [↓h,↓h',go_sem]<;>rfl) (by simp) ?_;rintro _ rfl;exact hk);simp only [go_sem]))
 repeat (first
  | (apply fp E;(· simp only [go_sem]);(· intro h;(try simp only [bq] at h);simp only [↓h,go_sem];rfl);simp only [go_sem])
  | (apply cT E;(· simp only [go_sem]);(· intro h;(try simp only [bq] at h);simp only [↓h,go_sem];rfl);(· intro h;(try simp only [bq] at h);simp only [↓h,go_sem];rfl);simp only [go_sem])
  | (apply cV E;(· simp only [go_sem]);(· rfl);(· intro h h';(try simp only [bq] at h h');simp only [↓h,↓h',go_sem];rfl);simp only [go_sem])
  | (apply bH E;(· simp only [go_sem]);(· rfl);(· intro h h';(try simp only [bq] at h h');simp only [↓h,↓h',go_sem];rfl);(· intro h h';(try simp only [bq] at h h');simp only [↓h,↓h',go_sem];rfl);simp only [go_sem])
  | (apply eK E;(· decide);simp only [go_sem]))
 refine bG E (fun g=>?_) (fun g=>?_)<;>simp only [go_sem]
 ·rw [bu,h',g]
  rfl
 refine ck E [2] (.agg [.sl (some 13) (l.map stD),i64 st]) rfl rfl ?_
 simp only [go_sem]
 refine ck E [3] (stD s) rfl rfl ?_
 rw [es]
 simp only [go_sem]
 refine ai mixed E fun X=>?_
 simp only [go_sem]
 refine aO X c5 rfl rfl (by simp) ?_
 simp only [go_sem]
 refine aO X c6 rfl rfl (by simp) ?_
 simp only [go_sem]
 refine pO X 53 [53] none [.sl none ((s.fl.map (·.2)).map i64),.sl none ((s.tl.map (·.2)).map i64)] c7 (fun _=>rfl) rfl rfl rfl (by simp) rfl (by simp only [go_sem]) ?_
 simp only [go_sem]
 refine BY X c8 rfl rfl (by simp) ?_
 simp only [go_sem]
 refine ⟨by decide +kernel,?_⟩
 rw [bu,h',g]
 rfl
end Go.Proofs.YthfodompfpdmgaaGreatDoor

namespace Go.Proofs.YthfodompfpdmgaaGreatDoor
open Go.Ab
theorem ab (s:EA):stD s=.agg [.bool s.plus,.bool s.al,.bool s.int,.bool s.bool,.bool s.str,.bool s.arr,.bool s.rc,.bool s.tg,.sl none (s.vars.map i64),i64 s.dom,i64 s.cod,.sl (some 2) (s.fl.map au),.sl (some 2) (s.tl.map au)]:=rfl
theorem Dy {G} (l:List EA) (p:EA→Bool) (f:Nat) (caps:List D) (hl:l.length≤1000000) (hc:∀ x∈l,HP Tryz.prog G f (stD x::caps) (fun r=>r=.d (.bool (p x)))) :
  HP Tryz.prog G 60 [.sl (some 13) (l.map stD),.clo f caps] (fun r=>∃ z:Int,r=.d (i64 z)∧decide (0≤z)=l.any p):=by
 refine aq Tryz.func60 rfl (by decide +kernel) (by simp [Tryz.ntmps60]) (veil fun E=>?_)
 simp only [go_sem]
 refine aX E (X:={ i:Nat // i≤l.length∧(l.take i).any p=false }) (fun x=>[(0,.d (.sl (some 13) (l.map stD))),(1,.d (.clo f caps)),(6,.d (.sl (some 13) (l.map stD))),(7,.d (i64 l.length)),(8,.d (i64 x.1))]) (fun x=>l.length-x.1) rfl ⟨0,Nat.zero_le _,by simp⟩ ?_ ?_
 ·simp only [go_sem]
  all_goals rfl
 rintro ⟨i,hi,hab⟩ E'
 simp only [go_sem]
 refine ak E' (fun h1=>?_) (fun h1=>?_)<;>simp only [go_sem]
 ·have h1':i<l.length:=by omega
  have hcx:=hc l[i] (List.getElem_mem h1')
  refine ⟨by omega,?_⟩
  rw [bJ h1']
  rw [ab] at hcx ⊢
  simp only [go_sem]
  refine uV E' hcx rfl rfl (by simp) ?_
  rintro _ rfl
  simp only [go_sem]
  refine bG E' (fun h2=>?_) (fun h2=>?_)<;>simp only [go_sem]
  ·refine ⟨_,rfl,?_⟩
   have:l.any p=true:=List.any_eq_true.2 ⟨l[i],List.getElem_mem h1',h2⟩
   rw [this]
   exact decide_eq_true (Int.natCast_nonneg _)
  ·refine ⟨⟨i+1,by omega,nf h1' hab h2⟩,by show l.length-(i+1)<_;omega,?_⟩
   rw [aa ⟨by omega,by omega⟩];rfl
 ·have h3:i=l.length:=by omega
  subst h3
  rw [List.take_length] at hab
  refine ⟨_,rfl,?_⟩
  rw [hab]
  decide
theorem D3 {G} (l:List EA) (p:EA→Bool) (f:Nat) (caps:List D) (hl:l.length≤1000000) (hc:∀ x∈l,HP Tryz.prog G f (stD x::caps) (fun r=>r=.d (.bool (p x)))) :
  HP Tryz.prog G 33 [.sl (some 13) (l.map stD),.clo f caps] (fun r=>r=.d (.bool (l.any p))):=by
 refine aq Tryz.func33 rfl (by decide +kernel) (by simp [Tryz.ntmps33]) (veil fun E=>?_)
 simp only [go_sem]
 refine ae E (Dy l p f caps hl hc) rfl rfl (by simp) ?_
 rintro _ ⟨z,rfl,hz⟩
 simp only [go_sem]
 rw [hz]
theorem DV {G} (s:EA) (l:List EA) (st:Int) (hs:InS s):HP Tryz.prog G 34 [stD s,.ptr (auD l st)] (fun r=>r=.d (.bool (!bu l s))):=by
 have c:=Eh (G:=G) l st s hs
 rw [ab] at c ⊢
 unfold auD at *
 refine aq Tryz.func34 rfl (by decide +kernel) (by simp [Tryz.ntmps34]) (veil fun E=>?_)
 simp only [go_sem]
 refine ae E (c) rfl rfl (by simp) ?_
 rintro _ rfl
 simp only [go_sem]
def cx (l:List EA) (st:Int):Int:=if l.length=0∨2000<l.length then 8 else if !onA l st true || l.any (fun s=>!bu l s) then 4 else 0
theorem qq {G} (l:List EA) (st:Int) (hl:l.length≤1000000) (hs:∀ s∈l,InS s):HP Tryz.prog G 12 [auD l st] (fun r=>r=.d (i64 (cx l st))):=by
 have c1:=pW (G:=G) l st st true
 have c2:=D3 (G:=G) l (fun s=>!bu l s) 34 [.ptr (auD l st)] hl fun x hx=>DV x l st (hs x hx)
 generalize hR:cx l st=R
 unfold cx at hR
 unfold auD at *
 refine aq Tryz.func12 rfl (by decide +kernel) (by simp [Tryz.ntmps12]) (veil fun E=>?_)
 simp only [go_sem]
 repeat (first
  | (apply fp E;(· simp only [go_sem]);(· intro h;(try simp only [bq] at h);simp only [↓h,go_sem];rfl);simp only [go_sem])
  | (apply cT E;(· simp only [go_sem]);(· intro h;(try simp only [bq] at h);simp only [↓h,go_sem];rfl);(· intro h;(try simp only [bq] at h);simp only [↓h,go_sem];rfl);simp only [go_sem])
  | (apply cV E;(· simp only [go_sem]);(· rfl);(· intro h h';(try simp only [bq] at h h');simp only [↓h,↓h',go_sem];rfl);simp only [go_sem])
  | (apply bH E;(· simp only [go_sem]);(· rfl);(· intro h h';(try simp only [bq] at h h');simp only [↓h,↓h',go_sem];rfl);(· intro h h';(try simp only [bq] at h h');simp only [↓h,↓h',go_sem];rfl);simp only [go_sem])
  | (apply eK E;(· decide);simp only [go_sem]))
 refine bG E (fun h=>?_) (fun h=>?_)<;>simp only [go_sem]
 ·simp only [Bool.or_eq_true,decide_eq_true_eq] at h
  rw [if_pos (by omega)] at hR
  rw [← hR]
 have h':¬ (l.length=0∨2000<l.length):=by
  simp only [Bool.or_eq_false_iff,decide_eq_false_iff_not] at h
  omega
 rw [if_neg h'] at hR
 refine ER E [1] (.agg [.sl (some 13) (l.map stD),i64 st]) rfl rfl ?_
 simp only [go_sem]
 refine ae E (c1) rfl rfl (by simp) ?_
 rintro _ rfl
 simp only [go_sem]
 repeat (first
  | (apply fp E;(· simp only [go_sem]);(· intro h;(try simp only [bq] at h);simp only [↓h,go_sem];rfl);simp only [go_sem])
  | (apply cT E;(· simp only [go_sem]);(· intro h;(try simp only [bq] at h);simp only [↓h,go_sem];rfl);(· intro h;(try simp only [bq] at h);simp only [↓h,go_sem];rfl);simp only [go_sem])
  | (apply cV E;(· simp only [go_sem]);(· rfl);(· intro h h';(try simp only [bq] at h h');simp only [↓h,↓h',go_sem];rfl);simp only [go_sem])
  | (apply bH E;(· simp only [go_sem]);(· rfl);(· intro h h';(try simp only [bq] at h h');simp only [↓h,↓h',go_sem];rfl);(· intro h h';(try simp only [bq] at h h');simp only [↓h,↓h',go_sem];rfl);simp only [go_sem])
  | (apply eK E;(· decide);simp only [go_sem]))
 (first | (apply gQ E;(· simp only [go_sem]);(· intro h hk;(try simp only [bq] at h);refine iB E (c2) rfl (by simp only [↓h,go_sem]<;>rfl) (by simp) ?_;rintro _ rfl;exact hk);simp only [go_sem]) | (apply fu E;(· simp only [go_sem]);(· rfl);(· intro h h' hk;(try simp only [bq] at h h');refine iB E (c2) rfl (by simp only [↓h,↓h',go_sem]<;>rfl) (by simp) ?_;rintro _ rfl;exact hk);simp only [go_sem]))
 repeat (first
  | (apply fp E;(· simp only [go_sem]);(· intro h;(try simp only [bq] at h);simp only [↓h,go_sem];rfl);simp only [go_sem])
  | (apply cT E;(· simp only [go_sem]);(· intro h;(try simp only [bq] at h);simp only [↓h,go_sem];rfl);(· intro h;(try simp only [bq] at h);simp only [↓h,go_sem];rfl);simp only [go_sem])
  | (apply cV E;(· simp only [go_sem]);(· rfl);(· intro h h';(try simp only [bq] at h h');simp only [↓h,↓h',go_sem];rfl);simp only [go_sem])
  | (apply bH E;(· simp only [go_sem]);(· rfl);(· intro h h';(try simp only [bq] at h h');simp only [↓h,↓h',go_sem];rfl);(· intro h h';(try simp only [bq] at h h');simp only [↓h,↓h',go_sem];rfl);simp only [go_sem])
  | (apply eK E;(· decide);simp only [go_sem]))
 refine bG E (fun g=>?_) (fun g=>?_)<;>simp only [go_sem]
 ·rw [if_pos g] at hR
  rw [← hR]
 ·rw [if_neg (by rw [g];decide)] at hR
  rw [← hR]
end Go.Proofs.YthfodompfpdmgaaGreatDoor

namespace Go.Proofs.YthfodompfpdmgaaGreatDoor
open Go.Ab
theorem cN (s:EA):s.next=(if s.arr then [s.dom,s.cod] else [])++dV s:=rfl
theorem BI {G} (s:EA) (hs:InS s):HP Tryz.prog G 144 [stD s] (fun r=>r=.d (ay s.next)):=by
 obtain ⟨hv,hf,ht,hfs,hts⟩:=hs
 have c5:=qG (G:=G) s.fl (by omega)
 have c6:=qG (G:=G) s.tl (by omega)
 rw [ab]
 unfold ay bk at *
 by_cases ha:s.arr=true
 ·have c7:=tF (G:=G) [[s.dom,s.cod],s.fl.map (·.2),s.tl.map (·.2)] (by simp) (by simp;omega)
  rw [show [[s.dom,s.cod],s.fl.map (·.2),s.tl.map (·.2)].flatten=s.next from by simp [EA.next,ha]] at c7
  unfold ay at c7
  rw [ha]
  refine aq Tryz.func144 rfl (by decide +kernel) (by simp [Tryz.ntmps144]) (veil fun E=>?_)
  simp only [go_sem]
  refine eR E [12] none [i64 s.dom,i64 s.cod] rfl ?_
  simp only [go_sem]
  refine ck E [1] (.agg [.bool s.plus,.bool s.al,.bool s.int,.bool s.bool,.bool s.str,.bool true,.bool s.rc,.bool s.tg,.sl none (s.vars.map i64),i64 s.dom,i64 s.cod,.sl (some 2) (s.fl.map au),.sl (some 2) (s.tl.map au)]) rfl rfl ?_
  simp only [go_sem]
  refine ai mixed E fun X=>?_
  simp only [go_sem]
  refine aO X c5 rfl rfl (by simp) ?_
  simp only [go_sem]
  refine aO X c6 rfl rfl (by simp) ?_
  simp only [go_sem]
  refine pO X 20 [20] none [.sl none [i64 s.dom,i64 s.cod],.sl none ((s.fl.map (·.2)).map i64),.sl none ((s.tl.map (·.2)).map i64)] c7 (fun _=>rfl) rfl rfl rfl (by simp) rfl (by simp only [go_sem]) ?_
  simp only [go_sem]
  exact (by decide +kernel)
 ·have ha:s.arr=false:=by simpa using ha
  have c7:=tF (G:=G) [[],s.fl.map (·.2),s.tl.map (·.2)] (by simp) (by simp;omega)
  rw [show [[],s.fl.map (·.2),s.tl.map (·.2)].flatten=s.next from by simp [EA.next,ha]] at c7
  unfold ay at c7
  rw [ha]
  refine aq Tryz.func144 rfl (by decide +kernel) (by simp [Tryz.ntmps144]) (veil fun E=>?_)
  simp only [go_sem]
  refine EY E 3 .nils (.sl none []) rfl (.nils _) ?_
  simp only [go_sem]
  refine ck E [1] (.agg [.bool s.plus,.bool s.al,.bool s.int,.bool s.bool,.bool s.str,.bool false,.bool s.rc,.bool s.tg,.sl none (s.vars.map i64),i64 s.dom,i64 s.cod,.sl (some 2) (s.fl.map au),.sl (some 2) (s.tl.map au)]) rfl rfl ?_
  simp only [go_sem]
  refine ai mixed E fun X=>?_
  simp only [go_sem]
  refine aO X c5 rfl rfl (by simp) ?_
  simp only [go_sem]
  refine aO X c6 rfl rfl (by simp) ?_
  simp only [go_sem]
  refine pO X 20 [20] none [.sl none [],.sl none ((s.fl.map (·.2)).map i64),.sl none ((s.tl.map (·.2)).map i64)] c7 (fun _=>rfl) rfl rfl rfl (by simp) rfl (by simp only [go_sem]) ?_
  simp only [go_sem]
  exact (by decide +kernel)
theorem lz {l:List Fld} {h:List Int} {i:Nat} (hi:i<l.length):(h++(l.take i).map (·.2)).map i64++[i64 l[i].2]=(h++(l.take (i+1)).map (·.2)).map i64:=by
 rw [List.take_succ_eq_append_getElem hi,List.map_append,List.map_append,List.map_append,List.map_append,List.append_assoc]
 rfl
set_option maxHeartbeats 2000000 in
theorem qc {G} (s:EA) (hs:InS s):HP Tryz.prog G 43 [stD s] (fun r=>r=.d (ay s.next)):=by
 obtain ⟨hv,hf,ht,hfs,hts⟩:=hs
 refine il ?_
 rw [ab]
 refine aV Tryz.func43 rfl (by decide +kernel) (by simp [Tryz.ntmps43]) (veil fun E=>?_)
 simp only [go_sem]
 refine bG E (fun ha=>?_) (fun ha=>?_)<;>simp only [go_sem]
 ·refine ck E [1] (stD s) rfl rfl ?_
  rw [ab]
  simp only [go_sem]
  obtain ⟨HL,hHL,hH⟩:∃ HL:List Int,HL=[s.dom,s.cod]∧HL.length≤2:=⟨_,rfl,by simp⟩
  refine an E (X:={ i:Nat // i≤s.fl.length }) (fun x=>[(1,.d (.ptr (stD s))),(3,.vw [99] 0 (HL++(s.fl.take x.1).map (·.2)).length),(4,.d (i64 x.1))]) (fun x=>[([99],.arr none ((HL++(s.fl.take x.1).map (·.2)).map i64))]) [99] (fun x=>s.fl.length-x.1) ⟨0,Nat.zero_le _⟩ (tau [([99],[13])]) ?_ ?_
  ·simp only [hHL]
   simp only [go_sem]
   all_goals ((repeat' apply And.intro)<;>first | rfl | trivial | (simp;done))
  rintro ⟨i,hi⟩ E2
  simp only [ab] at hi ⊢
  simp only [go_sem]
  refine ak E2 (fun h1=>?_) (fun h1=>?_)<;>simp only [go_sem]
  ·have h1':i<s.fl.length:=by omega
   have hx:(s.fl.map au).getD i .nilp=.agg [.str s.fl[i].1,i64 s.fl[i].2]:=by simp [h1',au]
   refine ⟨by omega,?_⟩
   rw [hx]
   simp only [go_sem]
   have h2:(HL++(s.fl.take i).map (·.2)).length+1=(HL++(s.fl.take (i+1)).map (·.2)).length:=by
    simp only [List.length_append,List.length_map,List.length_take];omega
   have h3:(HL++(s.fl.take i).map (·.2)).length≤900000:=by
    simp only [List.length_append,List.length_map,List.length_take,List.length_cons,List.length_nil] at *;omega
   refine ⟨by omega,⟨i+1,by omega⟩,by show s.fl.length-(i+1)<_;omega,tau [([99],[29])],?_⟩
   simp only [go_sem]
   rw [h2,lz h1',aa ⟨by omega,by omega⟩]
   (repeat' apply And.intro)<;>first | rfl | trivial
  have h0:i=s.fl.length:=by omega
  subst h0
  rw [List.take_length]
  refine an E (X:={ i:Nat // i≤s.tl.length }) (fun x=>[(1,.d (.ptr (stD s))),(3,.vw [99] 0 ((HL++s.fl.map (·.2))++(s.tl.take x.1).map (·.2)).length),(5,.d (i64 x.1))]) (fun x=>[([99],.arr none (((HL++s.fl.map (·.2))++(s.tl.take x.1).map (·.2)).map i64))]) [99] (fun x=>s.tl.length-x.1) ⟨0,Nat.zero_le _⟩ id ?_ ?_
  ·simp only [go_sem]
   all_goals ((repeat' apply And.intro)<;>first | rfl | trivial | (simp;done))
  rintro ⟨i,hi⟩ E2
  simp only [ab] at hi ⊢
  simp only [go_sem]
  refine ak E2 (fun h1=>?_) (fun h1=>?_)<;>simp only [go_sem]
  ·have h1':i<s.tl.length:=by omega
   have hx:(s.tl.map au).getD i .nilp=.agg [.str s.tl[i].1,i64 s.tl[i].2]:=by simp [h1',au]
   refine ⟨by omega,?_⟩
   rw [hx]
   simp only [go_sem]
   have h2:((HL++s.fl.map (·.2))++(s.tl.take i).map (·.2)).length+1=((HL++s.fl.map (·.2))++(s.tl.take (i+1)).map (·.2)).length:=by
    simp only [List.length_append,List.length_map,List.length_take];omega
   have h3:((HL++s.fl.map (·.2))++(s.tl.take i).map (·.2)).length≤900000:=by
    simp only [List.length_append,List.length_map,List.length_take,List.length_cons,List.length_nil] at *;omega
   refine ⟨by omega,⟨i+1,by omega⟩,by show s.tl.length-(i+1)<_;omega,tau [([99],[45])],?_⟩
   simp only [go_sem]
   rw [h2,lz h1',aa ⟨by omega,by omega⟩]
   (repeat' apply And.intro)<;>first | rfl | trivial
  have h0:i=s.tl.length:=by omega
  subst h0
  rw [List.take_length]
  refine ⟨[([99],none,((HL++s.fl.map (·.2))++s.tl.map (·.2)).map i64)],?_⟩
  simp only [go_sem]
  refine ⟨_,rfl,?_⟩
  rw [show (HL++s.fl.map (·.2))++s.tl.map (·.2)=s.next from by rw [cN,dV,ha,hHL,List.append_assoc];rfl]
  exact .refl _
 ·refine ck E [1] (stD s) rfl rfl ?_
  rw [ab]
  simp only [go_sem]
  obtain ⟨HL,hHL,hH⟩:∃ HL:List Int,HL=([]:List Int)∧HL.length≤2:=⟨_,rfl,by simp⟩
  refine an E (X:={ i:Nat // i≤s.fl.length }) (fun x=>[(1,.d (.ptr (stD s))),(3,.vw [99] 0 (HL++(s.fl.take x.1).map (·.2)).length),(4,.d (i64 x.1))]) (fun x=>[([99],.arr none ((HL++(s.fl.take x.1).map (·.2)).map i64))]) [99] (fun x=>s.fl.length-x.1) ⟨0,Nat.zero_le _⟩ (tau [([99],[6])]) ?_ ?_
  ·simp only [hHL]
   simp only [go_sem]
   all_goals ((repeat' apply And.intro)<;>first | rfl | trivial | (simp;done))
  rintro ⟨i,hi⟩ E2
  simp only [ab] at hi ⊢
  simp only [go_sem]
  refine ak E2 (fun h1=>?_) (fun h1=>?_)<;>simp only [go_sem]
  ·have h1':i<s.fl.length:=by omega
   have hx:(s.fl.map au).getD i .nilp=.agg [.str s.fl[i].1,i64 s.fl[i].2]:=by simp [h1',au]
   refine ⟨by omega,?_⟩
   rw [hx]
   simp only [go_sem]
   have h2:(HL++(s.fl.take i).map (·.2)).length+1=(HL++(s.fl.take (i+1)).map (·.2)).length:=by
    simp only [List.length_append,List.length_map,List.length_take];omega
   have h3:(HL++(s.fl.take i).map (·.2)).length≤900000:=by
    simp only [List.length_append,List.length_map,List.length_take,List.length_cons,List.length_nil] at *;omega
   refine ⟨by omega,⟨i+1,by omega⟩,by show s.fl.length-(i+1)<_;omega,tau [([99],[29])],?_⟩
   simp only [go_sem]
   rw [h2,lz h1',aa ⟨by omega,by omega⟩]
   (repeat' apply And.intro)<;>first | rfl | trivial
  have h0:i=s.fl.length:=by omega
  subst h0
  rw [List.take_length]
  refine an E (X:={ i:Nat // i≤s.tl.length }) (fun x=>[(1,.d (.ptr (stD s))),(3,.vw [99] 0 ((HL++s.fl.map (·.2))++(s.tl.take x.1).map (·.2)).length),(5,.d (i64 x.1))]) (fun x=>[([99],.arr none (((HL++s.fl.map (·.2))++(s.tl.take x.1).map (·.2)).map i64))]) [99] (fun x=>s.tl.length-x.1) ⟨0,Nat.zero_le _⟩ id ?_ ?_
  ·simp only [go_sem]
   all_goals ((repeat' apply And.intro)<;>first | rfl | trivial | (simp;done))
  rintro ⟨i,hi⟩ E2
  simp only [ab] at hi ⊢
  simp only [go_sem]
  refine ak E2 (fun h1=>?_) (fun h1=>?_)<;>simp only [go_sem]
  ·have h1':i<s.tl.length:=by omega
   have hx:(s.tl.map au).getD i .nilp=.agg [.str s.tl[i].1,i64 s.tl[i].2]:=by simp [h1',au]
   refine ⟨by omega,?_⟩
   rw [hx]
   simp only [go_sem]
   have h2:((HL++s.fl.map (·.2))++(s.tl.take i).map (·.2)).length+1=((HL++s.fl.map (·.2))++(s.tl.take (i+1)).map (·.2)).length:=by
    simp only [List.length_append,List.length_map,List.length_take];omega
   have h3:((HL++s.fl.map (·.2))++(s.tl.take i).map (·.2)).length≤900000:=by
    simp only [List.length_append,List.length_map,List.length_take,List.length_cons,List.length_nil] at *;omega
   refine ⟨by omega,⟨i+1,by omega⟩,by show s.tl.length-(i+1)<_;omega,tau [([99],[45])],?_⟩
   simp only [go_sem]
   rw [h2,lz h1',aa ⟨by omega,by omega⟩]
   (repeat' apply And.intro)<;>first | rfl | trivial
  have h0:i=s.tl.length:=by omega
  subst h0
  rw [List.take_length]
  refine ⟨[([99],none,((HL++s.fl.map (·.2))++s.tl.map (·.2)).map i64)],?_⟩
  simp only [go_sem]
  refine ⟨_,rfl,?_⟩
  rw [show (HL++s.fl.map (·.2))++s.tl.map (·.2)=s.next from by rw [cN,dV,ha,hHL,List.append_assoc];rfl]
  exact .refl _
end Go.Proofs.YthfodompfpdmgaaGreatDoor

namespace Go.Proofs.YthfodompfpdmgaaGreatDoor
open Go.Ab
theorem y4 {G} (l:List Fld) (tg:Bool) (hl:l.length≤1000000) (hs:∀ x∈l,x.1.length≤9223372036854775807):HP Tryz.prog G 76 [bk l,.bool tg] (fun r=>r=.d (.bool (dB (if tg then eb else bL) l && decide (l.length≤30)))):=by
 unfold bk
 cases tg with
 | false =>
   simp only [Bool.false_eq_true,if_false]
   refine aq Tryz.func76 rfl (by decide +kernel) (by simp [Tryz.ntmps76]) (veil fun E=>?_)
   simp only [go_sem]
   refine aX E (X:={ i:Nat // i≤l.length∧((List.range i).all fun i=>bL (fnm l i) && !im l i)=true }) (fun x=>[(0,.d (.sl (some 2) (l.map au))),(1,.d (.bool false)),(5,.d (i64 x.1))]) (fun x=>l.length-x.1) rfl ⟨0,Nat.zero_le _,by simp⟩ ?_ ?_
   ·simp only [go_sem]
    all_goals rfl
   rintro ⟨i,hi,hab⟩ E'
   simp only [go_sem]
   refine ak E' (fun h1=>?_) (fun h1=>?_)<;>simp only [go_sem]
   ·have h1':i<l.length:=by omega
    have hlen:(fnm l i).length≤9223372036854775807:=by
     have:=hs l[i] (List.getElem_mem h1')
     simp only [fnm,List.getD_eq_getElem?_getD,List.getElem?_eq_getElem h1',Option.getD_some]
     omega
    refine ⟨by omega,?_⟩
    rw [ed h1']
    simp only [go_sem]
    refine ae E' (Dx (fnm l i) hlen) rfl rfl (by simp) ?_
    rintro _ rfl
    simp only [go_sem]
    refine ek E' (fun h2=>?_) (fun h2=>?_)<;>simp only [go_sem]
    ·have h2:bL (fnm l i)=false:=by simpa using h2
     rw [show dB bL l=false from du h1' (by simp only [h2,Bool.false_and]),Bool.false_and]
    have h2:bL (fnm l i)=true:=by simpa using h2
    refine aI E' (fun h3=>?_) (fun h3=>?_)<;>simp only [go_sem]
    ·have hw:w64 ((i:Int)-1)=((i-1:Nat):Int):=by rw [aa ⟨by omega,by omega⟩];omega
     have h4:i-1<l.length:=by omega
     rw [hw]
     refine ⟨by omega,?_⟩
     rw [Int.toNat_natCast,ed h4]
     simp only [go_sem]
     refine bG E' (fun h5=>?_) (fun h5=>?_)<;>simp only [go_sem]
     ·have h5:Op.bytesLess (fnm l (i-1)) (fnm l i)=false:=by simpa using h5
      rw [show dB bL l=false from du h1' (by simp only [im,h5,Bool.not_false,Bool.and_true,decide_eq_true h3,Bool.not_true,Bool.and_false,show 0<i by omega,decide_true]),Bool.false_and]
     ·have h5:Op.bytesLess (fnm l (i-1)) (fnm l i)=true:=by simpa using h5
      refine ⟨⟨i+1,by omega,cI hab (by simp only [im,h5,h2,Bool.not_true,Bool.and_false,Bool.not_false,Bool.and_true])⟩,by show l.length-(i+1)<_;omega,?_⟩
      rw [aa ⟨by omega,by omega⟩];rfl
    ·refine ⟨⟨i+1,by omega,cI hab (by simp only [im,h2,show ¬ 0<i by omega,decide_false,Bool.false_and,Bool.not_false,Bool.and_true])⟩,by show l.length-(i+1)<_;omega,?_⟩
     rw [aa ⟨by omega,by omega⟩];rfl
   ·have h3:i=l.length:=by omega
    subst h3
    have:dB bL l=true:=hab
    rw [this,Bool.true_and]
    exact congrArg (fun b=>AV.d (.bool b)) (by simp [decide_eq_decide];omega)
 | true =>
   simp only [if_true]
   refine aq Tryz.func76 rfl (by decide +kernel) (by simp [Tryz.ntmps76]) (veil fun E=>?_)
   simp only [go_sem]
   refine aX E (X:={ i:Nat // i≤l.length∧((List.range i).all fun i=>eb (fnm l i) && !im l i)=true }) (fun x=>[(0,.d (.sl (some 2) (l.map au))),(1,.d (.bool true)),(5,.d (i64 x.1))]) (fun x=>l.length-x.1) rfl ⟨0,Nat.zero_le _,by simp⟩ ?_ ?_
   ·simp only [go_sem]
    all_goals rfl
   rintro ⟨i,hi,hab⟩ E'
   simp only [go_sem]
   refine ak E' (fun h1=>?_) (fun h1=>?_)<;>simp only [go_sem]
   ·have h1':i<l.length:=by omega
    have hlen:(fnm l i).length≤9223372036854775807:=by
     have:=hs l[i] (List.getElem_mem h1')
     simp only [fnm,List.getD_eq_getElem?_getD,List.getElem?_eq_getElem h1',Option.getD_some]
     omega
    refine ⟨by omega,?_⟩
    rw [ed h1']
    simp only [go_sem]
    refine ae E' (En (fnm l i) hlen) rfl rfl (by simp) ?_
    rintro _ rfl
    simp only [go_sem]
    refine ek E' (fun h2=>?_) (fun h2=>?_)<;>simp only [go_sem]
    ·have h2:eb (fnm l i)=false:=by simpa using h2
     rw [show dB eb l=false from du h1' (by simp only [h2,Bool.false_and]),Bool.false_and]
    have h2:eb (fnm l i)=true:=by simpa using h2
    refine aI E' (fun h3=>?_) (fun h3=>?_)<;>simp only [go_sem]
    ·have hw:w64 ((i:Int)-1)=((i-1:Nat):Int):=by rw [aa ⟨by omega,by omega⟩];omega
     have h4:i-1<l.length:=by omega
     rw [hw]
     refine ⟨by omega,?_⟩
     rw [Int.toNat_natCast,ed h4]
     simp only [go_sem]
     refine bG E' (fun h5=>?_) (fun h5=>?_)<;>simp only [go_sem]
     ·have h5:Op.bytesLess (fnm l (i-1)) (fnm l i)=false:=by simpa using h5
      rw [show dB eb l=false from du h1' (by simp only [im,h5,Bool.not_false,Bool.and_true,decide_eq_true h3,Bool.not_true,Bool.and_false,show 0<i by omega,decide_true]),Bool.false_and]
     ·have h5:Op.bytesLess (fnm l (i-1)) (fnm l i)=true:=by simpa using h5
      refine ⟨⟨i+1,by omega,cI hab (by simp only [im,h5,h2,Bool.not_true,Bool.and_false,Bool.not_false,Bool.and_true])⟩,by show l.length-(i+1)<_;omega,?_⟩
      rw [aa ⟨by omega,by omega⟩];rfl
    ·refine ⟨⟨i+1,by omega,cI hab (by simp only [im,h2,show ¬ 0<i by omega,decide_false,Bool.false_and,Bool.not_false,Bool.and_true])⟩,by show l.length-(i+1)<_;omega,?_⟩
     rw [aa ⟨by omega,by omega⟩];rfl
   ·have h3:i=l.length:=by omega
    subst h3
    have:dB eb l=true:=hab
    rw [this,Bool.true_and]
    exact congrArg (fun b=>AV.d (.bool b)) (by simp [decide_eq_decide];omega)
def ig (l:List EA) (s:EA) (i:Nat):Bool:=((decide (0≤s.next.getD i 0) && decide (s.next.getD i 0<l.length)) && !(((l.getD (s.next.getD i 0).toNat default).plus == s.plus) == (s.arr && decide (i=0))))
theorem ku (q:Int→Bool):∀ L:List Int,(List.range L.length).all (fun i=>q (L.getD i 0))=L.all q
 | []=>rfl
 | a::r=>by
   rw [List.length_cons,List.range_succ_eq_map,List.all_cons,List.all_map,List.all_cons]
   congr 1
   exact ku q r
theorem BK (a b:Bool):(!((a == b) == true))=(a == !b):=by cases a<;>cases b<;>rfl
theorem np (a b:Bool):(!((a == b) == false))=(a == b):=by cases a<;>cases b<;>rfl
theorem wO (l:List EA) (s:EA):bu l s=(fe s && kf s.vars && (List.range s.next.length).all (ig l s) && ((dB bL s.fl && decide (s.fl.length≤30)) && (dB eb s.tl && decide (s.tl.length≤30)))):=by
 have e:(List.range s.next.length).all (ig l s)=(!(s.arr && (!onA l s.dom (!s.plus) || !onA l s.cod s.plus)) && (dV s).all fun k=>onA l k s.plus):=by
  cases ha:s.arr with
  | false =>
    have hn:s.next=dV s:=by rw [cN,ha];rfl
    rw [hn,← ku (fun k=>onA l k s.plus)]
    simp only [Bool.false_and,Bool.not_false,Bool.true_and]
    congr 1
    funext i
    simp only [ig,hn,ha,onA,Bool.false_and,np]
  | true =>
    have hn:s.next=s.dom::s.cod::dV s:=by rw [cN,ha];rfl
    rw [hn,List.length_cons,List.length_cons,List.range_succ_eq_map,List.all_cons,List.all_map,List.range_succ_eq_map,List.all_cons,List.all_map,← ku (fun k=>onA l k s.plus)]
    have h0:ig l s 0=onA l s.dom (!s.plus):=by
     simp only [ig,hn,ha,onA,List.getD_cons_zero,decide_true,Bool.and_true,BK]
    have h1:(ig l s ∘ Nat.succ) 0=onA l s.cod s.plus:=by
     show ig l s 1=_
     simp only [ig,hn,ha,onA,List.getD_cons_zero,List.getD_cons_succ,Bool.true_and,show decide (1=0)=false from rfl,np]
    have h2:∀ i,((ig l s ∘ Nat.succ) ∘ Nat.succ) i=onA l ((dV s).getD i 0) s.plus:=by
     intro i
     show ig l s (i+2)=_
     simp only [ig,hn,ha,onA,List.getD_cons_succ,Bool.true_and,show decide (i+2=0)=false from by simp,np]
    rw [h0,h1,funext h2]
    simp only [Bool.true_and,Bool.not_or,Bool.not_not]
    rw [Bool.and_assoc]
 have e2:(!(dV s).any fun k=>!onA l k s.plus)=(dV s).all fun k=>onA l k s.plus:=by
  rw [List.any_eq_not_all_not];simp
 unfold bu
 rw [e,e2]
 cases fe s<;>cases kf s.vars<;>cases dB bL s.fl<;>cases dB eb s.tl<;>simp [Bool.and_assoc,Bool.and_comm,Bool.and_left_comm]
theorem rS:∀ (al it bo sr ar rc tg v d c f t:Bool),(((al && (it || bo || sr || ar || rc || tg || !v)) || (!ar && (!d || !c)) || (!rc && !f)) || (!tg && !t)) =
 !(!(al && (it || bo || sr || ar || rc || tg || !v)) && !(!ar && (!d || !c)) && ((rc || f) && (tg || t))):=by decide +kernel
theorem pT {l:List Int} {i:Nat} (hi:i<l.length) (h:jj l i=false):kf l=false:=du hi h
set_option maxHeartbeats 4000000 in
theorem D2 {G} (l:List EA) (st:Int) (s:EA) (_hl:l.length≤1000000) (hs:InS s):HP Tryz.prog G 41 [auD l st,stD s] (fun r=>r=.d (.bool (bu l s))):=by
 have c1:=qc (G:=G) s hs
 obtain ⟨hv,hf,ht,hfs,hts⟩:=hs
 have c2:=y4 (G:=G) s.fl false (by omega) hfs
 have c3:=y4 (G:=G) s.tl true (by omega) hts
 have h0:=Cw s.vars
 have h1:=Cw s.fl
 have h2:=Cw s.tl
 have hnl:s.next.length≤900000:=by
  rw [cN,dV]
  split<;>simp<;>omega
 simp only [Bool.false_eq_true,if_false,if_true] at c2 c3
 generalize hR:bu l s=R
 rw [wO] at hR
 rw [ab] at c1 ⊢
 unfold auD ay bk at *
 refine aq Tryz.func41 rfl (by decide +kernel) (by simp [Tryz.ntmps41]) (veil fun E=>?_)
 simp only [go_sem]
 dsimp only [List.append_eq,List.cons_append,List.nil_append]
 simp only [go_sem]
 repeat (first
  | (apply fp E;(· simp only [go_sem]);(· intro h;(try simp only [bq] at h);simp only [↓h,go_sem];rfl);simp only [go_sem])
  | (apply cT E;(· simp only [go_sem]);(· intro h;(try simp only [bq] at h);simp only [↓h,go_sem];rfl);(· intro h;(try simp only [bq] at h);simp only [↓h,go_sem];rfl);simp only [go_sem])
  | (apply cV E;(· simp only [go_sem]);(· rfl);(· intro h h';(try simp only [bq] at h h');simp only [↓h,↓h',go_sem];rfl);simp only [go_sem])
  | (apply bH E;(· simp only [go_sem]);(· rfl);(· intro h h';(try simp only [bq] at h h');simp only [↓h,↓h',go_sem];rfl);(· intro h h';(try simp only [bq] at h h');simp only [↓h,↓h',go_sem];rfl);simp only [go_sem])
  | (apply eK E;(· decide);simp only [go_sem]))
 refine bG E (fun h=>?_) (fun h=>?_)<;>simp only [go_sem]
 ·simp only [h0,h1,h2,decide_not] at h
  rw [rS] at h
  have hb:fe s=false:=by rw [Bool.not_eq_true'] at h;exact h
  rw [← hR,hb]
  rfl
 simp only [h0,h1,h2,decide_not] at h
 rw [rS] at h
 have hb:fe s=true:=by rw [Bool.not_eq_false'] at h;exact h
 rw [hb,Bool.true_and] at hR
 refine ck E [2] (.agg [.sl (some 13) (l.map stD),i64 st]) rfl rfl ?_
 simp only [go_sem]
 refine ck E [3] (stD s) rfl rfl ?_
 rw [ab]
 simp only [go_sem]
 refine aX E (X:={ i:Nat // i≤s.vars.length∧(List.range i).all (jj s.vars)=true }) (fun x=>[(2,.d (.ptr (.agg [.sl (some 13) (l.map stD),i64 st]))),(3,.d (.ptr (stD s))),(5,.d (i64 x.1))]) (fun x=>s.vars.length-x.1) rfl ⟨0,Nat.zero_le _,by simp⟩ ?_ ?_
 ·simp only [go_sem]
  all_goals rfl
 rintro ⟨i,hi,hab⟩ E'
 simp only [ab] at hi ⊢
 simp only [go_sem]
 refine ak E' (fun h1=>?_) (fun h1=>?_)<;>simp only [go_sem]
 ·have h1':i<s.vars.length:=by omega
  refine ai mixed E' fun X=>?_
  simp only [go_sem]
  refine ⟨by omega,?_⟩
  rw [aN h1']
  simp only [go_sem]
  refine j1 X (fun h2=>?_) (fun h2=>?_)<;>simp only [go_sem]
  ·refine ⟨by decide +kernel,?_⟩
   rw [← hR,pT h1' (by simp only [jj,Bool.and_eq_false_iff,decide_eq_false_iff_not];exact .inl (.inl (by omega)))]
   rfl
  refine ⟨by omega,?_⟩
  rw [aN h1']
  simp only [go_sem]
  refine j1 X (fun h3=>?_) (fun h3=>?_)<;>simp only [go_sem]
  ·refine ⟨by decide +kernel,?_⟩
   rw [← hR,pT h1' (by simp only [jj,Bool.and_eq_false_iff,decide_eq_false_iff_not];exact .inl (.inr (by omega)))]
   rfl
  refine j1 X (fun h4=>?_) (fun h4=>?_)<;>simp only [go_sem]
  ·have hw:w64 ((i:Int)-1)=((i-1:Nat):Int):=by rw [aa ⟨by omega,by omega⟩];omega
   rw [hw]
   refine ⟨by omega,?_⟩
   rw [Int.toNat_natCast,aN (show i-1<s.vars.length by omega)]
   simp only [go_sem]
   refine ⟨by omega,?_⟩
   rw [aN h1']
   simp only [go_sem]
   refine ⟨by decide +kernel,?_⟩
   refine ak E' (fun h5=>?_) (fun h5=>?_)<;>simp only [go_sem]
   ·rw [← hR,pT h1' (by simp only [jj,Bool.and_eq_false_iff,Bool.or_eq_false_iff,decide_eq_false_iff_not];exact .inr ⟨by omega,by omega⟩)]
    rfl
   ·refine ⟨⟨i+1,by omega,cI hab ?_⟩,by show s.vars.length-(i+1)<_;omega,?_⟩
    ·simp only [jj,Bool.and_eq_true,Bool.or_eq_true,decide_eq_true_eq]
     exact ⟨⟨by omega,by omega⟩,.inr (by omega)⟩
    ·rw [aa ⟨by omega,by omega⟩]
     exact ⟨rfl,rfl⟩
  ·refine ⟨by decide +kernel,?_⟩
   refine ⟨⟨i+1,by omega,cI hab ?_⟩,by show s.vars.length-(i+1)<_;omega,?_⟩
   ·simp only [jj,Bool.and_eq_true,Bool.or_eq_true,decide_eq_true_eq]
    exact ⟨⟨by omega,by omega⟩,.inl (by omega)⟩
   ·rw [aa ⟨by omega,by omega⟩]
    exact ⟨rfl,rfl⟩
 have h3:i=s.vars.length:=by omega
 subst h3
 have hnum:kf s.vars=true:=hab
 rw [hnum,Bool.true_and] at hR
 refine ae E (c1) rfl rfl (by simp) ?_
 rintro _ rfl
 simp only [go_sem]
 clear hab E'
 refine aX E (X:={ i:Nat // i≤s.next.length∧(List.range i).all (ig l s)=true }) (fun x=>[(2,.d (.ptr (.agg [.sl (some 13) (l.map stD),i64 st]))),(3,.d (.ptr (stD s))),(6,.d (.sl none (s.next.map i64))),(7,.d (i64 x.1))]) (fun x=>s.next.length-x.1) rfl ⟨0,Nat.zero_le _,by simp⟩ ?_ ?_
 ·simp only [go_sem]
  all_goals rfl
 rintro ⟨i,hi,hab⟩ E'
 simp only [ab] at hi ⊢
 simp only [go_sem]
 refine ak E' (fun h1=>?_) (fun h1=>?_)<;>simp only [go_sem]
 ·have h1':i<s.next.length:=by omega
  refine ai mixed E' fun X=>?_
  simp only [go_sem]
  refine ⟨by omega,?_⟩
  rw [aN h1']
  simp only [go_sem]
  have hbad:ig l s i=false→R=false:=fun e=>by
   rw [← hR,du h1' e]
   rfl
  have hgd:s.next.getD i 0=s.next.getD i 0:=rfl
  generalize hz:s.next.getD i 0=z at hgd
  refine j1 X (fun h2=>?_) (fun h2=>?_)<;>simp only [go_sem]
  ·refine ⟨by decide +kernel,?_⟩
   rw [hbad (by simp only [ig,hz,show ¬ (0≤z) by omega,decide_false,Bool.false_and])]
  refine ⟨by omega,?_⟩
  rw [aN h1',hz]
  simp only [go_sem]
  refine ⟨by decide +kernel,?_⟩
  refine ak E' (fun h3=>?_) (fun h3=>?_)<;>simp only [go_sem]
  ·rw [hbad (by simp only [ig,hz,show ¬ (z<(l.length:Int)) by omega,decide_false,Bool.false_and,Bool.and_false])]
  refine ai mixed E' fun X=>?_
  simp only [go_sem]
  refine ⟨by omega,?_⟩
  rw [aN h1',hz]
  simp only [go_sem]
  refine ⟨by omega,?_⟩
  have hzl:z.toNat<l.length:=by omega
  rw [bJ hzl]
  simp only [ab]
  simp only [go_sem]
  refine ⟨by decide +kernel,?_⟩
  repeat (first
   | (apply fp E';(· simp only [go_sem]);(· intro h;(try simp only [bq] at h);simp only [↓h,go_sem];rfl);simp only [go_sem])
   | (apply cT E';(· simp only [go_sem]);(· intro h;(try simp only [bq] at h);simp only [↓h,go_sem];rfl);(· intro h;(try simp only [bq] at h);simp only [↓h,go_sem];rfl);simp only [go_sem])
   | (apply cV E';(· simp only [go_sem]);(· rfl);(· intro h h';(try simp only [bq] at h h');simp only [↓h,↓h',go_sem];rfl);simp only [go_sem])
   | (apply bH E';(· simp only [go_sem]);(· rfl);(· intro h h';(try simp only [bq] at h h');simp only [↓h,↓h',go_sem];rfl);(· intro h h';(try simp only [bq] at h h');simp only [↓h,↓h',go_sem];rfl);simp only [go_sem])
   | (apply eK E';(· decide);simp only [go_sem]))
  have hnx:ig l s i=!((l[z.toNat].plus == s.plus) == (s.arr && decide (i=0))):=by
   simp only [ig,hz,show (0≤z) by omega,show (z<(l.length:Int)) by omega,decide_true,Bool.true_and]
   rw [List.getD_eq_getElem?_getD,List.getElem?_eq_getElem hzl,Option.getD_some]
  have hi0:decide ((i:Int)=0)=decide (i=0):=by rw [decide_eq_decide];omega
  rw [← hi0] at hnx
  refine bG E' (fun h4=>?_) (fun h4=>?_)<;>simp only [go_sem]
  ·rw [hbad (by rw [hnx,h4];rfl)]
  ·refine ⟨⟨i+1,by omega,cI hab (by rw [hnx,h4];rfl)⟩,by show s.next.length-(i+1)<_;omega,?_⟩
   rw [aa ⟨by omega,by omega⟩]
   exact ⟨rfl,rfl⟩
 have h3:i=s.next.length:=by omega
 subst h3
 rw [hab,Bool.true_and] at hR
 refine ae E (c2) rfl rfl (by simp) ?_
 rintro _ rfl
 simp only [go_sem]
 repeat (first
  | (apply fp E;(· simp only [go_sem]);(· intro h;(try simp only [bq] at h);simp only [↓h,go_sem];rfl);simp only [go_sem])
  | (apply cT E;(· simp only [go_sem]);(· intro h;(try simp only [bq] at h);simp only [↓h,go_sem];rfl);(· intro h;(try simp only [bq] at h);simp only [↓h,go_sem];rfl);simp only [go_sem])
  | (apply cV E;(· simp only [go_sem]);(· rfl);(· intro h h';(try simp only [bq] at h h');simp only [↓h,↓h',go_sem];rfl);simp only [go_sem])
  | (apply bH E;(· simp only [go_sem]);(· rfl);(· intro h h';(try simp only [bq] at h h');simp only [↓h,↓h',go_sem];rfl);(· intro h h';(try simp only [bq] at h h');simp only [↓h,↓h',go_sem];rfl);simp only [go_sem])
  | (apply eK E;(· decide);simp only [go_sem]))
 (first | (apply gQ E;(· simp only [go_sem]);(· intro h hk;(try simp only [bq] at h);refine ae E (c3) rfl (by simp only [↓h,go_sem]<;>rfl) (by simp) ?_;rintro _ rfl;exact hk);simp only [go_sem]) | (apply fu E;(· simp only [go_sem]);(· rfl);(· intro h h' hk;(try simp only [bq] at h h');refine ae E (c3) rfl (by simp only [↓h,↓h',go_sem]<;>rfl) (by simp) ?_;rintro _ rfl;exact hk);simp only [go_sem]))
 repeat (first
  | (apply fp E;(· simp only [go_sem]);(· intro h;(try simp only [bq] at h);simp only [↓h,go_sem];rfl);simp only [go_sem])
  | (apply cT E;(· simp only [go_sem]);(· intro h;(try simp only [bq] at h);simp only [↓h,go_sem];rfl);(· intro h;(try simp only [bq] at h);simp only [↓h,go_sem];rfl);simp only [go_sem])
  | (apply cV E;(· simp only [go_sem]);(· rfl);(· intro h h';(try simp only [bq] at h h');simp only [↓h,↓h',go_sem];rfl);simp only [go_sem])
  | (apply bH E;(· simp only [go_sem]);(· rfl);(· intro h h';(try simp only [bq] at h h');simp only [↓h,↓h',go_sem];rfl);(· intro h h';(try simp only [bq] at h h');simp only [↓h,↓h',go_sem];rfl);simp only [go_sem])
  | (apply eK E;(· decide);simp only [go_sem]))
 rw [hR]
theorem Ea {G} (l:List EA) (st:Int) (hl:l.length≤1000000) (hs:∀ s∈l,InS s):HP Tryz.prog G 18 [auD l st] (fun r=>r=.d (i64 (cx l st))):=by
 have c:=fun s hs'=>D2 (G:=G) l st s hl (hs s hs')
 generalize hR:cx l st=R
 unfold cx at hR
 unfold auD at *
 refine aq Tryz.func18 rfl (by decide +kernel) (by simp [Tryz.ntmps18]) (veil fun E=>?_)
 simp only [go_sem]
 repeat (first
  | (apply fp E;(· simp only [go_sem]);(· intro h;(try simp only [bq] at h);simp only [↓h,go_sem];rfl);simp only [go_sem])
  | (apply cT E;(· simp only [go_sem]);(· intro h;(try simp only [bq] at h);simp only [↓h,go_sem];rfl);(· intro h;(try simp only [bq] at h);simp only [↓h,go_sem];rfl);simp only [go_sem])
  | (apply cV E;(· simp only [go_sem]);(· rfl);(· intro h h';(try simp only [bq] at h h');simp only [↓h,↓h',go_sem];rfl);simp only [go_sem])
  | (apply bH E;(· simp only [go_sem]);(· rfl);(· intro h h';(try simp only [bq] at h h');simp only [↓h,↓h',go_sem];rfl);(· intro h h';(try simp only [bq] at h h');simp only [↓h,↓h',go_sem];rfl);simp only [go_sem])
  | (apply eK E;(· decide);simp only [go_sem]))
 refine bG E (fun h=>?_) (fun h=>?_)<;>simp only [go_sem]
 ·simp only [Bool.or_eq_true,decide_eq_true_eq] at h
  rw [if_pos (by omega)] at hR
  rw [← hR]
 have h':¬ (l.length=0∨2000<l.length):=by
  simp only [Bool.or_eq_false_iff,decide_eq_false_iff_not] at h
  omega
 rw [if_neg h'] at hR
 refine ck E [1] (.agg [.sl (some 13) (l.map stD),i64 st]) rfl rfl ?_
 simp only [go_sem]
 refine aX E (X:={ i:Nat // i≤l.length∧(l.take i).any (fun s=>!bu l s)=false }) (fun x=>[(1,.d (.ptr (.agg [.sl (some 13) (l.map stD),i64 st]))),(3,.d (i64 x.1))]) (fun x=>l.length-x.1) rfl ⟨0,Nat.zero_le _,by simp⟩ ?_ ?_
 ·simp only [go_sem]
  all_goals rfl
 rintro ⟨i,hi,hab⟩ E'
 simp only [go_sem]
 refine ak E' (fun h1=>?_) (fun h1=>?_)<;>simp only [go_sem]
 ·have h1':i<l.length:=by omega
  refine ai mixed E' fun X=>?_
  simp only [go_sem]
  refine ⟨by omega,?_⟩
  rw [bJ h1']
  have c1:=c l[i] (List.getElem_mem h1')
  rw [ab] at c1
  simp only [ab]
  simp only [go_sem]
  refine aO X c1 rfl rfl (by simp) ?_
  simp only [go_sem]
  refine ⟨by decide +kernel,?_⟩
  refine bG E' (fun h2=>?_) (fun h2=>?_)<;>simp only [go_sem]
  ·have:l.any (fun s=>!bu l s)=true:=List.any_eq_true.2 ⟨l[i],List.getElem_mem h1',h2⟩
   rw [this,Bool.or_true,if_pos rfl] at hR
   rw [← hR]
  ·refine ⟨⟨i+1,by omega,nf h1' hab h2⟩,by show l.length-(i+1)<_;omega,?_⟩
   rw [aa ⟨by omega,by omega⟩];rfl
 have h3:i=l.length:=by omega
 subst h3
 rw [List.take_length] at hab
 rw [hab,Bool.or_false] at hR
 refine aI E (fun h4=>?_) (fun h4=>?_)<;>simp only [go_sem]
 ·rw [if_pos (by simp only [onA,show ¬ (0≤st) by omega,decide_false,Bool.false_and,Bool.not_false])] at hR
  rw [← hR]
 refine aI E (fun h5=>?_) (fun h5=>?_)<;>simp only [go_sem]
 ·rw [if_pos (by simp only [onA,show ¬ (st<(l.length:Int)) by omega,decide_false,Bool.false_and,Bool.and_false,Bool.not_false])] at hR
  rw [← hR]
 have hsl:st.toNat<l.length:=by omega
 refine ⟨by omega,?_⟩
 rw [bJ hsl]
 simp only [ab]
 simp only [go_sem]
 have hon:onA l st true=(l[st.toNat].plus == true):=by
  simp only [onA,show (0≤st) by omega,show (st<(l.length:Int)) by omega,decide_true,Bool.true_and]
  rw [List.getD_eq_getElem?_getD,List.getElem?_eq_getElem hsl,Option.getD_some]
 rw [hon] at hR
 refine bG E (fun h6=>?_) (fun h6=>?_)<;>simp only [go_sem]
 ·have h6:l[st.toNat].plus=false:=by simpa using h6
  rw [h6] at hR
  rw [← hR]
  rfl
 ·have h6:l[st.toNat].plus=true:=by simpa using h6
  rw [h6] at hR
  rw [← hR]
  rfl
end Go.Proofs.YthfodompfpdmgaaGreatDoor

namespace Go.Proofs.YthfodompfpdmgaaGreatDoor
open Go.Ab
theorem Fq:Tryz.prog.bX 92=true:=by kernel_rfl
theorem zJ {G} (l:List Fld) (hl:l.length≤1000000):HP Tryz.prog G 70 [bk l,bk l] (fun r=>r=.d (.bool true)):=by
 unfold bk
 refine aq Tryz.func70 rfl (by decide +kernel) (by simp [Tryz.ntmps70]) (veil fun E=>?_)
 simp only [go_sem]
 refine aX E (X:={ i:Nat // i≤l.length }) (fun x=>[(0,.d (.sl (some 2) (l.map au))),(1,.d (.sl (some 2) (l.map au))),(5,.d (i64 x.1))]) (fun x=>l.length-x.1) rfl ⟨0,Nat.zero_le _⟩ ?_ ?_
 ·simp only [go_sem]
  all_goals rfl
 rintro ⟨i,hi⟩ E'
 simp only [go_sem]
 refine ak E' (fun h1=>?_) (fun h1=>?_)<;>simp only [go_sem]
 ·have h1':i<l.length:=by omega
  refine ai mixed E' fun X=>?_
  simp only [go_sem]
  refine ⟨by omega,?_⟩
  rw [ed h1']
  simp only [go_sem]
  refine ⟨by omega,?_⟩
  rw [ed h1']
  simp only [go_sem]
  refine EX X (b:=true) Fq (by rw [Fv]) (by simp only [go_sem]) rfl rfl (by simp [eqS,eqP,kOk,ti9,ti3]) ?_
  simp only [go_sem]
  refine ⟨by decide +kernel,?_⟩
  refine ⟨⟨i+1,by omega⟩,by show l.length-(i+1)<_;omega,?_⟩
  rw [aa ⟨by omega,by omega⟩];rfl
set_option maxRecDepth 20000 in
theorem Dk {G} (s:EA) (hs:InS s):HP Tryz.prog G 36 [stD s,stD s] (fun r=>r=.d (.bool true)):=by
 obtain ⟨hv,hf,ht,hfs,hts⟩:=hs
 have c1:=pV (G:=G) s.vars s.vars hv
 have c2:=zJ (G:=G) s.fl (by omega)
 have c3:=zJ (G:=G) s.tl (by omega)
 rw [decide_eq_true rfl] at c1
 rw [ab]
 unfold ay bk at *
 refine aq Tryz.func36 rfl (by decide +kernel) (by simp [Tryz.ntmps36]) (veil fun E=>?_)
 simp only [go_sem]
 dsimp only [List.append_eq,List.cons_append,List.nil_append]
 simp only [go_sem]
 refine ae E (c1) rfl rfl (by simp) ?_
 rintro _ rfl
 simp only [go_sem]
 refine ae E (c2) rfl rfl (by simp) ?_
 rintro _ rfl
 simp only [go_sem]
 refine ae E (c3) rfl rfl (by simp) ?_
 rintro _ rfl
 simp only [go_sem]
theorem zx {G} (l:List Int) (hl:l.length≤1000000):HP Tryz.prog G 37 [ay l] (fun r=>r=.d (ay l)):=by
 refine il ?_
 unfold ay
 refine aV Tryz.func37 rfl (by decide +kernel) (by simp [Tryz.ntmps37]) (veil fun E=>?_)
 simp only [go_sem]
 refine ⟨by omega,[([5],none,l.map i64)],?_⟩
 simp only [go_sem]
 refine ⟨_,rfl,?_⟩
 exact .refl _
theorem AJ {G} (l:List EA) (st:Int) (hl:l.length≤1000000) (hs:∀ s∈l,InS s):HP Tryz.prog G 13 [auD l st,auD l st] (fun r=>r=.d (.bool true)):=by
 unfold auD
 refine aq Tryz.func13 rfl (by decide +kernel) (by simp [Tryz.ntmps13]) (veil fun E=>?_)
 simp only [go_sem]
 repeat (first
  | (apply fp E;(· simp only [go_sem]);(· intro h;(try simp only [bq] at h);simp only [↓h,go_sem];rfl);simp only [go_sem])
  | (apply cT E;(· simp only [go_sem]);(· intro h;(try simp only [bq] at h);simp only [↓h,go_sem];rfl);(· intro h;(try simp only [bq] at h);simp only [↓h,go_sem];rfl);simp only [go_sem])
  | (apply cV E;(· simp only [go_sem]);(· rfl);(· intro h h';(try simp only [bq] at h h');simp only [↓h,↓h',go_sem];rfl);simp only [go_sem])
  | (apply bH E;(· simp only [go_sem]);(· rfl);(· intro h h';(try simp only [bq] at h h');simp only [↓h,↓h',go_sem];rfl);(· intro h h';(try simp only [bq] at h h');simp only [↓h,↓h',go_sem];rfl);simp only [go_sem])
  | (apply eK E;(· decide);simp only [go_sem]))
 refine ck E [2] (.agg [.sl (some 13) (l.map stD),i64 st]) rfl rfl ?_
 simp only [go_sem]
 refine ck E [3] (.agg [.sl (some 13) (l.map stD),i64 st]) rfl rfl ?_
 simp only [go_sem]
 refine aX E (X:={ i:Nat // i≤l.length }) (fun x=>[(2,.d (.ptr (.agg [.sl (some 13) (l.map stD),i64 st]))),(3,.d (.ptr (.agg [.sl (some 13) (l.map stD),i64 st]))),(5,.d (i64 x.1))]) (fun x=>l.length-x.1) rfl ⟨0,Nat.zero_le _⟩ ?_ ?_
 ·simp only [go_sem]
  all_goals rfl
 rintro ⟨i,hi⟩ E'
 simp only [go_sem]
 refine ak E' (fun h1=>?_) (fun h1=>?_)<;>simp only [go_sem]
 ·have h1':i<l.length:=by omega
  have c:=Dk (G:=G) l[i] (hs _ (List.getElem_mem h1'))
  rw [ab] at c
  refine ai mixed E' fun X=>?_
  simp only [go_sem]
  refine ⟨by omega,?_⟩
  rw [bJ h1']
  simp only [ab]
  simp only [go_sem]
  refine ⟨by omega,?_⟩
  rw [bJ h1']
  simp only [ab]
  simp only [go_sem]
  refine aO X c rfl rfl (by simp) ?_
  simp only [go_sem]
  refine ⟨by decide +kernel,?_⟩
  refine ⟨⟨i+1,by omega⟩,by show l.length-(i+1)<_;omega,?_⟩
  rw [aa ⟨by omega,by omega⟩];rfl
end Go.Proofs.YthfodompfpdmgaaGreatDoor

namespace Go.Proofs.YthfodompfpdmgaaGreatDoor
open Go.Ab
theorem aw {l:List Fld} {i:Nat} (h:i<l.length):(l.map au).getD i .nilp=.agg [.str l[i].1,i64 l[i].2]:=by simp [h,au]
theorem bh {α:Type} {β:Type} {f:α→β} {l:List α} {i:Nat} (h:i<l.length):(l.take i).map f++[f l[i]]=(l.take (i+1)).map f:=by
 rw [List.take_succ_eq_append_getElem h,List.map_append]
 rfl
def bx6 (s:EA) (a b:AV):List AV:=[.d (.bool s.plus),.d (.bool s.al),.d (.bool s.int),.d (.bool s.bool),.d (.bool s.str),.d (.bool s.arr),.d (.bool s.rc),.d (.bool s.tg),.d (.sl none (s.vars.map i64)),.d (i64 s.dom),.d (i64 s.cod),a,b]
set_option maxHeartbeats 4000000 in
theorem uy {G} (l:List EA) (st:Int) (hl:l.length≤1000000) (hs:∀ s∈l,InS s):HP Tryz.prog G 14 [auD l st] (fun r=>r=.d (auD l st)):=by
 refine il ?_
 unfold auD
 refine aV Tryz.func14 rfl (by decide +kernel) (by simp [Tryz.ntmps14]) (veil fun E=>?_)
 simp only [go_sem]
 refine ck E [1] (.agg [.sl (some 13) (l.map stD),i64 st]) rfl rfl ?_
 simp only [go_sem]
 refine bP E [3] 0 99 (some 13) [.d .nils,.d (i64 st)] rfl rfl (by rw [ag];decide) ?_
 simp only [go_sem]
 refine an E (X:={ i:Nat // i≤l.length }) (fun x=>[(1,.d (.ptr (.agg [.sl (some 13) (l.map stD),i64 st]))),(2,.bx [2] 0),(3,.bx [3] 0),(4,.d (i64 x.1))])
  (fun x=>[([2],.box [.d .nils,.d (i64 0)]),([3],.box [.vw [99] 0 x.1,.d (i64 st)]),([99],.arr (some 13) ((l.take x.1).map stD))]) [99,3,2] (fun x=>l.length-x.1) ⟨0,Nat.zero_le _⟩ id ?_ ?_
 ·simp only [go_sem]
  all_goals ((repeat' apply And.intro)<;>first | rfl | trivial)
 rintro ⟨i,hi⟩ E0
 refine aK E0 fun Q' hQ E'=>?_
 simp only at hi ⊢
 simp only [go_sem]
 refine ak E' (fun h1=>?_) (fun h1=>?_)<;>simp only [go_sem]
 ·have h1':i<l.length:=by omega
  obtain ⟨hv,hf,ht,hfs,hts⟩:=hs _ (List.getElem_mem h1')
  have c1:=zx (G:=G) l[i].vars hv
  unfold ay at c1
  refine ⟨by omega,?_⟩
  rw [bJ h1']
  simp only [ab]
  simp only [go_sem]
  refine ck E' [5] (stD l[i]) rfl rfl ?_
  simp only [ab]
  simp only [go_sem]
  refine ai mixed E' fun X=>?_
  simp only [go_sem]
  refine aO X c1 rfl rfl (by simp) ?_
  simp only [go_sem]
  refine ⟨by decide +kernel,?_⟩
  generalize hsi:l[i]=s at *
  refine bP E' [6] 11 98 (some 2) (bx6 s (.d .nils) (.d .nils)) rfl rfl (by rw [ag];decide) ?_
  simp only [bx6]
  simp only [go_sem]
  refine an E' (X:={ j:Nat // j≤(s.fl).length }) (fun x=>[(1,.d (.ptr (.agg [.sl (some 13) (l.map stD),i64 st]))),(2,.bx [2] 0),(3,.bx [3] 0),(4,.d (i64 i)),(5,.d (.ptr (stD s))),(6,.bx [6] 0)]++[(7,.d (i64 x.1))])
   (fun x=>[([2],.box [.d .nils,.d (i64 0)]),([3],.box [.vw [99] 0 i,.d (i64 st)]),([99],.arr (some 13) ((l.take i).map stD))]++[([6],.box (bx6 s (.vw [98] 0 x.1) (.d .nils))),([98],.arr (some 2) (((s.fl).take x.1).map au))]) [98,6,99,3,2] (fun x=>(s.fl).length-x.1) ⟨0,Nat.zero_le _⟩ id ?_ ?_
  ·simp only [bx6,List.cons_append,List.nil_append]
   simp only [go_sem]
   all_goals ((repeat' apply And.intro)<;>first | rfl | trivial)
  rintro ⟨j,hj⟩ E3
  refine aK E3 fun Q3 hQ3 E4=>?_
  simp only [bx6,List.cons_append,List.nil_append,ab] at hj ⊢
  simp only [go_sem]
  refine ak E4 (fun h4=>?_) (fun h4=>?_)<;>simp only [go_sem]
  ·have h4':j<(s.fl).length:=by omega
   refine ai mixed E4 fun X=>?_
   simp only [go_sem]
   refine ⟨by omega,?_⟩
   rw [aw h4']
   simp only [go_sem]
   refine ⟨by omega,?_⟩
   rw [aw h4']
   simp only [go_sem]
   refine ⟨by omega,?_⟩
   refine ⟨by decide +kernel,?_⟩
   rw [hQ3]
   simp only [go_sem]
   refine ⟨⟨j+1,by omega⟩,by show (s.fl).length-(j+1)<_;omega,tau [([98],[71])],?_⟩
   simp only [bx6,List.cons_append,List.nil_append]
   simp only [go_sem]
   rw [show List.take j (((s.fl).take j).map au)=((s.fl).take j).map au from List.take_of_length_le (by simp;omega),← bh h4',aa ⟨by omega,by omega⟩]
   (repeat' apply And.intro)<;>first | rfl | trivial
  have h5:j=(s.fl).length:=by omega
  subst h5
  rw [List.take_length,hQ3]
  simp only [go_sem]
  refine eR E' [98] (some 2) (s.fl.map au) rfl ?_
  simp only [go_sem]
  refine bP E' [6] 12 97 (some 2) (bx6 s (.d (.sl (some 2) (s.fl.map au))) (.d .nils)) rfl rfl (by rw [ag];decide) ?_
  simp only [bx6]
  simp only [go_sem]
  refine an E' (X:={ j:Nat // j≤(s.tl).length }) (fun x=>[(1,.d (.ptr (.agg [.sl (some 13) (l.map stD),i64 st]))),(2,.bx [2] 0),(3,.bx [3] 0),(4,.d (i64 i)),(5,.d (.ptr (stD s))),(6,.bx [6] 0)]++[(8,.d (i64 x.1))])
   (fun x=>[([2],.box [.d .nils,.d (i64 0)]),([3],.box [.vw [99] 0 i,.d (i64 st)]),([99],.arr (some 13) ((l.take i).map stD))]++[([6],.box (bx6 s (.d (.sl (some 2) (s.fl.map au))) (.vw [97] 0 x.1))),([97],.arr (some 2) (((s.tl).take x.1).map au))]) [97,6,99,3,2] (fun x=>(s.tl).length-x.1) ⟨0,Nat.zero_le _⟩ id ?_ ?_
  ·simp only [bx6,List.cons_append,List.nil_append]
   simp only [go_sem]
   all_goals ((repeat' apply And.intro)<;>first | rfl | trivial)
  rintro ⟨j,hj⟩ E3
  refine aK E3 fun Q3 hQ3 E4=>?_
  simp only [bx6,List.cons_append,List.nil_append,ab] at hj ⊢
  simp only [go_sem]
  refine ak E4 (fun h4=>?_) (fun h4=>?_)<;>simp only [go_sem]
  ·have h4':j<(s.tl).length:=by omega
   refine ai mixed E4 fun X=>?_
   simp only [go_sem]
   refine ⟨by omega,?_⟩
   rw [aw h4']
   simp only [go_sem]
   refine ⟨by omega,?_⟩
   rw [aw h4']
   simp only [go_sem]
   refine ⟨by omega,?_⟩
   refine ⟨by decide +kernel,?_⟩
   rw [hQ3]
   simp only [go_sem]
   refine ⟨⟨j+1,by omega⟩,by show (s.tl).length-(j+1)<_;omega,tau [([97],[96])],?_⟩
   simp only [bx6,List.cons_append,List.nil_append]
   simp only [go_sem]
   rw [show List.take j (((s.tl).take j).map au)=((s.tl).take j).map au from List.take_of_length_le (by simp;omega),← bh h4',aa ⟨by omega,by omega⟩]
   (repeat' apply And.intro)<;>first | rfl | trivial
  have h5:j=(s.tl).length:=by omega
  subst h5
  rw [List.take_length,hQ3]
  simp only [go_sem]
  refine dr E' [97] (some 2) (s.tl.map au) rfl rfl ?_
  simp only [go_sem]
  refine ⟨by omega,?_⟩
  rw [hQ]
  simp only [go_sem]
  refine ⟨⟨i+1,by omega⟩,by show l.length-(i+1)<_;omega,tau [([99],[102])],?_⟩
  simp only [go_sem]
  rw [show List.take i ((l.take i).map stD)=(l.take i).map stD from List.take_of_length_le (by simp;omega),← bh h1',hsi,aa ⟨by omega,by omega⟩]
  exact ⟨rfl,rfl⟩
 ·rw [hQ]
  have h5:i=l.length:=by omega
  subst h5
  simp only [go_sem]
  refine ⟨[([99],some 13,l.map stD)],?_⟩
  simp only [go_sem]
  exact ⟨_,rfl,.refl _⟩
end Go.Proofs.YthfodompfpdmgaaGreatDoor

