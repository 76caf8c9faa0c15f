/-
  The generic layer, part 110: arrays and maps of views that turn into data. (with the parts that follow it)
-/
import Derived.Test.YthfodompfpdmgaaGreatDoorVPI
import Derived.Test.YthfodompfpdmgaaGreatDoorVPH
import Derived.Test.YthfodompfpdmgaaGreatDoorVPC
import Derived.Sort.Walk0
import Derived.Shelf.Lays
import Derived.Shelf.Small.Strs
import Derived.Ground.NamesProg
set_option linter.all false
namespace Go.Ab
def AV.frS (g:Name→Option (W × List D)):AV→AV
 | .vw q o l=>match g q with
   | some x=>.d (.sl x.1 ((x.2.drop o).take l))
   | none=>.vw q o l
 | x=>x
def Ob.frS (g:Name→Option (W × List D)):Ob→Ob
 | .arrA xs=>.arrA (xs.map (AV.frS g))
 | .mapA clk bs es=>.mapA clk bs (es.map fun x=>(x.1,x.2.frS g))
 | o=>o
def St.frS (s:St) (g:Name→Option (W × List D)):St:={ fr:=s.fr,hp:=fun q=>match g q with | some _=>none | none=>(s.hp q).map (Ob.frS g),used:=s.used }
theorem Ob.zo (g:Name→Option (W × List D)) (o:Ob):o.like (o.frS g):=by
 cases o<;>simp [Ob.frS,Ob.like]
section
variable {B:Base} {β:Name→Option Blk} {s:St} {tm:Array Value} {w:World}
theorem Sim.frS (h:Sim B β s tm w) (g:Name→Option (W × List D)) (hg:∀ q x,g q=some x→s.hp q=some (.arr x.1 x.2)):Sim B β (s.frS g) tm w:=by
 have hsub:∀ q o',(s.frS g).hp q=some o'→g q=none∧∃ o,s.hp q=some o∧o'=o.frS g:=by
  intro q o' ho
  simp only [St.frS] at ho
  split at ho
  ·cases ho
  ·rename_i e
   obtain ⟨o,h1,h2⟩:=Option.map_eq_some_iff.1 ho
   exact ⟨e,o,h1,h2.symm⟩
 have hne:∀ q,(s.frS g).hp q≠none→s.hp q≠none∧g q=none:=by
  intro q hq
  cases ho:(s.frS g).hp q with
  | none=>exact absurd ho hq
  | some o' =>
    obtain ⟨e,o,h1,_⟩:=hsub q o' ho
    exact ⟨by rw [h1];simp,e⟩
 have hr:∀ v d',Rep w.heap (s.own B.A β) v d'→Rep w.heap ((s.frS g).own B.A β) v d':=fun v d' hd=>hd.mono (fun _ _ _=>rfl) (by
  rintro b _ (hA | ⟨q,k,hq,hk,e⟩)
  ·exact .inl hA
  ·exact .inr ⟨q,k,(hne q hq).1,hk,e⟩)
 have hst:∀ q,nm s.used q→Stays s.hp (s.frS g).hp β β q:=fun q _ o' ho'=>by
  obtain ⟨_,o,h1,rfl⟩:=hsub q o' ho'
  exact ⟨o,h1,Ob.zo g o,rfl⟩
 have hno:∀ p x,g p=some x→∀ k,β p=some k→¬ (s.frS g).own B.A β k.b:=by
  intro p x hgp k hk hown
  have hp:=hg p x hgp
  rcases hown with hA | ⟨q,k',hq,hk',e⟩
  ·exact (h.blocks p k (by rw [hp];simp) hk).2.1 hA
  ·have e2:=h.inj q p k' k (hne q hq).1 (by rw [hp];simp) hk' hk e
   have:=(hne q hq).2
   rw [e2,hgp] at this
   cases this
 have hv1:∀ {v:Value} {x:AV},VR w.heap (s.own B.A β) s.used s.hp β v x→VR w.heap ((s.frS g).own B.A β) s.used (s.frS g).hp β v x:=fun hv=>hv.mono hr (fun _ h=>h) hst
 have hv2:∀ {v:Value} {x:AV},VR w.heap (s.own B.A β) s.used s.hp β v x→VR w.heap ((s.frS g).own B.A β) s.used (s.frS g).hp β v (x.frS g):=by
  intro v x hv
  cases x with
  | vw q o l =>
    cases hgq:g q with
    | none=>simp only [AV.frS,hgq];exact hv1 hv
    | some y =>
      have:=VR.frz (p:=q) (w:=y.1) (xs:=y.2) hr hst (hg q y hgq) (h.objs q _ (hg q y hgq)).2 (hno q y hgq) hv
      simpa [AV.frS,hgq,AV.frz] using this
  | _=>exact hv1 hv
 refine { tms:=h.tms,io:=h.io,size:=h.size,frame:=h.frame,slots:=fun i=>hv1 (h.slots i),objs:=fun q o' ho'=>?_,blocks:=fun q k hq hk=>h.blocks q k (hne q hq).1 hk,inj:=fun q q' k k' hq hq'=>h.inj q q' k k' (hne q hq).1 (hne q' hq').1,us:=h.us,stay:=h.stay }
 obtain ⟨_,o,h1,rfl⟩:=hsub q o' ho'
 obtain ⟨g1,g2⟩:=h.objs q o h1
 refine ⟨g1,?_⟩
 cases o with
 | arrA xs =>
   rcases g2 with ⟨a1,rfl⟩ | ⟨k,c,e,a1,a2,a3,a4,a5,a6⟩
   ·exact .inl ⟨a1,rfl⟩
   ·refine .inr ⟨k,c,e,a1,a2,a3,by simpa using a4,by simpa using a5,fun j x hj=>?_⟩
    rw [List.getElem?_map,Option.map_eq_some_iff] at hj
    obtain ⟨y,hy,rfl⟩:=hj
    exact hv2 (a6 j y hy)
 | mapA clk bs es =>
   obtain ⟨k,ents,a1,a2,a3,a4⟩:=g2
   refine ⟨k,ents,a1,a2,by simpa using a3,fun j x hj=>?_⟩
   rw [List.getElem?_map,Option.map_eq_some_iff] at hj
   obtain ⟨y,hy,rfl⟩:=hj
   obtain ⟨en,b1,b2,b3⟩:=a4 j y hy
   exact ⟨en,b1,hr _ _ b2,hv2 b3⟩
 | _=>exact g2.mono hr (fun _ h=>h) hst rfl fun _ _=>rfl
theorem Sim.yg (h:Sim B β s tm w) {p:Name} {ty:Option Nat} {cs cs':List AV} (hp:s.hp p=some (.boxT ty cs)) (hl:cs'.length=cs.length)
  (hv:∀ k c e,β p=some k→w.heap[k.b]?=some (.cells c e (0,0))→∀ (j:Nat) x x',cs[j]?=some x→cs'[j]?=some x'→VR w.heap (s.own B.A β) s.used s.hp β (c.getD j undef) x→VR w.heap (s.own B.A β) s.used s.hp β (c.getD j undef) x'):Sim B β (s.set p (some (.boxT ty cs'))) tm w:=by
 have hhq:∀ q,q≠p→(s.set p (some (.boxT ty cs'))).hp q=s.hp q:=fun q h1=>by simp [St.set,aj,h1]
 have hhp:(s.set p (some (.boxT ty cs'))).hp p=some (.boxT ty cs'):=by simp [St.set,aj]
 have hnn:∀ q,(s.set p (some (.boxT ty cs'))).hp q≠none↔s.hp q≠none:=fun q=>by
  by_cases e:q=p
  ·subst e;rw [hhp,hp];simp
  ·rw [hhq q e]
 have hown:(s.set p (some (.boxT ty cs'))).own B.A β=s.own B.A β:=by
  funext b
  refine propext (or_congr_right ⟨?_,?_⟩)
  ·rintro ⟨q,l,hq,hl,rfl⟩;exact ⟨q,l,(hnn q).1 hq,hl,rfl⟩
  ·rintro ⟨q,l,hq,hl,rfl⟩;exact ⟨q,l,(hnn q).2 hq,hl,rfl⟩
 have hst:∀ q,nm s.used q→Stays s.hp (s.set p (some (.boxT ty cs'))).hp β β q:=by
  intro q _ o ho
  by_cases e:q=p
  ·subst e
   rw [hhp] at ho
   cases ho
   exact ⟨_,hp,by simp [Ob.like],rfl⟩
  ·exact ⟨o,by rwa [hhq q e] at ho,Ob.aQ _,rfl⟩
 refine { tms:=h.tms,io:=h.io,size:=h.size,frame:=h.frame,slots:=fun i=>?_,objs:=?_,blocks:=fun q l hq hl=>h.blocks q l ((hnn q).1 hq) hl,inj:=fun q q' l l' hq hq'=>h.inj q q' l l' ((hnn q).1 hq) ((hnn q').1 hq'),us:=h.us,stay:=h.stay }
 ·rw [hown];exact (h.slots i).mono (fun _ _ h=>h) (fun _ h=>h) hst
 ·intro q o ho
  rw [hown]
  by_cases e:q=p
  ·subst e
   rw [hhp] at ho
   cases ho
   obtain ⟨h1,k,c,e,g1,g2,g3,g4,g5,g6,g7⟩:=h.objs q _ hp
   refine ⟨h1,k,c,e,g1,g2,g3,g4,by rw [g5,hl],g6,fun j x' hx'=>?_⟩
   have hlt:j<cs.length:=by rw [← hl];exact (List.getElem?_eq_some_iff.1 hx').1
   exact (hv k c _ g1 g3 j _ x' (List.getElem?_eq_getElem hlt) hx' (g7 j _ (List.getElem?_eq_getElem hlt))).mono (fun _ _ h=>h) (fun _ h=>h) hst
  ·rw [hhq q e] at ho
   obtain ⟨h1,h2⟩:=h.objs q o ho
   exact ⟨h1,h2.mono (fun _ _ h=>h) (fun _ h=>h) hst rfl fun _ _=>rfl⟩
theorem Sim.FN (h:Sim B β s tm w) {t:Nat} (ht:t ∉ s.used) {q p:Name} {ty:Option Nat} {cs:List AV} {j n:Nat} {ds:List D} (hq:s.hp q=some (.boxT ty cs)) (hj:cs[j]?=some (.va p 0 n)) (hp:s.hp p=some (.arrA (ds.map .d)))
  (hn:n=ds.length) (h0:0<n) (hsc:∀ x∈ds,x.scal=true):∃ β',Sim B β' (((s.set p none).add t (.arr none ds)).set q (some (.boxT ty (cs.set j (.vw [t] 0 n))))) tm w:=by
 obtain ⟨hqn,kq,cq,eq,hkq,hkq0,hcq,hzq,hlq,h1q,hvq⟩:=h.objs q _ hq
 have hvj:=hvq j _ hj
 obtain ⟨vj,hvj0⟩:∃ vj,cq.getD j undef=vj:=⟨_,rfl⟩
 rw [hvj0] at hvj
 obtain ⟨k,cap,hk,hval,hcap,hz⟩:∃ k cap,β p=some k∧vj=.slice (some ⟨k.b,k.o,none⟩) n cap∧n≤cap∧k.o+cap≤k.z:=by
  cases hvj with
  | va _ _ _ _ _ _ hx =>
    obtain ⟨hle,a,cap,rfl,hcase⟩:=hx _ hp
    rcases hcase with ⟨h1,_⟩ | ⟨k,hk,rfl,hcap,hz⟩
    ·omega
    ·exact ⟨k,cap,hk,rfl,hcap,by omega⟩
 have hpq:q≠p:=by
  rintro rfl
  rw [hq] at hp
  cases hp
 have htq:q≠[t]:=cK hqn ht
 have h1:=h.tR ht hp hk (.arr none ds) k.o (w':=w) rfl rfl (fun _ _=>rfl) (fun β' hβ hv=>by
  rcases (h.objs p _ hp).2 with ⟨a1,_⟩ | ⟨k',c,e,a1,a2,a3,a4,a5,a6⟩
  ·rw [hk] at a1;cases a1
  ·rw [hk] at a1
   cases a1
   refine .inr ⟨_,c,e,hβ,a2,a3,by simpa [wd] using a4,fun x hx=>hsc x hx,fun i x m y hi hm=>?_⟩
   have hx:=hsc x (List.mem_of_getElem? hi)
   have hxy:m=0∧y=x:=by
    cases x<;>simp [D.scal] at hx<;>(cases m<;>simp [D.cells] at hm<;>simp [hm])
   obtain ⟨rfl,rfl⟩:=hxy
   have:=(hv _ _ (a6 i (.d y) (by rw [List.getElem?_map,hi];rfl))).toD
   simpa [wd] using this)
 refine ⟨_,h1.yg (p:=q) (cs:=cs) (by simpa [St.add,St.set,aj,htq,hpq] using hq) (by simp) fun k2 c2 e2 hk2 hc2 i x x' hx hx' hv=>?_⟩
 have hb2:β q=some k2:=by simpa [aj,htq] using hk2
 rw [hkq] at hb2
 cases hb2
 rw [hcq] at hc2
 cases hc2
 by_cases e:j=i
 ·subst e
  rw [List.getElem?_set_self (List.getElem?_eq_some_iff.1 hj).1] at hx'
  cases hx'
  rw [hvj0,hval]
  refine .vw _ _ _ _ ⟨t,[],rfl,List.mem_cons_self⟩ rfl fun ty' wf xs hxs=>?_
  have e3:(some (Ob.arr none ds))=some (.arrT ty' wf xs):=by rw [← hxs];simp [St.add,St.set,aj]
  cases e3
  refine ⟨by omega,_,cap,rfl,.inr ⟨_,by simp [aj];rfl,by simp [wd],hcap,by simpa [wd] using hz⟩⟩
 ·rw [List.getElem?_set_ne e,hx] at hx'
  cases hx'
  exact hv
theorem Sim.FL (h:Sim B β s tm w) {t:Nat} (ht:t ∉ s.used) {q p:Name} {ty:Option Nat} {cs:List AV} {j clk:Nat} {bs:List Nat} {es:List (D × D)} (hq:s.hp q=some (.boxT ty cs)) (hj:cs[j]?=some (.ma p)) (hp:s.hp p=some (.mapA clk bs (es.map fun x=>(x.1,.d x.2)))) :
  ∃ β',Sim B β' (((s.set p none).add t (.map es)).set q (some (.boxT ty (cs.set j (.mp [t]))))) tm w:=by
 obtain ⟨hqn,kq,cq,eq,hkq,hkq0,hcq,hzq,hlq,h1q,hvq⟩:=h.objs q _ hq
 have hvj:=hvq j _ hj
 obtain ⟨vj,hvj0⟩:∃ vj,cq.getD j undef=vj:=⟨_,rfl⟩
 rw [hvj0] at hvj
 obtain ⟨k,hk,hval⟩:∃ k,β p=some k∧vj=.map (some k.b):=by
  cases hvj with
  | ma _ _ _ _ hx=>exact hx _ _ _ hp
 have hpq:q≠p:=by
  rintro rfl
  rw [hq] at hp
  cases hp
 have htq:q≠[t]:=cK hqn ht
 have h1:=h.tR ht hp hk (.map es) k.o (w':=w) rfl rfl (fun _ _=>rfl) (fun β' hβ hv=>by
  obtain ⟨k',ents,a1,a2,⟨a3,a4,a5⟩,a6⟩:=(h.objs p _ hp).2
  rw [hk] at a1
  cases a1
  refine ⟨_,ents,clk,hβ,a2,⟨by simpa using a3,a4⟩,fun i x hi=>?_⟩
  obtain ⟨en,b1,b2,b3⟩:=a6 i (x.1,.d x.2) (by rw [List.getElem?_map,hi];rfl)
  exact ⟨en,b1,(hv _ _ (.d _ _ b2)).toD,(hv _ _ b3).toD⟩)
 refine ⟨_,h1.yg (p:=q) (cs:=cs) (by simpa [St.add,St.set,aj,htq,hpq] using hq) (by simp) fun k2 c2 e2 hk2 hc2 i x x' hx hx' hv=>?_⟩
 have hb2:β q=some k2:=by simpa [aj,htq] using hk2
 rw [hkq] at hb2
 cases hb2
 rw [hcq] at hc2
 cases hc2
 by_cases e:j=i
 ·subst e
  rw [List.getElem?_set_self (List.getElem?_eq_some_iff.1 hj).1] at hx'
  cases hx'
  rw [hvj0,hval]
  refine .mp _ _ ⟨t,[],rfl,List.mem_cons_self⟩ rfl fun es' hxs=>?_
  exact ⟨_,by simp [aj],rfl⟩
 ·rw [List.getElem?_set_ne e,hx] at hx'
  cases hx'
  exact hv
end
section
variable {P:Program} {cf:Cf} {s:St}
theorem wU {t0 d:Nat} {ty:TypeId} {ps:String} {af:Array Edge} (hd:d<cf.n∧d ∉ s.used) :
  QE P cf { dst:=some d,op:=.makeMap t0 none,type:=ty,pos:=ps,after:=af,guard:=none } s (.mp [d]) ([],⟨[([d],some (.map []))],[d]⟩):=by
 intro s' hu _ _ B hB ds β a w hds hs Q'
 have hrun:(execOp a.eval { dst:=some d,op:=.makeMap t0 none,type:=ty,pos:=ps,after:=af,guard:=none }).run P w=.ok (.value (.map (some w.heap.size))) (w.alloc (.map #[] 0)):=by
  simp only [execOp,Instr.makeMap]
  rfl
 have hsim:=(hs.alloc (t:=d) (hu d (by simp)) (.map #[] 0) (.map []) 0 (fun β' hβ _=>⟨_,#[],0,hβ,by show (w.heap.push _)[w.heap.size]?=_;rw [Array.getElem?_push_size],⟨rfl,by simp [Borns]⟩,fun i x hi=>by simp at hi⟩)).1
 refine ao (by simp) hrun (.inl rfl) ⟨hds,aj β [d] (some ⟨w.heap.size,0,0⟩),?_⟩
 have e:s'.go (some d) (.mp [d]) ⟨[([d],some (.map []))],[d]⟩=(s'.add d (.map [])).put d (.mp [d]):=by unfold St.go;rw [gD];rfl
 rw [e]
 exact hsim.put (by rw [hB.1];exact hd.1) (.mp _ _ ⟨d,[],rfl,List.mem_cons_self⟩ rfl fun _ _=>⟨_,by simp [aj];rfl,rfl⟩)
end
theorem HCall.FI {P:Program} {G:List (Nat × Obj)} {f:FuncId} {args:List AV} {hp:List (Name × Ob)} {u:List Nat} {Q Q':AV→List (Name × Ob)→Prop} (h:HCall P G f args hp u Q)
  (hQ:∀ r hp',Q r hp'→∀ (B:Base) β u' tm w,B.U0=u→Sim B β (mk [(0,r)] hp' u') tm w→∃ r2 hp2 u2 β2,Q' r2 hp2∧Sim B β2 (mk [(0,r2)] hp2 u2) tm w):HCall P G f args hp u Q':=by
 refine ⟨h.1,fun B β vs W h1 h2 h3 h4 h5=>?_⟩
 refine (h.2 B β vs W h1 h2 h3 h4 h5).mono ?_
 rintro e w' ⟨v,r,hp',u',β',he,hq,hs⟩
 obtain ⟨r2,hp2,u2,β2,q2,s2⟩:=hQ r hp' hq { B with n:=1 } β' u' _ _ h3 hs
 exact ⟨v,r2,hp2,u2,β2,he,q2,s2⟩
end Go.Ab

namespace Go.Proofs.YthfodompfpdmgaaGreatDoor
open Go.Ab
theorem xZ {α β:Type} [DecidableEq α] {z z':β} {i:α}:∀ {l:List (α × β)},i∈l.map (·.1)→lkA z l i=lkA z' l i
 | [],h=>by simp at h
 | q::r,h=>by
   rw [bd,bd]
   by_cases e:i=q.1
   ·rw [if_pos e,if_pos e]
   ·rw [if_neg e,if_neg e]
    refine xZ ?_
    rw [List.map_cons] at h
    exact (List.mem_cons.1 h).resolve_left e
theorem eD {α β:Type} [DecidableEq α] {z:β} {i:α}:∀ {l:List (α × β)},i ∉ l.map (·.1)→lkA z l i=z
 | [],_=>rfl
 | q::r,h=>by
   rw [bd,if_neg (fun e=>h (by simp [e])),eD (fun g=>h (by simp only [List.map_cons,List.mem_cons];exact .inr g))]
theorem oA {i:Name} {z:Option Ob}:∀ {l:List (Name × Ob)},i∈l.map (·.1)→lkA z (l.map fun x=>(x.1,(none:Option Ob))) i=none
 | [],h=>by simp at h
 | q::r,h=>by
   rw [List.map_cons,bd]
   by_cases e:i=q.1
   ·rw [if_pos e]
   ·rw [if_neg e]
    refine oA ?_
    rw [List.map_cons] at h
    exact (List.mem_cons.1 h).resolve_left e
theorem dO (l:List (Name × Ob)):(l.map fun x=>(x.1,some x.2)).map (·.1)=l.map (·.1):=by simp [Function.comp_def]
theorem po (l:List (Name × Ob)):(l.map fun x=>(x.1,(none:Option Ob))).map (·.1)=l.map (·.1):=by simp [Function.comp_def]
theorem BZ {fr:List (Nat × AV)} {C1 R F C2 C3:List (Name × Ob)} {u:List Nat} {d:Nat} {r:AV} (hR:∀ x∈R,x.1 ∉ (C1++F).map (·.1)) (hF:∀ x∈F,cj id d (C1++F) x.1=x.1∧x.2.ren (cj id d (C1++F))=x.2)
  (hC:C2.map (fun x=>(cj id d (C1++F) x.1,x.2.ren (cj id d (C1++F))))=C3) :
  aft (mk fr (C1++(R++F)) u) id d (C1++F) (C2++F) r=mk (eX fr d (r.ren (cj id d (C1++F)))) (C3++(R++F)) (d::u):=by
 have hFm:(F.map fun x=>(cj id d (C1++F) x.1,some (x.2.ren (cj id d (C1++F)))))=F.map fun x=>(x.1,some x.2):=List.map_congr_left fun x hx=>by rw [(hF x hx).1,(hF x hx).2]
 have hCm:(C2.map fun x=>(cj id d (C1++F) x.1,some (x.2.ren (cj id d (C1++F)))))=C3.map fun x=>(x.1,some x.2):=by
  rw [← hC,List.map_map]
  rfl
 unfold aft
 rw [show (mk fr (C1++(R++F)) u).used=u from rfl]
 unfold mk
 congr 1
 ·funext j
  rw [gj];rfl
 ·funext q
  simp only [List.map_append,id_eq]
  rw [hFm,hCm]
  simp only [p5]
  congr 1
  by_cases hq:q∈F.map (·.1)
  ·have hqR:q ∉ R.map (·.1):=fun h=>by
    obtain ⟨x,hx,rfl⟩:=List.mem_map.1 h
    exact hR x hx (by rw [List.map_append];exact List.mem_append_right _ hq)
   rw [eD (l:=R.map _) (by rw [dO];exact hqR)]
   exact xZ (by rw [dO];exact hq)
  ·rw [eD (l:=F.map fun x=>(x.1,some x.2)) (z:=lkA _ _ _) (by rw [dO];exact hq),eD (l:=F.map fun x=>(x.1,(none:Option Ob))) (by rw [po];exact hq)]
   by_cases hc:q∈C1.map (·.1)
   ·have hqR:q ∉ R.map (·.1):=fun h=>by
     obtain ⟨x,hx,rfl⟩:=List.mem_map.1 h
     exact hR x hx (by rw [List.map_append];exact List.mem_append_left _ hc)
    rw [oA hc,eD (l:=R.map _) (by rw [dO];exact hqR),eD (l:=F.map _) (by rw [dO];exact hq)]
   ·rw [eD (l:=C1.map fun x=>(x.1,(none:Option Ob))) (by rw [po];exact hc),eD (l:=C1.map fun x=>(x.1,some x.2)) (by rw [dO];exact hc)]
theorem r9 {σ:Name→Name} {u:List Nat} {s:St}:∀ {l:List (Name × Ob)},hpL σ u s l→gP σ u s l
 | [],_=>trivial
 | _::_,h=>⟨h.1,r9 h.2⟩
theorem ny {chp:List (Name × Ob)}:∀ {l:List (Name × Ob)},(∀ q∈l,∀ o,lkA none (chp.map fun x=>(x.1,some x.2)) q.1=some o→o.like q.2)→eQ chp l
 | [],_=>trivial
 | q::r,h=>by
   refine ⟨?_,ny fun x hx=>h x (List.mem_cons_of_mem _ hx)⟩
   have:=h q List.mem_cons_self
   split
   ·rename_i o ho;exact this o ho
   ·trivial
theorem xh {chp a b:List (Name × Ob)} (h1:eQ chp a) (h2:eQ chp b):eQ chp (a++b):=by
 refine ny fun q hq o ho=>?_
 rcases List.mem_append.1 hq with hq | hq
 ·exact iJ h1 q hq o ho
 ·exact iJ h2 q hq o ho
section
variable {h:Nat} {τ:Name→Name}
theorem bg:∀ (xs:List (Option (List D))) (i:Nat),(∀ j ys,xs[j]?=some (some ys)→τ [h,i+j]=[h,i+j])→bA τ (vwL h i xs)=vwL h i xs
 | [],_,_=>rfl
 | none::r,i,hτ=>by
   rw [vwL,bA,bg r (i+1) fun j ys hj=>by rw [show i+1+j=i+(j+1) by omega];exact hτ (j+1) ys (by simpa using hj)]
   rfl
 | some zs::r,i,hτ=>by
   rw [vwL,bA,bg r (i+1) fun j ys hj=>by rw [show i+1+j=i+(j+1) by omega];exact hτ (j+1) ys (by simpa using hj)]
   have:=hτ 0 zs rfl
   rw [Nat.add_zero] at this
   simp only [AV.ren,this]
theorem aC {u:List Nat} (hu:u.contains h=true):∀ (xs:List (Option (List D))) (i:Nat),bI u (vwL h i xs)=true
 | [],_=>rfl
 | none::r,i=>by rw [vwL,bI,aC hu r];rfl
 | some _::r,i=>by
   rw [vwL,bI,aC hu r]
   simp [AV.inU,nmb,-List.contains_eq_mem,hu]
theorem nG {u:List Nat} {l:List AV} {m:Nat} {x:AV} (hl:bI u l=true) (hx:x.inU u=true):bI u (l.set m x)=true:=by
 induction l generalizing m with
 | nil=>rfl
 | cons y r ih =>
   simp only [bI,Bool.and_eq_true] at hl
   cases m with
   | zero=>simp [bI,hx,hl.2]
   | succ m=>simp [bI,hl.1,ih hl.2]
theorem zm (l:List AV) (m:Nat) (x:AV):bA τ (l.set m x)=(bA τ l).set m (x.ren τ):=by
 induction l generalizing m with
 | nil=>rfl
 | cons y r ih =>
   cases m with
   | zero=>rfl
   | succ m=>simp only [List.set_cons_succ,bA,ih]
theorem jG {u:List Nat} {a b:List AV} (ha:bI u a=true) (hb:bI u b=true):bI u (a++b)=true:=by
 induction a with
 | nil=>exact hb
 | cons x r ih =>
   simp only [bI,Bool.and_eq_true] at ha
   simp [bI,ha.1,ih ha.2]
theorem gZ (a b:List AV):bA τ (a++b)=bA τ a++bA τ b:=by
 induction a with
 | nil=>rfl
 | cons x r ih=>simp [bA,ih]
theorem ml (xs:List (Option (List D))) (i:Nat) (o:Option (List D)):vwL h i (xs++[o])=vwL h i xs++(match o with | some ys=>[.vw [h,i+xs.length] 0 ys.length] | none=>[.un]):=by
 induction xs generalizing i with
 | nil=>cases o<;>simp [vwL]
 | cons x r ih =>
   cases x<;>(simp only [List.cons_append,vwL,ih,List.length_cons];rw [show i+1+r.length=i+(r.length+1) by omega])
theorem gY {α:Type} (a:List α) (x y:α):(a++[x]).set a.length y=a++[y]:=by
 rw [List.set_append_right _ _ (Nat.le_refl _)]
 simp
theorem tN (xs:List (Option (List D))) (i:Nat):cR h i (xs++[none])=cR h i xs:=by
 induction xs generalizing i with
 | nil=>rfl
 | cons x r ih=>cases x<;>simp [cR,ih]
theorem uJ (xs:List (Option (List D))) (r:List (Name × Ob)):aS h (xs++[none]) r=aS h xs r:=by
 unfold aS
 rw [tN]
theorem lO {xs:List (Option (List D))} {m:Nat} {ys:List D} {p:Name} (hm:xs[m]?=some (some ys)) (h1:τ [h,m]=p) (h2:∀ j,j≠m→τ [h,j]=[h,j]) :
  bA τ (vwL h 0 xs)=(vwL h 0 (xs.set m none)).set m (.vw p 0 ys.length):=by
 apply List.ext_getElem?
 intro i
 rw [bR,eB,Nat.zero_add]
 have hlt:m<xs.length:=(List.getElem?_eq_some_iff.1 hm).1
 by_cases e:i=m
 ·subst e
  rw [List.getElem?_set_self (by rw [aT,List.length_set];exact hlt),hm]
  simp [AV.ren,h1]
 ·rw [List.getElem?_set_ne (fun g=>e g.symm),eB,List.getElem?_set_ne (fun g=>e g.symm),Nat.zero_add]
  cases xs[i]? with
  | none=>rfl
  | some o=>cases o<;>simp [AV.ren,h2 i e]
theorem qz {xs:List (Option (List D))} {m:Nat} {ys:List D} {p:Name} (hm:xs[m]?=some (some ys)) (h1:τ p=[h,m]) (h2:∀ j,τ [h,j]=[h,j]) :
  bA τ ((vwL h 0 (xs.set m none)).set m (.vw p 0 ys.length))=vwL h 0 xs:=by
 rw [zm,bg _ _ fun j _ _=>by rw [Nat.zero_add];exact h2 j]
 apply List.ext_getElem?
 intro i
 have hlt:m<xs.length:=(List.getElem?_eq_some_iff.1 hm).1
 by_cases e:i=m
 ·subst e
  rw [List.getElem?_set_self (by rw [aT,List.length_set];exact hlt),eB,hm,Nat.zero_add]
  simp [AV.ren,h1]
 ·rw [List.getElem?_set_ne (fun g=>e g.symm),eB,eB,List.getElem?_set_ne (fun g=>e g.symm)]
theorem gk {xs:List (Option (List D))} {m i:Nat} {ys:List D} (h:(xs.set m none)[i]?=some (some ys)):i≠m∧xs[i]?=some (some ys):=by
 by_cases e:m=i
 ·subst e
  by_cases hl:m<xs.length
  ·rw [List.getElem?_set_self hl] at h;cases h
  ·rw [List.getElem?_eq_none (by simpa using Nat.le_of_not_lt hl)] at h;cases h
 ·rw [List.getElem?_set_ne e] at h
  exact ⟨fun g=>e g.symm,h⟩
end
theorem ia {τ ρ:Name→Name}:∀ {l:List (Name × Ob)},(l.map (·.1)).Nodup→(∀ q∈l,ρ (τ q.1)=q.1)→gJ τ l
 | [],_,_=>trivial
 | q::r,hn,hr=>by
   rw [List.map_cons,List.nodup_cons] at hn
   refine ⟨fun x hx e=>hn.1 ?_,ia hn.2 fun x hx=>hr x (List.mem_cons_of_mem _ hx)⟩
   have h1:=hr q List.mem_cons_self
   have h2:=hr x (List.mem_cons_of_mem _ hx)
   rw [e,h2] at h1
   exact List.mem_map.2 ⟨x,hx,h1⟩
theorem pE (h:Nat) (xs:List (Option (List D))):∀ i,((cR h i xs).map (·.1)).Nodup∧∀ p∈(cR h i xs).map (·.1),∃ j,i≤j∧p=[h,j]:=by
 induction xs with
 | nil=>intro i;exact ⟨by simp [cR],by simp [cR]⟩
 | cons x r ih =>
   intro i
   obtain ⟨h1,h2⟩:=ih (i+1)
   cases x with
   | none=>exact ⟨h1,fun p hp=>by obtain ⟨j,hj,e⟩:=h2 p hp;exact ⟨j,by omega,e⟩⟩
   | some ys =>
     refine ⟨?_,fun p hp=>?_⟩
     ·rw [cR,List.map_cons,List.nodup_cons]
      refine ⟨fun hm=>?_,h1⟩
      obtain ⟨j,hj,e⟩:=h2 _ hm
      simp at e;omega
     ·rw [cR,List.map_cons] at hp
      rcases List.mem_cons.1 hp with rfl | hp
      ·exact ⟨i,Nat.le_refl _,rfl⟩
      ·obtain ⟨j,hj,e⟩:=h2 p hp;exact ⟨j,by omega,e⟩
def nohd (p:Name):Bool:=match p with
 | a::_=>a != 202 && a != 203
 | []=>true
theorem sA {hp:List (Name × Ob)} {xs ys:List (Option (List D))} (hn:(hp.map (·.1)).Nodup) (hh:(hp.all fun q=>nohd q.1)=true):((hp++aS 202 xs (aS 203 ys [])).map (·.1)).Nodup:=by
 have hh':∀ q∈hp,nohd q.1=true:=List.all_eq_true.1 hh
 obtain ⟨a1,a2⟩:=pE 202 xs 0
 obtain ⟨b1,b2⟩:=pE 203 ys 0
 unfold aS
 rw [List.append_nil,List.map_append,List.map_append,List.nodup_append,List.nodup_append]
 refine ⟨hn,⟨a1,b1,fun p hp q hq e=>?_⟩,fun p hpm q hq e=>?_⟩
 ·obtain ⟨j,_,rfl⟩:=a2 p hp
  obtain ⟨k,_,rfl⟩:=b2 q hq
  simp at e
 ·subst e
  obtain ⟨x,hx,rfl⟩:=List.mem_map.1 hpm
  have:=hh' x hx
  rcases List.mem_append.1 hq with hq | hq
  ·obtain ⟨j,_,e⟩:=a2 _ hq
   rw [e] at this
   revert this;simp [nohd]
  ·obtain ⟨j,_,e⟩:=b2 _ hq
   rw [e] at this
   revert this;simp [nohd]
theorem cp {τ:Name→Name} (ρ:Name→Name) {s:St} {fr:List (Nat × AV)} {hp:List (Name × Ob)} {xs ys:List (Option (List D))} {u:List Nat} (h1:frL τ u s fr∧hpL τ u s hp)
  (h2:∀ i zs,xs[i]?=some (some zs)→s.hp (τ [202,i])=some (.arr none zs)∧ρ (τ [202,i])=[202,i]) (h3:∀ i zs,ys[i]?=some (some zs)→s.hp (τ [203,i])=some (.arr none zs)∧ρ (τ [203,i])=[203,i])
  (hu:(u.contains 202 && u.contains 203)=true) (hn:(hp.map (·.1)).Nodup) (hh:(hp.all fun q=>nohd q.1)=true) (hρ:hp.map (fun q=>ρ (τ q.1))=hp.map (·.1)):LeL [] τ s fr (hp++aS 202 xs (aS 203 ys [])) u:=by
 rw [Bool.and_eq_true] at hu
 refine ⟨h1.1,lE h1.2 (lB hu.1 (fun i zs h=>(h2 i zs h).1) (lB hu.2 (fun i zs h=>(h3 i zs h).1) trivial)),ia (ρ:=ρ) (sA hn hh) fun q hq=>?_,rfl,iv fun q _ hq=>?_⟩
 ·rcases List.mem_append.1 hq with hq | hq
  ·obtain ⟨n,hn',e⟩:=List.getElem_of_mem hq
   have:=congrArg (fun l:List Name=>l[n]?) hρ
   simp only [List.getElem?_map,List.getElem?_eq_getElem hn',e,Option.map_some,Option.some.injEq] at this
   exact this
  ·rcases List.mem_append.1 hq with hq | hq
   ·obtain ⟨j,zs,hj,rfl⟩:=(bD 202 xs 0 q).1 hq
    rw [Nat.zero_add]
    exact (h2 j zs hj).2
   ·rcases List.mem_append.1 hq with hq | hq
    ·obtain ⟨j,zs,hj,rfl⟩:=(bD 203 ys 0 q).1 hq
     rw [Nat.zero_add]
     exact (h3 j zs hj).2
    ·cases hq
 ·cases q with
  | mk p o=>cases p<;>simp [nmb] at hq
section
variable {d:Nat} {C1 F:List (Name × Ob)} {p:Name}
theorem qj (h:p∈(C1++F).map (·.1)):cj id d (C1++F) p=p:=by
 unfold cj
 rw [if_pos]
 ·rfl
 ·obtain ⟨x,hx,rfl⟩:=List.mem_map.1 h
  exact List.any_eq_true.2 ⟨x,hx,by simp⟩
theorem x7 (h:p ∉ (C1++F).map (·.1)):cj id d (C1++F) p=d::p:=by
 unfold cj
 rw [if_neg]
 intro g
 obtain ⟨x,hx,e⟩:=List.any_eq_true.1 g
 exact h (List.mem_map.2 ⟨x,hx,by simpa using e⟩)
end
def dh (xs ys:List (Option (List D))):List (Name × Ob):=aS 202 xs (aS 203 ys [])
section
variable {xs ys:List (Option (List D))}
theorem fN {q:Name × Ob} (h:q∈dh xs ys):(∃ j zs,xs[j]?=some (some zs)∧q=([202,j],.arr none zs))∨∃ j zs,ys[j]?=some (some zs)∧q=([203,j],.arr none zs):=by
 rcases List.mem_append.1 h with h | h
 ·obtain ⟨j,zs,h1,h2⟩:=(bD 202 xs 0 q).1 h
  exact .inl ⟨j,zs,h1,by rw [h2,Nat.zero_add]⟩
 ·rcases List.mem_append.1 h with h | h
  ·obtain ⟨j,zs,h1,h2⟩:=(bD 203 ys 0 q).1 h
   exact .inr ⟨j,zs,h1,by rw [h2,Nat.zero_add]⟩
  ·cases h
theorem y2 {j:Nat} {zs:List D} (h:xs[j]?=some (some zs)):([202,j],Ob.arr none zs)∈dh xs ys:=List.mem_append_left _ ((bD 202 xs 0 _).2 ⟨j,zs,h,by rw [Nat.zero_add]⟩)
theorem zt {j:Nat} {zs:List D} (h:ys[j]?=some (some zs)):([203,j],Ob.arr none zs)∈dh xs ys:=List.mem_append_right _ (List.mem_append_left _ ((bD 203 ys 0 _).2 ⟨j,zs,h,by rw [Nat.zero_add]⟩))
theorem pX {q:Name × Ob} (h:q∈dh xs ys):nohd q.1=false:=by
 rcases fN h with ⟨j,zs,_,rfl⟩ | ⟨j,zs,_,rfl⟩<;>rfl
theorem Bz {q:Name × Ob} (h:q∈dh xs ys):lkA none ((dh xs ys).map fun x=>(x.1,some x.2)) q.1=some q.2:=by
 rcases fN h with ⟨j,zs,h1,rfl⟩ | ⟨j,zs,h1,rfl⟩
 ·exact aL (fr:=[]) (u:=[]) h1
 ·exact Ch (fr:=[]) (u:=[]) (by decide) h1
theorem x8 {C:List (Name × Ob)} (hh:(C.all fun q=>nohd q.1)=true) {q:Name × Ob} (h:q∈dh xs ys):q.1 ∉ C.map (·.1):=by
 intro g
 obtain ⟨x,hx,e⟩:=List.mem_map.1 g
 have:=List.all_eq_true.1 hh x hx
 rw [e,pX h] at this
 cases this
theorem pL {C:List (Name × Ob)} (hh:(C.all fun q=>nohd q.1)=true) {q:Name × Ob} (h:q∈dh xs ys):lkA none ((C++dh xs ys).map fun x=>(x.1,some x.2)) q.1=some q.2:=by
 rw [List.map_append,p5,eD (l:=C.map _) (by rw [dO];exact x8 hh h)]
 exact Bz h
theorem wK {C:List (Name × Ob)} (hh:(C.all fun q=>nohd q.1)=true):eQ (C++dh xs ys) (dh xs ys):=by
 refine ny fun q hq o ho=>?_
 rw [pL hh hq] at ho
 cases ho
 exact Ob.aQ _
theorem oI {p:Name} (hp:nohd p=true):p ∉ (dh xs ys).map (·.1):=by
 intro g
 obtain ⟨x,hx,e⟩:=List.mem_map.1 g
 rw [← e,pX hx] at hp
 cases hp
end
section
variable {P:Program} {cf:Cf} {Q:Exit→St→Prop} {s:St} {k:List It}
theorem ES (E:Eng P cf Q) {o:Oper} {τ:Name→Name} {s2:St} (hle:Le cf.U τ s s2) (h:E.stp o s2 k .no):E.stp o s k .no:=by
 rw [aM] at h ⊢
 exact h.le hle
theorem xQ (E:Eng P cf Q) {d:Nat} {fv:Operand} {args:Array Operand} {at':Array TypeId} {ty:TypeId} {pos:String} {af:Array Edge}
  {f:FuncId} {caps:List AV} (cargs:List AV) (C1 R:List (Name × Ob)) (xs ys:List (Option (List D))) (cu:List Nat) {Q0:AV→List (Name × Ob)→Prop} (hc:HCall P cf.G f cargs (C1++dh xs ys) cu Q0) (fr:List (Nat × AV)) (u:List Nat)
  (hs:s=mk fr (C1++(R++dh xs ys)) u) (hev:ev s fv=.clo f caps) (hargs:args.toList.map (ev s)++caps=cargs) (hd:d<cf.n∧d ∉ s.used) (hcu:bI cu cargs=true) (h1:hpL id cu s C1) (hu:(cu.contains 202 && cu.contains 203)=true)
  (hn:(C1.map (·.1)).Nodup) (hh:(C1.all fun q=>nohd q.1)=true) (hR:(R.all fun q=>nohd q.1 && !(C1.map (·.1)).contains q.1)=true)
  (hk:∀ r hp',Q0 r hp'→∃ C2 C3,hp'=C2++dh xs ys∧eQ (C1++dh xs ys) C2∧C2.map (fun x=>(cj id d (C1++dh xs ys) x.1,x.2.ren (cj id d (C1++dh xs ys))))=C3∧E.run k (mk (eX fr d (r.ren (cj id d (C1++dh xs ys)))) (C3++(R++dh xs ys)) (d::u))) :
  E.stp { dst:=some d,op:=.call { callee:=.value fv,args:=args,argTypes:=at' },type:=ty,pos:=pos,after:=af,guard:=none } s k .no:=by
 have hR':∀ x∈R,nohd x.1=true∧x.1 ∉ C1.map (·.1):=fun x hx=>by
  have:=List.all_eq_true.1 hR x hx
  simpa using this
 have hRh:(R.all fun q=>nohd q.1)=true:=List.all_eq_true.2 fun x hx=>(hR' x hx).1
 rw [Bool.and_eq_true] at hu
 have hhp:∀ q∈dh xs ys,s.hp q.1=some q.2:=fun q hq=>by
  rw [hs]
  have:=pL (C:=C1++R) (by rw [List.all_append,hh,hRh];rfl) hq
  rw [List.append_assoc] at this
  exact this
 refine bn E cargs (C1++dh xs ys) cu hc hev hargs hd hcu (r9 (lE h1 (ug fun q hq=>⟨?_,?_,?_⟩))) (ia (ρ:=id) (sA hn hh) fun _ _=>rfl) fun r hp' hr=>?_
 ·have:=hhp q hq
  rcases fN hq with ⟨j,zs,h1,rfl⟩ | ⟨j,zs,h1,rfl⟩<;>exact this
 ·rcases fN hq with ⟨j,zs,h1,rfl⟩ | ⟨j,zs,h1,rfl⟩<;>rfl
 ·rcases fN hq with ⟨j,zs,h1,rfl⟩ | ⟨j,zs,h1,rfl⟩
  ·exact hu.1
  ·exact hu.2
 ·obtain ⟨C2,C3,rfl,h2,h3,h4⟩:=hk r hp' hr
  refine ⟨xh h2 (wK hh),?_⟩
  rw [hs,BZ (fun x hx=>?_) (fun x hx=>⟨qj ?_,?_⟩) h3]
  ·exact h4
  ·rw [List.map_append,List.mem_append,not_or]
   exact ⟨(hR' x hx).2,oI (hR' x hx).1⟩
  ·rw [List.map_append]
   exact List.mem_append_right _ (List.mem_map.2 ⟨x,hx,rfl⟩)
  ·rcases fN hx with ⟨j,zs,h1,rfl⟩ | ⟨j,zs,h1,rfl⟩<;>rfl
end
def mz (F:List (KISI × List Nat)) (vs:List AV):List (D × AV):=(F.map fun q=>aE q.1).zip vs
theorem lK {F:List (KISI × List Nat)} {vs:List AV} (h:vs.length=F.length):(mz F vs).map (·.1)=(F.map (·.1)).map aE:=by
 unfold mz
 rw [List.map_fst_zip (by simp [h]),List.map_map]
 rfl
theorem z6 (τ:Name→Name) (l:List AV):bA τ l=l.map (AV.ren τ):=by
 induction l with
 | nil=>rfl
 | cons x r ih=>simp [bA,ih]
theorem cJ (F:List (KISI × List Nat)) (vs:List AV) (τ:Name→Name):(mz F vs).map (fun q=>(q.1,q.2.ren τ))=mz F (bA τ vs):=by
 unfold mz
 rw [z6,List.zip_map_right]
 rfl
theorem mJ {F:List (KISI × List Nat)} {vs:List AV} {m:Nat} {key:KISI} {L:List Nat} {v:AV} (h1:F[m]?=some (key,L)) (h2:vs[m]?=some v):(mz F vs)[m]?=some (aE key,v):=by
 unfold mz
 rw [List.getElem?_zip_eq_some]
 exact ⟨by rw [List.getElem?_map,h1];rfl,h2⟩
theorem AH {F:List (KISI × List Nat)} {vs:List AV} {m:Nat} {key:KISI} {L:List Nat} {v:AV} (h1:F[m]?=some (key,L)):(mz F vs).set m (aE key,v)=mz F (vs.set m v):=by
 unfold mz
 apply List.ext_getElem?
 intro i
 by_cases e:m=i
 ·subst e
  by_cases hl:m<((F.map fun q=>aE q.1).zip vs).length
  ·rw [List.getElem?_set_self hl]
   symm
   rw [List.getElem?_zip_eq_some]
   have:m<vs.length:=by simp at hl;omega
   exact ⟨by rw [List.getElem?_map,h1];rfl,List.getElem?_set_self this⟩
  ·rw [List.getElem?_eq_none (by simpa using Nat.le_of_not_lt hl),List.getElem?_eq_none (by simpa using Nat.le_of_not_lt hl)]
 ·rw [List.getElem?_set_ne e]
  have:((F.map fun q=>aE q.1).zip vs)[i]?=((F.map fun q=>aE q.1).zip (vs.set m v))[i]?:=by
   cases h3:((F.map fun q=>aE q.1).zip vs)[i]? with
   | none =>
     symm
     rw [List.getElem?_eq_none_iff] at h3 ⊢
     simpa using h3
   | some z =>
     rw [List.getElem?_zip_eq_some] at h3
     symm
     rw [List.getElem?_zip_eq_some]
     exact ⟨h3.1,by rw [List.getElem?_set_ne e];exact h3.2⟩
  exact this
theorem u6 {F:List (KISI × List Nat)} {vs:List AV} {m:Nat} {key:KISI} {L M:List Nat} (h1:F[m]?=some (key,L)):mz (F.set m (key,M)) vs=mz F vs:=by
 unfold mz
 congr 1
 apply List.ext_getElem?
 intro i
 rw [List.getElem?_map,List.getElem?_map]
 by_cases e:m=i
 ·subst e
  rw [List.getElem?_set_self (List.getElem?_eq_some_iff.1 h1).1,h1]
  rfl
 ·rw [List.getElem?_set_ne e]
theorem uQ {F:List (KISI × List Nat)} {vs:List AV} {key:KISI} {M:List Nat} {v:AV} (h:vs.length=F.length):mz F vs++[(aE key,v)]=mz (F++[(key,M)]) (vs++[v]):=by
 unfold mz
 rw [List.map_append,List.zip_append (by simp [h])]
 rfl
theorem cP {F:List (KISI × List Nat)} {vs:List AV} {u:List Nat} (h:bI u vs=true):(mz F vs).all (fun q=>q.2.inU u)=true:=by
 rw [List.all_eq_true]
 intro q hq
 have:=(List.of_mem_zip (a:=q.1) (b:=q.2) hq).2
 have key:∀ (l:List AV),bI u l=true→∀ x∈l,x.inU u=true:=by
  intro l
  induction l with
  | nil=>intro _ x hx;simp at hx
  | cons y r ih =>
    intro hl x hx
    simp only [bI,Bool.and_eq_true] at hl
    rcases List.mem_cons.1 hx with rfl | hx
    ·exact hl.1
    ·exact ih hl.2 x hx
 exact key vs h _ this
def sfm (S:List (List Nat)):List (Option (List D)):=S.map fun T=>some (T.map nD)
def ffm (F:List (KISI × List Nat)):List (Option (List D)):=F.map fun q=>some (q.2.map nD)
theorem qi {S:List (List Nat)} {m:Nat} (h:m<S.length):(sfm S)[m]?=some (some ((S.getD m []).map nD)):=by simp [sfm,h]
theorem u9 {F:List (KISI × List Nat)} {m:Nat} {key:KISI} {L:List Nat} (h:F[m]?=some (key,L)):(ffm F)[m]?=some (some (L.map nD)):=by simp [ffm,h]
theorem vg {S:List (List Nat)} {k:Nat} {T:List Nat}:sfm (S.set k T)=(sfm S).set k (some (T.map nD)):=by simp [sfm,List.map_set]
theorem jA {F:List (KISI × List Nat)} {m:Nat} {key:KISI} {L:List Nat}:ffm (F.set m (key,L))=(ffm F).set m (some (L.map nD)):=by simp [ffm,List.map_set]
theorem sV {F:List (KISI × List Nat)} {m:Nat} {key:KISI} {L:List Nat}:(ffm (F.set m (key,L))).set m none=(ffm F).set m none:=by rw [jA,List.set_set]
end Go.Proofs.YthfodompfpdmgaaGreatDoor

namespace Go.Proofs.YthfodompfpdmgaaGreatDoor
open Go.Ab
theorem f161:∃ f0 f1:Field,Tryz.prog.underlying 161=some (.struct #[f0,f1])∧f0.offset=0∧f1.offset=1∧f0.type=3∧f1.type=9:=by
 have h:(match Tryz.prog.underlying 161 with
  | some (.struct ⟨[f0,f1]⟩)=>f0.offset == 0 && f1.offset == 1 && f0.type == 3 && f1.type == 9
  | _=>false)=true:=by kernel_rfl
 split at h
 ·rename_i f0 f1 hu
  simp only [Bool.and_eq_true,beq_iff_eq] at h
  exact ⟨f0,f1,hu,h.1.1.1,h.1.1.2,h.1.2,h.2⟩
 ·cases h
theorem f164:∃ f0 f1:Field,Tryz.prog.underlying 164=some (.struct #[f0,f1])∧f0.offset=0∧f1.offset=2∧f0.type=161∧f1.type=3:=by
 have h:(match Tryz.prog.underlying 164 with
  | some (.struct ⟨[f0,f1]⟩)=>f0.offset == 0 && f1.offset == 2 && f0.type == 161 && f1.type == 3
  | _=>false)=true:=by kernel_rfl
 split at h
 ·rename_i f0 f1 hu
  simp only [Bool.and_eq_true,beq_iff_eq] at h
  exact ⟨f0,f1,hu,h.1.1.1,h.1.1.2,h.1.2,h.2⟩
 ·cases h
theorem E6:fo Tryz.prog 161 wZ iu:=by
 obtain ⟨f0,f1,h,h0,h1,h2,h3⟩:=f161
 exact EH h h0 h1 (by rw [h2,ti3]) (by rw [h3,ti9]) (by kernel_rfl) (by rw [uR,h2,h3])
theorem Ag:fo Tryz.prog 164 aE ej:=by
 obtain ⟨f0,f1,h,h0,h1,h2,h3⟩:=f164
 obtain ⟨g0,g1,g,b0,b1,b2,b3⟩:=f161
 exact Dn h h0 h1 h2 (by kernel_rfl) g b0 b1 (by kernel_rfl) (by rw [uR,b2,b3]) (by rw [uR]) (by rw [b2,ti3]) (by rw [b3,ti9]) (by rw [h3,ti3])
theorem mV {κ:Type} {ke:κ→D} {M:List (κ × D)} {l1:List (D × D)} {y:D × D} {l2:List (D × D)} (h:menc ke M=l1++y::l2):∃ a q b,M=a++q::b∧l1=menc ke a∧y=(ke q.1,q.2)∧l2=menc ke b:=by
 unfold menc at h
 rw [List.map_eq_append_iff] at h
 obtain ⟨a,r,rfl,rfl,h2⟩:=h
 rw [List.map_eq_cons_iff] at h2
 obtain ⟨q,b,rfl,rfl,rfl⟩:=h2
 exact ⟨a,q,b,rfl,rfl,rfl,rfl⟩
theorem Bl {CL:List Nat} {n:Nat} (h:∀ c∈CL,c<n):(cO CL).length≤n:=by
 obtain ⟨h1,h2⟩:=o6 CL
 have hn:((cO CL).map fun q=>q.1.toNat).Nodup:=by
  rw [List.Nodup,List.pairwise_map]
  rw [List.Nodup,List.pairwise_map] at h2
  refine h2.imp_of_mem fun {x y} hx hy hne e=>hne ?_
  obtain ⟨c,_,e1⟩:=(h1 x.1).1 (List.mem_map_of_mem hx)
  obtain ⟨d,_,e2⟩:=(h1 y.1).1 (List.mem_map_of_mem hy)
  omega
 have:=aH (n:=n) hn fun x hx=>by
  obtain ⟨q,hq,rfl⟩:=List.mem_map.1 hx
  obtain ⟨c,hc,e⟩:=(h1 q.1).1 (List.mem_map_of_mem hq)
  have:=h c hc
  omega
 simpa using this
theorem DD {L:List Int} (h:∀ z∈L,0≤z):L.map i64=(L.map Int.toNat).map nD:=by
 rw [List.map_map]
 refine List.map_congr_left fun z hz=>?_
 have:=h z hz
 show i64 z=i64 ((z.toNat:Nat):Int)
 rw [show ((z.toNat:Nat):Int)=z by omega]
set_option maxHeartbeats 4000000 in
theorem BD {G} (l:List EA) (st:Int) (FM:List (KISI × D)) (clk:Nat) (bs:List Nat) (s:PS) (o:Nat) (c:List D) (es:List (Int × D)) (a:Ltr) (T:List Nat) (Ls:List Ltr) (hN:l.length≤4000) (hF:kl l FM) (h:Hop l s T (a::Ls)) (hT:Clo l T) (hin:InA l) (hdet:yO l)
  (hTl:∀ k∈T,k<l.length) (hTn:T.length≤l.length) (hq:Queue c o 0 s.wait) (hio:gz es s.wait) :
  HCall Tryz.prog G 108 [.bx [0] 0,.d (jm a),.d (.sl none (T.map nD))] (bp l st (mpD clk bs (menc aE FM)) s 2 3 o c es) [0,1,2,3,100] (fun r hp'=>r=.tup []∧∃ s' o' c' es',hp'=bp l st (mpD clk bs (menc aE FM)) s' 6 7 o' c' es'∧Hop l s' T Ls∧Queue c' o' 0 s'.wait∧gz es' s'.wait ∧
   2*(l.length-s'.sets.length)+s'.wait.length≤2*(l.length-s.sets.length)+s.wait.length):=by
 unfold bp dK jm
 obtain ⟨FD,hFD⟩:∃ FD,mpD clk bs (menc aE FM)=FD:=⟨_,rfl⟩
 rw [hFD]
 refine bQ Tryz.func108 rfl (by decide +kernel) (by simp [Tryz.ntmps108]) (veil fun E=>?_)
 simp only [go_sem]
 refine iR E (by simp only [go_sem]) (by rw [ag];decide) ?_
 simp only [go_sem]
 refine iR E (by simp only [go_sem]) (by rw [ag];decide) ?_
 simp only [go_sem]
 have w:=h.wf
 refine an E (X:={ x:Nat × List Nat // x.1≤T.length∧∀ y,y∈x.2↔y<l.length∧∃ k∈T.take x.1,(a,k)∈dA l y }) (fun x=>[(0,.bx [0] 0),(4,.bx [4] 0),(6,.mp [16]),(7,.mp [17]),(18,.d (.sl none (T.map nD))),(19,.d (i64 T.length)),(20,.d (i64 x.1.1))])
  (fun x=>[([0],.box [.d (.sl (some 13) (l.map stD)),.d (i64 st),.d FD,.vw [1] 0 s.cls.length,.vw [2] 0 s.sets.length,.vw [3] o s.wait.length,.mp [100]]),([1],.arr none (s.cls.map nD)),([2],.arr none (s.sets.map bZ)),([3],.arr none c),([100],.map (menc (fun n:Int=>i64 n) es)),([4],.box [.d (i64 a.1),.d (.str a.2)]),
   ([16],.map (menc (fun n:Int=>i64 n) (cO x.1.2))),([17],.map (menc (fun n:Int=>i64 n) (cO (x.1.2.map fun y=>s.cls.getD y 0))))])
  [0,1,2,3,100,4,16,17] (fun x=>T.length-x.1.1) ⟨(0,[]),Nat.zero_le _,by simp⟩ id ?_ ?_
 ·simp only [go_sem]
  all_goals first | rfl | ((repeat' apply And.intro)<;>first | rfl | trivial)
 rintro ⟨⟨j,HL⟩,hj,hHL⟩ E0
 refine aK E0 fun Q' hQ E'=>?_
 simp only at hj hHL ⊢
 simp only [go_sem]
 refine ak E' (fun h1=>?_) (fun h1=>?_)<;>simp only [go_sem]
 ·have hj':j<T.length:=by omega
  have hgx:(T.map nD).getD j .nilp=i64 (T[j]:Nat):=by simp [hj',nD]
  have hkl:=hTl _ (List.getElem_mem hj')
  refine ⟨by omega,?_⟩
  rw [hgx]
  simp only [go_sem]
  refine ai mixed E' fun X=>?_
  simp only [go_sem]
  refine dm X (d:=25) [0] 0 none [.d (.sl (some 13) (l.map stD)),.d (i64 st),.d FD,.vw [1] 0 s.cls.length,.vw [2] 0 s.sets.length,.vw [3] o s.wait.length,.mp [100]] (by simp only [go_sem]) rfl rfl ?_
  simp only [go_sem]
  refine gC X _ _ (wo clk bs FM (a,(T[j]:Int)) .nils (by rw [lY]) Ag tO (by rw [hFD];rfl) rfl (by simp)) (by simp [ef0]) ?_
  simp only [go_sem]
  rcases wL hF a T[j] hkl with ⟨e,hno⟩ | ⟨M,e,hMl,hM⟩
  ·rw [e,Option.getD_none]
   simp only [go_sem]
   refine ⟨by decide +kernel,?_⟩
   obtain ⟨M,hMe⟩:∃ M:List Nat,M=[]:=⟨_,rfl⟩
   refine EY E' 31 .nils (.sl none (M.map nD)) rfl (by rw [hMe];exact .nils _) ?_
   have hM:∀ x,x∈M↔x<l.length∧(a,T[j])∈dA l x:=fun x=>by rw [hMe];exact ⟨fun g=>by simp at g,fun g=>absurd g.2 (hno x g.1)⟩
   have hMl:M.length≤l.length:=by rw [hMe];exact Nat.zero_le _
   have hM0:(0:Int)=(M.length:Int):=by rw [hMe];rfl
   simp only [go_sem]
   refine an E' (X:={ i:Nat // i≤(M).length }) (fun x=>[(0,.bx [0] 0),(4,.bx [4] 0),(6,.mp [16]),(7,.mp [17]),(18,.d (.sl none (T.map nD))),(19,.d (i64 T.length)),(20,.d (i64 j)),(31,.d (.sl none ((M).map nD))),(32,.d (i64 (M).length)),(33,.d (i64 x.1))])
    (fun x=>[([0],.box [.d (.sl (some 13) (l.map stD)),.d (i64 st),.d FD,.vw [1] 0 s.cls.length,.vw [2] 0 s.sets.length,.vw [3] o s.wait.length,.mp [100]]),([1],.arr none (s.cls.map nD)),([2],.arr none (s.sets.map bZ)),([3],.arr none c),([100],.map (menc (fun n:Int=>i64 n) es)),([4],.box [.d (i64 a.1),.d (.str a.2)]),
     ([16],.map (menc (fun n:Int=>i64 n) (cO (HL++(M).take x.1)))),([17],.map (menc (fun n:Int=>i64 n) (cO ((HL++(M).take x.1).map fun y=>s.cls.getD y 0))))])
    [0,1,2,3,100,4,16,17] (fun x=>(M).length-x.1) ⟨0,Nat.zero_le _⟩ id ?_ ?_
   ·rw [List.take_zero,List.append_nil]
    (rw [← hM0])
    simp only [go_sem]
    all_goals first | rfl | ((repeat' apply And.intro)<;>first | rfl | trivial)
   rintro ⟨i,hi⟩ E3
   refine aK E3 fun Q2 hQ2 E2=>?_
   simp only at hi ⊢
   simp only [go_sem]
   refine ak E2 (fun h3=>?_) (fun h3=>?_)<;>simp only [go_sem]
   ·have hi':i<(M).length:=by omega
    have hgy:((M).map nD).getD i .nilp=i64 ((M)[i]:Nat):=by simp [hi',nD]
    obtain ⟨hxl,hxs⟩:=(hM _).1 (List.getElem_mem hi')
    have hxc:(M)[i]<s.cls.length:=by rw [w.len];exact hxl
    have hgc:(s.cls.map nD).getD (M)[i] .nilp=i64 (s.cls.getD (M)[i] 0:Nat):=by simp [hxc,nD]
    refine ⟨by omega,?_⟩
    rw [hgy]
    simp only [go_sem]
    refine b9 E2 [16] (cO (HL++(M).take i)) ((M)[i]:Int) (.bool true) (by rw [gE]) n4 rfl rfl rfl rfl rfl ?_
    rw [← iM]
    simp only [go_sem]
    refine ⟨by omega,?_⟩
    rw [hgc]
    simp only [go_sem]
    refine b9 E2 [17] (cO ((HL++(M).take i).map fun y=>s.cls.getD y 0)) (s.cls.getD (M)[i] 0:Int) (.bool true) (by rw [gE]) n4 rfl rfl rfl rfl rfl ?_
    rw [← iM]
    simp only [go_sem]
    rw [hQ2]
    simp only [go_sem]
    refine ⟨⟨i+1,hi'⟩,by show (M).length-(i+1)<(M).length-i;omega,id,?_⟩
    have htk:HL++(M).take (i+1)=HL++(M).take i++[(M)[i]]:=by rw [List.take_succ_eq_append_getElem hi',List.append_assoc]
    rw [show (⟨i+1,hi'⟩:{ i:Nat // i≤(M).length }).1=i+1 from rfl,htk,List.map_append (l₂:=[_])]
    simp only [go_sem]
    rw [aa ⟨by omega,by omega⟩]
    (repeat' apply And.intro)<;>first | rfl | trivial
   ·have hie:i=(M).length:=by omega
    subst hie
    rw [List.take_length,hQ2]
    simp only [go_sem]
    rw [hQ]
    simp only [go_sem]
    refine ⟨⟨(j+1,HL++M),by show j+1≤_;omega,fun y=>?_⟩,by show T.length-(j+1)<T.length-j;omega,id,?_⟩
    ·show y∈HL++M↔_
     rw [List.mem_append,hHL,hM,List.take_succ_eq_append_getElem hj']
     constructor
     ·rintro (⟨g1,k,g2,g3⟩ | ⟨g1,g2⟩)
      ·exact ⟨g1,k,List.mem_append_left _ g2,g3⟩
      ·exact ⟨g1,T[j],List.mem_append_right _ (List.mem_singleton.2 rfl),g2⟩
     ·rintro ⟨g1,k,g2,g3⟩
      rcases List.mem_append.1 g2 with g2 | g2
      ·exact .inl ⟨g1,k,g2,g3⟩
      ·rw [List.mem_singleton.1 g2] at g3
       exact .inr ⟨g1,g3⟩
    ·simp only [go_sem]
     rw [aa ⟨by omega,by omega⟩]
     (repeat' apply And.intro)<;>first | rfl | trivial
  ·rw [e,Option.getD_some,bZ]
   simp only [go_sem]
   refine ⟨by decide +kernel,?_⟩
   refine an E' (X:={ i:Nat // i≤(M).length }) (fun x=>[(0,.bx [0] 0),(4,.bx [4] 0),(6,.mp [16]),(7,.mp [17]),(18,.d (.sl none (T.map nD))),(19,.d (i64 T.length)),(20,.d (i64 j)),(31,.d (.sl none ((M).map nD))),(32,.d (i64 (M).length)),(33,.d (i64 x.1))])
    (fun x=>[([0],.box [.d (.sl (some 13) (l.map stD)),.d (i64 st),.d FD,.vw [1] 0 s.cls.length,.vw [2] 0 s.sets.length,.vw [3] o s.wait.length,.mp [100]]),([1],.arr none (s.cls.map nD)),([2],.arr none (s.sets.map bZ)),([3],.arr none c),([100],.map (menc (fun n:Int=>i64 n) es)),([4],.box [.d (i64 a.1),.d (.str a.2)]),
     ([16],.map (menc (fun n:Int=>i64 n) (cO (HL++(M).take x.1)))),([17],.map (menc (fun n:Int=>i64 n) (cO ((HL++(M).take x.1).map fun y=>s.cls.getD y 0))))])
    [0,1,2,3,100,4,16,17] (fun x=>(M).length-x.1) ⟨0,Nat.zero_le _⟩ id ?_ ?_
   ·rw [List.take_zero,List.append_nil]
    skip
    simp only [go_sem]
    all_goals first | rfl | ((repeat' apply And.intro)<;>first | rfl | trivial)
   rintro ⟨i,hi⟩ E3
   refine aK E3 fun Q2 hQ2 E2=>?_
   simp only at hi ⊢
   simp only [go_sem]
   refine ak E2 (fun h3=>?_) (fun h3=>?_)<;>simp only [go_sem]
   ·have hi':i<(M).length:=by omega
    have hgy:((M).map nD).getD i .nilp=i64 ((M)[i]:Nat):=by simp [hi',nD]
    obtain ⟨hxl,hxs⟩:=(hM _).1 (List.getElem_mem hi')
    have hxc:(M)[i]<s.cls.length:=by rw [w.len];exact hxl
    have hgc:(s.cls.map nD).getD (M)[i] .nilp=i64 (s.cls.getD (M)[i] 0:Nat):=by simp [hxc,nD]
    refine ⟨by omega,?_⟩
    rw [hgy]
    simp only [go_sem]
    refine b9 E2 [16] (cO (HL++(M).take i)) ((M)[i]:Int) (.bool true) (by rw [gE]) n4 rfl rfl rfl rfl rfl ?_
    rw [← iM]
    simp only [go_sem]
    refine ⟨by omega,?_⟩
    rw [hgc]
    simp only [go_sem]
    refine b9 E2 [17] (cO ((HL++(M).take i).map fun y=>s.cls.getD y 0)) (s.cls.getD (M)[i] 0:Int) (.bool true) (by rw [gE]) n4 rfl rfl rfl rfl rfl ?_
    rw [← iM]
    simp only [go_sem]
    rw [hQ2]
    simp only [go_sem]
    refine ⟨⟨i+1,hi'⟩,by show (M).length-(i+1)<(M).length-i;omega,id,?_⟩
    have htk:HL++(M).take (i+1)=HL++(M).take i++[(M)[i]]:=by rw [List.take_succ_eq_append_getElem hi',List.append_assoc]
    rw [show (⟨i+1,hi'⟩:{ i:Nat // i≤(M).length }).1=i+1 from rfl,htk,List.map_append (l₂:=[_])]
    simp only [go_sem]
    rw [aa ⟨by omega,by omega⟩]
    (repeat' apply And.intro)<;>first | rfl | trivial
   ·have hie:i=(M).length:=by omega
    subst hie
    rw [List.take_length,hQ2]
    simp only [go_sem]
    rw [hQ]
    simp only [go_sem]
    refine ⟨⟨(j+1,HL++M),by show j+1≤_;omega,fun y=>?_⟩,by show T.length-(j+1)<T.length-j;omega,id,?_⟩
    ·show y∈HL++M↔_
     rw [List.mem_append,hHL,hM,List.take_succ_eq_append_getElem hj']
     constructor
     ·rintro (⟨g1,k,g2,g3⟩ | ⟨g1,g2⟩)
      ·exact ⟨g1,k,List.mem_append_left _ g2,g3⟩
      ·exact ⟨g1,T[j],List.mem_append_right _ (List.mem_singleton.2 rfl),g2⟩
     ·rintro ⟨g1,k,g2,g3⟩
      rcases List.mem_append.1 g2 with g2 | g2
      ·exact .inl ⟨g1,k,g2,g3⟩
      ·rw [List.mem_singleton.1 g2] at g3
       exact .inr ⟨g1,g3⟩
    ·simp only [go_sem]
     rw [aa ⟨by omega,by omega⟩]
     (repeat' apply And.intro)<;>first | rfl | trivial
 ·have hje:j=T.length:=by omega
  subst hje
  rw [List.take_length] at hHL
  rw [hQ]
  simp only [go_sem]
  clear hQ E' E0 Q'
  obtain ⟨CL,hCL⟩:∃ CL,HL.map (fun y=>s.cls.getD y 0)=CL:=⟨_,rfl⟩
  rw [hCL]
  refine Fu E [17] (menc (fun n:Int=>i64 n) (cO CL)) rfl fun clk2 bs2 hst=>⟨_,by simp only [go_sem];rfl,?_⟩
  simp only [go_sem]
  refine ss E hst (by rw [gE]) rfl (by simp only [go_sem]) (by rw [ag];decide) ?_
  simp only [go_sem]
  refine jh E 12 98 none rfl (by rw [ag];decide) ?_
  simp only [go_sem]
  have hCLm:∀ x∈CL,x<s.sets.length:=by
   intro x hx
   rw [← hCL] at hx
   obtain ⟨y,hy,rfl⟩:=List.mem_map.1 hx
   exact (w.at' y ((hHL y).1 hy).1).1
  have hil:=Bl hCLm
  have hsl:=w.le
  obtain ⟨hk1,hk2⟩:=o6 CL
  refine an E (X:={ x:List (Int × D) × List (Int × D) × Option (D × D) // (x.1++x.2.1).Perm (cO CL) }) (fun x=>[(0,.bx [0] 0),(6,.mp [16]),(12,.vw [98] 0 x.1.1.length),(50,.it [50])])
   (fun x=>[([0],.box [.d (.sl (some 13) (l.map stD)),.d (i64 st),.d FD,.vw [1] 0 s.cls.length,.vw [2] 0 s.sets.length,.vw [3] o s.wait.length,.mp [100]]),([1],.arr none (s.cls.map nD)),([2],.arr none (s.sets.map bZ)),([3],.arr none c),([100],.map (menc (fun n:Int=>i64 n) es)),([16],.map (menc (fun n:Int=>i64 n) (cO HL))),
    ([50],.miter (mpD clk2 bs2 (menc (fun n:Int=>i64 n) (cO CL))) x.1.2.2 (menc (fun n:Int=>i64 n) x.1.2.1)),([98],.arr none (x.1.1.map fun q=>i64 q.1))])
   [0,1,2,3,100,16,50,98] (fun x=>x.1.2.1.length) ⟨([],cO CL,none),.refl _⟩ id ?_ ?_
  ·simp only [go_sem]
   all_goals first | rfl | ((repeat' apply And.intro)<;>first | rfl | trivial)
  rintro ⟨⟨acc,rem,cur⟩,hperm⟩ E0
  refine aK E0 fun Q' hQ E'=>?_
  simp only at hperm ⊢
  simp only [go_sem]
  have hal:acc.length+rem.length=(cO CL).length:=by rw [← List.length_append];exact hperm.length_eq
  refine vH E' [50] (mpD clk2 bs2 (menc (fun n:Int=>i64 n) (cO CL))) cur (menc (fun n:Int=>i64 n) rem) rfl rfl (by simp only [go_sem]) ?_ ?_
  ·intro l1 y l2 hsp
   obtain ⟨a1,q,b1,rfl,rfl,rfl,rfl⟩:=mV hsp
   simp only [go_sem]
   refine sv E' [50] (mpD clk2 bs2 (menc (fun n:Int=>i64 n) (cO CL))) (i64 q.1,q.2) (menc (fun n:Int=>i64 n) a1++menc (fun n:Int=>i64 n) b1) rfl rfl (by simp only [go_sem]) ?_
   simp only [go_sem]
   simp only [List.length_append,List.length_cons] at hal
   refine ⟨by omega,?_⟩
   have hme:menc (fun n:Int=>i64 n) a1++menc (fun n:Int=>i64 n) b1=menc (fun n:Int=>i64 n) (a1++b1):=by simp [menc]
   rw [hme,hQ]
   simp only [go_sem]
   refine ⟨⟨(acc++[q],a1++b1,some (i64 q.1,q.2)),?_⟩,?_,tau [([98],[58])],?_⟩
   ·refine List.Perm.trans ?_ hperm
    rw [List.append_assoc]
    refine List.Perm.append_left acc ?_
    show (q::(a1++b1)).Perm (a1++q::b1)
    exact List.perm_middle.symm
   ·show (a1++b1).length<(a1++q::b1).length
    simp only [List.length_append,List.length_cons]
    omega
   ·simp only [go_sem]
    rw [List.length_append,List.map_append]
    exact ⟨rfl,rfl⟩
  ·intro hnil
   have hrem:rem=[]:=by
    cases rem with
    | nil=>rfl
    | cons q r=>simp [menc] at hnil
   subst hrem
   rw [List.append_nil] at hperm
   simp only [go_sem]
   rw [hQ]
   simp only [go_sem]
   clear hQ E' E0 Q'
   obtain ⟨AK,hAK⟩:∃ AK,acc.map (·.1)=AK:=⟨_,rfl⟩
   have hAl:acc.length=AK.length:=by rw [← hAK,List.length_map]
   have hAm:(acc.map fun q=>i64 q.1)=AK.map i64:=by rw [← hAK,List.map_map];rfl
   have hAp:AK.Perm ((cO CL).map (·.1)):=by rw [← hAK];exact hperm.map _
   simp only [List.length_nil,Nat.add_zero] at hal
   rw [hAm,hAl]
   refine bn E [.vw [98] 0 AK.length] [([98],.arr none (AK.map i64))] [98] (C5 98 AK (by omega)) rfl rfl ⟨by simp only [go_sem],by rw [ag];decide⟩ rfl (by simp only [go_sem]) (by simp only [go_sem]) ?_
   rintro _ _ ⟨rfl,rfl⟩
   obtain ⟨SL,hSL⟩:∃ SL,(AK.mergeSort fun x y=>decide (x≤y))=SL:=⟨_,rfl⟩
   have hSp:SL.Perm AK:=by rw [← hSL];exact List.mergeSort_perm _ _
   have hSl:SL.length=AK.length:=hSp.length_eq
   have hSm:∀ z,z∈SL↔∃ x∈CL,(x:Int)=z:=fun z=>by rw [hSp.mem_iff,hAp.mem_iff,hk1]
   have hS0:∀ z∈SL,0≤z:=fun z hz=>by
    obtain ⟨x,_,e⟩:=(hSm z).1 hz
    omega
   have hSN:=DD hS0
   obtain ⟨SN,hSNe⟩:∃ SN,SL.map Int.toNat=SN:=⟨_,rfl⟩
   have hSNm:∀ x,x∈SN↔x∈CL:=fun x=>by
    rw [← hSNe,List.mem_map]
    constructor
    ·rintro ⟨z,hz,rfl⟩
     obtain ⟨y,hy,e⟩:=(hSm z).1 hz
     rw [show z.toNat=y by omega];exact hy
    ·exact fun hx=>⟨(x:Int),(hSm _).2 ⟨x,hx,rfl⟩,by simp⟩
   have hSNl:SN.length=AK.length:=by rw [← hSNe,List.length_map,hSl]
   rw [hSL,hSN,hSNe,← hSNl]
   simp only [go_sem]
   refine ⟨by omega,?_⟩
   refine eR E [98] none (SN.map nD) rfl ?_
   simp only [go_sem]
   refine Fo E [16] (menc (fun n:Int=>i64 n) (cO HL)) rfl fun clk3 bs3 hst3=>?_
   simp only [go_sem]
   have hhit:∀ x,x<l.length→(dz l a T x=true↔x∈HL):=fun x hx=>by
    rw [jF,hHL]
    exact ⟨fun ⟨k,h1,h2⟩=>⟨hx,k,h2,h1⟩,fun ⟨_,k,h1,h2⟩=>⟨k,h2,h1⟩⟩
   have hHO:CU l.length (cO HL) (dz l a T):=fun x hx=>by
    rw [wy]
    by_cases g:x∈HL
    ·rw [if_pos g,(hhit x hx).2 g];rfl
    ·have:dz l a T x=false:=by
      cases e:dz l a T x with
      | false=>rfl
      | true=>exact absurd ((hhit x hx).1 e) g
     rw [if_neg g,this];rfl
   have hresp:∀ p q,p<l.length→q<l.length→alike l p q→dz l a T p=dz l a T q:=fun p q hp hq ha=>xr hin hT hp hq ha
   have hdone:∀ x,x<l.length→dz l a T x=true→s.cls.getD x 0∈SN:=fun x hx hh=>by
    rw [hSNm,← hCL]
    exact List.mem_map.2 ⟨x,(hhit x hx).1 hh,rfl⟩
   have hSNs:∀ x∈SN,x<s.sets.length:=fun x hx=>hCLm x ((hSNm x).1 hx)
   refine an E (X:={ x:(Nat × PS) × (Nat × List D × List (Int × D)) // x.1.1≤SN.length∧(Hop l x.1.2 T (a::Ls)∧ByI l s x.1.2 (dz l a T) (SN.take x.1.1))∧(Queue x.2.2.1 x.2.1 0 x.1.2.wait∧gz x.2.2.2 x.1.2.wait)∧2*(l.length-x.1.2.sets.length)+x.1.2.wait.length≤2*(l.length-s.sets.length)+s.wait.length })
    (fun x=>[(0,.bx [0] 0),(6,.d (mpD clk3 bs3 (menc (fun n:Int=>i64 n) (cO HL)))),(61,.d (.sl none (SN.map nD))),(62,.d (i64 SN.length)),(63,.d (i64 x.1.1.1))])
    (fun x=>[([0],.box [.d (.sl (some 13) (l.map stD)),.d (i64 st),.d FD,.vw [1] 0 x.1.1.2.cls.length,.vw [96] 0 x.1.1.2.sets.length,.vw [95] x.1.2.1 x.1.1.2.wait.length,.mp [100]]),([1],.arr none (x.1.1.2.cls.map nD)),([96],.arr none (x.1.1.2.sets.map bZ)),([95],.arr none x.1.2.2.1),([100],.map (menc (fun n:Int=>i64 n) x.1.2.2.2))])
    [0,1,2,3,100,96,95] (fun x=>SN.length-x.1.1.1) ⟨((0,s),(o,c,es)),Nat.zero_le _,⟨h,.init l s _⟩,⟨hq,hio⟩,Nat.le_refl _⟩ (tau [([96],[2]),([95],[3])]) ?_ ?_
   ·simp only [go_sem]
    all_goals first | rfl | ((repeat' apply And.intro)<;>first | rfl | trivial)
   rintro ⟨⟨⟨j,s1⟩,o1,c1,es1⟩,hj,⟨hop1,hby1⟩,⟨hq1,hio1⟩,hme1⟩ E0
   refine aK E0 fun Q' hQ E'=>?_
   simp only at hj hop1 hby1 hq1 hio1 hme1 ⊢
   simp only [go_sem]
   refine ak E' (fun h1=>?_) (fun h1=>?_)<;>simp only [go_sem]
   ·have hj':j<SN.length:=by omega
    have hgx:(SN.map nD).getD j .nilp=i64 (SN[j]:Nat):=by simp [hj',nD]
    have hcs:=hSNs _ (List.getElem_mem hj')
    have hcs1:SN[j]<s1.sets.length:=by have:=hby1.le;omega
    have w1:=hop1.wf
    have hop2:=hop1.split hin hresp hcs1
    have hby2:=hby1.step w1 hcs w
    have hme2:=uj (hit:=dz l a T) w1 hcs1
    rw [show SN.take j++[SN[j]]=SN.take (j+1) by rw [List.take_succ_eq_append_getElem hj']] at hby2
    have hcq:=AX (G:=G) l st FD s1 o1 c1 es1 SN[j] clk3 bs3 (cO HL) (dz l a T) hN w1 hcs1 hHO hq1 hio1
    refine ⟨by omega,?_⟩
    rw [hgx]
    simp only [go_sem]
    refine iU E' (tau [([2],[96]),([3],[95])]) [.bx [0] 0,.d (i64 SN[j]),.d (mpD clk3 bs3 (menc (fun n:Int=>i64 n) (cO HL)))] (bp l st FD s1 2 3 o1 c1 es1) [0,1,2,3,100] hcq rfl (by simp only [go_sem]) ⟨by simp only [go_sem],by rw [ag];decide⟩ rfl (by unfold bp dK;simp only [go_sem]) (by unfold bp dK;simp only [go_sem]) ?_
    rintro _ _ ⟨rfl,hres⟩
    rcases hres with ⟨hsame,rfl⟩ | ⟨c2,es2,rfl,hq2,hio2⟩
    ·rw [hsame] at hop2 hby2 hme2
     unfold bp dK
     simp only [go_sem]
     refine ⟨⟨Nat.le_refl _,Nat.le_refl _,Nat.le_refl _⟩,?_⟩
     rw [hQ]
     simp only [go_sem]
     refine ⟨⟨((j+1,s1),(o1,c1,es1)),hj',⟨hop2,hby2⟩,⟨hq1,hio1⟩,hme1⟩,by show SN.length-(j+1)<SN.length-j;omega,id,?_⟩
     simp only [go_sem]
     rw [aa ⟨by omega,by omega⟩]
     (repeat' apply And.intro)<;>first | rfl | trivial
    ·have hcl1:=w1.len
     have hcl2:=hop2.wf.len
     unfold bp dK
     simp only [go_sem]
     refine ⟨by omega,?_⟩
     rw [hQ]
     simp only [go_sem]
     refine ⟨⟨((j+1,aJ (dz l a T) s1 SN[j]),(0,c2,es2)),hj',⟨hop2,hby2⟩,⟨hq2,hio2⟩,Nat.le_trans hme2 hme1⟩,by show SN.length-(j+1)<SN.length-j;omega,tau [([96],[70,6]),([95],[70,7])],?_⟩
     simp only [go_sem]
     rw [aa ⟨by omega,by omega⟩]
     (repeat' apply And.intro)<;>first | rfl | trivial
   ·have hje:j=SN.length:=by omega
    subst hje
    rw [List.take_length] at hby1
    have hfin:=hop1.done hdet hby1 hdone
    rw [hQ]
    simp only [go_sem]
    refine ⟨.tup [],_,[0,1,2,3,100,6,7],tau [([6],[96]),([7],[95])],⟨rfl,s1,o1,c1,es1,rfl,hfin,hq1,hio1,hme1⟩,?_⟩
    simp only [go_sem]
end Go.Proofs.YthfodompfpdmgaaGreatDoor

namespace Go.Proofs.YthfodompfpdmgaaGreatDoor
open Go.Ab
variable {t:TypeId} {fz:Nat × Nat}
theorem EN:fo Tryz.prog 9 (fun l:List UInt8=>D.str l) (fun l=>.string ⟨l.toArray⟩):=Eo (by rw [ti9])
def fX (N:Nat) (cls:List Nat):List D:=(cls++List.replicate (N-cls.length) 0).map nD
theorem sJ (N:Nat):fX N []=List.replicate N (i64 0):=by
 simp [fX,nD]
theorem mh {key:KISI}:∀ {ks:List KISI} {m:Nat},midx ks key=some m→ks[m]?=some key
 | [],m,h=>by simp [midx] at h
 | x::r,m,h=>by
   simp only [midx] at h
   split at h
   ·rename_i e
    cases h
    rw [e];rfl
   ·cases hr:midx r key with
    | none=>rw [hr] at h;cases h
    | some n =>
      rw [hr] at h
      cases h
      have:=mh hr
      simpa using this
theorem p3 {key:KISI}:∀ {ks:List KISI},midx ks key=none→key ∉ ks
 | [],_=>by simp
 | x::r,h=>by
   simp only [midx] at h
   split at h
   ·cases h
   ·rename_i e
    cases hr:midx r key with
    | some n=>rw [hr] at h;cases h
    | none =>
      intro hm
      rcases List.mem_cons.1 hm with rfl | hm
      ·exact e rfl
      ·exact p3 hr hm
structure FH (l:List EA) where
 i:Nat
 b:BS
 F:List (KISI × List Nat)
 c:List D
 es:List (Int × D)
 clk:Nat
 bs:List Nat
 hi:i≤l.length
 hb:ot l i b
 hF:FrI (dnA l i) F
 hq:Queue c 0 0 (List.range b.sets.length)
 hio:gz es (List.range b.sets.length)
 hbs:bs.length=F.length
structure EU (l:List EA) (i:Nat) (L:List Stp') where
 j:Nat
 F:List (KISI × List Nat)
 clk:Nat
 bs:List Nat
 hj:j≤L.length
 hF:FrI (dnA l i++(L.take j).map fun q=>(i,q)) F
 hbs:bs.length=F.length
def cy (l:List EA) (st:Int) (b:BS) (F:List (KISI × List Nat)) (c:List D) (es:List (Int × D)) (clk:Nat) (bs:List Nat) (r:List (Name × Ob)):List (Name × Ob) :=
 ([0],.box [.d (.sl (some 13) (l.map stD)),.d (i64 st),.ma [201],.vw [1] 0 l.length,.va [2] 0 b.sets.length,.vw [3] 0 b.sets.length,.mp [200]])::([3],.arr none c)::([200],.map (menc (fun n:Int=>i64 n) es))::([1],.arr none (fX l.length b.cls))::([2],.arrA (vwL 202 0 (sfm b.sets)))::([201],.mapA clk bs (mz F (vwL 203 0 (ffm F))))::r
def dj (l:List EA) (st:Int) (b:BS) (F:List (KISI × List Nat)) (c:List D) (es:List (Int × D)) (clk:Nat) (bs:List Nat):List (Name × Ob):=cy l st b F c es clk bs [([204],.map (menc (fun n:List UInt8=>D.str n) b.atm))]
def wz (l:List EA) (i j:Nat) (L:List Stp'):List (Nat × AV):=[(3,.bx [0] 0),(4,.mp [204]),(24,.d (.sl (some 13) (l.map stD))),(25,.d (i64 l.length)),(26,.d (i64 i)),(5,.d (i64 i)),(85,.d (.sl (some 3) (L.map eY))),(86,.d (i64 L.length)),(87,.d (i64 j)),(12,.bx [12] 0)]
def nV (l:List EA) (st:Int) (b:BS) (F:List (KISI × List Nat)) (c:List D) (es:List (Int × D)) (clk:Nat) (bs:List Nat) (m:Nat) (q:Stp') (Lx:List Nat):List (Name × Ob) :=
 [([0],.box [.d (.sl (some 13) (l.map stD)),.d (i64 st),.ma [201],.vw [1] 0 l.length,.va [2] 0 b.sets.length,.vw [3] 0 b.sets.length,.mp [200]]),([3],.arr none c),([200],.map (menc (fun n:Int=>i64 n) es)),([1],.arr none (fX l.length b.cls)),([2],.arrA (vwL 202 0 (sfm b.sets))),
   ([201],.mapA clk bs (mz F ((vwL 203 0 ((ffm F).set m none)).set m (.vw [99] 0 Lx.length)))),([204],.map (menc (fun n:List UInt8=>D.str n) b.atm)),([12],.box [.d (i64 q.1.1),.d (.str q.1.2),.d (i64 q.2)]),([99],.arr none (Lx.map nD))]
def stC (s:EA):List AV:=[.d (.bool s.plus),.d (.bool s.al),.d (.bool s.int),.d (.bool s.bool),.d (.bool s.str),.d (.bool s.arr),.d (.bool s.rc),.d (.bool s.tg),.d (.sl none (s.vars.map i64)),.d (i64 s.dom),.d (i64 s.cod),.d (.sl (some 2) (s.fl.map au)),.d (.sl (some 2) (s.tl.map au))]
def xA (l:List EA) (i k:Nat):List (Nat × AV):=[(3,.bx [0] 0),(4,.mp [204]),(5,.d (i64 i)),(6,.bx [6] 0),(8,.d (i64 k)),(24,.d (.sl (some 13) (l.map stD))),(25,.d (i64 l.length)),(26,.d (i64 i))]
def nM (l:List EA) (st:Int) (s:EA) (k:Nat) (cls:List Nat) (S:List (List Nat)) (atm:List (List UInt8 × D)) (F:List (KISI × List Nat)) (c:List D) (es:List (Int × D)) (clk:Nat) (bs:List Nat):List (Name × Ob) :=
 [([0],.box [.d (.sl (some 13) (l.map stD)),.d (i64 st),.ma [201],.vw [1] 0 l.length,.va [2] 0 S.length,.vw [3] 0 S.length,.mp [200]]),([3],.arr none c),([200],.map (menc (fun n:Int=>i64 n) es)),([1],.arr none (fX l.length cls)),
   ([2],.arrA ((vwL 202 0 ((sfm S).set k none)).set k (.vw [99] 0 (S.getD k []).length))),([201],.mapA clk bs (mz F (vwL 203 0 (ffm F)))),([204],.map (menc (fun n:List UInt8=>D.str n) atm)),([6],.box (stC s)),([99],.arr none ((S.getD k []).map nD))]
def Ae (l:List EA) (i n:Nat):List (Nat × AV):=[(3,.bx [0] 0),(4,.mp [204]),(5,.d (i64 i)),(6,.bx [6] 0),(8,.d (i64 n)),(24,.d (.sl (some 13) (l.map stD))),(25,.d (i64 l.length)),(26,.d (i64 i)),(58,.bx [0] 0),(59,.d (i64 n))]
def kT (l:List EA) (st:Int) (w:Name) (n o:Nat) (cls:List Nat) (S:List (List Nat)) (F:List (KISI × List Nat)) (c:List D) (es:List (Int × D)) (clk:Nat) (bs:List Nat):List (Name × Ob) :=
 [([0],.box [.d (.sl (some 13) (l.map stD)),.d (i64 st),.ma [201],.vw [1] 0 l.length,.va [55] 0 (S.length+1),.vw w o n,.mp [200]]),(w,.arr none c),([200],.map (menc (fun n:Int=>i64 n) es)),([1],.arr none (fX l.length cls)),
   ([55],.arrA (vwL 202 0 (sfm S)++[.d .nils])),([201],.mapA clk bs (mz F (vwL 203 0 (ffm F))))]
def dH (s:EA) (atm:List (List UInt8 × D)):List (Name × Ob):=[([204],.map (menc (fun n:List UInt8=>D.str n) atm)),([6],.box (stC s))]
theorem l8 {N k:Nat} {cls:List Nat} (h:cls.length<N):(fX N cls).set cls.length (i64 (k:Int))=fX N (cls++[k]):=by
 unfold fX
 rw [show i64 (k:Int)=nD k from rfl,← List.map_set]
 congr 1
 obtain ⟨m,hm⟩:∃ m,N-cls.length=m+1:=⟨N-cls.length-1,by omega⟩
 rw [List.length_append,List.length_singleton,show N-(cls.length+1)=m by omega,hm,List.set_append_right _ _ (Nat.le_refl _),List.replicate_succ]
 simp
set_option maxHeartbeats 8000000 in
theorem El (l:List EA) (st:Int) (hN:l.length≤1000) (hi:∀ s∈l,InS s∧Fit s) (hd:∀ s∈l,((az s).map (·.1)).Nodup) :
  HCall Tryz.prog (GT t fz) 71 [.d (auD l st)] [] [] (fun r hp'=>r=.bx [0] 0∧∃ b F c es clk bs,ot l l.length b∧FrI (dnA l l.length) F∧Queue c 0 0 (List.range b.sets.length)∧gz es (List.range b.sets.length)∧hp'=cy l st b F c es clk bs (aS 202 (sfm b.sets) (aS 203 (ffm F) []))):=by
 unfold auD
 refine bQ Tryz.func71 rfl (by decide +kernel) (by simp [Tryz.ntmps71]) (veil fun E=>?_)
 simp only [go_sem]
 refine ai mixed E fun X=>?_
 simp only [go_sem]
 refine gC X _ _ (tL ⟨by simp only [go_sem],by rw [ag];decide⟩) (by rw [ag];simp) ?_
 simp only [go_sem]
 refine Ft X (e:=3) (n:=l.length) (z:=i64 0) (by rw [fm]) (by rw [ti3];rfl) (by rw [ti3];rfl) rfl rfl (by rw [ti3];simp;omega) ⟨by simp only [go_sem],by rw [ag];decide⟩ ?_
 simp only [go_sem]
 refine gC X _ _ (wU ⟨by simp only [go_sem],by rw [ag];decide⟩) (by rw [ag];simp) ?_
 simp only [go_sem]
 refine Fi X (d:=21) (cs:=[.d (.sl (some 13) (l.map stD)),.d (i64 st),.ma [14],.vw [18] 0 l.length,.d .nils,.d .nils,.mp [19]]) rfl ⟨by simp only [go_sem],by rw [ag];decide⟩ ?_
 simp only [go_sem]
 refine ⟨by decide +kernel,?_⟩
 refine iR E (by simp only [go_sem]) (by rw [ag];decide) ?_
 simp only [go_sem]
 refine bP E [21] 5 97 none _ rfl rfl (by rw [ag];decide) ?_
 simp only [go_sem]
 refine A5 E [21] 4 98 none _ rfl rfl (by rw [ag];decide) ?_
 simp only [go_sem]
 refine an E (X:=FH l) (fun x=>[(3,.bx [0] 0),(4,.mp [204]),(24,.d (.sl (some 13) (l.map stD))),(25,.d (i64 l.length)),(26,.d (i64 x.i))])
  (fun x=>cy l st x.b x.F x.c x.es x.clk x.bs (([204],.map (menc (fun n:List UInt8=>D.str n) x.b.atm))::aS 202 (sfm x.b.sets) (aS 203 (ffm x.F) []))) [0,1,2,3,200,201,202,203,204] (fun x=>l.length-x.i)
  ⟨0,⟨[],[],[]⟩,[],[],[],0,[],Nat.zero_le _,.init l,.init,⟨Nat.le_refl _,Nat.le_refl _,rfl⟩,⟨fun k=>by simp [mlook],by simp⟩,rfl⟩ (tau [([0],[21]),([1],[18]),([2],[98]),([3],[97]),([200],[19]),([201],[14]),([204],[22])]) ?_ ?_
 ·show LeL _ _ _ _ [([0],.box [.d (.sl (some 13) (l.map stD)),.d (i64 st),.ma [201],.vw [1] 0 l.length,.va [2] 0 0,.vw [3] 0 0,.mp [200]]),([3],.arr none []),([200],.map []),([1],.arr none (fX l.length [])),([2],.arrA []),([201],.mapA 0 [] []),([204],.map [])] _
  rw [sJ]
  simp only [go_sem]
  all_goals first | rfl | ((repeat' apply And.intro)<;>first | rfl | trivial)
 rintro ⟨i,b,F,c,es,clk,bs,hi',hb,hF,hq,hio,hbs⟩ E0
 refine aK E0 fun Q' hQ E'=>?_
 simp only
 unfold cy
 simp only [go_sem]
 refine ak E' (fun h1=>?_) (fun h1=>?_)<;>simp only [go_sem]
 ·have hil:i<l.length:=by omega
  refine ⟨by omega,?_⟩
  rw [bJ hil]
  simp only [ab]
  simp only [go_sem]
  obtain ⟨his,hif⟩:=hi _ (List.getElem_mem hil)
  have hgd:l.getD i default=l[i]:=by simp [hil]
  refine ae E' (Cy l[i] his hif) rfl rfl (by simp) ?_
  rintro _ rfl
  simp only [go_sem]
  refine mA E' [204] b.atm (cD l[i]) (i64 0) (by rw [DA]) EN Fg rfl rfl rfl (by simp) ?_
  cases hm:mlook b.atm (cD l[i]) with
  | some d =>
    simp only [go_sem]
    obtain ⟨k,rfl,hM⟩:=hb.old (by rw [hgd];exact hm)
    simp only [go_sem]
    refine ⟨by omega,?_⟩
    have hcl:=l8 (N:=l.length) (k:=k) (cls:=b.cls) (by rw [hb.len];exact hil)
    rw [hb.len] at hcl
    rw [hcl]
    have hkg:=qi hM.lt
    refine xJ E' (τ:=tau [([99],[202,k])]) (s2:=mk (xA l i k) (nM l st l[i] k (b.cls++[k]) b.sets b.atm F c es clk bs++aS 202 ((sfm b.sets).set k none) (aS 203 (ffm F) [])) [0,1,2,3,6,99,200,201,202,203,204]) (LeL.le (cp (tau [([202,k],[99])]) ⟨?_,?_⟩ (fun j zs h=>?_) (fun j zs h=>?_) rfl ?_ rfl ?_)) ?_
    ·unfold xA
     simp only [go_sem]
    ·unfold nM stC
     simp only [go_sem]
     have ho:=qz (h:=202) (p:=[99]) (τ:=tau [([99],[202,k])]) hkg (by simp [tau,lkA]) (fun j=>by simp [tau,lkA])
     rw [List.length_map] at ho
     rw [ho,cJ,bg _ _ fun j _ _=>by simp [tau,lkA]]
     exact ⟨⟨rfl,nG (aC rfl _ _) rfl⟩,⟨rfl,cP (aC rfl _ _)⟩,aL (fr:=[]) (u:=[]) hkg⟩
    ·obtain ⟨hne,h⟩:=gk h
     have e1:tau [([99],[202,k])] [202,j]=[202,j]:=by simp [tau,lkA]
     rw [e1]
     refine ⟨?_,by simp [tau,lkA,hne]⟩
     simp only [go_sem]
     exact aL (fr:=[]) (u:=[]) h
    ·have e1:tau [([99],[202,k])] [203,j]=[203,j]:=by simp [tau,lkA]
     rw [e1]
     refine ⟨?_,by simp [tau,lkA]⟩
     simp only [go_sem]
     exact aL (fr:=[]) (u:=[]) h
    ·unfold nM
     simp only [List.map_cons,List.map_nil]
     decide
    ·unfold nM
     simp [tau,lkA]
    obtain ⟨S,hS⟩:∃ S,S=b.sets:=⟨_,rfl⟩
    rw [← hS] at hM hq hio ⊢
    have hkg:=qi hM.lt
    have hSl:=hM.le
    have hTl:=hM.tl
    refine ai mixed E' fun X=>?_
    unfold xA nM stC
    simp only [go_sem]
    refine dm X (d:=69) [0] 0 none _ (by simp only [go_sem]) rfl rfl ?_
    simp only [go_sem]
    refine dm X (d:=74) [0] 0 none _ (by simp only [go_sem]) rfl rfl ?_
    simp only [go_sem]
    have hvs:((vwL 202 0 ((sfm S).set k none)).set k (.vw [99] 0 (S.getD k []).length))[k]?=some (.vw [99] 0 (S.getD k []).length):=List.getElem?_set_self (by rw [aT,List.length_set];have:=hM.lt;simpa [sfm] using this)
    refine gC X _ _ (qF [2] 0 S.length .i64 k _ (by rw [mS]) (by rw [fm]) (by simp only [go_sem]) rfl rfl rfl hM.lt) (by simp [ef0]) ?_
    simp only [go_sem]
    refine gC X _ _ (vc [2] k _ _ (by rw [fm];rfl) (by rw [fm];rfl) (by simp only [go_sem]) rfl rfl hvs) (by simp [ef0]) ?_
    simp only [go_sem]
    refine ⟨by omega,?_⟩
    refine gC X _ _ (qF [2] 0 S.length .i64 k _ (by rw [mS]) (by rw [fm]) (by simp only [go_sem]) rfl rfl rfl hM.lt) (by simp [ef0]) ?_
    simp only [go_sem]
    refine gC X _ _ (s9 [2] k _ (.vw [82] 0 ((S.getD k []).length+1)) (by rw [fm];rfl) (by rw [fm]) rfl rfl rfl rfl) (by simp) ?_
    simp only [go_sem]
    rw [List.set_set]
    refine ⟨by decide +kernel,?_⟩
    refine ae E' (qf l[i] his) rfl rfl (by simp) ?_
    rintro _ rfl
    simp only [go_sem]
    have hdi:=hd _ (List.getElem_mem hil)
    obtain ⟨L,hL⟩:∃ L,az l[i]=L:=⟨_,rfl⟩
    have hLl:L.length≤802:=by
     rw [← hL]
     have h1:=hif.f
     have h2:=hif.t
     simp only [az,List.length_append,cG]
     have:(bB l[i]).length≤2:=by unfold bB;split<;>simp
     omega
    rw [hL] at hdi ⊢
    obtain ⟨b2,hb2⟩:∃ b2:BS,b2=⟨b.cls++[k],S.set k (S.getD k []++[i]),b.atm⟩:=⟨_,rfl⟩
    have hnx:=hM.nx
    rw [← hb2] at hnx
    have hsl2:b2.sets.length=S.length:=by rw [hb2];simp
    refine an E' (X:=EU l i L) (fun x=>[(3,.bx [0] 0),(4,.mp [204]),(24,.d (.sl (some 13) (l.map stD))),(25,.d (i64 l.length)),(26,.d (i64 i)),(5,.d (i64 i)),(85,.d (.sl (some 3) (L.map eY))),(86,.d (i64 L.length)),(87,.d (i64 x.j))])
     (fun x=>cy l st b2 x.F c es x.clk x.bs (([204],.map (menc (fun n:List UInt8=>D.str n) b2.atm))::aS 202 (sfm b2.sets) (aS 203 (ffm x.F) []))) [0,1,2,3,200,201,202,203,204] (fun x=>L.length-x.j)
     ⟨0,F,clk,bs,Nat.zero_le _,by simpa using hF,hbs⟩ (tau [([202,k],[82])]) ?_ ?_
    ·have hx2:sfm b2.sets=(sfm S).set k (some ((S.getD k []++[i]).map nD)):=by rw [hb2,vg]
     have hgk:(sfm b2.sets)[k]?=some (some ((S.getD k []++[i]).map nD)):=by rw [hx2,List.getElem?_set_self (by have:=hM.lt;simpa [sfm] using this)]
     have hp2:=lO (h:=202) (τ:=tau [([202,k],[82])]) (p:=[82]) hgk (by simp [tau,lkA]) (fun j hj=>by simp [tau,lkA,hj])
     rw [hx2,List.set_set,List.length_map,List.length_append,List.length_singleton] at hp2
     show LeL [] _ _ _ (dj l st b2 F c es clk bs++aS 202 (sfm b2.sets) (aS 203 (ffm F) [])) _
     refine cp (tau [([82],[202,k])]) ⟨?_,?_⟩ (fun j zs h=>?_) (fun j zs h=>?_) rfl ?_ rfl ?_
     ·simp only [go_sem]
     ·unfold dj cy
      rw [hsl2,hx2,hb2]
      simp only [go_sem]
      rw [hp2,cJ,bg _ _ fun j _ _=>by simp [tau,lkA]]
      exact ⟨⟨rfl,aC rfl _ _⟩,rfl,cP (aC rfl _ _)⟩
     ·by_cases e:j=k
      ·rw [e] at h ⊢
       rw [hgk] at h
       cases h
       rw [show tau [([202,k],[82])] [202,k]=[82] from by simp [tau,lkA]]
       refine ⟨?_,by simp [tau,lkA]⟩
       simp only [go_sem]
       simp [nD]
      ·have e1:tau [([202,k],[82])] [202,j]=[202,j]:=by simp [tau,lkA,e]
       rw [e1]
       refine ⟨?_,by simp [tau,lkA]⟩
       rw [hx2,List.getElem?_set_ne (fun g=>e g.symm)] at h
       simp only [go_sem]
       exact aL (fr:=[]) (u:=[]) (by rw [List.getElem?_set_ne (fun g=>e g.symm)];exact h)
     ·have e1:tau [([202,k],[82])] [203,j]=[203,j]:=by simp [tau,lkA]
      rw [e1]
      refine ⟨?_,by simp [tau,lkA]⟩
      simp only [go_sem]
      exact aL (fr:=[]) (u:=[]) h
     ·unfold dj cy
      simp only [List.map_cons,List.map_nil]
      decide
     ·unfold dj cy
      simp [tau,lkA]
    rintro ⟨j,F2,clk2,bs2,hj,hF2,hbs2⟩ E0
    refine aK E0 fun Q2 hQ2 E2=>?_
    simp only
    unfold cy
    simp only [go_sem]
    refine ak E2 (fun h2=>?_) (fun h2=>?_)<;>simp only [go_sem]
    ·have hj':j<L.length:=by omega
     refine ⟨by omega,?_⟩
     rw [uf hj',show eY L[j]=.agg [i64 L[j].1.1,.str L[j].1.2,i64 L[j].2] from rfl]
     simp only [go_sem]
     have hnot:(i,L[j]) ∉ dnA l i++(L.take j).map fun q=>(i,q):=by
      have:=vQ (l:=l) (i:=i) (j:=j) (by rw [hgd,hL];exact hdi) (by rw [hgd,hL];exact hj')
      simpa only [hgd,hL] using this
     have htk:(dnA l i++(L.take j).map fun q=>(i,q))++[(i,L[j])]=dnA l i++(L.take (j+1)).map fun q=>(i,q):=by
      rw [List.take_succ_eq_append_getElem hj',List.map_append,List.append_assoc]
      rfl
     have hvl2:(vwL 203 0 (ffm F2)).length=F2.length:=by rw [aT];simp [ffm]
     cases hmx:midx (F2.map (·.1)) L[j] with
     | none =>
       refine ai mixed E2 fun X=>?_
       simp only [go_sem]
       refine dm X (d:=97) [0] 0 none _ (by simp only [go_sem]) rfl rfl ?_
       simp only [go_sem]
       refine gC X _ _ (zg [201] clk2 bs2 (mz F2 (vwL 203 0 (ffm F2))) (F2.map (·.1)) L[j] .nils (by rw [lY]) Ag tO (by simp only [go_sem]) rfl rfl rfl (lK hvl2) hmx) (by simp) ?_
       simp only [go_sem]
       have hki:(mz F2 (vwL 203 0 (ffm F2))++[(aE L[j],AV.d .nils)])[F2.length]?=some (aE L[j],AV.d .nils):=by
        have:(mz F2 (vwL 203 0 (ffm F2))).length=F2.length:=by simp [mz,hvl2]
        rw [List.getElem?_append_right (by omega),this]
        simp
       refine gC X _ _ (qm [201] (clk2+1) (bs2++[clk2]) (mz F2 (vwL 203 0 (ffm F2))++[(aE L[j],.d .nils)]) F2.length clk2 (aE L[j]) (.d .nils) (.vw [105] 0 1) rfl rfl rfl rfl hki (by rw [List.getElem?_append_right (by omega),hbs2];simp)) (by simp) ?_
       simp only [go_sem]
       refine ⟨by decide +kernel,?_⟩
       rw [hQ2,cY]
       have hsn:=gY (mz F2 (vwL 203 0 (ffm F2))) (aE L[j],AV.d .nils) (aE L[j],AV.vw [105] 0 1)
       rw [show (mz F2 (vwL 203 0 (ffm F2))).length=F2.length by simp [mz,hvl2],uQ (M:=[i]) (v:=AV.vw [105] 0 1) hvl2] at hsn
       rw [hsn]
       have hff:ffm (F2++[(L[j],[i])])=ffm F2++[some [nD i]]:=by simp [ffm]
       have hfl:(ffm F2).length=F2.length:=by simp [ffm]
       have hv3:bA (tau [([203,F2.length],[105])]) (vwL 203 0 (ffm (F2++[(L[j],[i])])))=vwL 203 0 (ffm F2)++[.vw [105] 0 1]:=by
        rw [hff,ml,gZ,bg]
        ·simp [bA,AV.ren,tau,lkA,hfl]
        ·intro n zs hn
         have:n<F2.length:=by rw [← hfl];exact (List.getElem?_eq_some_iff.1 hn).1
         have hne:n≠F2.length:=by omega
         simp [tau,lkA,hne]
       refine ⟨⟨j+1,F2++[(L[j],[i])],clk2+1,bs2++[clk2],hj',by rw [← htk];exact hF2.new (p3 hmx),by simp [hbs2]⟩,by show L.length-(j+1)<L.length-j;omega,tau [([203,F2.length],[105])],?_⟩
       show LeL [] _ _ _ (dj l st b2 (F2++[(L[j],[i])]) c es (clk2+1) (bs2++[clk2])++aS 202 (sfm b2.sets) (aS 203 (ffm (F2++[(L[j],[i])])) [])) _
       refine cp (tau [([105],[203,F2.length])]) ⟨?_,?_⟩ (fun n zs h=>?_) (fun n zs h=>?_) rfl ?_ rfl ?_
       ·rw [aa ⟨by omega,by omega⟩]
        simp only [go_sem]
        rfl
       ·unfold dj cy
        simp only [go_sem]
        rw [bg (h:=202) _ _ fun j _ _=>by simp [tau,lkA],cJ,hv3]
        exact ⟨⟨rfl,aC rfl _ _⟩,rfl,cP (aC rfl _ _)⟩
       ·have e1:tau [([203,F2.length],[105])] [202,n]=[202,n]:=by simp [tau,lkA]
        rw [e1]
        refine ⟨?_,by simp [tau,lkA]⟩
        simp only [go_sem]
        exact aL (fr:=[]) (u:=[]) h
       ·rw [hff] at h
        by_cases e:n=F2.length
        ·rw [e] at h ⊢
         rw [List.getElem?_append_right (by omega),hfl] at h
         simp only [Nat.sub_self,List.getElem?_cons_zero,Option.some.injEq] at h
         rw [show tau [([203,F2.length],[105])] [203,F2.length]=[105] from by simp [tau,lkA]]
         refine ⟨?_,by simp [tau,lkA]⟩
         rw [← h]
         simp only [go_sem]
         rfl
        ·have e1:tau [([203,F2.length],[105])] [203,n]=[203,n]:=by simp [tau,lkA,e]
         rw [e1]
         refine ⟨?_,by simp [tau,lkA]⟩
         have hlt:=(List.getElem?_eq_some_iff.1 h).1
         rw [List.length_append,hfl,List.length_singleton] at hlt
         rw [List.getElem?_append_left (by omega)] at h
         simp only [go_sem]
         exact aL (fr:=[]) (u:=[]) h
       ·unfold dj cy
        simp only [List.map_cons,List.map_nil]
        decide
       ·unfold dj cy
        simp [tau,lkA]
     | some m =>
       obtain ⟨Lx,hFm⟩:∃ Lx,F2[m]?=some (L[j],Lx):=by
        have hg:=mh hmx
        rw [List.getElem?_map,Option.map_eq_some_iff] at hg
        obtain ⟨⟨q1,q2⟩,h1,h2⟩:=hg
        exact ⟨q2,by rw [h1];cases h2;rfl⟩
       have hml:m<F2.length:=(List.getElem?_eq_some_iff.1 hFm).1
       have hfg:=u9 hFm
       have hvs2:((vwL 203 0 ((ffm F2).set m none)).set m (.vw [99] 0 Lx.length))[m]?=some (.vw [99] 0 Lx.length):=List.getElem?_set_self (by rw [aT,List.length_set];simpa [ffm] using hml)
       have hvl3:((vwL 203 0 ((ffm F2).set m none)).set m (AV.vw [99] 0 Lx.length)).length=F2.length:=by rw [List.length_set,aT,List.length_set];simp [ffm]
       have hLx:Lx.length≤i+1:=by
        obtain ⟨_,v2,v3⟩:=hF2.val _ _ (List.mem_of_getElem? hFm)
        refine aH v2 fun x hx=>?_
        rcases List.mem_append.1 ((v3 x).1 hx) with g | g
        ·have:=(gB.1 g).1;omega
        ·obtain ⟨q,_,e⟩:=List.mem_map.1 g
         cases e;omega
       refine xJ E2 (τ:=tau [([99],[203,m])]) (s2:=mk (wz l i j L) (nV l st b2 F2 c es clk2 bs2 m L[j] Lx++aS 202 (sfm b2.sets) (aS 203 ((ffm F2).set m none) [])) [0,1,2,3,12,99,200,201,202,203,204]) (LeL.le (cp (tau [([203,m],[99])]) ⟨?_,?_⟩ (fun n zs h=>?_) (fun n zs h=>?_) rfl ?_ rfl ?_)) ?_
       ·unfold wz
        simp only [go_sem]
       ·unfold nV
        simp only [go_sem]
        have ho:=qz (h:=203) (p:=[99]) (τ:=tau [([99],[203,m])]) hfg (by simp [tau,lkA]) (fun j=>by simp [tau,lkA])
        rw [List.length_map] at ho
        rw [bg (h:=202) _ _ fun j _ _=>by simp [tau,lkA],cJ,ho]
        exact ⟨⟨rfl,aC rfl _ _⟩,⟨rfl,cP (nG (aC rfl _ _) rfl)⟩,aL (fr:=[]) (u:=[]) hfg⟩
       ·have e1:tau [([99],[203,m])] [202,n]=[202,n]:=by simp [tau,lkA]
        rw [e1]
        refine ⟨?_,by simp [tau,lkA]⟩
        simp only [go_sem]
        exact aL (fr:=[]) (u:=[]) h
       ·obtain ⟨hne,h⟩:=gk h
        have e1:tau [([99],[203,m])] [203,n]=[203,n]:=by simp [tau,lkA]
        rw [e1]
        refine ⟨?_,by simp [tau,lkA,hne]⟩
        simp only [go_sem]
        exact aL (fr:=[]) (u:=[]) h
       ·unfold nV
        simp only [List.map_cons,List.map_nil]
        decide
       ·unfold nV
        simp [tau,lkA]
       refine ai mixed E2 fun X=>?_
       unfold wz nV
       simp only [go_sem]
       refine dm X (d:=97) [0] 0 none _ (by simp only [go_sem]) rfl rfl ?_
       simp only [go_sem]
       refine gC X _ _ (Am [201] clk2 bs2 (mz F2 ((vwL 203 0 ((ffm F2).set m none)).set m (.vw [99] 0 Lx.length))) (F2.map (·.1)) L[j] m (.vw [99] 0 Lx.length) (by rw [lY]) Ag (by simp only [go_sem]) rfl rfl rfl (lK hvl3) hmx (mJ hFm hvs2)) (by simp) ?_
       simp only [go_sem]
       refine ⟨by omega,?_⟩
       refine gC X _ _ (qm [201] clk2 bs2 (mz F2 ((vwL 203 0 ((ffm F2).set m none)).set m (.vw [99] 0 Lx.length))) m (bs2.getD m 0) (aE L[j]) (.vw [99] 0 Lx.length) (.vw [105] 0 (Lx.length+1)) rfl rfl rfl rfl (mJ hFm hvs2) (by rw [List.getD_eq_getElem?_getD,List.getElem?_eq_getElem (by omega)];rfl)) (by simp) ?_
       simp only [go_sem]
       rw [AH hFm,List.set_set]
       refine ⟨by decide +kernel,?_⟩
       rw [hQ2,cY]
       refine ⟨⟨j+1,F2.set m (L[j],Lx++[i]),clk2,bs2,hj',by rw [← htk];exact hF2.old hFm hnot,by rw [List.length_set];exact hbs2⟩,by show L.length-(j+1)<L.length-j;omega,tau [([203,m],[105])],?_⟩
       show LeL [] _ _ _ (dj l st b2 (F2.set m (L[j],Lx++[i])) c es clk2 bs2++aS 202 (sfm b2.sets) (aS 203 (ffm (F2.set m (L[j],Lx++[i]))) [])) _
       have hg3:(ffm (F2.set m (L[j],Lx++[i])))[m]?=some (some ((Lx++[i]).map nD)):=by rw [jA,List.getElem?_set_self (by simpa [ffm] using hml)]
       have hp3:=lO (h:=203) (τ:=tau [([203,m],[105])]) (p:=[105]) hg3 (by simp [tau,lkA]) (fun j hj=>by simp [tau,lkA,hj])
       rw [sV,List.length_map,List.length_append,List.length_singleton] at hp3
       refine cp (tau [([105],[203,m])]) ⟨?_,?_⟩ (fun n zs h=>?_) (fun n zs h=>?_) rfl ?_ rfl ?_
       ·rw [aa ⟨by omega,by omega⟩]
        simp only [go_sem]
        rfl
       ·unfold dj cy
        simp only [go_sem]
        rw [bg (h:=202) _ _ fun j _ _=>by simp [tau,lkA],u6 hFm,cJ,hp3]
        exact ⟨⟨rfl,aC rfl _ _⟩,rfl,cP (aC rfl _ _)⟩
       ·have e1:tau [([203,m],[105])] [202,n]=[202,n]:=by simp [tau,lkA]
        rw [e1]
        refine ⟨?_,by simp [tau,lkA]⟩
        simp only [go_sem]
        exact aL (fr:=[]) (u:=[]) h
       ·by_cases e:n=m
        ·rw [e] at h ⊢
         rw [hg3] at h
         cases h
         rw [show tau [([203,m],[105])] [203,m]=[105] from by simp [tau,lkA]]
         refine ⟨?_,by simp [tau,lkA]⟩
         simp only [go_sem]
         simp [nD]
        ·have e1:tau [([203,m],[105])] [203,n]=[203,n]:=by simp [tau,lkA,e]
         rw [e1]
         refine ⟨?_,by simp [tau,lkA]⟩
         rw [jA,List.getElem?_set_ne (fun g=>e g.symm)] at h
         simp only [go_sem]
         exact aL (fr:=[]) (u:=[]) (by rw [List.getElem?_set_ne (fun g=>e g.symm)];exact h)
       ·unfold dj cy
        simp only [List.map_cons,List.map_nil]
        decide
       ·unfold dj cy
        simp [tau,lkA]
    ·have hjl:j=L.length:=by omega
     subst hjl
     rw [hQ2]
     simp only [go_sem]
     rw [hQ,cY]
     refine ⟨⟨i+1,b2,F2,c,es,clk2,bs2,by omega,hnx,by rw [mZ,hgd,hL];rw [List.take_length] at hF2;exact hF2,by rw [hsl2];exact hq,by rw [hsl2];exact hio,hbs2⟩,by show l.length-(i+1)<l.length-i;omega,id,?_⟩
     show LeL [] _ _ _ (dj l st b2 F2 c es clk2 bs2++aS 202 (sfm b2.sets) (aS 203 (ffm F2) [])) _
     refine cp id ⟨?_,?_⟩ (fun n zs h=>?_) (fun n zs h=>?_) rfl ?_ rfl ?_
     ·rw [aa ⟨by omega,by omega⟩]
      simp only [go_sem]
      rfl
     ·unfold dj cy
      simp only [go_sem]
      rw [bO id (fun _=>rfl),cJ,bO id fun _=>rfl]
      exact ⟨⟨rfl,aC rfl _ _⟩,rfl,cP (aC rfl _ _)⟩
     ·refine ⟨?_,rfl⟩
      simp only [go_sem]
      exact aL (fr:=[]) (u:=[]) h
     ·refine ⟨?_,rfl⟩
      simp only [go_sem]
      exact aL (fr:=[]) (u:=[]) h
     ·unfold dj cy
      simp only [List.map_cons,List.map_nil]
      decide
     ·rfl
  | none =>
    simp only [go_sem]
    refine xi E' _ _ (DJ [2] 0 b.sets.length (vwL 202 0 (sfm b.sets)) (by rw [mS]) (by simp only [go_sem]) rfl rfl) (by simp [ef0]) ?_
    simp only [go_sem]
    refine b9 E' [204] b.atm (cD l[i]) (i64 (b.sets.length:Nat)) (by rw [DA]) EN rfl rfl rfl rfl rfl ?_
    simp only [go_sem]
    refine xi E' _ _ (C6 [2] b.sets.length (vwL 202 0 (sfm b.sets)) .nils [[54]] (by rw [mS]) (by rw [fm];rfl) (by rw [fm];rfl) ⟨by simp only [go_sem],by rw [ag];decide⟩ rfl rfl (by rw [aT];simp [sfm]) (fun s' h1 h2=>by
     rw [h2]
     show bt none s'.hp (.vw [54] 0 1)=_
     simp only [bt]
     rw [h1 [54] (by simp)]
     simp only [go_sem]) (by have:=hb.le;rw [fm];simp [TI.by1];omega)) (by rw [ag];simp) ?_
    simp only [go_sem]
    refine ES E' (τ:=id) (s2:=mk (Ae l i b.sets.length) (kT l st [3] b.sets.length 0 b.cls b.sets F c es clk bs++(dH l[i] (mset b.atm (cD l[i]) (i64 (b.sets.length:Nat)))++dh (sfm b.sets) (ffm F))) [0,1,3,6,55,200,201,202,203,204]) (LeL.le (by
     rw [← List.append_assoc]
     refine cp id ⟨?_,?_⟩ (fun j zs h=>?_) (fun j zs h=>?_) rfl ?_ rfl rfl
     ·unfold Ae
      simp only [go_sem]
     ·unfold kT dH stC
      simp only [go_sem]
      rw [bO id (fun _=>rfl),cJ,bO id fun _=>rfl]
      exact ⟨⟨rfl,jG (aC rfl _ _) rfl⟩,rfl,cP (aC rfl _ _)⟩
     ·refine ⟨?_,rfl⟩
      simp only [go_sem]
      exact aL (fr:=[]) (u:=[]) h
     ·refine ⟨?_,rfl⟩
      simp only [go_sem]
      exact aL (fr:=[]) (u:=[]) h
     ·unfold kT dH
      simp only [List.cons_append,List.nil_append,List.map_cons,List.map_nil]
      decide)) ?_
    have hcq:=yw (G:=GT t fz) (.sl (some 13) (l.map stD)) (i64 st) (fX l.length b.cls) l.length (b.sets.length+1) (.arrA (vwL 202 0 (sfm b.sets)++[.d .nils])) (.mapA clk bs (mz F (vwL 203 0 (ffm F)))) (sfm b.sets) (ffm F) (List.range b.sets.length) 0 c es b.sets.length hq hio (by simp) (by have:=hb.le;simp;omega)
     (by
      show Ob.arrA (bA _ _)=_
      rw [gZ,bg _ _ fun j _ _=>by simp [tau,lkA]]
      rfl) (jG (aC rfl _ _) rfl)
     (by
      show Ob.mapA clk bs _=_
      rw [cJ,bg _ _ fun j _ _=>by simp [tau,lkA]]) (cP (aC rfl _ _))
    rw [List.length_range,← List.range_succ] at hcq
    refine xQ E' [.bx [0] 0,.d (i64 (b.sets.length:Nat))] (kT l st [3] b.sets.length 0 b.cls b.sets F c es clk bs) (dH l[i] (mset b.atm (cD l[i]) (i64 (b.sets.length:Nat)))) (sfm b.sets) (ffm F) [0,1,3,55,200,201,202,203] hcq (Ae l i b.sets.length) _ rfl rfl rfl ⟨by simp only [go_sem],by rw [ag];decide⟩ rfl ?_ rfl ?_ rfl rfl ?_
    ·unfold kT dH Ae
     simp only [go_sem]
     rw [bO id (fun _=>rfl),cJ,bO id fun _=>rfl]
     exact ⟨⟨rfl,jG (aC rfl _ _) rfl⟩,rfl,cP (aC rfl _ _)⟩
    ·unfold kT
     simp only [List.map_cons,List.map_nil]
     decide
    rintro _ _ ⟨rfl,c',es',rfl,hq',hio'⟩
    obtain ⟨C1,hC1⟩:∃ C1,C1=kT l st [3] b.sets.length 0 b.cls b.sets F c es clk bs:=⟨_,rfl⟩
    rw [← hC1]
    have hin:∀ p∈C1.map (·.1),cj id 60 (C1++dh (sfm b.sets) (ffm F)) p=p:=fun p hp=>qj (by rw [List.map_append];exact List.mem_append_left _ hp)
    have hnm:C1.map (·.1)=[[0],[3],[200],[1],[55],[201]]:=by rw [hC1];rfl
    rw [hnm] at hin
    have r5:cj id 60 (C1++dh (sfm b.sets) (ffm F)) [5]=[60,5]:=x7 (by
     rw [List.map_append,hnm,List.mem_append,not_or]
     exact ⟨by decide,oI rfl⟩)
    have rf:∀ q∈dh (sfm b.sets) (ffm F),cj id 60 (C1++dh (sfm b.sets) (ffm F)) q.1=q.1:=fun q hq=>qj (by rw [List.map_append];exact List.mem_append_right _ (List.mem_map.2 ⟨q,hq,rfl⟩))
    refine ⟨kT l st [5] (b.sets.length+1) 0 b.cls b.sets F c' es' clk bs,kT l st [60,5] (b.sets.length+1) 0 b.cls b.sets F c' es' clk bs,rfl,?_,?_,?_⟩
    ·rw [hC1]
     unfold kT dh
     simp only [go_sem]
     exact ⟨Nat.le_refl _,Nat.le_refl _⟩
    ·unfold kT
     simp only [List.map_cons,List.map_nil,Ob.ren,bA,AV.ren,hin [0] (by decide),hin [200] (by decide),hin [1] (by decide),hin [55] (by decide),hin [201] (by decide),r5,cJ,gZ]
     rw [bg,bg]
     ·intro j zs hj
      rw [Nat.zero_add]
      exact rf ([203,j],.arr none zs) (zt hj)
     ·intro j zs hj
      rw [Nat.zero_add]
      exact rf ([202,j],.arr none zs) (y2 hj)
    unfold Ae kT dH dh stC
    simp only [go_sem]
    refine ⟨by omega,?_⟩
    have hM:=hb.new (by rw [hgd];exact hm)
    rw [hgd] at hM
    have hcl:=l8 (N:=l.length) (k:=b.sets.length) (cls:=b.cls) (by rw [hb.len];exact hil)
    rw [hb.len] at hcl
    rw [hcl]
    have hvl:(vwL 202 0 (sfm b.sets)).length=b.sets.length:=by rw [aT];simp [sfm]
    have hsn:=gY (vwL 202 0 (sfm b.sets)) (.d .nils) (.vw [99] 0 0)
    have hsn2:=gY (vwL 202 0 (sfm b.sets)) AV.un (.vw [99] 0 0)
    rw [hvl] at hsn hsn2
    have hsf:(sfm (b.sets++[[]])).set b.sets.length none=sfm b.sets++[none]:=by
     have:=gY (sfm b.sets) (some []) none
     rw [show (sfm b.sets).length=b.sets.length from by simp [sfm]] at this
     rw [← this]
     simp [sfm]
    have hgS:(b.sets++[[]]).getD b.sets.length []=[]:=by simp
    have hlS:(b.sets++[[]]).length=b.sets.length+1:=by simp
    refine B3 E' [55] b.sets.length 99 none _ rfl (by rw [List.getElem?_append_right (by omega),hvl];simp) (by rw [ag];decide) ?_
    rw [hsn]
    simp only [go_sem]
    refine xJ E' (τ:=tau [([2],[55]),([3],[60,5])]) (s2:=mk (xA l i b.sets.length) (nM l st l[i] b.sets.length (b.cls++[b.sets.length]) (b.sets++[[]]) (mset b.atm (cD l[i]) (i64 (b.sets.length:Nat))) F c' es' clk bs++aS 202 ((sfm (b.sets++[[]])).set b.sets.length none) (aS 203 (ffm F) [])) [0,1,2,3,6,99,200,201,202,203,204]) (LeL.le (cp (tau [([55],[2]),([60,5],[3])]) ⟨?_,?_⟩ (fun j zs h=>?_) (fun j zs h=>?_) rfl ?_ rfl ?_)) ?_
    ·unfold xA
     simp only [go_sem]
    ·unfold nM stC
     rw [hsf,hgS,ml]
     show hpL _ _ _ (([0],_)::([3],_)::([200],_)::([1],_)::([2],.arrA ((vwL 202 0 (sfm b.sets)++[AV.un]).set b.sets.length (.vw [99] 0 0)))::_)
     rw [hsn2,hlS]
     simp only [go_sem]
     rw [gZ,cJ,bg _ _ fun j _ _=>by simp [tau,lkA],bg _ _ fun j _ _=>by simp [tau,lkA]]
     exact ⟨⟨rfl,jG (aC rfl _ _) rfl⟩,rfl,cP (aC rfl _ _)⟩
    ·have e1:tau [([2],[55]),([3],[60,5])] [202,j]=[202,j]:=by simp [tau,lkA]
     rw [e1]
     rw [hsf] at h
     refine ⟨?_,by simp [tau,lkA]⟩
     simp only [go_sem]
     rw [← uJ]
     exact aL (fr:=[]) (u:=[]) h
    ·have e1:tau [([2],[55]),([3],[60,5])] [203,j]=[203,j]:=by simp [tau,lkA]
     rw [e1]
     refine ⟨?_,by simp [tau,lkA]⟩
     simp only [go_sem]
     exact aL (fr:=[]) (u:=[]) h
    ·unfold nM
     simp only [List.map_cons,List.map_nil]
     decide
    ·unfold nM
     simp [tau,lkA]
    have hq2:Queue c' 0 0 (List.range (b.sets++[[]]).length):=by rw [hlS];exact hq'
    have hio2:gz es' (List.range (b.sets++[[]]).length):=by rw [hlS];exact hio'
    obtain ⟨S,hS⟩:∃ S,S=(b.sets++[[]]):=⟨_,rfl⟩
    rw [← hS] at hM hq2 hio2 ⊢
    have hkg:=qi hM.lt
    have hSl:=hM.le
    have hTl:=hM.tl
    refine ai mixed E' fun X=>?_
    unfold xA nM stC
    simp only [go_sem]
    refine dm X (d:=69) [0] 0 none _ (by simp only [go_sem]) rfl rfl ?_
    simp only [go_sem]
    refine dm X (d:=74) [0] 0 none _ (by simp only [go_sem]) rfl rfl ?_
    simp only [go_sem]
    have hvs:((vwL 202 0 ((sfm S).set b.sets.length none)).set b.sets.length (.vw [99] 0 (S.getD b.sets.length []).length))[b.sets.length]?=some (.vw [99] 0 (S.getD b.sets.length []).length):=List.getElem?_set_self (by rw [aT,List.length_set];have:=hM.lt;simpa [sfm] using this)
    refine gC X _ _ (qF [2] 0 S.length .i64 b.sets.length _ (by rw [mS]) (by rw [fm]) (by simp only [go_sem]) rfl rfl rfl hM.lt) (by simp [ef0]) ?_
    simp only [go_sem]
    refine gC X _ _ (vc [2] b.sets.length _ _ (by rw [fm];rfl) (by rw [fm];rfl) (by simp only [go_sem]) rfl rfl hvs) (by simp [ef0]) ?_
    simp only [go_sem]
    refine ⟨by omega,?_⟩
    refine gC X _ _ (qF [2] 0 S.length .i64 b.sets.length _ (by rw [mS]) (by rw [fm]) (by simp only [go_sem]) rfl rfl rfl hM.lt) (by simp [ef0]) ?_
    simp only [go_sem]
    refine gC X _ _ (s9 [2] b.sets.length _ (.vw [82] 0 ((S.getD b.sets.length []).length+1)) (by rw [fm];rfl) (by rw [fm]) rfl rfl rfl rfl) (by simp) ?_
    simp only [go_sem]
    rw [List.set_set]
    refine ⟨by decide +kernel,?_⟩
    refine ae E' (qf l[i] his) rfl rfl (by simp) ?_
    rintro _ rfl
    simp only [go_sem]
    have hdi:=hd _ (List.getElem_mem hil)
    obtain ⟨L,hL⟩:∃ L,az l[i]=L:=⟨_,rfl⟩
    have hLl:L.length≤802:=by
     rw [← hL]
     have h1:=hif.f
     have h2:=hif.t
     simp only [az,List.length_append,cG]
     have:(bB l[i]).length≤2:=by unfold bB;split<;>simp
     omega
    rw [hL] at hdi ⊢
    obtain ⟨b2,hb2⟩:∃ b2:BS,b2=⟨b.cls++[b.sets.length],S.set b.sets.length (S.getD b.sets.length []++[i]),(mset b.atm (cD l[i]) (i64 (b.sets.length:Nat)))⟩:=⟨_,rfl⟩
    have hnx:=hM.nx
    rw [← hb2] at hnx
    have hsl2:b2.sets.length=S.length:=by rw [hb2];simp
    refine an E' (X:=EU l i L) (fun x=>[(3,.bx [0] 0),(4,.mp [204]),(24,.d (.sl (some 13) (l.map stD))),(25,.d (i64 l.length)),(26,.d (i64 i)),(5,.d (i64 i)),(85,.d (.sl (some 3) (L.map eY))),(86,.d (i64 L.length)),(87,.d (i64 x.j))])
     (fun x=>cy l st b2 x.F c' es' x.clk x.bs (([204],.map (menc (fun n:List UInt8=>D.str n) b2.atm))::aS 202 (sfm b2.sets) (aS 203 (ffm x.F) []))) [0,1,2,3,200,201,202,203,204] (fun x=>L.length-x.j)
     ⟨0,F,clk,bs,Nat.zero_le _,by simpa using hF,hbs⟩ (tau [([202,b.sets.length],[82])]) ?_ ?_
    ·have hx2:sfm b2.sets=(sfm S).set b.sets.length (some ((S.getD b.sets.length []++[i]).map nD)):=by rw [hb2,vg]
     have hgk:(sfm b2.sets)[b.sets.length]?=some (some ((S.getD b.sets.length []++[i]).map nD)):=by rw [hx2,List.getElem?_set_self (by have:=hM.lt;simpa [sfm] using this)]
     have hp2:=lO (h:=202) (τ:=tau [([202,b.sets.length],[82])]) (p:=[82]) hgk (by simp [tau,lkA]) (fun j hj=>by simp [tau,lkA,hj])
     rw [hx2,List.set_set,List.length_map,List.length_append,List.length_singleton] at hp2
     show LeL [] _ _ _ (dj l st b2 F c' es' clk bs++aS 202 (sfm b2.sets) (aS 203 (ffm F) [])) _
     refine cp (tau [([82],[202,b.sets.length])]) ⟨?_,?_⟩ (fun j zs h=>?_) (fun j zs h=>?_) rfl ?_ rfl ?_
     ·simp only [go_sem]
     ·unfold dj cy
      rw [hsl2,hx2,hb2]
      simp only [go_sem]
      rw [hp2,cJ,bg _ _ fun j _ _=>by simp [tau,lkA]]
      exact ⟨⟨rfl,aC rfl _ _⟩,rfl,cP (aC rfl _ _)⟩
     ·by_cases e:j=b.sets.length
      ·rw [e] at h ⊢
       rw [hgk] at h
       cases h
       rw [show tau [([202,b.sets.length],[82])] [202,b.sets.length]=[82] from by simp [tau,lkA]]
       refine ⟨?_,by simp [tau,lkA]⟩
       simp only [go_sem]
       simp [nD]
      ·have e1:tau [([202,b.sets.length],[82])] [202,j]=[202,j]:=by simp [tau,lkA,e]
       rw [e1]
       refine ⟨?_,by simp [tau,lkA]⟩
       rw [hx2,List.getElem?_set_ne (fun g=>e g.symm)] at h
       simp only [go_sem]
       exact aL (fr:=[]) (u:=[]) (by rw [List.getElem?_set_ne (fun g=>e g.symm)];exact h)
     ·have e1:tau [([202,b.sets.length],[82])] [203,j]=[203,j]:=by simp [tau,lkA]
      rw [e1]
      refine ⟨?_,by simp [tau,lkA]⟩
      simp only [go_sem]
      exact aL (fr:=[]) (u:=[]) h
     ·unfold dj cy
      simp only [List.map_cons,List.map_nil]
      decide
     ·unfold dj cy
      simp [tau,lkA]
    rintro ⟨j,F2,clk2,bs2,hj,hF2,hbs2⟩ E0
    refine aK E0 fun Q2 hQ2 E2=>?_
    simp only
    unfold cy
    simp only [go_sem]
    refine ak E2 (fun h2=>?_) (fun h2=>?_)<;>simp only [go_sem]
    ·have hj':j<L.length:=by omega
     refine ⟨by omega,?_⟩
     rw [uf hj',show eY L[j]=.agg [i64 L[j].1.1,.str L[j].1.2,i64 L[j].2] from rfl]
     simp only [go_sem]
     have hnot:(i,L[j]) ∉ dnA l i++(L.take j).map fun q=>(i,q):=by
      have:=vQ (l:=l) (i:=i) (j:=j) (by rw [hgd,hL];exact hdi) (by rw [hgd,hL];exact hj')
      simpa only [hgd,hL] using this
     have htk:(dnA l i++(L.take j).map fun q=>(i,q))++[(i,L[j])]=dnA l i++(L.take (j+1)).map fun q=>(i,q):=by
      rw [List.take_succ_eq_append_getElem hj',List.map_append,List.append_assoc]
      rfl
     have hvl2:(vwL 203 0 (ffm F2)).length=F2.length:=by rw [aT];simp [ffm]
     cases hmx:midx (F2.map (·.1)) L[j] with
     | none =>
       refine ai mixed E2 fun X=>?_
       simp only [go_sem]
       refine dm X (d:=97) [0] 0 none _ (by simp only [go_sem]) rfl rfl ?_
       simp only [go_sem]
       refine gC X _ _ (zg [201] clk2 bs2 (mz F2 (vwL 203 0 (ffm F2))) (F2.map (·.1)) L[j] .nils (by rw [lY]) Ag tO (by simp only [go_sem]) rfl rfl rfl (lK hvl2) hmx) (by simp) ?_
       simp only [go_sem]
       have hki:(mz F2 (vwL 203 0 (ffm F2))++[(aE L[j],AV.d .nils)])[F2.length]?=some (aE L[j],AV.d .nils):=by
        have:(mz F2 (vwL 203 0 (ffm F2))).length=F2.length:=by simp [mz,hvl2]
        rw [List.getElem?_append_right (by omega),this]
        simp
       refine gC X _ _ (qm [201] (clk2+1) (bs2++[clk2]) (mz F2 (vwL 203 0 (ffm F2))++[(aE L[j],.d .nils)]) F2.length clk2 (aE L[j]) (.d .nils) (.vw [105] 0 1) rfl rfl rfl rfl hki (by rw [List.getElem?_append_right (by omega),hbs2];simp)) (by simp) ?_
       simp only [go_sem]
       refine ⟨by decide +kernel,?_⟩
       rw [hQ2,cY]
       have hsn:=gY (mz F2 (vwL 203 0 (ffm F2))) (aE L[j],AV.d .nils) (aE L[j],AV.vw [105] 0 1)
       rw [show (mz F2 (vwL 203 0 (ffm F2))).length=F2.length by simp [mz,hvl2],uQ (M:=[i]) (v:=AV.vw [105] 0 1) hvl2] at hsn
       rw [hsn]
       have hff:ffm (F2++[(L[j],[i])])=ffm F2++[some [nD i]]:=by simp [ffm]
       have hfl:(ffm F2).length=F2.length:=by simp [ffm]
       have hv3:bA (tau [([203,F2.length],[105])]) (vwL 203 0 (ffm (F2++[(L[j],[i])])))=vwL 203 0 (ffm F2)++[.vw [105] 0 1]:=by
        rw [hff,ml,gZ,bg]
        ·simp [bA,AV.ren,tau,lkA,hfl]
        ·intro n zs hn
         have:n<F2.length:=by rw [← hfl];exact (List.getElem?_eq_some_iff.1 hn).1
         have hne:n≠F2.length:=by omega
         simp [tau,lkA,hne]
       refine ⟨⟨j+1,F2++[(L[j],[i])],clk2+1,bs2++[clk2],hj',by rw [← htk];exact hF2.new (p3 hmx),by simp [hbs2]⟩,by show L.length-(j+1)<L.length-j;omega,tau [([203,F2.length],[105])],?_⟩
       show LeL [] _ _ _ (dj l st b2 (F2++[(L[j],[i])]) c' es' (clk2+1) (bs2++[clk2])++aS 202 (sfm b2.sets) (aS 203 (ffm (F2++[(L[j],[i])])) [])) _
       refine cp (tau [([105],[203,F2.length])]) ⟨?_,?_⟩ (fun n zs h=>?_) (fun n zs h=>?_) rfl ?_ rfl ?_
       ·rw [aa ⟨by omega,by omega⟩]
        simp only [go_sem]
        rfl
       ·unfold dj cy
        simp only [go_sem]
        rw [bg (h:=202) _ _ fun j _ _=>by simp [tau,lkA],cJ,hv3]
        exact ⟨⟨rfl,aC rfl _ _⟩,rfl,cP (aC rfl _ _)⟩
       ·have e1:tau [([203,F2.length],[105])] [202,n]=[202,n]:=by simp [tau,lkA]
        rw [e1]
        refine ⟨?_,by simp [tau,lkA]⟩
        simp only [go_sem]
        exact aL (fr:=[]) (u:=[]) h
       ·rw [hff] at h
        by_cases e:n=F2.length
        ·rw [e] at h ⊢
         rw [List.getElem?_append_right (by omega),hfl] at h
         simp only [Nat.sub_self,List.getElem?_cons_zero,Option.some.injEq] at h
         rw [show tau [([203,F2.length],[105])] [203,F2.length]=[105] from by simp [tau,lkA]]
         refine ⟨?_,by simp [tau,lkA]⟩
         rw [← h]
         simp only [go_sem]
         rfl
        ·have e1:tau [([203,F2.length],[105])] [203,n]=[203,n]:=by simp [tau,lkA,e]
         rw [e1]
         refine ⟨?_,by simp [tau,lkA]⟩
         have hlt:=(List.getElem?_eq_some_iff.1 h).1
         rw [List.length_append,hfl,List.length_singleton] at hlt
         rw [List.getElem?_append_left (by omega)] at h
         simp only [go_sem]
         exact aL (fr:=[]) (u:=[]) h
       ·unfold dj cy
        simp only [List.map_cons,List.map_nil]
        decide
       ·unfold dj cy
        simp [tau,lkA]
     | some m =>
       obtain ⟨Lx,hFm⟩:∃ Lx,F2[m]?=some (L[j],Lx):=by
        have hg:=mh hmx
        rw [List.getElem?_map,Option.map_eq_some_iff] at hg
        obtain ⟨⟨q1,q2⟩,h1,h2⟩:=hg
        exact ⟨q2,by rw [h1];cases h2;rfl⟩
       have hml:m<F2.length:=(List.getElem?_eq_some_iff.1 hFm).1
       have hfg:=u9 hFm
       have hvs2:((vwL 203 0 ((ffm F2).set m none)).set m (.vw [99] 0 Lx.length))[m]?=some (.vw [99] 0 Lx.length):=List.getElem?_set_self (by rw [aT,List.length_set];simpa [ffm] using hml)
       have hvl3:((vwL 203 0 ((ffm F2).set m none)).set m (AV.vw [99] 0 Lx.length)).length=F2.length:=by rw [List.length_set,aT,List.length_set];simp [ffm]
       have hLx:Lx.length≤i+1:=by
        obtain ⟨_,v2,v3⟩:=hF2.val _ _ (List.mem_of_getElem? hFm)
        refine aH v2 fun x hx=>?_
        rcases List.mem_append.1 ((v3 x).1 hx) with g | g
        ·have:=(gB.1 g).1;omega
        ·obtain ⟨q,_,e⟩:=List.mem_map.1 g
         cases e;omega
       refine xJ E2 (τ:=tau [([99],[203,m])]) (s2:=mk (wz l i j L) (nV l st b2 F2 c' es' clk2 bs2 m L[j] Lx++aS 202 (sfm b2.sets) (aS 203 ((ffm F2).set m none) [])) [0,1,2,3,12,99,200,201,202,203,204]) (LeL.le (cp (tau [([203,m],[99])]) ⟨?_,?_⟩ (fun n zs h=>?_) (fun n zs h=>?_) rfl ?_ rfl ?_)) ?_
       ·unfold wz
        simp only [go_sem]
       ·unfold nV
        simp only [go_sem]
        have ho:=qz (h:=203) (p:=[99]) (τ:=tau [([99],[203,m])]) hfg (by simp [tau,lkA]) (fun j=>by simp [tau,lkA])
        rw [List.length_map] at ho
        rw [bg (h:=202) _ _ fun j _ _=>by simp [tau,lkA],cJ,ho]
        exact ⟨⟨rfl,aC rfl _ _⟩,⟨rfl,cP (nG (aC rfl _ _) rfl)⟩,aL (fr:=[]) (u:=[]) hfg⟩
       ·have e1:tau [([99],[203,m])] [202,n]=[202,n]:=by simp [tau,lkA]
        rw [e1]
        refine ⟨?_,by simp [tau,lkA]⟩
        simp only [go_sem]
        exact aL (fr:=[]) (u:=[]) h
       ·obtain ⟨hne,h⟩:=gk h
        have e1:tau [([99],[203,m])] [203,n]=[203,n]:=by simp [tau,lkA]
        rw [e1]
        refine ⟨?_,by simp [tau,lkA,hne]⟩
        simp only [go_sem]
        exact aL (fr:=[]) (u:=[]) h
       ·unfold nV
        simp only [List.map_cons,List.map_nil]
        decide
       ·unfold nV
        simp [tau,lkA]
       refine ai mixed E2 fun X=>?_
       unfold wz nV
       simp only [go_sem]
       refine dm X (d:=97) [0] 0 none _ (by simp only [go_sem]) rfl rfl ?_
       simp only [go_sem]
       refine gC X _ _ (Am [201] clk2 bs2 (mz F2 ((vwL 203 0 ((ffm F2).set m none)).set m (.vw [99] 0 Lx.length))) (F2.map (·.1)) L[j] m (.vw [99] 0 Lx.length) (by rw [lY]) Ag (by simp only [go_sem]) rfl rfl rfl (lK hvl3) hmx (mJ hFm hvs2)) (by simp) ?_
       simp only [go_sem]
       refine ⟨by omega,?_⟩
       refine gC X _ _ (qm [201] clk2 bs2 (mz F2 ((vwL 203 0 ((ffm F2).set m none)).set m (.vw [99] 0 Lx.length))) m (bs2.getD m 0) (aE L[j]) (.vw [99] 0 Lx.length) (.vw [105] 0 (Lx.length+1)) rfl rfl rfl rfl (mJ hFm hvs2) (by rw [List.getD_eq_getElem?_getD,List.getElem?_eq_getElem (by omega)];rfl)) (by simp) ?_
       simp only [go_sem]
       rw [AH hFm,List.set_set]
       refine ⟨by decide +kernel,?_⟩
       rw [hQ2,cY]
       refine ⟨⟨j+1,F2.set m (L[j],Lx++[i]),clk2,bs2,hj',by rw [← htk];exact hF2.old hFm hnot,by rw [List.length_set];exact hbs2⟩,by show L.length-(j+1)<L.length-j;omega,tau [([203,m],[105])],?_⟩
       show LeL [] _ _ _ (dj l st b2 (F2.set m (L[j],Lx++[i])) c' es' clk2 bs2++aS 202 (sfm b2.sets) (aS 203 (ffm (F2.set m (L[j],Lx++[i]))) [])) _
       have hg3:(ffm (F2.set m (L[j],Lx++[i])))[m]?=some (some ((Lx++[i]).map nD)):=by rw [jA,List.getElem?_set_self (by simpa [ffm] using hml)]
       have hp3:=lO (h:=203) (τ:=tau [([203,m],[105])]) (p:=[105]) hg3 (by simp [tau,lkA]) (fun j hj=>by simp [tau,lkA,hj])
       rw [sV,List.length_map,List.length_append,List.length_singleton] at hp3
       refine cp (tau [([105],[203,m])]) ⟨?_,?_⟩ (fun n zs h=>?_) (fun n zs h=>?_) rfl ?_ rfl ?_
       ·rw [aa ⟨by omega,by omega⟩]
        simp only [go_sem]
        rfl
       ·unfold dj cy
        simp only [go_sem]
        rw [bg (h:=202) _ _ fun j _ _=>by simp [tau,lkA],u6 hFm,cJ,hp3]
        exact ⟨⟨rfl,aC rfl _ _⟩,rfl,cP (aC rfl _ _)⟩
       ·have e1:tau [([203,m],[105])] [202,n]=[202,n]:=by simp [tau,lkA]
        rw [e1]
        refine ⟨?_,by simp [tau,lkA]⟩
        simp only [go_sem]
        exact aL (fr:=[]) (u:=[]) h
       ·by_cases e:n=m
        ·rw [e] at h ⊢
         rw [hg3] at h
         cases h
         rw [show tau [([203,m],[105])] [203,m]=[105] from by simp [tau,lkA]]
         refine ⟨?_,by simp [tau,lkA]⟩
         simp only [go_sem]
         simp [nD]
        ·have e1:tau [([203,m],[105])] [203,n]=[203,n]:=by simp [tau,lkA,e]
         rw [e1]
         refine ⟨?_,by simp [tau,lkA]⟩
         rw [jA,List.getElem?_set_ne (fun g=>e g.symm)] at h
         simp only [go_sem]
         exact aL (fr:=[]) (u:=[]) (by rw [List.getElem?_set_ne (fun g=>e g.symm)];exact h)
       ·unfold dj cy
        simp only [List.map_cons,List.map_nil]
        decide
       ·unfold dj cy
        simp [tau,lkA]
    ·have hjl:j=L.length:=by omega
     subst hjl
     rw [hQ2]
     simp only [go_sem]
     rw [hQ,cY]
     refine ⟨⟨i+1,b2,F2,c',es',clk2,bs2,by omega,hnx,by rw [mZ,hgd,hL];rw [List.take_length] at hF2;exact hF2,by rw [hsl2];exact hq2,by rw [hsl2];exact hio2,hbs2⟩,by show l.length-(i+1)<l.length-i;omega,id,?_⟩
     show LeL [] _ _ _ (dj l st b2 F2 c' es' clk2 bs2++aS 202 (sfm b2.sets) (aS 203 (ffm F2) [])) _
     refine cp id ⟨?_,?_⟩ (fun n zs h=>?_) (fun n zs h=>?_) rfl ?_ rfl ?_
     ·rw [aa ⟨by omega,by omega⟩]
      simp only [go_sem]
      rfl
     ·unfold dj cy
      simp only [go_sem]
      rw [bO id (fun _=>rfl),cJ,bO id fun _=>rfl]
      exact ⟨⟨rfl,aC rfl _ _⟩,rfl,cP (aC rfl _ _)⟩
     ·refine ⟨?_,rfl⟩
      simp only [go_sem]
      exact aL (fr:=[]) (u:=[]) h
     ·refine ⟨?_,rfl⟩
      simp only [go_sem]
      exact aL (fr:=[]) (u:=[]) h
     ·unfold dj cy
      simp only [List.map_cons,List.map_nil]
      decide
     ·rfl
 ·have hil:i=l.length:=by omega
  subst hil
  rw [hQ]
  simp only [go_sem]
  refine ⟨.bx [0] 0,_,[0,1,2,3,200,201,202,203,204],id,⟨rfl,b,F,c,es,clk,bs,hb,hF,hq,hio,rfl⟩,?_⟩
  refine (fun hle:LeL [] id _ [(0,.bx [0] 0)] (cy l st b F c es clk bs []++aS 202 (sfm b.sets) (aS 203 (ffm F) [])) _=>⟨hle.1.1,hle.2.1,hle.2.2.1,hle.2.2.2.2⟩) (cp id ⟨?_,?_⟩ (fun n zs h=>?_) (fun n zs h=>?_) rfl ?_ rfl ?_)
  ·simp only [go_sem]
  ·unfold cy
   simp only [go_sem]
   rw [bO id (fun _=>rfl),cJ,bO id fun _=>rfl]
   exact ⟨⟨rfl,aC rfl _ _⟩,rfl,cP (aC rfl _ _)⟩
  ·refine ⟨?_,rfl⟩
   simp only [go_sem]
   exact aL (fr:=[]) (u:=[]) h
  ·refine ⟨?_,rfl⟩
   simp only [go_sem]
   exact aL (fr:=[]) (u:=[]) h
  ·unfold cy
   simp only [List.map_cons,List.map_nil]
   decide
  ·rfl
end Go.Proofs.YthfodompfpdmgaaGreatDoor

namespace Go.Proofs.YthfodompfpdmgaaGreatDoor
open Go.Ab
variable {t:TypeId} {fz:Nat × Nat}
def kc (xs ys:List (Option (List D))):Name→Option (W × List D)
 | [a,i]=>if a=202 then (xs.getD i none).map fun z=>(none,z) else if a=203 then (ys.getD i none).map fun z=>(none,z) else none
 | _=>none
theorem getD_some {xs:List (Option (List D))} {i:Nat} {z:List D} (h:xs.getD i none=some z):xs[i]?=some (some z):=by
 rw [List.getD_eq_getElem?_getD] at h
 cases hx:xs[i]? with
 | none=>rw [hx] at h;cases h
 | some o=>rw [hx] at h;rw [← h];rfl
theorem rB {xs ys:List (Option (List D))} {q:Name} {x:W × List D} (h:kc xs ys q=some x):(q,Ob.arr x.1 x.2)∈dh xs ys:=by
 unfold kc at h
 split at h
 ·split at h
  ·rename_i e
   subst e
   obtain ⟨z,hz,rfl⟩:=Option.map_eq_some_iff.1 h
   exact y2 (getD_some hz)
  ·split at h
   ·rename_i e
    subst e
    obtain ⟨z,hz,rfl⟩:=Option.map_eq_some_iff.1 h
    exact zt (getD_some hz)
   ·cases h
 ·cases h
theorem yQ (S:List (List Nat)) (ys:List (Option (List D))):(vwL 202 0 (sfm S)).map (AV.frS (kc (sfm S) ys))=(S.map bZ).map .d:=by
 apply List.ext_getElem?
 intro i
 rw [List.getElem?_map,eB,List.getElem?_map,List.getElem?_map]
 unfold sfm
 rw [List.getElem?_map]
 cases hS:S[i]? with
 | none=>rfl
 | some T =>
   have hg:kc (S.map fun T=>some (T.map nD)) ys [202,0+i]=some (none,T.map nD):=by
    simp [kc,hS]
   rw [Nat.zero_add] at hg
   simp [AV.frS,hg,bZ,List.take_of_length_le]
theorem mU (F:List (KISI × List Nat)) (xs:List (Option (List D))):(mz F (vwL 203 0 (ffm F))).map (fun x=>(x.1,x.2.frS (kc xs (ffm F))))=(menc aE (frD F)).map fun x=>(x.1,.d x.2):=by
 apply List.ext_getElem?
 intro i
 have hv:(vwL 203 0 (ffm F)).length=F.length:=by rw [aT];simp [ffm]
 cases hF:F[i]? with
 | none =>
   have h1:=List.getElem?_eq_none_iff.1 hF
   rw [List.getElem?_eq_none (by simp [mz,hv];exact h1),List.getElem?_eq_none (by simp [menc,frD];exact h1)]
 | some q =>
   have hg:kc xs (ffm F) [203,0+i]=some (none,q.2.map nD):=by
    simp [kc,ffm,hF]
   have hvi:(vwL 203 0 (ffm F))[i]?=some (.vw [203,0+i] 0 q.2.length):=by
    rw [eB]
    simp [ffm,hF]
   rw [List.getElem?_map,mJ (F:=F) (key:=q.1) (L:=q.2) hF hvi]
   rw [Nat.zero_add] at hg
   simp [menc,frD,hF,AV.frS,hg,bZ,List.take_of_length_le]
theorem C4 {s:St} {g:Name→Option (W × List D)} {q:Name} {o:Ob} (hg:g q=none) (h:s.hp q=some o):(s.frS g).hp q=some (o.frS g):=by
 show (match g q with | some _=>none | none=>(s.hp q).map (Ob.frS g))=_
 rw [hg,h]
 rfl
theorem CG (l:List EA) (st:Int) (h0:0<l.length) (hN:l.length≤1000) (hi:∀ s∈l,InS s∧Fit s) (hd:∀ s∈l,((az s).map (·.1)).Nodup) (hin:InA l) (hnc:∀ s∈l,Nice s) :
  HCall Tryz.prog (GT t fz) 71 [.d (auD l st)] [] [] (fun r hp'=>r=.bx [0] 0∧∃ (s:PS) (FM:List (KISI × D)) (clk:Nat) (bs:List Nat) (c:List D) (es:List (Int × D)),hp'=bp l st (mpD clk bs (menc aE FM)) s 2 3 0 c es ∧
   kl l FM∧Stamps clk bs (menc aE FM)∧FM.length≤1000000∧(∀ q∈FM,0≤q.1.1.1∧q.1.1.1<1000)∧Hop l s [] []∧Queue c 0 0 s.wait∧gz es s.wait):=by
 refine (El l st hN hi hd).FI ?_
 rintro _ _ ⟨rfl,b,F,c,es,clk,bs,hb,hF,hq,hio,rfl⟩ B β u' tm w hU hs
 have hcl:fX l.length b.cls=b.cls.map nD:=by
  unfold fX
  rw [hb.len,Nat.sub_self]
  simp
 have hS0:0<b.sets.length:=by have:=(hb.at' 0 h0).1;omega
 have hst:∀ q,nohd q=true→kc (sfm b.sets) (ffm F) q=none:=by
  intro q hq
  cases hg:kc (sfm b.sets) (ffm F) q with
  | none=>rfl
  | some x =>
    have:=pX (rB hg)
    rw [hq] at this
    cases this
 have hs1:=hs.frS (kc (sfm b.sets) (ffm F)) fun q x hg=>by
  have:=pL (C:=cy l st b F c es clk bs []) rfl (rB hg)
  exact this
 have key:∀ q o,nohd q=true→(mk [(0,.bx [0] 0)] (cy l st b F c es clk bs (aS 202 (sfm b.sets) (aS 203 (ffm F) []))) u').hp q=some o →
  ((mk [(0,.bx [0] 0)] (cy l st b F c es clk bs (aS 202 (sfm b.sets) (aS 203 (ffm F) []))) u').frS (kc (sfm b.sets) (ffm F))).hp q=some (o.frS (kc (sfm b.sets) (ffm F))):=fun q o h1 h2=>C4 (hst q h1) h2
 obtain ⟨β1,hs2,_⟩:=hs1.le (τ:=id) (s2:=mk [(0,.bx [0] 0)] [([0],.box [.d (.sl (some 13) (l.map stD)),.d (i64 st),.ma [201],.vw [1] 0 l.length,.va [2] 0 b.sets.length,.vw [3] 0 b.sets.length,.mp [200]]),([3],.arr none c),([200],.map (menc (fun n:Int=>i64 n) es)),([1],.arr none (b.cls.map nD)),
   ([2],.arrA ((b.sets.map bZ).map .d)),([201],.mapA clk bs ((menc aE (frD F)).map fun x=>(x.1,.d x.2)))] [0,1,2,3,200,201]) (by
  rw [hU]
  refine LeL.le ⟨⟨⟨rfl,rfl⟩,trivial⟩,?_,?_,rfl,?_⟩
  ·refine ⟨⟨?_,rfl,rfl⟩,⟨?_,rfl,rfl⟩,⟨?_,rfl,rfl⟩,⟨?_,rfl,rfl⟩,⟨?_,?_,rfl⟩,⟨?_,?_,rfl⟩,trivial⟩
   ·exact (key [0] _ rfl rfl).trans rfl
   ·exact (key [3] _ rfl rfl).trans rfl
   ·exact (key [200] _ rfl rfl).trans rfl
   ·rw [← hcl];exact (key [1] _ rfl rfl).trans rfl
   ·rw [← yQ b.sets (ffm F)]
    refine (key [2] _ rfl rfl).trans ?_
    show _=some (Ob.arrA (bA id _))
    rw [bO id fun _=>rfl]
    rfl
   ·show bI _ _=true
    clear hs1
    induction b.sets with
    | nil=>rfl
    | cons x r ih=>simpa [bI,AV.inU] using ih
   ·rw [← mU F (sfm b.sets)]
    refine (key [201] _ rfl rfl).trans ?_
    show _=some (Ob.mapA _ _ (List.map _ _))
    rw [mU]
    simp [AV.ren,Ob.frS,mU]
   ·show List.all _ _=true
    simp [AV.inU]
  ·exact ia (ρ:=id) (by simp only [List.map_cons,List.map_nil];decide) fun _ _=>rfl
  ·exact iv fun q _ h=>by
    cases q with
    | mk p o=>cases p<;>simp [nmb] at h)
 obtain ⟨β2,hs3⟩:=hs2.FN (t:=4) (by rw [ag];decide) (q:=[0]) (p:=[2]) (j:=4) rfl rfl rfl (by simp) hS0 (fun x hx=>by
  obtain ⟨T,_,rfl⟩:=List.mem_map.1 hx
  rfl)
 simp only [go_sem] at hs3
 obtain ⟨β3,hs4⟩:=hs3.FL (t:=5) (by rw [ag];decide) (q:=[0]) (p:=[201]) (j:=2) rfl rfl rfl
 simp only [go_sem] at hs4
 obtain ⟨clk',bs',hstm,hs5⟩:=hs4.frM (p:=[5]) rfl
 obtain ⟨hFO,hkd⟩:=AT hin hF
 obtain ⟨FD,hFD⟩:∃ FD,mpD clk' bs' (menc aE (frD F))=FD:=⟨_,rfl⟩
 rw [hFD,An] at hs5
 obtain ⟨β4,hs6,_⟩:=hs5.le (τ:=tau [([2],[4]),([100],[200])]) (s2:=mk [(0,.bx [0] 0)] (bp l st FD ⟨b.cls,b.sets,List.range b.sets.length⟩ 2 3 0 c es) [0,1,2,3,100]) (by
  rw [hU]
  refine LeL.le ⟨⟨⟨rfl,rfl⟩,trivial⟩,?_,?_,rfl,?_⟩
  ·unfold bp dK
   have e1:(List.range b.sets.length).length=b.sets.length:=List.length_range
   have e2:b.cls.length=l.length:=hb.len
   rw [e1,e2]
   refine ⟨⟨rfl,rfl,rfl⟩,⟨rfl,rfl,rfl⟩,⟨rfl,rfl,rfl⟩,⟨rfl,rfl,rfl⟩,⟨rfl,rfl,rfl⟩,trivial⟩
  ·exact ia (ρ:=tau [([4],[2]),([200],[100])]) (by unfold bp;simp only [List.map_cons,List.map_nil];decide) fun q hq=>by
    have:q.1∈(bp l st FD ⟨b.cls,b.sets,List.range b.sets.length⟩ 2 3 0 c es).map (fun x=>x.1):=List.mem_map.2 ⟨q,hq,rfl⟩
    have e:(bp l st FD ⟨b.cls,b.sets,List.range b.sets.length⟩ 2 3 0 c es).map (fun x=>x.1)=[[0],[1],[2],[3],[100]]:=rfl
    rw [e] at this
    simp only [List.mem_cons,List.not_mem_nil,or_false] at this
    rcases this with h | h | h | h | h<;>rw [h]<;>rfl
  ·exact iv fun q _ h=>by
    cases q with
    | mk p o=>cases p<;>simp [nmb] at h)
 refine ⟨.bx [0] 0,_,_,β4,⟨rfl,⟨b.cls,b.sets,List.range b.sets.length⟩,frD F,clk',bs',c,es,by rw [hFD],hFO,hstm,?_,hkd,xX hin hnc hb,hq,hio⟩,hs6⟩
 have h1:=hF.ln
 have h2:=vk (l:=l) (fun s hs=>by
  have h1:=(hi s hs).2.f
  have h2:=(hi s hs).2.t
  simp only [az,List.length_append,cG]
  have:(bB s).length≤2:=by unfold bB;split<;>simp
  omega) l.length (Nat.le_refl _)
 simp only [frD,List.length_map]
 omega
end Go.Proofs.YthfodompfpdmgaaGreatDoor

namespace Go.Proofs.YthfodompfpdmgaaGreatDoor
open Go.Ab
structure Plain (s:EA):Prop where
 ins:InS s
 fit:Fit s
 nice:Nice s
 nd:((az s).map (·.1)).Nodup
theorem tQ {p:Nat→Bool} {n i:Nat} (h:(List.range n).all p=true) (hi:i<n):p i=true:=List.all_eq_true.1 h i (List.mem_range.2 hi)
theorem uc {l:List Fld} {i:Nat} (h:i<l.length):fnm l i=l[i].1:=by simp [fnm,h]
theorem rE {p:List UInt8→Bool} {l:List Fld} (h:dB p l=true):(∀ q∈l,p q.1=true)∧(l.map (·.1)).Nodup:=by
 unfold dB at h
 refine ⟨fun q hq=>?_,?_⟩
 ·obtain ⟨i,hi,rfl⟩:=List.getElem_of_mem hq
  have:=tQ h hi
  rw [Bool.and_eq_true,uc hi] at this
  exact this.1
 ·have hs:∀ i,i+1<l.length→fnm l i<fnm l (i+1):=by
   intro i hi
   have:=tQ h hi
   rw [Bool.and_eq_true] at this
   have h2:=this.2
   simp only [im,Nat.zero_lt_succ,decide_true,Bool.true_and,Bool.not_not,Nat.add_sub_cancel,bytesLess_eq,decide_eq_true_eq] at h2
   exact h2
  have hlt:∀ (d i:Nat),i+d+1<l.length→fnm l i<fnm l (i+d+1):=by
   intro d
   induction d with
   | zero=>exact fun i hi=>hs i hi
   | succ d ih=>exact fun i hi=>List.lt_trans (ih i (by omega)) (hs (i+d+1) hi)
  rw [List.Nodup,List.pairwise_iff_getElem]
  intro i j hi hj hij e
  rw [List.length_map] at hi hj
  have:=hlt (j-i-1) i (by omega)
  rw [show i+(j-i-1)+1=j by omega,uc hi,uc hj] at this
  rw [List.getElem_map,List.getElem_map] at e
  rw [e] at this
  exact List.lt_irrefl _ this
theorem ye {l:List Int} (h:kf l=true):∀ n∈l,0≤n∧n≤999:=by
 intro n hn
 obtain ⟨i,hi,rfl⟩:=List.getElem_of_mem hn
 have:=tQ h hi
 simp only [jj,Bool.and_eq_true,decide_eq_true_eq,List.getD_eq_getElem?_getD,List.getElem?_eq_getElem hi,Option.getD_some] at this
 exact this.1
theorem pF {s:List UInt8} (h:aZ s=true):s.length≤20:=by
 simp only [aZ,Bool.and_eq_true,decide_eq_true_eq] at h
 exact h.1.2
theorem oM (k:Int) (l:List Fld):(bN k l).map (·.1)=(l.map (·.1)).map fun n=>(k,n):=by simp [bN,Function.comp_def]
theorem rA {l:List EA} {s:EA} (hs:InS s) (h:bu l s=true):Plain s:=by
 simp only [bu,Bool.and_eq_true,decide_eq_true_eq] at h
 obtain ⟨⟨⟨⟨⟨_,h1⟩,h2,h3⟩,h4,h5⟩,_⟩,_⟩:=h
 have n1:=ye h1
 obtain ⟨f1,f2⟩:=rE h2
 obtain ⟨t1,t2⟩:=rE h4
 have wf:∀ q∈s.fl,aZ q.1=true:=fun q hq=>by
  have:=f1 q hq
  simp only [bL,Bool.and_eq_true] at this
  exact this.1.1
 have wt:∀ q∈s.tl,aZ q.1=true:=fun q hq=>by
  have:=t1 q hq
  simp only [eb,Bool.and_eq_true] at this
  exact this.1
 refine ⟨hs,⟨hs.v,fun n hn=>?_,by omega,by omega,fun q hq=>pF (wf q hq),fun q hq=>pF (wt q hq)⟩,⟨n1,f1,t1⟩,?_⟩
 ·have:=n1 n hn
  exact ⟨by omega,by omega⟩
 ·unfold az
  rw [List.map_append,List.map_append,oM,oM,List.nodup_append,List.nodup_append]
  have nk:∀ (k:Int) (L:List (List UInt8)),L.Nodup→(L.map fun n=>(k,n)).Nodup:=fun k L hL=>List.Pairwise.map _ (fun a b hab e=>hab (by simpa using e)) hL
  refine ⟨⟨?_,nk 2 _ f2,fun a ha b hb e=>?_⟩,nk 3 _ t2,fun a ha b hb e=>?_⟩
  ·unfold bB
   split<;>simp
  ·obtain ⟨x,_,rfl⟩:=List.mem_map.1 hb
   unfold bB at ha
   split at ha
   ·simp only [List.map_cons,List.map_nil,List.mem_cons,List.not_mem_nil,or_false] at ha
    rcases ha with rfl | rfl<;>simp at e
   ·simp at ha
  ·obtain ⟨x,_,rfl⟩:=List.mem_map.1 hb
   rcases List.mem_append.1 ha with ha | ha
   ·unfold bB at ha
    split at ha
    ·simp only [List.map_cons,List.map_nil,List.mem_cons,List.not_mem_nil,or_false] at ha
     rcases ha with rfl | rfl<;>simp at e
    ·simp at ha
   ·obtain ⟨y,_,rfl⟩:=List.mem_map.1 ha
    simp at e
theorem w4 (f:Int→Int) (s:EA):(az (s.mv f)).map (·.1)=(az s).map (·.1):=lW (qR f s)
theorem Plain.mv {s:EA} (h:Plain s) (f:Int→Int):Plain (s.mv f):=by
 obtain ⟨h1,⟨a1,a2,a3,a4,a5,a6⟩,⟨b1,b2,b3⟩,h4⟩:=h
 refine ⟨tA h1 f,⟨a1,a2,by simpa [EA.mv] using a3,by simpa [EA.mv] using a4,fun q hq=>?_,fun q hq=>?_⟩,⟨b1,fun q hq=>?_,fun q hq=>?_⟩,by rw [w4];exact h4⟩
 ·obtain ⟨x,hx,rfl⟩:=List.mem_map.1 hq;exact a5 x hx
 ·obtain ⟨x,hx,rfl⟩:=List.mem_map.1 hq;exact a6 x hx
 ·obtain ⟨x,hx,rfl⟩:=List.mem_map.1 hq;exact b2 x hx
 ·obtain ⟨x,hx,rfl⟩:=List.mem_map.1 hq;exact b3 x hx
theorem u4 {p:List UInt8→Bool} {l:List Fld} {f:Int→Int}:dB p (l.map fun q=>(q.1,f q.2))=dB p l:=by
 unfold dB
 rw [List.length_map]
 have hf:∀ i,fnm (l.map fun q=>(q.1,f q.2)) i=fnm l i:=by
  intro i
  unfold fnm
  rw [List.getD_eq_getElem?_getD,List.getD_eq_getElem?_getD,List.getElem?_map]
  cases l[i]?<;>rfl
 have hb:∀ i,im (l.map fun q=>(q.1,f q.2)) i=im l i:=fun i=>by unfold im;rw [hf,hf]
 congr 1
 funext i
 rw [hf,hb]
theorem rJ {l l':List EA} {s:EA} {f:Int→Int} (h:bu l s=true) (hf:∀ z∈s.next,∀ p,onA l z p=true→onA l' (f z) p=true):bu l' (s.mv f)=true:=by
 have hlen:∀ L:List Fld,(L.map fun q=>(q.1,f q.2)).length=L.length:=fun L=>by simp
 have hbare:fe (s.mv f)=fe s:=by
  unfold fe EA.mv
  cases s.arr with
  | true=>simp
  | false=>simp
 have htos:dV (s.mv f)=(dV s).map f:=by
  unfold dV EA.mv
  simp [List.map_map,Function.comp_def]
 simp only [bu,Bool.and_eq_true,Bool.not_eq_true',decide_eq_true_eq] at h ⊢
 obtain ⟨⟨⟨⟨⟨g0,g1⟩,g2,g3⟩,g4,g5⟩,g6⟩,g7⟩:=h
 rw [hbare,htos]
 refine ⟨⟨⟨⟨⟨g0,g1⟩,?_,?_⟩,?_,?_⟩,?_⟩,?_⟩
 ·show dB bL (s.fl.map fun q=>(q.1,f q.2))=true
  rw [u4];exact g2
 ·show (s.fl.map fun q=>(q.1,f q.2)).length≤30
  rw [hlen];exact g3
 ·show dB eb (s.tl.map fun q=>(q.1,f q.2))=true
  rw [u4];exact g4
 ·show (s.tl.map fun q=>(q.1,f q.2)).length≤30
  rw [hlen];exact g5
 ·show (s.arr && (!onA l' (if s.arr then f s.dom else s.dom) (!s.plus) || !onA l' (if s.arr then f s.cod else s.cod) s.plus))=false
  cases ha:s.arr with
  | false=>rfl
  | true =>
    rw [ha] at g6
    simp only [Bool.true_and,Bool.or_eq_false_iff,Bool.not_eq_false'] at g6
    have m1:s.dom∈s.next:=by simp [EA.next,ha]
    have m2:s.cod∈s.next:=by simp [EA.next,ha]
    simp only [if_true,Bool.true_and,Bool.or_eq_false_iff,Bool.not_eq_false']
    exact ⟨hf _ m1 _ g6.1,hf _ m2 _ g6.2⟩
 ·rw [List.any_eq_false] at g7 ⊢
  intro y hy
  obtain ⟨z,hz,rfl⟩:=List.mem_map.1 hy
  have:=g7 z hz
  simp only [Bool.not_eq_true',Bool.not_eq_false] at this ⊢
  exact hf z (by unfold dV at hz;unfold EA.next;exact List.mem_append_right _ hz) s.plus this
theorem p9 {l l':List EA} {i j:Nat} (h:sfA l i=sfA l' j):(l.getD i default).plus=(l'.getD j default).plus:=by
 simp only [sfA,EA.self,Prod.mk.injEq,List.cons.injEq] at h
 exact h.1.1.1
theorem lL {l:List EA} {z:Int} {p:Bool} (h:onA l z p=true):∃ k:Nat,z=(k:Int)∧k<l.length∧(l.getD k default).plus=p:=by
 have h1:=lV h
 refine ⟨z.toNat,by omega,by omega,?_⟩
 simp only [onA,Bool.and_eq_true,beq_iff_eq] at h
 exact h.2
theorem pH {l:List EA} {k:Nat} {p:Bool} (h1:k<l.length) (h2:(l.getD k default).plus=p):onA l (k:Int) p=true:=by
 simp only [onA,Bool.and_eq_true,beq_iff_eq,decide_eq_true_eq,Int.toNat_natCast]
 exact ⟨⟨by omega,by omega⟩,h2⟩
theorem vh {l:List EA} {st:Nat} (h0:0<l.length) (h1:l.length≤2000) (hs:onA l (st:Int) true=true) (hr:∀ s∈l,bu l s=true):cx l (st:Int)=0:=by
 unfold cx
 rw [if_neg (by omega),if_neg]
 simp only [hs,Bool.not_true,Bool.false_or,List.any_eq_true,not_exists,not_and,Bool.not_eq_true',Bool.not_eq_false]
 exact hr
theorem AD {l:List EA} {st:Int} (h:cx l st=0):onA l st true=true:=by
 unfold cx at h
 split at h
 ·cases h
 ·split at h
  ·cases h
  ·rename_i h2
   simp only [Bool.or_eq_true,Bool.not_eq_true',not_or,Bool.not_eq_false] at h2
   exact h2.1
theorem jD {l:List EA} {st:Nat} (h:cx l (st:Int)=0):cx (aG l st) 0=0:=by
 have g:=cW h
 have hst:st<l.length:=by have:=g.s1;omega
 have hll:=dp g.inA hst
 obtain ⟨r,hr⟩:=dI (l:=l) (start:=st)
 have hpos:0<(aU l st).length:=by rw [hr];simp
 have hpl:∀ j (hj:j<(aU l st).length),((aG l st).getD j default).plus=(l.getD (aU l st)[j] default).plus:=fun j hj=>p9 (mQ j hj)
 refine vh (st:=0) (by rw [aA];exact hpos) (by rw [aA];have:=g.n1;omega) (pH (by rw [aA];exact hpos) ?_) fun s hs=>?_
 ·rw [hpl 0 hpos]
  have h0:(aU l st)[0]=st:=by simp [hr]
  rw [h0]
  obtain ⟨k,hk,_,hp⟩:=lL (AD h)
  have:st=k:=by omega
  rw [this];exact hp
 ·obtain ⟨i,hi,rfl⟩:=List.mem_map.1 hs
  refine rJ (g.rt _ (cC (eC g.inA hst i hi))) fun z hz p hp=>?_
  obtain ⟨k,rfl,hk,hkp⟩:=lL hp
  have hmem:k∈aU l st:=fj g.inA hst i hi k (by
   unfold nxA
   exact List.mem_map.2 ⟨_,hz,rfl⟩)
  obtain ⟨j,hj,rfl⟩:=List.getElem_of_mem hmem
  rw [Int.toNat_natCast,dX bK hj]
  exact pH (by rw [aA];exact hj) (by rw [hpl j hj];exact hkp)
theorem vq {l:List EA} {cls:List Nat} (h:cx l 0=0) (hc:cB l cls):cx (bY cls l) ((cls.getD 0 0:Nat):Int)=0:=by
 have g:=cW h
 have hlen:(bY cls l).length=l.length:=by simp [bY]
 have hpl:∀ k,k<l.length→((bY cls l).getD (cls.getD k 0) default).plus=(l.getD k default).plus:=by
  intro k hk
  have h1:=qw (cls:=cls) (l:=l) (cls.getD k 0) (fC hc hk)
  rw [p9 h1]
  exact (p9 (cm _ _ _ (hc.2 k hk).1).1).symm
 refine vh (by rw [hlen];exact g.n0) (by rw [hlen];exact g.n1) (pH (by rw [hlen];exact fC hc g.n0) ?_) fun s hs=>?_
 ·rw [hpl 0 g.n0]
  obtain ⟨k,hk,_,hp⟩:=lL (AD h)
  have:0=k:=by omega
  rw [this];exact hp
 ·obtain ⟨u,hu,rfl⟩:=List.mem_map.1 hs
  refine rJ (g.rt u hu) fun z hz p hp=>?_
  obtain ⟨k,rfl,hk,hkp⟩:=lL hp
  rw [Int.toNat_natCast]
  exact pH (by rw [hlen];exact fC hc hk) (by rw [hpl k hk];exact hkp)
theorem xT {l:List EA} {cls:List Nat} (h:cx l 0=0) (hc:cB l cls):cx (aF l cls) 0=0:=jD (vq h hc)
theorem iN {l:List EA} {st:Int} (hs:∀ s∈l,InS s) (h:cx l st=0):∀ s∈l,Plain s:=fun s hm=>rA (hs s hm) ((cW h).rt s hm)
theorem eU {l:List EA} {st:Nat} (hp:∀ s∈l,Plain s) (hin:InA l) (hst:st<l.length):∀ s∈aG l st,Plain s:=by
 intro s h
 obtain ⟨i,hi,rfl⟩:=List.mem_map.1 h
 exact (hp _ (cC (eC hin hst i hi))).mv _
theorem ki {l:List EA} {cls:List Nat} (hp:∀ s∈l,Plain s):∀ s∈bY cls l,Plain s:=by
 intro s h
 obtain ⟨u,hu,rfl⟩:=List.mem_map.1 h
 exact (hp _ hu).mv _
end Go.Proofs.YthfodompfpdmgaaGreatDoor

namespace Go.Proofs.YthfodompfpdmgaaGreatDoor
open Go.Ab
def gI:List Nat→Nat
 | []=>0
 | x::r=>r.foldl Nat.min x
theorem foldl_min (r:List Nat):∀ x,(r.foldl Nat.min x=x∨r.foldl Nat.min x∈r)∧r.foldl Nat.min x≤x∧∀ y∈r,r.foldl Nat.min x≤y:=by
 induction r with
 | nil=>intro x;exact ⟨.inl rfl,Nat.le_refl _,by simp⟩
 | cons z r ih =>
   intro x
   obtain ⟨h1,h2,h3⟩:=ih (Nat.min x z)
   rw [List.foldl_cons]
   refine ⟨?_,Nat.le_trans h2 (Nat.min_le_left _ _),fun y hy=>?_⟩
   ·rcases h1 with h1 | h1
    ·rcases Nat.le_total x z with h | h
     ·left;rw [h1];exact Nat.min_eq_left h
     ·right;rw [h1,show Nat.min x z=z from Nat.min_eq_right h];exact List.mem_cons_self
    ·exact .inr (List.mem_cons_of_mem _ h1)
   ·rcases List.mem_cons.1 hy with rfl | hy
    ·exact Nat.le_trans h2 (Nat.min_le_right _ _)
    ·exact h3 y hy
theorem yE {T:List Nat} (h:T≠[]):gI T∈T∧∀ y∈T,gI T≤y:=by
 cases T with
 | nil=>exact absurd rfl h
 | cons x r =>
   obtain ⟨h1,h2,h3⟩:=foldl_min r x
   refine ⟨?_,fun y hy=>?_⟩
   ·rcases h1 with h1 | h1
    ·show r.foldl Nat.min x∈_;rw [h1];exact List.mem_cons_self
    ·exact List.mem_cons_of_mem _ h1
   ·rcases List.mem_cons.1 hy with rfl | hy
    ·exact h2
    ·exact h3 y hy
theorem xG {T:List Nat} {i:Nat} (h:i<T.length) (h0:0<i):gI (T.take (i+1))=Nat.min (gI (T.take i)) T[i]:=by
 rw [List.take_succ_eq_append_getElem h]
 cases T with
 | nil=>simp at h
 | cons x r =>
   obtain ⟨j,rfl⟩:∃ j,i=j+1:=⟨i-1,by omega⟩
   simp only [List.take_succ_cons,List.cons_append,gI,List.foldl_append,List.foldl_cons,List.foldl_nil]
set_option maxHeartbeats 2000000 in
theorem C7 {G} (T:List Nat) (h0:T≠[]) (hl:T.length≤1000000) (hT:∀ x∈T,x≤1000000):HP Tryz.prog G 73 [bZ T] (fun r=>r=.d (i64 (gI T:Nat))):=by
 have hp:0<T.length:=List.length_pos_iff.2 h0
 unfold bZ
 refine aq Tryz.func73 rfl (by decide +kernel) (by simp [Tryz.ntmps73]) (veil fun E=>?_)
 simp only [go_sem]
 refine ak E (fun h=>absurd h (by omega)) (fun _=>?_)
 simp only [go_sem]
 refine ⟨by omega,?_⟩
 have hg:∀ i (h:i<T.length),(T.map nD).getD i .nilp=i64 (T[i]:Nat):=fun i h=>by simp [h,nD]
 rw [hg 0 hp]
 simp only [go_sem]
 refine aX E (X:={ i:Nat // 1≤i∧i≤T.length }) (fun x=>[(0,.d (.sl none (T.map nD))),(3,.d (i64 (gI (T.take x.1):Nat))),(4,.d (i64 x.1))]) (fun x=>T.length-x.1) rfl ⟨1,Nat.le_refl _,hp⟩ ?_ ?_
 ·simp only [go_sem]
  have:gI (T.take 1)=T[0]:=by
   cases T with
   | nil=>simp at hp
   | cons x r=>rfl
  rw [this]
 rintro ⟨i,hi1,hi⟩ E'
 simp only [go_sem]
 refine ak E' (fun h1=>?_) (fun h1=>?_)<;>simp only [go_sem]
 ·have h1':i<T.length:=by omega
  refine ⟨by omega,?_⟩
  rw [hg i h1']
  simp only [go_sem]
  refine ⟨⟨i+1,by omega,by omega⟩,by show T.length-(i+1)<T.length-i;omega,?_⟩
  rw [aa ⟨by omega,by omega⟩,xG h1' hi1]
  refine ⟨?_,rfl⟩
  have:((Nat.min (gI (T.take i)) T[i]:Nat):Int)=if ((T[i]:Nat):Int)<((gI (T.take i):Nat):Int) then ((T[i]:Nat):Int) else ((gI (T.take i):Nat):Int):=by
   split
   ·rw [show Nat.min (gI (T.take i)) T[i]=T[i] from Nat.min_eq_right (by omega)]
   ·rw [show Nat.min (gI (T.take i)) T[i]=gI (T.take i) from Nat.min_eq_left (by omega)]
  rw [this]
 ·have h3:i=T.length:=by omega
  subst h3
  rw [List.take_length]
end Go.Proofs.YthfodompfpdmgaaGreatDoor

namespace Go.Proofs
open Go.Shelf
def Tryz.sR:Go.Shelf.Ren:=⟨fun | 106=>141 | 213=>167 | 265=>197 | n=>n,fun | 9=>9 | 3=>3 | n=>n,fun | n=>n⟩
theorem Tryz.Ce:Go.Proofs.Lays.n106 Tryz.prog Tryz.sR:={
 mixed:=by kernel_rfl
 f106:=Tryz.func141.trans (congrArg some (by kernel_rfl))
 f213:=Tryz.func167.trans (congrArg some (by kernel_rfl))
 f265:=Tryz.func197.trans (congrArg some (by kernel_rfl))
 t3:=Tryz.underlying3
 a3:=Tryz.isAgg3
 z3:=Tryz.sizeOf3
 v3:=Tryz.zeroValue3
 t9:=Tryz.underlying9
 a9:=Tryz.isAgg9
 z9:=Tryz.sizeOf9
 v9:=Tryz.zeroValue9 }
end Go.Proofs

namespace Go.Proofs.YthfodompfpdmgaaGreatDoor
open Go.Ab Go.Sort Go.Shelf Go.RowKit Go.Lib Go.Proofs
abbrev n5:={ a:Ltr // 0≤a.1∧a.1<1000 }
instance:Inhabited n5:=⟨⟨(0,[]),by decide,by decide⟩⟩
def Bd (x:n5):List Value:=[.int .i64 x.1.1,.string ⟨x.1.2.toArray⟩]
def cmpL (x y:n5):Int:=if x.1.1=y.1.1 then Lib.compareBytes x.1.2 y.1.2 else x.1.1-y.1.1
set_option maxHeartbeats 1000000 in
theorem Dg (x y:n5) (W:World):Calls Tryz.prog 140 #[.agg #[.int .i64 x.1.1,.string ⟨x.1.2.toArray⟩],.agg #[.int .i64 y.1.1,.string ⟨y.1.2.toArray⟩]] W fun e w'=>e=.returned (.int .i64 (cmpL x y))∧∃ q os',w'=grow (W.drewN q) os':=by
 have hw:IntKind.i64.wrap (x.1.1-y.1.1)=x.1.1-y.1.1:=by
  have:=x.2;have:=y.2
  exact aa ⟨by omega,by omega⟩
 unfold cmpL
 go_enter Tryz.func140,Tryz.ntmps140
 by_cases hk:x.1.1=y.1.1
 ·rw [if_pos hk]
  go_wp2_with (go_at_call 141;refine (Any.strings_Compare Tryz.Ce ⟨x.1.2.toArray⟩ ⟨y.1.2.toArray⟩ _).mono ?_;rintro e w' ⟨rfl,rfl⟩)
  go_ret
  exact ⟨by simp,0,_,by rw [alloc_eq_grow,alloc_eq_grow,grow_grow];rfl⟩
 ·rw [if_neg hk]
  go_wp2
  go_ret
  exact ⟨rfl,0,_,by rw [alloc_eq_grow,alloc_eq_grow,grow_grow];rfl⟩
theorem A9:∀ (a b:List UInt8),decide (Lib.compareBytes a b<0)=decide (a<b):=by
 intro a
 induction a with
 | nil =>
   intro b
   cases b with
   | nil=>simp [Lib.compareBytes]
   | cons y b=>simp [Lib.compareBytes]
 | cons x a ih =>
   intro b
   cases b with
   | nil=>simp [Lib.compareBytes]
   | cons y b =>
     have:=ih b
     rw [decide_eq_decide] at this ⊢
     rw [List.cons_lt_cons_iff,← this]
     simp only [Lib.compareBytes]
     split
     ·rename_i h
      simp [h]
     ·rename_i h
      split
      ·rename_i h2
       have h3:¬ x=y:=fun e=>by subst e;exact absurd h2 (by simp)
       simp [h,h3]
      ·rename_i h2
       have h3:x=y:=by
        have h4:=UInt8.not_lt.1 h
        have h5:=UInt8.not_lt.1 h2
        exact UInt8.le_antisymm h5 h4
       simp [h,h3]
abbrev ltL (x y:n5):Prop:=x.1.1<y.1.1∨(x.1.1=y.1.1∧x.1.2<y.1.2)
theorem qO (x y:n5):ltOf cmpL x y=decide (ltL x y):=by
 unfold ltOf cmpL ltL
 by_cases h:x.1.1=y.1.1
 ·have:=A9 x.1.2 y.1.2
  rw [if_pos h,this]
  rw [decide_eq_decide]
  constructor
  ·exact fun g=>.inr ⟨h,g⟩
  ·rintro (g | ⟨_,g⟩)
   ·omega
   ·exact g
 ·rw [if_neg h,decide_eq_decide]
  constructor
  ·exact fun g=>.inl (by omega)
  ·rintro (g | ⟨g,_⟩)
   ·omega
   ·exact absurd g h
theorem zY:SWO (ltOf cmpL) where
 irrefl x:=by
  rw [qO]
  simp only [ltL,decide_eq_false_iff_not]
  rintro (h | ⟨_,h⟩)
  ·omega
  ·exact List.lt_irrefl _ h
 trans x y z h1 h2:=by
  rw [qO] at *
  simp only [ltL,decide_eq_true_eq] at *
  rcases h1 with h1 | ⟨h1,g1⟩<;>rcases h2 with h2 | ⟨h2,g2⟩
  ·exact .inl (by omega)
  ·exact .inl (by omega)
  ·exact .inl (by omega)
  ·exact .inr ⟨by omega,List.lt_trans g1 g2⟩
 ntrans x y z h1 h2:=by
  rw [qO] at *
  simp only [ltL,decide_eq_false_iff_not] at *
  rintro (h | ⟨h,g⟩)
  ·exact h1 (.inl (by
    have a1:¬ x.1.1<y.1.1:=fun e=>h1 (.inl e)
    have a2:¬ y.1.1<z.1.1:=fun e=>h2 (.inl e)
    omega))
  ·have a1:¬ x.1.1<y.1.1:=fun e=>h1 (.inl e)
   have a2:¬ y.1.1<z.1.1:=fun e=>h2 (.inl e)
   have b1:¬ x.1.2<y.1.2:=fun e=>h1 (.inr ⟨by omega,e⟩)
   have b2:¬ y.1.2<z.1.2:=fun e=>h2 (.inr ⟨by omega,e⟩)
   exact List.not_lt.2 (List.le_trans (List.not_lt.1 b2) (List.not_lt.1 b1)) g
theorem tZ (blk off size:Nat) (w:World):CmpLays Tryz.prog 140 #[] Bd 2 cmpL blk off size w:=fun _ _ _ _ x y=>Dg x y _
def yR (x:n5):List D:=[i64 x.1.1,.str x.1.2]
theorem zW:∀ args w,(callFunc 140 args).run Tryz.prog w=.ok (.enter 140 args) w:=enters_of Tryz.func140 (by kernel_rfl) rfl
theorem AA:∀ args w,(callFunc 139 args).run Tryz.prog w=.ok (.enter 139 args) w:=fun args w=>db Tryz.func139 rfl (by decide +kernel) args w
end Go.Proofs.YthfodompfpdmgaaGreatDoor

